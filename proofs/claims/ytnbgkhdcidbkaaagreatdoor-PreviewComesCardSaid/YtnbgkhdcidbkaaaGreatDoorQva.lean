import Derived.Test.YtnbgkhdcidbkaaaGreatDoorW
import Derived.Test.YtnbgkhdcidbkaaaGreatDoorT14
import Derived.Test.YtnbgkhdcidbkaaaGreatDoorT32
set_option linter.unusedVariables false
set_option linter.unusedSimpArgs false
set_option maxRecDepth 100000
namespace Go.Proofs.YtnbgkhdcidbkaaaGreatDoor.Q
open Go.EM Go.TY Go.Proofs Go.Proofs.YtnbgkhdcidbkaaaGreatDoor.Y
def aL:List UInt8→Int×Nat
 | []=>(0,0)
 | a::t =>
   if a.toNat<128 then (a.toNat,1)
   else if 194≤a.toNat∧a.toNat<224 then (match t with
     | b::_=>if 128≤b.toNat∧b.toNat≤191 then (64*((a.toNat:Int)-192)+b.toNat-128,2) else (0,0)
     | _=>(0,0))
   else if 224≤a.toNat∧a.toNat<240 then (match t with
     | b :: c :: _ => if (128 ≤ b.toNat ∧ b.toNat ≤ 191) ∧ (128 ≤ c.toNat ∧ c.toNat ≤ 191) then
         let r:Int:=64*(64*((a.toNat:Int)-224)+b.toNat-128)+c.toNat-128
         if r<2048∨(55296≤r∧r≤57343) then (0,0) else (r,3)
       else (0,0)
     | _=>(0,0))
   else if 240≤a.toNat∧a.toNat<245 then (match t with
     | b :: c :: d :: _ => if (128 ≤ b.toNat ∧ b.toNat ≤ 191) ∧ (128 ≤ c.toNat ∧ c.toNat ≤ 191) ∧ (128 ≤ d.toNat ∧ d.toNat ≤ 191) then
         let r:Int:=64*(64*(64*((a.toNat:Int)-240)+b.toNat-128)+c.toNat-128)+d.toNat-128
         if r<65536∨1114111<r then (0,0) else (r,4)
       else (0,0)
     | _=>(0,0))
   else (0,0)
theorem nY {s:List UInt8}{q:Int×Int×Int×Unit}{x:Int}{i:Nat}{b:UInt8} (hi:(i:Int)<q.2.1) (hi4:i≤4) (h:s[i]? = some b) (hx:0≤x) (hx2:x≤100000000) :
   f7 s q (x,(i:Int),())=if 128≤b.toNat∧b.toNat≤191 then some (.inl (64*x+b.toNat-128,((i+1:Nat):Int),())) else some (.inr (.inr (0,0,()))):=by
 have hb:b.toNat<256:=b.toNat_lt;simp only[f7,gr,h,zb,ak,zp hi]
 rw[wrap64 (n:=64*x) (by omega) (by omega),wrap64 (n:=(b.toNat:Int)) (by omega) (by omega),wrap64 (n:=64*x+b.toNat) (by omega) (by omega),wrap64 (n:=64*x+b.toNat-128) (by omega) (by omega),wrap64 (n:=(i:Int)+1) (by omega) (by omega)]
 by_cases h1:b.toNat<128
 · rw[zp (by omega),zn (by omega)]
 · rw[zn (by omega)];by_cases h2:b.toNat>191
   · rw[zp (by omega),zn (by omega)]
   · rw[zn (by omega),zp (by omega)]; rfl
theorem acH {s:List UInt8}{q:Int×Int×Int×Unit}{x:Int}{i:Nat} (hi:¬ (i:Int)<q.2.1):f7 s q (x,(i:Int),())=some (.inr (.inl (x,()))):=by
 simp only[f7,ak,zn hi]
theorem agA {a b:UInt8}{t:List UInt8}{l:Int}{c x:Int} (hx:0≤x) (hx2:x≤1000) :
   aK (f7 (a::b::t) (c,2,l,())) (x,1,())=if 128≤b.toNat∧b.toNat≤191 then some (.inl (64*x+b.toNat-128,())) else some (.inr (0,0,())):=by
 have h:=nY (s:=a::b::t) (q:=(c,2,l,())) (i:=1) (b:=b) (x:=x) (by simp) (by omega) rfl hx (by omega);by_cases hb:128≤b.toNat∧b.toNat≤191
 · rw[zp hb] at h ⊢;exact (aH h).trans (aF (acH (by simp)))
 · rw[zn hb] at h ⊢;exact aF h
theorem agz {a b d:UInt8}{t:List UInt8}{l:Int}{c x:Int} (hx:0≤x) (hx2:x≤1000) :
   aK (f7 (a::b::d::t) (c,3,l,())) (x,1,())=if (128≤b.toNat∧b.toNat≤191)∧(128≤d.toNat∧d.toNat≤191) then some (.inl (64*(64*x+b.toNat-128)+d.toNat-128,())) else some (.inr (0,0,())):=by
 have hb':=b.toNat_lt;have h:=nY (s:=a::b::d::t) (q:=(c,3,l,())) (i:=1) (b:=b) (x:=x) (by simp) (by omega) rfl hx (by omega);by_cases hb:128≤b.toNat∧b.toNat≤191
 · rw[zp hb] at h;have h2:=nY (s:=a::b::d::t) (q:=(c,3,l,())) (i:=2) (b:=d) (x:=64*x+b.toNat-128) (by simp) (by omega) rfl (by omega) (by omega);by_cases hd:128≤d.toNat∧d.toNat≤191
   · rw[zp hd] at h2;rw[zp ⟨hb,hd⟩];exact ((aH h).trans (aH h2)).trans (aF (acH (by simp)))
   · rw[zn hd] at h2;rw[zn (fun e=>hd e.2)];exact (aH h).trans (aF h2)
 · rw[zn hb] at h;rw[zn (fun e=>hb e.1)];exact aF h
theorem agy {a b d e:UInt8}{t:List UInt8}{l:Int}{c x:Int} (hx:0≤x) (hx2:x≤1000) :
   aK (f7 (a::b::d::e::t) (c,4,l,())) (x,1,())=if (128≤b.toNat∧b.toNat≤191)∧(128≤d.toNat∧d.toNat≤191)∧(128≤e.toNat∧e.toNat≤191) then some (.inl (64*(64*(64*x+b.toNat-128)+d.toNat-128)+e.toNat-128,())) else some (.inr (0,0,())):=by
 have hb':=b.toNat_lt;have hd':=d.toNat_lt;have h:=nY (s:=a::b::d::e::t) (q:=(c,4,l,())) (i:=1) (b:=b) (x:=x) (by simp) (by omega) rfl hx (by omega);by_cases hb:128≤b.toNat∧b.toNat≤191
 · rw[zp hb] at h;have h2:=nY (s:=a::b::d::e::t) (q:=(c,4,l,())) (i:=2) (b:=d) (x:=64*x+b.toNat-128) (by simp) (by omega) rfl (by omega) (by omega);by_cases hd:128≤d.toNat∧d.toNat≤191
   · rw[zp hd] at h2;have h3:=nY (s:=a::b::d::e::t) (q:=(c,4,l,())) (i:=3) (b:=e) (x:=64*(64*x+b.toNat-128)+d.toNat-128) (by simp) (by omega) rfl (by omega) (by omega)
     by_cases he:128≤e.toNat∧e.toNat≤191
     · rw[zp he] at h3;rw[zp ⟨hb,hd,he⟩];exact (((aH h).trans (aH h2)).trans (aH h3)).trans (aF (acH (by simp)))
     · rw[zn he] at h3;rw[zn (fun q=>he q.2.2)];exact ((aH h).trans (aH h2)).trans (aF h3)
   · rw[zn hd] at h2;rw[zn (fun q=>hd q.2.1)];exact (aH h).trans (aF h2)
 · rw[zn hb] at h;rw[zn (fun q=>hb q.1)];exact aF h
theorem ah1 (s:List UInt8):zdw s=some ((aL s).1,((aL s).2:Int),()):=by
 cases s with
 | nil=>simp[zdw,aL]
 | cons a t =>
   have ha:a.toNat<256:=a.toNat_lt;have h0:¬ (((a::t).length:Int)=0):=by simp only[zl]; omega
   have hi:atI (a::t) 0=some a:=by simp[atI]
   unfold zdw;simp only[ak,zn h0,hi,zb,ahc,agM,apG];rw[wrap64 (n:=(a.toNat:Int)) (by omega) (by omega)];by_cases c1:a.toNat<128
   · rw[zp (by omega)];simp only[b7,aL,zp c1]; rfl
   rw[zn (by omega)];by_cases c2:194≤a.toNat∧a.toNat<224
   · rw[zp (by omega),wrap64 (by omega) (by omega)];simp only[aB]
     match t with
     | []=>simp[aL,c1,c2]
     | b::t =>
       rw[zn (by simp only[zl]; omega),agA (by omega) (by omega)];by_cases hb:128≤b.toNat∧b.toNat≤191
       · rw[zp hb];simp only[aB];rw[jO,zn (by omega)];simp only[aL,c1,c2,hb,if_true,if_false,and_self]; rfl
       · rw[zn hb];simp only[b7];simp[aL,c1,c2,hb]
   rw[zn (by omega)];by_cases c3:224≤a.toNat∧a.toNat<240
   · rw[zp (by omega),wrap64 (by omega) (by omega)];simp only[aB]
     match t with
     | []=>simp[aL,c1,c2,c3]
     | [b]=>simp[aL,c1,c2,c3]
     | b::c::t =>
       have hb:=b.toNat_lt;have hc:=c.toNat_lt;rw[zn (by simp only[zl]; omega),agz (by omega) (by omega)];by_cases hb':(128≤b.toNat∧b.toNat≤191)∧(128≤c.toNat∧c.toNat≤191)
       · rw[zp hb'];simp only[aB];rw[jO];simp only[aL,c1,c2,c3,hb',if_true,if_false,and_self]
         by_cases hr:64*(64*((a.toNat:Int)-224)+b.toNat-128)+c.toNat-128<2048∨(55296≤64*(64*((a.toNat:Int)-224)+b.toNat-128)+c.toNat-128∧64*(64*((a.toNat:Int)-224)+b.toNat-128)+c.toNat-128≤57343)
         · rw[zp (by omega),zp hr]; rfl
         · rw[zn (by omega),zn hr]; rfl
       · rw[zn hb'];simp only[b7];simp[aL,c1,c2,c3,hb']
   rw[zn (by omega)];by_cases c4:240≤a.toNat∧a.toNat<245
   · rw[zp (by omega),wrap64 (by omega) (by omega)];simp only[aB]
     match t with
     | []=>simp[aL,c1,c2,c3,c4]
     | [b]=>simp[aL,c1,c2,c3,c4]
     | [b,c]=>simp[aL,c1,c2,c3,c4]
     | b::c::d::t =>
       have hb:=b.toNat_lt;have hc:=c.toNat_lt;have hd:=d.toNat_lt;rw[zn (by simp only[zl]; omega),agy (by omega) (by omega)]
       by_cases hb':(128≤b.toNat∧b.toNat≤191)∧(128≤c.toNat∧c.toNat≤191)∧(128≤d.toNat∧d.toNat≤191)
       · rw[zp hb'];simp only[aB];rw[jO];simp only[aL,c1,c2,c3,c4,hb',if_true,if_false,and_self]
         by_cases hr:64*(64*(64*((a.toNat:Int)-240)+b.toNat-128)+c.toNat-128)+d.toNat-128<65536∨1114111<64*(64*(64*((a.toNat:Int)-240)+b.toNat-128)+c.toNat-128)+d.toNat-128
         · rw[zp (by omega),zp hr]; rfl
         · rw[zn (by omega),zn hr]; rfl
       · rw[zn hb'];simp only[b7];simp[aL,c1,c2,c3,c4,hb']
   rw[zn (by omega)];simp only[b7];simp[aL,c1,c2,c3,c4]
theorem xD (s:List UInt8):(aL s).2≤s.length:=by
 unfold aL
 repeat' split
 all_goals (try simp only[])
 all_goals (try split)
 all_goals (try simp only[zl])
 all_goals omega
theorem je (s:List UInt8):0≤(aL s).1∧(aL s).1≤1114111:=by
 unfold aL
 repeat' split
 all_goals (try simp only[])
 all_goals (try split)
 all_goals (try simp only[])
 all_goals omega
def ct (s:List UInt8):Option (List Int) :=
 if h:s=[] then some []
 else if h0:(aL s).2=0 then none
 else (ct (s.drop (aL s).2)).map fun l=>(aL s).1::l
termination_by s.length
decreasing_by
 have:s.length≠0:=fun e=>h (qAV e);simp only[qAW]; omega
theorem gE:ct []=some []:=by rw[ct,dif_pos rfl]
theorem ik {s:List UInt8} (h:s≠[]) (h0:(aL s).2=0):ct s=none:=by rw[ct,dif_neg h,dif_pos h0]
theorem fA {s:List UInt8} (h:s≠[]) (h0:(aL s).2≠0):ct s=(ct (s.drop (aL s).2)).map fun l=>(aL s).1::l:=by rw[ct,dif_neg h,dif_neg h0]
def fU (s:List UInt8) (out:List Int):List Int×Bool×Unit :=
 match ct s with
 | some m=>(out++m,true,())
 | none=>([],false,())
theorem yz {s:List UInt8} (hs:s.length<4294967296):∀ (k i:Nat) (l:List Int),s.length-i≤k→i≤s.length→l.length≤i→aK (nK s) ((i:Int),l,())=some (fU (s.drop i) l):=by
 intro k;have fin:∀ (i:Nat) (l:List Int),¬ i<s.length→aK (nK s) ((i:Int),l,())=some (fU (s.drop i) l):=by
   intro i l hi;rw[qA0 (by omega),aF (x:=(l,true,())) (by simp only[nK,ak]; rw[zn (by omega)])];simp[fU,gE]
 induction k with
 | zero=>intro i l hk hi hl; exact fin i l (by omega)
 | succ k ih =>
   intro i l hk hi hl;by_cases hlt:i<s.length
   · have hne:s.drop i≠[]:=fun e=>(by have:=congrArg List.length e; simp at this; omega);have hle:=xD (s.drop i);simp only[qAW] at hle;by_cases h0:(aL (s.drop i)).2=0
     · rw[aF (x:=([],false,()))]
       · simp only[fU,ik hne h0]
       · simp only[nK,ak];rw[zp (by omega),eo (by omega)];simp only[zb,ah1];rw[zp (by omega)]
     · rw[aH (b:=(((i+(aL (s.drop i)).2:Nat):Int),l++[(aL (s.drop i)).1],()))]
       · rw[ih _ _ (by omega) (by omega) (by simp; omega)];simp only[fU,fA hne h0,qB0];cases ct (s.drop (i+(aL (s.drop i)).2))<;>simp
       · simp only[nK,ak];rw[zp (by omega),eo (by omega)];simp only[zb,ah1];rw[zn (by omega),aX (by simp; omega)];simp only[zb];rw[wrap64 (by omega) (by omega)];simp
   · exact fin i l hlt
theorem acW {s:List UInt8} (hs:s.length<4294967296):zcr s=some (fU s []):=by
 have:=yz hs s.length 0 [] (by omega) (by omega) (by simp);simpa [zcr] using this
def decN (l:List UInt8):Nat×Nat:=if (aL l).2=0 then (65533,1) else ((aL l).1.toNat,(aL l).2)
theorem get_at {s:List UInt8}{i:Nat}{b:UInt8} (h:s[i]? = some b):(⟨s.toArray⟩:ByteArray).get! i=b:=by
 have:(⟨s.toArray⟩:ByteArray).get! i=s.toArray[i]! := rfl;rw[this];simp[h]
theorem ap3 {s:List UInt8}{i:Nat} (h:s.length≤i):decide (i<(⟨s.toArray⟩:ByteArray).size)=false:=by
 have:(⟨s.toArray⟩:ByteArray).size=s.length:=by simp[ByteArray.size]
 rw[this]; simp; omega
theorem ag4 {s:List UInt8}{i:Nat} (h:i<s.length):decide (i<(⟨s.toArray⟩:ByteArray).size)=true:=by
 have:(⟨s.toArray⟩:ByteArray).size=s.length:=by simp[ByteArray.size]
 rw[this]; simp; omega
theorem drop_at {s t:List UInt8}{i k:Nat}{b:UInt8} (h:s.drop i=t) (hb:t[k]? = some b):s[i+k]? = some b:=by
 rw[← h,qBU] at hb; exact hb
theorem ag0 {s t:List UInt8}{i:Nat} (h:s.drop i=t) (hi:i≤s.length):s.length=i+t.length:=by
 rw[← h,qAW]; omega
def decV (b0:Nat) (b1 b2 b3:Option Nat):Nat×Nat :=
 let cont (b:Option Nat):Bool:=match b with
   | some b=>b/64==2
   | none=>false
 if b0<0x80 then (b0,1)
 else if b0/32==6&&cont b1 then
   let c:=(b0%32)*64+b1.getD 0%64
   if c≥0x80 then (c,2) else (65533,1)
 else if b0/16==14&&cont b1&&cont b2 then
   let c:=(b0%16)*4096+(b1.getD 0%64)*64+b2.getD 0%64
   if c≥0x800&&Utf8.valid c then (c,3) else (65533,1)
 else if b0/8==30&&cont b1&&cont b2&&cont b3 then
   let c:=(b0%8)*262144+(b1.getD 0%64)*4096+(b2.getD 0%64)*64+b3.getD 0%64
   if c≥0x10000&&Utf8.valid c then (c,4) else (65533,1)
 else (65533,1)
theorem ag1 {s t:List UInt8}{i:Nat}{a:UInt8} (h:s.drop i=a::t) (hi:i≤s.length):Utf8.decode ⟨s.toArray⟩ i=decV a.toNat (t[0]?.map (·.toNat)) (t[1]?.map (·.toNat)) (t[2]?.map (·.toNat)):=by
 have hlen:=ag0 h hi;have g0:(⟨s.toArray⟩:ByteArray).get! (i+0)=a:=get_at (drop_at h rfl)
 have gk:∀ k b,t[k]? = some b→(⟨s.toArray⟩:ByteArray).get! (i+(k+1))=b:=fun k b hb=>get_at (drop_at h (by simpa using hb))
 have cy:∀ k b,t[k]? = some b→decide (i+(k+1)<(⟨s.toArray⟩:ByteArray).size)=true:=fun k b hb=>ag4 (by
   rcases qAS k t.length with h' | h'
   · simp only[zl] at hlen; omega
   · rw[qAG h'] at hb; cases hb)
 have cn:∀ k,t[k]? = none→decide (i+(k+1)<(⟨s.toArray⟩:ByteArray).size)=false:=fun k hb=>ap3 (by
   rw[qDA] at hb;simp only[zl] at hlen; omega)
 unfold Utf8.decode decV;simp only[g0];have e:Utf8.runeError=65533:=rfl;cases h1:t[0]? with
 | none =>
   have c1:=cn 0 h1;have h2:t[1]? = none:=by rw[qDA] at h1 ⊢; omega
   have h3:t[2]? = none:=by rw[qDA] at h1 ⊢; omega
   simp only[qAN] at c1;simp[c1,h2,h3,e]
 | some b =>
   have c1:=cy 0 b h1;have d1:=gk 0 b h1;simp only[qAN] at c1 d1;cases h2:t[1]? with
   | none =>
     have c2:=cn 1 h2;have h3:t[2]? = none:=(by rw[qDA] at h2 ⊢; omega);simp only[Nat.reduceAdd] at c2;simp[c1,c2,d1,h3,e]
   | some c =>
     have c2:=cy 1 c h2;have d2:=gk 1 c h2;simp only[Nat.reduceAdd] at c2 d2;cases h3:t[2]? with
     | none =>
       have c3:=cn 2 h3;simp only[Nat.reduceAdd] at c3;simp[c1,c2,c3,d1,d2,e]
     | some d =>
       have c3:=cy 2 d h3;have d3:=gk 2 d h3;simp only[Nat.reduceAdd] at c3 d3;simp[c1,c2,c3,d1,d2,d3,e]
theorem apX {b:Nat}:(b/64==2)=decide (128≤b∧b≤191):=by
 rw[qDK]; simp; omega
theorem aAP (a:UInt8) (t:List UInt8):decV a.toNat (t[0]?.map (·.toNat)) (t[1]?.map (·.toNat)) (t[2]?.map (·.toNat))=decN (a::t):=by
 have ha:=a.toNat_lt;unfold decV decN;by_cases c1:a.toNat<128
 · simp[aL,c1]
 have c1':¬ a.toNat<0x80:=c1;simp only[zn c1'];by_cases c2:a.toNat/32=6
 · have e2:(a.toNat/32==6)=true:=by simp[c2]
   match t with
   | [] =>
     have e3:¬ a.toNat/16=14:=(by omega);have e4:¬ a.toNat/8=30:=(by omega);have d3:¬ (224≤a.toNat∧a.toNat<240):=(by omega);have d4:¬ (240≤a.toNat∧a.toNat<245):=(by omega);simp[aL,c1,e3,e4,d3,d4]
   | b::t =>
     have hb:=b.toNat_lt;have e3:¬ a.toNat/16=14:=(by omega);have e4:¬ a.toNat/8=30:=(by omega);have d3:¬ (224≤a.toNat∧a.toNat<240):=(by omega);have d4:¬ (240≤a.toNat∧a.toNat<245):=by omega
     simp only[qBM,qAE,e2,apX,qBO,qBA];by_cases hb':128≤b.toNat∧b.toNat≤191
     · rw[zp (by simpa using hb')];by_cases c3:194≤a.toNat
       · rw[zp (by omega)];have q:194≤a.toNat∧a.toNat<224:=(by omega);simp only[aL,zn c1,zp q,zp hb'];rw[zn (by omega)];congr 1;omega
       · rw[zn (by omega)];have q:¬ (194≤a.toNat∧a.toNat<224):=(by omega);simp[aL,c1,q,d3,d4]
     · rw[zn (by simpa using hb')];have x3:(a.toNat/16==14)=false:=(by simp[e3]);have x4:(a.toNat/8==30)=false:=(by simp[e4]);simp only[x3,x4,qCV,qA7,if_false]
       by_cases c3:194≤a.toNat∧a.toNat<224
       · simp[aL,c1,c3,hb']
       · simp[aL,c1,c3,d3,d4]
 have e2:(a.toNat/32==6)=false:=by simp[c2]
 simp only[e2,qCV,qA7,if_false];have d2:¬ (194≤a.toNat∧a.toNat<224):=by omega
 by_cases c3:a.toNat/16=14
 · have e3:(a.toNat/16==14)=true:=by simp[c3]
   have d3:(224≤a.toNat∧a.toNat<240):=by omega
   have x4:(a.toNat/8==30)=false:=by simp; omega
   simp only[e3,x4,qBO,qCV,qA7,if_false]
   match t with
   | []=>simp[aL,c1,d2,d3]
   | [b]=>simp[aL,c1,d2,d3]
   | b::c::t =>
     have hb:=b.toNat_lt;have hc:=c.toNat_lt;simp only[qBM,qC1,qAE,apX,qBA]
     by_cases hb':(128≤b.toNat∧b.toNat≤191)∧(128≤c.toNat∧c.toNat≤191)
     · rw[zp (by simp only[k9,decide_eq_true_eq]; exact hb')];simp only[aL,zn c1,zn d2,zp d3,zp hb']
       by_cases hr:64*(64*((a.toNat:Int)-224)+b.toNat-128)+c.toNat-128<2048∨(55296≤64*(64*((a.toNat:Int)-224)+b.toNat-128)+c.toNat-128∧64*(64*((a.toNat:Int)-224)+b.toNat-128)+c.toNat-128≤57343)
       · rw [zp hr, zn (by
           simp only[Utf8.valid,k9,qBJ,decide_eq_true_eq]; omega)]
         rfl
       · rw [zn hr, zp (by
           simp only[Utf8.valid,k9,qBJ,decide_eq_true_eq]; omega),zn (by simp)]
         congr 1;omega
     · rw[zn (by simp only[k9,decide_eq_true_eq]; exact hb')];simp only[aL,zn c1,zn d2,zp d3,zn hb'];rfl
 have e3:(a.toNat/16==14)=false:=by simp[c3]
 have d3:¬ (224≤a.toNat∧a.toNat<240):=by omega
 simp only[e3,qCV,qA7,if_false];by_cases c4:a.toNat/8=30
 · have e4:(a.toNat/8==30)=true:=by simp[c4]
   simp only[e4,qBO]
   match t with
   | []=>simp[aL,c1,d2,d3]
   | [b]=>simp[aL,c1,d2,d3]
   | [b,c]=>simp[aL,c1,d2,d3]
   | b::c::d::t =>
     have hb:=b.toNat_lt;have hc:=c.toNat_lt;have hd:=d.toNat_lt;simp only[qBM,qC1,qAE,apX,qBA]
     by_cases hb':(128≤b.toNat∧b.toNat≤191)∧(128≤c.toNat∧c.toNat≤191)∧(128≤d.toNat∧d.toNat≤191)
     · rw[zp (by simp only[k9,decide_eq_true_eq]; exact ⟨⟨hb'.1,hb'.2.1⟩,hb'.2.2⟩)];by_cases d4:(240≤a.toNat∧a.toNat<245)
       · simp only[aL,zn c1,zn d2,zn d3,zp d4,zp hb']
         by_cases hr:64*(64*(64*((a.toNat:Int)-240)+b.toNat-128)+c.toNat-128)+d.toNat-128<65536∨1114111<64*(64*(64*((a.toNat:Int)-240)+b.toNat-128)+c.toNat-128)+d.toNat-128
         · rw [zp hr, zn (by
             simp only[Utf8.valid,k9,qBJ,decide_eq_true_eq]; omega)]
           rfl
         · rw [zn hr, zp (by
             simp only[Utf8.valid,k9,qBJ,decide_eq_true_eq]; omega),zn (by simp)]
           congr 1;omega
       · rw [zn (by
           simp only[Utf8.valid,k9,qBJ,decide_eq_true_eq]; omega)]
         simp only[aL,zn c1,zn d2,zn d3,zn d4];rfl
     · rw[zn (by simp only[k9,decide_eq_true_eq]; exact fun e=>hb' ⟨e.1.1,e.1.2,e.2⟩)];by_cases d4:(240≤a.toNat∧a.toNat<245)
       · simp only[aL,zn c1,zn d2,zn d3,zp d4,zn hb'];rfl
       · simp only[aL,zn c1,zn d2,zn d3,zn d4];rfl
 · have e4:(a.toNat/8==30)=false:=by simp[c4]
   have d4:¬ (240≤a.toNat∧a.toNat<245):=by omega
   simp[e4,aL,c1,d2,d3,d4]
theorem decode_N {s:List UInt8}{i:Nat} (hi:i<s.length):Utf8.decode ⟨s.toArray⟩ i=decN (s.drop i):=by
 cases h:s.drop i with
 | nil=>have:=congrArg List.length h; simp at this; omega
 | cons a t=>rw[ag1 h (by omega),aAP]
def cmpI (a b:Int):Int:=if a<b then -1 else if a>b then 1 else 0
theorem jd (a b:Int):zbu a b=some (cmpI a b):=by
 unfold zbu zb3 cmpI;simp only[zb,decide_true,qAU,cond_false,ak];by_cases h1:a<b
 · simp[h1]
 · by_cases h2:a>b<;>simp[h1,h2]
def orI (a b:Int):Int:=if a=0 then b else a
theorem or_t (a b:Int):zdn [a,b]=some (orI a b):=by
 unfold zdn orI;by_cases h1:a=0
 · rw[zp h1];have t0:fS [a,b] (0,())=some (.inl (1,())):=by
     unfold fS;simp only[ak,zl,qAP];rw[zp (by decide)];simp[atI,h1,wrap64]
   rw[aH t0];by_cases h2:b=0
   · have t1 : fS [a, b] (1, ()) = some (.inl (2, ())) := by
       unfold fS;simp only[ak,zl,qAP];rw[zp (by decide)];simp[atI,h2,wrap64]
     rw[aH t1,h2];refine aF ?_;unfold fS;simp only[ak,zl,qAP];rw[zn (by decide)]
   · refine aF ?_;unfold fS;simp only[ak,zl,qAP];rw[zp (by decide)];simp[atI,h2]
 · rw[zn h1];refine aF ?_;unfold fS;simp only[ak,zl,qAP];rw[zp (by decide)];simp[atI,h1]
def cmpD (a b:Int×Int×Unit):Int:=orI (cmpI a.1 b.1) (cmpI a.2.1 b.2.1)
def bI (s:List UInt8):List Int:=s.map fun b=>(b.toNat:Int)
theorem jk {s t:List UInt8}:bI (s++t)=bI s++bI t:=by simp[bI]
theorem kc {s:List UInt8}:(bI s).length=s.length:=by simp[bI]
theorem aqb {s:List UInt8}:((bI s).map fun n=>UInt8.ofNat n.toNat)=s:=by
 unfold bI;rw[List.map_map]
 conv=>rhs; rw[← List.map_id s]
 congr 1;funext b;simp
theorem ahF {n:Int}:IntKind.wrap .u8 n=n%256:=by
 simp[IntKind.wrap,IntKind.signed,IntKind.bits]
theorem dw {c:Int}{v:Bool×Unit×Unit}{w:List Int} (hw:w.length<4294967000):zbe c v w=some (false,(true,(),()),w++[c],()):=by
 unfold zbe;have h:zbd v w=some ((),(true,(),()),w,()):=by
   obtain ⟨b,_,_⟩:=v;unfold zbd;cases b<;>rfl
 rw[h];simp only[zb];rw[aX (by simp; omega)];rfl
theorem pF {v:Bool×Unit×Unit}{s:List UInt8} (hs:s.length<4294967296):zbj v (bI s)=some (s,v,()):=by
 unfold zbj;cases s with
 | nil=>rfl
 | cons b s =>
   have:(bI (b::s)).isEmpty=false:=rfl;rw[this,cond_false,aqb];have:rf 0 (bI (b::s)).length ((bI (b::s)).length:Int)=some ():=by
     unfold rf;rw[kc,zp ⟨rfl,rfl,by simp only[zl]; omega,by omega⟩]
   rw[this]; rfl
theorem apW {n k b:Nat} (hb:0<b) (h:n<b ^ (k+1)):n/b<b ^ k:=by
 rw[Nat.div_lt_iff_lt_mul hb];rw[Nat.pow_succ] at h; exact h
theorem mG {u:Nat} (h:u<10):Lib.decDigits u=[UInt8.ofNat (48+u)]:=by rw[Lib.decDigits,dif_pos h]
theorem ap0 {u:Nat} (h:¬ u<10):Lib.decDigits u=Lib.decDigits (u/10)++[UInt8.ofNat (48+u%10)]:=by rw[Lib.decDigits,dif_neg h]
theorem vj:∀ (k u:Nat),u<10 ^ k→(Lib.decDigits u).length≤k+1
 | 0,u,h=>by rw[mG (by simp at h; omega)]; simp
 | k+1,u,h=>by
   by_cases hu:u<10
   · rw[mG hu]; simp
   · rw[ap0 hu,qAA];have:=vj k (u/10) (apW (by omega) h);simp only[zl,qAP]; omega
theorem w9 {n:Int} (h : -9223372036854775808≤n) (h2:n≤9223372036854775807):(Lib.itoa n).length≤21:=by
 unfold Lib.itoa
 split
 · have:=vj 19 n.natAbs (by simp only[Nat.reducePow]; omega);rw[zl]; omega
 · have:=vj 19 n.toNat (by simp only[Nat.reducePow]; omega);omega
theorem agK {n:Nat}:Lib.itoa (n:Int)=Lib.decDigits n:=by unfold Lib.itoa; rw[zn (by omega),qC0]
def inR (n:Int):Prop := -9223372036854775808≤n∧n≤9223372036854775807
theorem rF {n:Int} (h:inR n):zb7 n=some (Lib.itoa n):=zp h
def bc (d:Int×Int×Unit):Bool:=decide (0≤d.1∧d.1≤15∧1≤d.2.1∧d.2.1≤1048576)
theorem ng {n:Nat}{x:UInt8} (h:n=x.toNat):UInt8.ofNat n=x:=by subst h; exact UInt8.ofNat_toNat
def encN (c:Nat):List UInt8 :=
 if c<128 then [UInt8.ofNat c]
 else if c<2048 then [UInt8.ofNat (192+c/64),UInt8.ofNat (128+c%64)]
 else if c<65536 then [UInt8.ofNat (224+c/4096),UInt8.ofNat (128+c/64%64),UInt8.ofNat (128+c%64)]
 else [UInt8.ofNat (240+c/262144),UInt8.ofNat (128+c/4096%64),UInt8.ofNat (128+c/64%64),UInt8.ofNat (128+c%64)]
theorem aej {r:Int} (h:Utf8.valid r=true):(Utf8.encode r).data.toList=encN r.toNat:=by
 unfold Utf8.encode encN;simp only[h,if_true]
 split
 · rfl
 · split
   · rfl
   · split<;>rfl
theorem ky {r:Int} (h0:0≤r) (h1:r≤1114111) (h2:¬ (55296≤r∧r≤57343)):Utf8.valid r=true:=by
 simp[Utf8.valid]; omega
theorem agX {s:List UInt8} (h:(aL s).2≠0):(Utf8.encode (aL s).1).data.toList=s.take (aL s).2:=by
 match s with
 | []=>exact absurd rfl h
 | a::t =>
   have ha:=a.toNat_lt;by_cases c1:a.toNat<128
   · have e:aL (a::t)=((a.toNat:Int),1):=(by simp only[aL,zp c1]);rw[e,aej (ky (by omega) (by omega) (by omega))];simp only[qC0,encN,zp c1];rw[ng rfl]; rfl
   by_cases c2:194≤a.toNat∧a.toNat<224
   · match t with
     | []=>simp only[aL,zn c1,zp c2,ne_eq,not_true_eq_false] at h
     | b::t =>
       by_cases hb:128≤b.toNat∧b.toNat≤191
       · have e:aL (a::b::t)=(64*((a.toNat:Int)-192)+b.toNat-128,2):=(by simp only[aL,zn c1,zp c2,zp hb]);rw[e,aej (ky (by simp only[]; omega) (by simp only[]; omega) (by simp only[]; omega))]
         simp only[];have:(64*((a.toNat:Int)-192)+b.toNat-128).toNat=64*(a.toNat-192)+(b.toNat-128):=(by omega);rw[this];unfold encN
         rw[zn (by omega),zp (by omega),ng (x:=a) (by omega),ng (x:=b) (by omega)]; rfl
       · simp only[aL,zn c1,zp c2,zn hb,ne_eq,not_true_eq_false] at h
   by_cases c3:224≤a.toNat∧a.toNat<240
   · match t with
     | []=>simp only[aL,zn c1,zn c2,zp c3,ne_eq,not_true_eq_false] at h
     | [b]=>simp only[aL,zn c1,zn c2,zp c3,ne_eq,not_true_eq_false] at h
     | b::c::t =>
       by_cases hb:(128≤b.toNat∧b.toNat≤191)∧(128≤c.toNat∧c.toNat≤191)
       · by_cases hr:64*(64*((a.toNat:Int)-224)+b.toNat-128)+c.toNat-128<2048∨(55296≤64*(64*((a.toNat:Int)-224)+b.toNat-128)+c.toNat-128∧64*(64*((a.toNat:Int)-224)+b.toNat-128)+c.toNat-128≤57343)
         · simp only[aL,zn c1,zn c2,zp c3,zp hb,zp hr,ne_eq,not_true_eq_false] at h
         · have e:aL (a::b::c::t)=(64*(64*((a.toNat:Int)-224)+b.toNat-128)+c.toNat-128,3):=by simp only[aL,zn c1,zn c2,zp c3,zp hb,zn hr]
           rw[e,aej (ky (by simp only[]; omega) (by simp only[]; omega) (by simp only[]; omega))];simp only[]
           have:(64*(64*((a.toNat:Int)-224)+b.toNat-128)+c.toNat-128).toNat=4096*(a.toNat-224)+64*(b.toNat-128)+(c.toNat-128):=(by omega);rw[this];unfold encN
           rw[zn (by omega),zn (by omega),zp (by omega),ng (x:=a) (by omega),ng (x:=b) (by omega),ng (x:=c) (by omega)]; rfl
       · simp only[aL,zn c1,zn c2,zp c3,zn hb,ne_eq,not_true_eq_false] at h
   by_cases c4:240≤a.toNat∧a.toNat<245
   · match t with
     | []=>simp only[aL,zn c1,zn c2,zn c3,zp c4,ne_eq,not_true_eq_false] at h
     | [b]=>simp only[aL,zn c1,zn c2,zn c3,zp c4,ne_eq,not_true_eq_false] at h
     | [b,c]=>simp only[aL,zn c1,zn c2,zn c3,zp c4,ne_eq,not_true_eq_false] at h
     | b::c::d::t =>
       by_cases hb:(128≤b.toNat∧b.toNat≤191)∧(128≤c.toNat∧c.toNat≤191)∧(128≤d.toNat∧d.toNat≤191)
       · by_cases hr:64*(64*(64*((a.toNat:Int)-240)+b.toNat-128)+c.toNat-128)+d.toNat-128<65536∨1114111<64*(64*(64*((a.toNat:Int)-240)+b.toNat-128)+c.toNat-128)+d.toNat-128
         · simp only[aL,zn c1,zn c2,zn c3,zp c4,zp hb,zp hr,ne_eq,not_true_eq_false] at h
         · have e:aL (a::b::c::d::t)=(64*(64*(64*((a.toNat:Int)-240)+b.toNat-128)+c.toNat-128)+d.toNat-128,4):=by simp only[aL,zn c1,zn c2,zn c3,zp c4,zp hb,zn hr]
           rw[e,aej (ky (by simp only[]; omega) (by simp only[]; omega) (by simp only[]; omega))];simp only[]
           have:(64*(64*(64*((a.toNat:Int)-240)+b.toNat-128)+c.toNat-128)+d.toNat-128).toNat=262144*(a.toNat-240)+4096*(b.toNat-128)+64*(c.toNat-128)+(d.toNat-128):=(by omega);rw[this];unfold encN
           rw[zn (by omega),zn (by omega),zn (by omega),ng (x:=a) (by omega),ng (x:=b) (by omega),ng (x:=c) (by omega),ng (x:=d) (by omega)]; rfl
       · simp only[aL,zn c1,zn c2,zn c3,zp c4,zn hb,ne_eq,not_true_eq_false] at h
   · simp only[aL,zn c1,zn c2,zn c3,zn c4,ne_eq,not_true_eq_false] at h
def Good (c:Int):Prop:=∃ s,(aL s).2≠0∧(aL s).1=c
theorem agW {n:Nat} (h:128≤n) (h2:n≤1114111):∀ b∈encN n,128≤b.toNat:=by
 have e:∀ n:Nat,128≤n→n<256→128≤(UInt8.ofNat n).toNat:=by
   intro n h1 h2;rw[UInt8.toNat_ofNat_of_lt' (by simpa using h2)]; exact h1
 intro b hb;unfold encN at hb;rw[zn (by omega)] at hb
 split at hb
 · simp only[qAO,qDJ,or_false] at hb;rcases hb with rfl | rfl<;>exact e _ (by omega) (by omega)
 · split at hb
   · simp only[qAO,qDJ,or_false] at hb;rcases hb with rfl | rfl | rfl<;>exact e _ (by omega) (by omega)
   · simp only[qAO,qDJ,or_false] at hb;rcases hb with rfl | rfl | rfl | rfl<;>exact e _ (by omega) (by omega)
theorem vt {s:List UInt8} (h0:(aL s).2≠0):s.take (aL s).2=encN (aL s).1.toNat:=by
 have hi:=je s;have he:=agX h0;by_cases hv:Utf8.valid (aL s).1=true
 · rw[← he,aej hv]
 · exfalso;have hs:55296≤(aL s).1∧(aL s).1≤57343:=by
     simp[Utf8.valid] at hv; omega
   have h3:(aL s).2=3∨(aL s).2≠3:=by omega
   revert hs h0
   unfold aL
   repeat' split
   all_goals (try simp only[])
   all_goals (try split)
   all_goals (try simp only[])
   all_goals omega
theorem acw {n:Int} (h:0≤n) (h2:n<4294967296):IntKind.wrap .u32 n=n:=by
 simp[IntKind.wrap,IntKind.signed,IntKind.bits]; omega
theorem apy:∀ x:Fin 256,(IntKind.wrap .u8 ((BitVec.ofInt (IntKind.bits .u8) 128 ||| BitVec.ofInt (IntKind.bits .u8) (IntKind.wrap .u8 ((BitVec.ofInt (IntKind.bits .u8) ((x.val:Nat):Int) &&& BitVec.ofInt (IntKind.bits .u8) 63).toNat:Nat))).toNat:Nat))=((128+x.val%64:Nat):Int):=by decide +kernel
theorem zc {c:Int}:(IntKind.wrap .u8 ((BitVec.ofInt (IntKind.bits .u8) 128 ||| BitVec.ofInt (IntKind.bits .u8) (IntKind.wrap .u8 ((BitVec.ofInt (IntKind.bits .u8) (IntKind.wrap .u8 c) &&& BitVec.ofInt (IntKind.bits .u8) 63).toNat:Nat))).toNat:Nat))=128+c%64:=by
 have h0:0≤c%256:=by omega
 have h1:c%256<256:=by omega
 have:=apy ⟨(c%256).toNat,by omega⟩;simp only at this;rw[show (((c%256).toNat:Nat):Int)=c%256 by omega] at this;rw[ahF (n:=c),this];omega
theorem ut:(∀ x:Fin 32,(IntKind.wrap .u8 ((BitVec.ofInt (IntKind.bits .u8) 192 ||| BitVec.ofInt (IntKind.bits .u8) (IntKind.wrap .u8 ((x.val:Nat):Int))).toNat:Nat))=((192+x.val:Nat):Int))∧(∀ x:Fin 16,(IntKind.wrap .u8 ((BitVec.ofInt (IntKind.bits .u8) 224 ||| BitVec.ofInt (IntKind.bits .u8) (IntKind.wrap .u8 ((x.val:Nat):Int))).toNat:Nat))=((224+x.val:Nat):Int))∧(∀ x:Fin 8,(IntKind.wrap .u8 ((BitVec.ofInt (IntKind.bits .u8) 240 ||| BitVec.ofInt (IntKind.bits .u8) (IntKind.wrap .u8 ((x.val:Nat):Int))).toNat:Nat))=((240+x.val:Nat):Int)):=by decide +kernel
theorem top2 {x:Int} (h:0≤x) (h2:x<32):(IntKind.wrap .u8 ((BitVec.ofInt (IntKind.bits .u8) 192 ||| BitVec.ofInt (IntKind.bits .u8) (IntKind.wrap .u8 x)).toNat:Nat))=192+x:=by
 have:=ut.1 ⟨x.toNat,by omega⟩;simp only at this;rw[show ((x.toNat:Nat):Int)=x by omega] at this;rw[this]; omega
theorem top3 {x:Int} (h:0≤x) (h2:x<16):(IntKind.wrap .u8 ((BitVec.ofInt (IntKind.bits .u8) 224 ||| BitVec.ofInt (IntKind.bits .u8) (IntKind.wrap .u8 x)).toNat:Nat))=224+x:=by
 have:=ut.2.1 ⟨x.toNat,by omega⟩;simp only at this;rw[show ((x.toNat:Nat):Int)=x by omega] at this;rw[this]; omega
theorem top4 {x:Int} (h:0≤x) (h2:x<8):(IntKind.wrap .u8 ((BitVec.ofInt (IntKind.bits .u8) 240 ||| BitVec.ofInt (IntKind.bits .u8) (IntKind.wrap .u8 x)).toNat:Nat))=240+x:=by
 have:=ut.2.2 ⟨x.toNat,by omega⟩;simp only at this;rw[show ((x.toNat:Nat):Int)=x by omega] at this;rw[this]; omega
theorem apb {c:Int}{n:Int}{k:Nat} (hn:n=(k:Int)) (hk:k≤32):shrT .i32 c n=some (c/(2 ^ k:Nat)):=by
 subst hn;unfold shrT;rw[zn (by omega)];congr 1;rw[qC0,Int.fdiv_eq_ediv_of_nonneg _ (by exact_mod_cast qB3 _)];have:min k (IntKind.bits .i32)=k:=by show min k 32=k; omega
 rw[this]
 norm_cast
def aqj (c:Int):Prop:=0≤c∧c≤1114111∧¬ (55296≤c∧c≤57343)
theorem ag8 {l:List Nat} (h:∀ n∈l,n<256):bI (l.map UInt8.ofNat)=l.map fun (n:Nat)=>(n:Int):=by
 unfold bI;rw[List.map_map];refine List.map_congr_left fun n hn => ?_;simp only[Function.comp];rw[UInt8.toNat_ofNat_of_lt' (by simpa using h n hn)]
theorem ahb {c:Int}{w:List Int} (hc:aqj c) (hw:w.length<4294967000):zbs c w=some ((),w++bI (encN c.toNat),()):=by
 obtain ⟨h0,h1,h2⟩:=hc;obtain ⟨n,rfl⟩:∃ n:Nat,c=(n:Int):=⟨c.toNat,by omega⟩;unfold zbs;rw[qC0];simp only[ak,acw (n:=(n:Int)) (by omega) (by omega)];by_cases c1:n<128
 · rw[zp (by omega),aX (by simp; omega),zb];unfold encN;rw[zp c1,ahF];have e:[UInt8.ofNat n]=[n].map UInt8.ofNat:=rfl;rw[e,ag8 (by intro m hm; simp at hm; omega)];simp only[qA5,qCP]
   rw[show (n:Int)%256=n by omega]
 rw[zn (by omega)];have room:∀ l:List Int,l.length≤4→bY (w.length+l.length)=some ():=fun l hl=>aX (by omega);have key:zbh (n:Int) w=some ((),w++bI (encN n),()):=by
   unfold zbh encN;rw[zn c1];simp only[ak,acw (n:=(n:Int)) (by omega) (by omega),apb (n:=6) (k:=6) rfl (by omega),apb (n:=12) (k:=12) rfl (by omega),apb (n:=18) (k:=18) rfl (by omega),zb]
   by_cases c2:n<2048
   · rw[zp (by omega),zp c2,room _ (by simp),zb,zc,top2 (by omega) (by omega)];have e:[UInt8.ofNat (192+n/64),UInt8.ofNat (128+n%64)]=[192+n/64,128+n%64].map UInt8.ofNat:=rfl
     rw[e,ag8 (by intro m hm; simp at hm; omega)]
     simp only[qA5,qCP,show ((2 ^ 6:Nat):Int)=64 from rfl,show ((2 ^ 12:Nat):Int)=4096 from rfl,show ((2 ^ 18:Nat):Int)=262144 from rfl,Int.natCast_add,Int.natCast_ediv,Int.natCast_emod,Int.cast_ofNat_Int]
   rw[zn (by omega),zn c2];by_cases c3:n<65536
   · have hA : ((if (n : Int) < 55296 then some (Sum.inl (decide ((n : Int) < 55296), w, ())) else
         (if 57343<(n:Int) then some (decide ((n:Int)≤65535),w,()) else some (false,w,())).bind fun v3=>some (Sum.inl (v3.1,v3.2.1,()))):Option ((Bool×List Int×Unit)⊕(Unit×List Int×Unit)))=some (.inl (true,w,())):=by
       by_cases g:(n:Int)<55296
       · rw[zp g]; simp[g]
       · rw[zn g,zp (by omega)]; simp; omega
     rw[hA,aB,zp c3];simp only[cond_true];rw[room _ (by simp),zb,zc,zc,top3 (by omega) (by omega)]
     have e:[UInt8.ofNat (224+n/4096),UInt8.ofNat (128+n/64%64),UInt8.ofNat (128+n%64)]=[224+n/4096,128+n/64%64,128+n%64].map UInt8.ofNat:=rfl;rw[e,ag8 (by intro m hm; simp at hm; omega)]
     simp only[qA5,qCP,show ((2 ^ 6:Nat):Int)=64 from rfl,show ((2 ^ 12:Nat):Int)=4096 from rfl,show ((2 ^ 18:Nat):Int)=262144 from rfl,Int.natCast_add,Int.natCast_ediv,Int.natCast_emod,Int.cast_ofNat_Int]
   · have hA : ((if (n : Int) < 55296 then some (Sum.inl (decide ((n : Int) < 55296), w, ())) else
         (if 57343<(n:Int) then some (decide ((n:Int)≤65535),w,()) else some (false,w,())).bind fun v3=>some (Sum.inl (v3.1,v3.2.1,()))):Option ((Bool×List Int×Unit)⊕(Unit×List Int×Unit)))=some (.inl (false,w,())):=by
       rw[zn (by omega),zp (by omega)]; simp; omega
     rw[hA,aB,zn c3];simp only[cond_false];rw[zp (by omega),zp (by omega),room _ (by simp),zb,zc,zc,zc,top4 (by omega) (by omega)]
     have e:[UInt8.ofNat (240+n/262144),UInt8.ofNat (128+n/4096%64),UInt8.ofNat (128+n/64%64),UInt8.ofNat (128+n%64)]=[240+n/262144,128+n/4096%64,128+n/64%64,128+n%64].map UInt8.ofNat:=rfl
     rw[e,ag8 (by intro m hm; simp at hm; omega)]
     simp only[qA5,qCP,show ((2 ^ 6:Nat):Int)=64 from rfl,show ((2 ^ 12:Nat):Int)=4096 from rfl,show ((2 ^ 18:Nat):Int)=262144 from rfl,Int.natCast_add,Int.natCast_ediv,Int.natCast_emod,Int.cast_ofNat_Int]
 rw[key]; rfl
theorem vu {s:List UInt8} (h0:(aL s).2≠0):aqj (aL s).1:=by
 have hi:=je s;refine ⟨hi.1,hi.2,?_⟩;intro hs
 revert hs h0
 unfold aL
 repeat' split
 all_goals (try simp only[])
 all_goals (try split)
 all_goals (try simp only[])
 all_goals omega
theorem agY {n:Nat}:1≤(encN n).length∧(encN n).length≤4:=by
 unfold encN
 repeat' split
 all_goals simp
abbrev Val:=Int×Int×List UInt8×Unit
theorem uO {l:List Int}{i:Nat}{x:Int} (h:l[i]? = some x) (hl:l.length<1000000):fS l ((i:Int),())=if x=0 then some (.inl (((i+1:Nat):Int),())) else some (.inr x):=by
 have hi:i<l.length:=by
   rcases qAS i l.length with h' | h'
   · exact h'
   · rw[qAG h'] at h; cases h
 unfold fS;simp only[ak];rw[zp (by omega),gr,h];simp only[zb];by_cases hx:x=0
 · rw[zp hx];simp only[hx,decide_true,qAU,cond_false];rw[wrap64 (by omega) (by omega)]; rfl
 · rw[zn hx];simp only[hx,decide_false,qBK,cond_true]
theorem aDD (a b c:Int):zdn [a,b,c]=some (orI a (orI b c)):=by
 unfold zdn;have t0:=uO (l:=[a,b,c]) (i:=0) (x:=a) rfl (by simp);have t1:=uO (l:=[a,b,c]) (i:=1) (x:=b) rfl (by simp);have t2:=uO (l:=[a,b,c]) (i:=2) (x:=c) rfl (by simp)
 have t3:fS [a,b,c] (((3:Nat):Int),())=some (.inr 0):=by
   unfold fS;simp only[ak,zl,qAP];rw[zn (by decide)]
 unfold orI;by_cases h0:a=0
 · rw[zp h0] at t0 ⊢;rw[show ((0:Int),())=(((0:Nat):Int),()) from rfl,aH t0];by_cases h1:b=0
   · rw[zp h1] at t1 ⊢;rw[aH t1];by_cases h2:c=0
     · rw[zp h2] at t2;rw[aH t2,aF t3,h2]
     · rw[zn h2] at t2;rw[aF t2]
   · rw[zn h1] at t1 ⊢;rw[aF t1]
 · rw[zn h0] at t0 ⊢;exact aF t0
theorem aeF:∀ a b:List UInt8,Lib.compareBytes b a = - Lib.compareBytes a b
 | [],[]=>rfl
 | [],_::_=>rfl
 | _::_,[]=>rfl
 | x::a,y::b=>by
   simp only[Lib.compareBytes,UInt8.lt_iff_toNat_lt];by_cases h1:x.toNat<y.toNat
   · have h2:¬ y.toNat<x.toNat:=(by omega);simp only[zp h1,zn h2];rfl
   · by_cases h2:y.toNat<x.toNat
     · simp only[zp h2,zn h1]
     · simp only[zn h2,zn h1]; exact aeF a b
theorem qF:∀ a b:List UInt8,Lib.compareBytes a b=0↔a=b
 | [],[]=>by simp[Lib.compareBytes]
 | [],_::_=>by simp[Lib.compareBytes]
 | _::_,[]=>by simp[Lib.compareBytes]
 | x::a,y::b=>by
   simp only[Lib.compareBytes,UInt8.lt_iff_toNat_lt];by_cases h1:x.toNat<y.toNat
   · rw[zp h1];constructor
     · intro h; cases h
     · intro h; cases h; omega
   · rw[zn h1];by_cases h2:y.toNat<x.toNat
     · rw[zp h2];constructor
       · intro h; cases h
       · intro h; cases h; omega
     · rw[zn h2,qF a b];have:x=y:=UInt8.toNat_inj.1 (by omega);subst this;simp
theorem aeE:∀ a b:List UInt8,Lib.compareBytes a b = -1∨Lib.compareBytes a b=0∨Lib.compareBytes a b=1
 | [],[]=>.inr (.inl rfl)
 | [],_::_=>.inl rfl
 | _::_,[]=>.inr (.inr rfl)
 | x::a,y::b=>by
   simp only[Lib.compareBytes]
   split
   · exact .inl rfl
   · split
     · exact .inr (.inr rfl)
     · exact aeE a b
theorem xE:∀ a b c:List UInt8,Lib.compareBytes a b≤0→Lib.compareBytes b c≤0→Lib.compareBytes a c≤0
 | [],b,[],_,_=>by simp[Lib.compareBytes]
 | [],b,_::_,_,_=>by simp[Lib.compareBytes]
 | _::_,[],_,h,_=>by simp[Lib.compareBytes] at h
 | x::a,y::b,[],_,h=>by simp[Lib.compareBytes] at h
 | x::a,y::b,z::c,h,k=>by
   simp only[Lib.compareBytes,UInt8.lt_iff_toNat_lt] at h k ⊢;by_cases h1:x.toNat<y.toNat
   · by_cases k1:y.toNat<z.toNat
     · rw[zp (by omega)]; omega
     · rw[zn k1] at k;by_cases k2:z.toNat<y.toNat
       · rw[zp k2] at k; omega
       · rw[zp (by omega)]; omega
   · rw[zn h1] at h;by_cases h2:y.toNat<x.toNat
     · rw[zp h2] at h; omega
     · rw[zn h2] at h;by_cases k1:y.toNat<z.toNat
       · rw[zp (by omega)]; omega
       · rw[zn k1] at k;by_cases k2:z.toNat<y.toNat
         · rw[zp k2] at k; omega
         · rw[zn k2] at k;rw[zn (by omega),zn (by omega)];exact xE a b c h k
def cmpV (a b:Val):Int:=orI (cmpI a.1 b.1) (orI (cmpI a.2.1 b.2.1) (Lib.compareBytes a.2.2.1 b.2.2.1))
theorem zw (a b:Val):eqV (.agg (.cons (.int .i64) (.cons (.int .i64) (.cons .str .unit)))) a b=decide (a=b):=by
 obtain ⟨k,n,s,⟨⟩⟩:=a;obtain ⟨k',n',s',⟨⟩⟩:=b;simp only[eqV,Bool.and_true];rw[qDK];simp
theorem acZ {s:List UInt8}:(fU s []).2.1=(ct s).isSome:=by
 unfold fU; cases ct s<;>rfl
def cY (v:Val):Bool:=decide ((v.1=1∧v.2.2.1=[] ∧ -2147483647≤v.2.1∧v.2.1≤2147483647)∨(v.1=2∧v.2.1=0∧(ct v.2.2.1).isSome=true∧v.2.2.1.length≤64)∨(v.1=3∧v.2.2.1=[]∧0≤v.2.1∧v.2.1≤1))
theorem uI {v:Val} (hv:v.2.2.1.length<4294967296):zc0 v=some (cY v):=by
 unfold zc0 cY;simp only[acW (s:=v.2.2.1) (by omega),zb,acZ,ak];by_cases h1:v.1=1
 · rw[zp h1];by_cases h2:v.2.2.1=[]
   · by_cases h3:v.2.1 ≥ -2147483647
     · simp only[h1,h2,h3]; simp<;>omega
     · simp only[h1,h2]; simp[h3]<;>omega
   · simp[h1,h2]
 rw[zn h1];by_cases h2:v.1=2
 · rw[zp h2];cases hr:(ct v.2.2.1).isSome with
   | true =>
     by_cases h3:v.2.1=0
     · simp only[h2,h3]; simp<;>omega
     · simp[h2,h3]
   | false=>by_cases h3:v.2.1=0<;>simp[h2,h3]
 rw[zn h2];by_cases h3:v.1=3
 · rw[zp h3];by_cases h4:v.2.2.1=[]
   · by_cases h5:v.2.1≥0
     · simp only[h3,h4]; simp[h5]<;>omega
     · simp only[h3,h4]; simp[h5]<;>omega
   · simp[h3,h4]
 rw[zn h3];simp[h1,h2,h3]
def uA (b:UInt8):Bool:=decide (b.toNat=34)||decide (b.toNat=92)
def spec (c:Int):Bool:=decide (c=34)||decide (c=92)
def cK (s:List UInt8):List UInt8:=s.flatMap fun b=>if uA b then [92,b] else [b]
theorem jD {b:UInt8}{s:List UInt8}:cK (b::s)=(if uA b then [92,b] else [b])++cK s:=by unfold cK; rw[qBG]
theorem ade {s t:List UInt8}:cK (s++t)=cK s++cK t:=by unfold cK; rw[List.flatMap_append]
theorem rZ:∀ (s:List UInt8),(cK s).length≤2*s.length
 | []=>by simp[cK]
 | b::s=>by
   have:=rZ s;rw[jD,qAA,zl]
   split<;>simp<;>omega
theorem ou:∀ (s:List UInt8),(∀ b∈s,128≤b.toNat)→cK s=s
 | [],_=>rfl
 | b::s,h=>by
   have h1:=h b (qAL ..);have:uA b=false:=by
     simp only[uA,qCQ,decide_eq_false_iff_not]; omega
   rw[jD,this,ou s (fun x hx=>h x (qAM _ hx))]; rfl
theorem acK {a:UInt8}:spec (a.toNat:Int)=uA a:=by
 unfold spec uA;have h1:decide ((a.toNat:Int)=34)=decide (a.toNat=34):=by rw[decide_eq_decide]; omega
 have h3:decide ((a.toNat:Int)=92)=decide (a.toNat=92):=by rw[decide_eq_decide]; omega
 rw[h1,h3]
theorem yM {s:List UInt8} (h0:(aL s).2≠0):cK s=(if spec (aL s).1 then [92] else [])++encN (aL s).1.toNat++cK (s.drop (aL s).2):=by
 have hi:=je s;have hv:=vt h0;have hq:cK s=cK (s.take (aL s).2)++cK (s.drop (aL s).2):=by rw[← ade,qCI]
 rw[hq];congr 1;by_cases hc:(aL s).1.toNat<128
 · have hb:encN (aL s).1.toNat=[UInt8.ofNat (aL s).1.toNat]:=by unfold encN; rw[zp hc]
   have ht:(UInt8.ofNat (aL s).1.toNat).toNat=(aL s).1.toNat:=UInt8.toNat_ofNat_of_lt' (by show _<256; omega);rw[hv,hb];generalize hbb:UInt8.ofNat (aL s).1.toNat=b at ht ⊢
   have hcb:(aL s).1=(b.toNat:Int):=by omega
   rw[hcb,acK,jD];have hnil:cK []=[]:=rfl;rw[hnil,qAT];cases uA b<;>rfl
 · have hsp : spec (aL s).1 = false := by
     simp only[spec,qCQ,decide_eq_false_iff_not]; omega
   rw[ou _ (by rw[hv]; exact agW (by omega) (by omega)),hsp,hv]; rfl
theorem kY {c:Int}{v:Bool×Unit×Unit}{w:List Int} (hc:aqj c) (hw:w.length<4294967000):∃ n,zbf c v w=some ((n,false,()),(true,(),()),w++bI (encN c.toNat),()):=by
 unfold zbf;have h:zbd v w=some ((),(true,(),()),w,()):=by
   obtain ⟨b,_,_⟩:=v;unfold zbd;cases b<;>rfl
 rw[h];simp only[zb,ahb hc hw];exact ⟨_,rfl⟩
theorem aAV:bI [92]=[92]:=rfl
theorem aAW:bI [34]=[34]:=rfl
theorem yN {s:List UInt8} (hs:s.length<1000000):∀ (k i:Nat) (out:List UInt8) (b:Bool) (l:List Int),s.length-i≤k→i≤s.length→out.length≤5*i+1→ct (s.drop i)=some l →
   aK (nJ s) (bI out,(b,(),()),i,())=some (out++cK (s.drop i)++[34]):=by
 intro k;have fin:∀ (i:Nat) (out:List UInt8) (b:Bool),¬ i<s.length→out.length≤5*s.length+1→aK (nJ s) (bI out,(b,(),()),i,())=some (out++cK (s.drop i)++[34]):=by
   intro i out b hi ho;refine aF ?_;unfold nJ;rw[ak,zn (by simp only[]; exact hi),dw (by rw[kc]; omega)];simp only[zb]
   rw[← aAW,← jk,pF (by rw[qAA]; simp only[zl,qAP]; omega),qA0 (by omega)];simp[cK]
 induction k with
 | zero=>intro i out b l hk hi ho hl; exact fin i out b (by omega) (by omega)
 | succ k ih =>
   intro i out b l hk hi ho hl;by_cases hlt:i<s.length
   · have hne:s.drop i≠[]:=fun e=>(by have:=congrArg List.length e; simp at this; omega);have hle:=xD (s.drop i);simp only[qAW] at hle;by_cases h0:(aL (s.drop i)).2=0
     · rw[ik hne h0] at hl; cases hl
     · rw[fA hne h0,qB0,x0] at hl;obtain ⟨l',hl',rfl⟩:=hl;have hc:=vu h0;have hstep:=yM h0;rw[qB0] at hstep;have hen:=agY (n:=(aL (s.drop i)).1.toNat)
       have turn:nJ s (bI out,(b,(),()),i,())=some (.inl (bI (out++((if spec (aL (s.drop i)).1 then [92] else [])++encN (aL (s.drop i)).1.toNat)),(true,(),()),i+(aL (s.drop i)).2,())):=by
         unfold nJ;rw[ak,zp (by simp only[]; exact hlt)];have hnat:(((aL (s.drop i)).1.toNat:Nat):Int)=(aL (s.drop i)).1:=(by have:=je (s.drop i); omega);simp only[decode_N hlt,decN,zn h0,hnat,zb]
         obtain ⟨n2,e2⟩:=kY (v:=(true,(),())) (w:=bI out++[92]) hc (by rw[qAA,kc]; simp only[zl,qAP]; omega)
         obtain ⟨n1,e1⟩:=kY (v:=(b,(),())) (w:=bI out) hc (by rw[kc]; omega);have es:spec (aL (s.drop i)).1=(decide ((aL (s.drop i)).1=34)||decide ((aL (s.drop i)).1=92)):=rfl;rw[es]
         cases h34:decide ((aL (s.drop i)).1=34) with
         | true =>
           simp only[cond_true,Bool.true_or,if_true];rw[dw (by rw[kc]; omega)];simp only[zb];rw[e2];simp only[zb];rw[← aAV,← jk,← jk,qAR]
         | false =>
           simp only[cond_false,qDD];cases h92:decide ((aL (s.drop i)).1=92) with
           | true =>
             simp only[cond_true,if_true];rw[dw (by rw[kc]; omega)];simp only[zb];rw[e2];simp only[zb];rw[← aAV,← jk,← jk,qAR]
           | false =>
             simp only[cond_false,qA7,if_false,qBC];rw[e1];simp only[zb];rw[← jk]
       rw[aH turn,ih _ _ _ l' (by omega) (by omega) ?_ hl',hstep]
       · simp only[qAR]
       · have h1:(if spec (aL (s.drop i)).1 then ([92]:List UInt8) else []).length≤1:=by split<;>simp
         have h5:((if spec (aL (s.drop i)).1 then ([92]:List UInt8) else [])++encN (aL (s.drop i)).1.toNat).length≤5*(aL (s.drop i)).2:=by
           rw[qAA]; omega
         rw[qAA];omega
   · exact fin i out b (by omega) (by omega)
theorem api {s:List UInt8}{l:List Int} (hs:s.length<1000000) (hl:ct s=some l):zcw s=some ([34]++cK s++[34]):=by
 have:=yN hs s.length 0 [34] true l (by omega) (by omega) (by simp) (by simpa using hl);unfold zcw;rw[dw (by simp)];simp only[zb,qBC];simpa [aAW] using this
def jx (v:Val):List UInt8:=if v.1=1 then Lib.itoa v.2.1 else if v.1=3 then (if v.2.1=1 then [116,114,117,101] else [102,97,108,115,101]) else [34]++cK v.2.2.1++[34]
theorem j0 {v:Val} (h:cY v=true):(∃ n:Int,v=(1,n,[],()) ∧ -2147483647≤n∧n≤2147483647)∨(∃ s l,v=(2,0,s,())∧ct s=some l∧s.length≤64)∨v=(3,0,[],())∨v=(3,1,[],()):=by
 obtain ⟨k,n,s,⟨⟩⟩:=v;unfold cY at h;simp only[decide_eq_true_eq] at h;rcases h with ⟨rfl,rfl,h1,h2⟩ | ⟨rfl,rfl,h1,h2⟩ | ⟨rfl,rfl,h1,h2⟩
 · exact .inl ⟨n,rfl,h1,h2⟩
 · cases hr:ct s with
   | none=>rw[hr] at h1; cases h1
   | some l=>exact .inr (.inl ⟨s,l,rfl,hr,h2⟩)
 · have:n=0∨n=1:=by omega
   rcases this with rfl | rfl
   · exact .inr (.inr (.inl rfl))
   · exact .inr (.inr (.inr rfl))
theorem uq {v:Val} (h:cY v=true):zdu v=some (jx v):=by
 rcases j0 h with ⟨n,rfl,h1,h2⟩ | ⟨s,l,rfl,h1,h2⟩ | rfl | rfl
 · unfold zdu jx;simp only[rF (show inR n from ⟨by omega,by omega⟩)];rfl
 · unfold zdu jx;simp only[api (by omega) h1];rfl
 · rfl
 · rfl
abbrev Path:=List (List UInt8)
abbrev Ent:=Path×Int×List Val×Int×Unit
abbrev Chg:=Int×Ent×Ent×Unit
theorem aeG:Cmp Lib.compareBytes where
 one a b:=by have:=aeE a b; omega
 neg a b:=aeF a b
 zero a b:=qF a b
 trans a b d h1 h2:=by
   have h3:=xE a b d (by omega) (by omega);rcases Int.lt_or_eq_of_le h3 with h | h
   · exact h
   · have e:=(qF a d).1 h;subst e;have:=aeF a b;omega
theorem mN:Cmp cmpI where
 one a b:=by
   unfold cmpI
   split
   · omega
   · split<;>omega
 neg a b:=by
   unfold cmpI;by_cases h1:a<b
   · rw[zn (by omega),zp (by omega),zp h1]; rfl
   · by_cases h2:a>b
     · rw[zp (by omega),zn h1,zp h2]
     · rw[zn (by omega),zn (by omega),zn h1,zn h2]; rfl
 zero a b:=by
   unfold cmpI;by_cases h1:a<b
   · rw[zp h1]; constructor<;>intro h<;>omega
   · by_cases h2:a>b
     · rw[zn h1,zp h2]; constructor<;>intro h<;>omega
     · rw[zn h1,zn h2]; constructor<;>intro h<;>omega
 trans a b d h1 h2:=by
   unfold cmpI at h1 h2 ⊢;have e1:a<b:=by
     by_cases h:a<b
     · exact h
     · rw[zn h] at h1; split at h1<;>omega
   have e2:b<d:=by
     by_cases h:b<d
     · exact h
     · rw[zn h] at h2; split at h2<;>omega
   rw[zp (by omega)]; omega
theorem adL:∀ a b:List UInt8,Op.bytesLess a b=decide (Lib.compareBytes a b<0)
 | [],[]=>rfl
 | _::_,[]=>rfl
 | [],_::_=>rfl
 | x::a,y::b=>by
   simp only[Op.bytesLess,Lib.compareBytes];by_cases h1:x<y
   · simp[h1]
   · by_cases h2:y<x
     · have h3:x≠y:=fun e=>(by subst e; exact h1 h2);simp[h1,h2,h3]
     · have h3:x=y:=UInt8.toNat_inj.1 (by rw[UInt8.lt_iff_toNat_lt] at h1 h2; omega);subst h3;simp[h1,adL a b]
theorem rG (a b:List UInt8):zbo a b=some (Lib.compareBytes a b):=by
 unfold zbo zbq;simp only[decide_true,qAU,zb,cond_false,adL];have h1:=aeE a b;have h0:=qF a b;by_cases h2:Lib.compareBytes a b<0
 · rw[zt h2];simp only[cond_true];congr 1; omega
 · rw[zf h2];simp only[cond_false,qDD];by_cases h3:a=b
   · rw[zt h3];simp only[qAU,cond_false];rw[h0.2 h3]
   · rw[zf h3];simp only[qBK,cond_true];congr 1;have:Lib.compareBytes a b≠0:=fun e=>h3 (h0.1 e);omega
def cmpP:Path→Path→Int:=cmpL Lib.compareBytes
theorem aez {x y:List UInt8}{a b:Path}:cmpP (x::a) (y::b)=if Lib.compareBytes x y=0 then cmpP a b else Lib.compareBytes x y:=by unfold cmpP; rw[cmpL]
theorem sk {a b:Path} (ha:a.length<1000000):∀ (k i:Nat),a.length-i≤k→i≤a.length→i≤b.length →
   ((aK (iD a b) ((i:Int),()):Option (Unit⊕Int)).bind (aZ fun _=>cond (decide ((a.length:Int)<(b.length:Int))) (some (-1)) (some 0)))=some (cmpP (a.drop i) (b.drop i)):=by
 intro k
 have fin:∀ i:Nat,i=a.length→i≤b.length→((aK (iD a b) ((i:Int),()):Option (Unit⊕Int)).bind (aZ fun _=>cond (decide ((a.length:Int)<(b.length:Int))) (some (-1)) (some 0)))=some (cmpP (a.drop i) (b.drop i)):=by
   intro i hi h2;have hl:aK (iD a b) ((i:Int),())=some (.inl ()):=by
     refine aF ?_;unfold iD;simp only[ak];rw[zn (by omega)]
   rw[hl,aB,qA0 (by omega:a.length≤i)];rw[ak];by_cases h5:i<b.length
   · rw[qBZ h5,zp (by omega)]; rfl
   · rw[qA0 (by omega),zn (by omega)]; rfl
 induction k with
 | zero=>intro i hk h1 h2; exact fin i (by omega) h2
 | succ k ih =>
   intro i hk h1 h2;by_cases h3:i<a.length
   · rw[qBZ h3];by_cases h4:i<b.length
     · rw[qBZ h4,aez];have turn:iD a b ((i:Int),())=if Lib.compareBytes a[i] b[i]=0 then some (.inl (((i+1:Nat):Int),())) else some (.inr (.inr (Lib.compareBytes a[i] b[i]))):=by
         unfold iD;simp only[ak];rw[zp (by omega),aO h3];simp only[zb];rw[zn (by omega),aO h4];simp only[zb,rG];by_cases hz:Lib.compareBytes a[i] b[i]=0
         · rw[zt hz,zp hz];simp only[qAU,cond_false];rw[wrap64 (by omega) (by omega)]; rfl
         · rw[zf hz,zn hz];simp only[qBK,cond_true]
       by_cases hz:Lib.compareBytes a[i] b[i]=0
       · rw[zp hz] at turn ⊢;rw[aH turn];exact ih (i+1) (by omega) (by omega) (by omega)
       · rw[zn hz] at turn ⊢;rw[aF turn,b7]
     · have hl : aK (iD a b) ((i : Int), ()) = some (.inr 1) := by
         refine aF ?_;unfold iD;simp only[ak];rw[zp (by omega),aO h3];simp only[zb];rw[zp (by omega)]
       rw[hl,b7,qA0 (by omega:b.length≤i)]; rfl
   · exact fin i (by omega) h2
theorem iM {a b:Path} (ha:a.length<1000000):zce a b=some (cmpP a b):=by
 have:=sk (b:=b) ha a.length 0 (by omega) (by omega) (by omega);simp only[qB8] at this;rw[show (((0:Nat):Int))=0 from rfl] at this;unfold zce za8;rw[this]; rfl
def keyE (e:Ent):Path×Int:=(e.1,e.2.1)
def cmpK:Path×Int→Path×Int→Int:=cmpB cmpP cmpI
theorem tu:Cmp cmpK:=(Cmp.list aeG).pair mN
theorem b9 {a b:Ent} (ha:a.1.length<1000000):zbv a b=some (cmpK (keyE a) (keyE b)):=by
 unfold zbv;simp only[iM ha,jd,or_t,zb];rfl
def mayM (c:Int):Bool:=decide (32≤c∧(c<127∨159<c)∧c≠65533)
theorem agj (c:Int):zea c=some (mayM c):=by
 unfold zea mayM;simp only[ak];by_cases h1:c≥32
 · rw[zp h1];by_cases h2:c<127
   · rw[zp h2,zf (by omega:¬ c=65533),zt (by omega)]; rfl
   · rw[zn h2];by_cases h3:c>159
     · rw[zp h3];by_cases h4:c=65533
       · rw[zt h4,zf (by omega)]; rfl
       · rw[zf h4,zt (by omega)]; rfl
     · rw[zn h3,zf (by omega)]
 · rw[zn h1,zf (by omega)]
theorem acX:∀ {s:List UInt8}{l:List Int},ct s=some l→l.length≤s.length:=by
 have key:∀ (n:Nat) (s:List UInt8) (l:List Int),s.length≤n→ct s=some l→l.length≤s.length:=by
   intro n
   induction n with
   | zero =>
     intro s l hn h;have:s=[]:=qAV (by omega);subst this;rw[gE] at h; cases h; simp
   | succ n ih =>
     intro s l hn h;by_cases hs:s=[]
     · subst hs;rw[gE] at h; cases h; simp
     · have hl:s.length≠0:=fun e=>hs (qAV e);by_cases h0:(aL s).2=0
       · rw[ik hs h0] at h; cases h
       · rw[fA hs h0,x0] at h;obtain ⟨l',hl',rfl⟩:=h;have:=ih _ l' (by rw[qAW]; omega) hl';rw[qAW] at this;simp only[zl]; omega
 intro s l h;exact key s.length s l (qAD _) h
def uT (s:List UInt8):Bool:=match ct s with
 | some l=>decide (1≤l.length∧l.length≤24)&&l.all mayM
 | none=>false
theorem nl {s:List UInt8} (hs:s.length<1000000):zc5 s=some (uT s):=by
 unfold zc5 uT;rw[acW (by omega)];simp only[zb];have gen:∀ (l:List Int) (ok:Bool),l.length<1000000→aK (qV (l,ok,())) ((0:Int),())=some (if l.all mayM=true then .inl () else .inr false):=by
   intro l ok hl;have:=kF (f:=qV (l,ok,())) (l:=l) (fun i=>((i:Int),())) mayM (.inl ()) (.inr false) (fun i h=>by
     unfold qV;simp only[ak];rw[zp (by omega),aO h];simp only[zb,agj];cases mayM l[i] with
     | true=>simp only[qAU,cond_false,if_true]; rw[wrap64 (by omega) (by omega)]; rfl
     | false=>rfl) (by
     unfold qV;simp only[ak];rw[zn (by omega)])
   exact this
 cases hr:ct s with
 | none =>
   have e:fU s []=([],false,()):=by unfold fU; rw[hr]
   rw[e,gen [] false (by simp)];rfl
 | some l =>
   have e:fU s []=(l,true,()):=by unfold fU; rw[hr]; rfl
   have hl:l.length≤s.length:=acX hr;rw[e,gen l true (by omega)];cases hm:l.all mayM with
   | false =>
     simp only[qA7,if_false,b7,hm,Bool.and_false]
   | true =>
     simp only[if_true,aB,cond_true,hm,Bool.and_true,ak];by_cases h1:(l.length:Int)≥1
     · rw[zp h1];congr 1;rw[decide_eq_decide]; omega
     · rw[zn h1,zf (by omega)]
def fm (p:Path):Int:=if p.length=0 then 8 else if p.length>8 then 9 else if p.all uT=true then 0 else 8
theorem yK {p:Path} (hs:∀ x∈p,x.length<1000000):zcl p=some (fm p):=by
 unfold zcl fm;simp only[ak];by_cases h1:(p.length:Int)=0
 · rw[zp h1,zp (show p.length=0 by omega)]
 rw[zn h1,zn (show ¬ p.length=0 by omega)];by_cases h2:(p.length:Int)>8
 · rw[zp h2,zp (show p.length>8 by omega)]
 rw[zn h2,zn (show ¬ p.length>8 by omega)];have:=kF (f:=wi p) (l:=p) (fun i=>((i:Int),())) uT (0:Int) 8 (fun i h=>by
   unfold wi;simp only[ak];rw[zp (by omega),aO h];simp only[zb,nl (hs _ (zm h))];cases uT p[i] with
   | true=>simp only[qAU,cond_false,if_true]; rw[wrap64 (by omega) (by omega)]; rfl
   | false=>rfl) (by
   unfold wi;simp only[ak];rw[zn (by omega)])
 exact this
instance decE1:DecidableEq (List Val×Int×Unit):=fun a b => @instDecidableEqProd (List Val) (Int×Unit) inferInstance inferInstance a b
instance decE2:DecidableEq (Int×List Val×Int×Unit):=fun a b => @instDecidableEqProd Int (List Val×Int×Unit) inferInstance decE1 a b
instance decE:DecidableEq Ent:=fun a b => @instDecidableEqProd Path (Int×List Val×Int×Unit) inferInstance decE2 a b
instance decC1:DecidableEq (Ent×Unit):=fun a b => @instDecidableEqProd Ent Unit decE inferInstance a b
instance decC2:DecidableEq (Ent×Ent×Unit):=fun a b => @instDecidableEqProd Ent (Ent×Unit) decE decC1 a b
instance decC:DecidableEq Chg:=fun a b => @instDecidableEqProd Int (Ent×Ent×Unit) inferInstance decC2 a b
theorem ite_bool {b:Bool}:(if b=true then true else false)=b:=by cases b<;>rfl
theorem af2 {a b:Path} (ha:a.length<1000000):zbb a b=some (decide (a=b)):=by
 unfold zbb;by_cases hl:a.length=b.length
 · rw[zt (by omega)];simp only[qAU,cond_false];have:=iQ (f:=ww a b) (l:=a) (m:=b) (fun i=>((i:Int),())) (fun x y=>decide (x=y)) true false hl (fun i h h'=>by
     unfold ww;simp only[ak];rw[zp (by omega),aO h,aO h'];simp only[zb];cases decide (a[i]=b[i]) with
     | true=>simp only[qAU,cond_false,if_true]; rw[wrap64 (by omega) (by omega)]; rfl
     | false=>rfl) (by
     unfold ww;simp only[ak];rw[zn (by omega)])
   rw[jm,ite_bool] at this;exact this
 · rw[zf (by omega)];have:a≠b:=fun e=>hl (by rw[e]);rw[zf this]; rfl
theorem afY {a b:List Val} (ha:a.length<1000000):za1 a b=some (decide (a=b)):=by
 unfold za1;by_cases hl:a.length=b.length
 · rw[zt (by omega)];simp only[qAU,cond_false];have:=iQ (f:=wC a b) (l:=a) (m:=b) (fun i=>((i:Int),())) (fun x y=>decide (x=y)) true false hl (fun i h h'=>by
     unfold wC;simp only[ak];rw[zp (by omega),aO h,aO h'];simp only[zb,zw];cases decide (a[i]=b[i]) with
     | true=>simp only[qAU,cond_false,if_true]; rw[wrap64 (by omega) (by omega)]; rfl
     | false=>rfl) (by
     unfold wC;simp only[ak];rw[zn (by omega)])
   rw[jm,ite_bool] at this;exact this
 · rw[zf (by omega)];have:a≠b:=fun e=>hl (by rw[e]);rw[zf this]; rfl
def lowE (e:Ent):Prop:=e.1.length<1000000∧e.2.2.1.length<1000000
theorem oz {a b:Path} (ha:a.length<1000000):zej a b=some (decide (a=b)):=by
 unfold zej;rw[af2 ha]; rfl
theorem nU {a b:Ent} (ha:lowE a):zd8 a b=some (decide (a=b)):=by
 obtain ⟨p,k,l,n,⟨⟩⟩:=a;obtain ⟨p',k',l',n',⟨⟩⟩:=b;unfold zd8;simp only[oz ha.1,afY ha.2,zb,ak];by_cases h1:k=k'
 · rw[zp h1];simp only[zb];by_cases h2:n=n'
   · by_cases h3:p=p'
     · by_cases h4:l=l'
       · simp[h1,h2,h3,h4]
       · simp[h1,h2,h3,h4]
     · simp[h1,h2,h3]
   · simp[h1,h2]
 · rw[zn h1];simp[h1]
theorem j9 {a b:Ent} (ha:lowE a):zcu a b=some (decide (a=b)):=by
 unfold zcu zem zaa;simp only[zl,qAP,decide_true,qAU,cond_false]
 have:=iQ (f:=kX [a] [b]) (l:=[a]) (m:=[b]) (fun i=>((i:Int),())) (fun x y=>decide (x=y)) true false rfl (fun i h h'=>by
   have hi:i=0:=by simpa using h
   subst hi;unfold kX;simp only[ak];rw[zp (by simp),aO h,aO h'];simp only[zb,List.getElem_cons_zero,nU ha];by_cases hab:a=b
   · simp only[zt hab,qAU,cond_false,if_true]; rw[wrap64 (by omega) (by omega)]; rfl
   · simp only[zf hab,qBK,cond_true,qA7,if_false]) (by
   unfold kX;simp only[ak];rw[zn (by simp)])
 rw[jm,ite_bool] at this;rw[show (0:Int)=((0:Nat):Int) from rfl,this];simp
def lowC (c:Chg):Prop:=lowE c.2.1∧lowE c.2.2.1
theorem ed {e:Ent} (h:lowE e):zb9 e=some e:=by
 unfold zb9 zba za0 dv;have h1:e.1.length<most:=by unfold most; have:=h.1; omega
 have h2:e.2.2.1.length<most:=by unfold most; have:=h.2; omega
 rw[zp h1,zp h2];rfl
def gU (e:Ent):Prop:=e.1.length≤12∧(∀ x∈e.1,x.length≤120)∧e.2.2.1.length≤400∧∀ v∈e.2.2.1,cY v=true
theorem af8 {p:Path}:zcj p=some (decide (p.length≤12)&&p.all fun x=>decide (x.length≤120)):=by
 unfold zcj;simp only[ak];by_cases h1:(p.length:Int)>12
 · rw[zp h1,zf (by omega)]; rfl
 rw[zn h1,zt (by omega),qBO];have:=kF (f:=wj p) (l:=p) (fun i=>((i:Int),())) (fun x=>decide (x.length≤120)) true false (fun i h=>by
   unfold wj;simp only[ak];rw[zp (by omega),aO h];simp only[zb];by_cases h2:(p[i].length:Int)>120
   · rw[zp h2,zn (by simp; omega)]
   · rw[zn h2,zp (by simp; omega),wrap64 (by omega) (by omega)]; rfl) (by
   unfold wj;simp only[ak];rw[zn (by omega)])
 rw[ite_bool] at this;exact this
def kj:Ent:=([],0,[],0,())
def yy (x y:Ent):Bool:=decide (x=y)
def agP (x:Ent):Chg:=(2,x,kj,())
def agx (y:Ent):Chg:=(1,kj,y,())
def lm (x y:Ent):Chg:=(3,x,y,())
def dM:List Ent→List Ent→List Chg:=cC cmpK keyE yy agP agx lm
theorem ahX:∀ (n:Nat) (a b:List Ent),a.length+b.length≤n→(dM a b).length≤a.length+b.length:=by
 intro n
 induction n with
 | zero =>
   intro a b h;have e1:a=[]:=qAV (by omega);have e2:b=[]:=qAV (by omega);subst e1; subst e2;simp[dM,cC]
 | succ n ih =>
   intro a b h
   match a,b,h with
   | [],b,h=>simp[dM,cC]
   | x::a,[],h=>simp[dM,cC]
   | x::a,y::b,h =>
     simp only[zl] at h;have i1:=ih a (y::b) (by simp only[zl]; omega);have i2:=ih (x::a) b (by simp only[zl]; omega);have i3:=ih a b (by omega);simp only[zl] at i1 i2;unfold dM at i1 i2 i3 ⊢
     rw[cC.eq_def];simp only
     split
     · simp only[zl]; omega
     · split
       · simp only[zl]; omega
       · rw[qAA];have:(if yy x y=true then [] else [lm x y]).length≤1:=(by split<;>simp);simp only[zl]; omega
theorem sub1 {A:Type}{x:A}{l:List A}:subI (x::l) 1 ((x::l).length:Int)=some l:=by
 have:=eo (l:=x::l) (i:=1) (by simp);simpa using this
theorem at0 {A:Type}{x:A}{l:List A}:atI (x::l) 0=some x:=by
 have:=gr (l:=x::l) (i:=0);simpa using this
theorem aeo:∀ (n:Nat) (a b:List Ent) (o:List Chg),a.length+b.length≤n→a.length+b.length+o.length<1000000→(∀ e∈a,lowE e)→(∀ e∈b,lowE e)→aK iC (a,b,o,())=some (o++dM a b):=by
 intro n
 induction n with
 | zero =>
   intro a b o h _ _ _;have e1:a=[]:=qAV (by omega);have e2:b=[]:=qAV (by omega);subst e1; subst e2;refine aF ?_;unfold iC;simp[dM,cC]
 | succ n ih =>
   intro a b o h hb la lb
   match a,b,h,hb,la,lb with
   | [],[],h,hb,la,lb =>
     refine aF ?_;unfold iC;simp[dM,cC]
   | [],y::b,h,hb,la,lb =>
     simp only[zl,qAP] at h hb;rw[aH (b:=([],b,o++[agx y],())),ih [] b _ (by simp<;>omega) (by simp<;>omega) (fun e he=>by cases he) (fun e he=>lb e (qAM _ he))]
     · simp[dM,cC]
     · unfold iC;simp only[ak];rw[zn (by simp),zp (by simp<;>omega),aB];simp only[];rw[zn (by simp<;>omega),zn (by simp),aB];simp only[];rw[zn (by omega),zp (by omega),at0]
       simp only[zb,ed (lb y (qAL ..))];rw[aX (by simp<;>omega)];simp only[zb];rw[sub1];rfl
   | x::a,[],h,hb,la,lb =>
     simp only[zl,qAP] at h hb;rw[aH (b:=(a,[],o++[agP x],())),ih a [] _ (by simp<;>omega) (by simp<;>omega) (fun e he=>la e (qAM _ he)) (fun e he=>by cases he)]
     · cases a<;>simp[dM,cC]
     · unfold iC;simp only[ak];rw[zp (by simp<;>omega),aB];simp only[];rw[zp (by simp),aB];simp only[];rw[zp (by omega),at0];simp only[zb,ed (la x (qAL ..))];rw[aX (by simp<;>omega)]
       simp only[zb];rw[sub1];rfl
   | x::a,y::b,h,hb,la,lb =>
     simp only[zl] at h hb;have lx:=la x (qAL ..);have ly:=lb y (qAL ..);have la':∀ e∈a,lowE e:=fun e he=>la e (qAM _ he)
     have lb':∀ e∈b,lowE e:=fun e he=>lb e (qAM _ he)
     have hd:dM (x::a) (y::b)=if cmpK (keyE x) (keyE y)<0 then agP x::dM a (y::b) else if cmpK (keyE x) (keyE y)>0 then agx y::dM (x::a) b else (if yy x y then [] else [lm x y])++dM a b:=by
       unfold dM;rw[cC.eq_def]
     rw[hd];by_cases h1:cmpK (keyE x) (keyE y)<0
     · rw[zp h1,aH (b:=(a,y::b,o++[agP x],())),ih a (y::b) _ (by simp only[zl]; omega) (by simp<;>omega) la' lb]
       · simp
       · unfold iC;simp only[ak];rw[zp (by simp<;>omega),aB];simp only[];rw[zn (by simp<;>omega),zp (by simp<;>omega),at0,at0];simp only[zb,b9 lx.1,aZ];rw[zp h1];simp only[zb,ed lx]
         rw[aX (by simp<;>omega)];simp only[zb];rw[sub1];rfl
     · rw[zn h1];by_cases h2:cmpK (keyE x) (keyE y)>0
       · rw[zp h2,aH (b:=(x::a,b,o++[agx y],())),ih (x::a) b _ (by simp only[zl]; omega) (by simp<;>omega) la lb']
         · simp
         · unfold iC;simp only[ak];rw[zp (by simp<;>omega),aB];simp only[];rw[zn (by simp<;>omega),zp (by simp<;>omega),at0,at0];simp only[zb,b9 lx.1,aZ];rw[zn h1,zp h2];simp only[zb,ed ly]
           rw[aX (by simp<;>omega)];simp only[zb];rw[sub1];rfl
       · rw [zn h2, aH (b := (a, b, o ++ (if yy x y then [] else [lm x y]), ())), ih a b _ (by omega) (by
           rw[qAA];have:(if yy x y=true then [] else [lm x y]).length≤1:=(by split<;>simp);omega) la' lb']
         · simp
         · unfold iC;simp only[ak];rw[zp (by simp<;>omega),aB];simp only[];rw[zn (by simp<;>omega),zp (by simp<;>omega),at0,at0];simp only[zb,b9 lx.1,aZ];rw[zn h1,zn h2]
           simp only[zb,j9 lx,ed lx,ed ly];unfold yy;by_cases hxy:x=y
           · simp only[zt hxy,qAU,cond_false,if_true,qAT];rw[aB,sub1,sub1];rfl
           · simp only[zf hxy,qBK,cond_true,qA7,if_false];rw[aX (by simp<;>omega)];simp only[zb,aZ];rw[sub1,sub1];rfl
theorem aAN {a b:List Ent} (h:a.length+b.length<1000000) (la:∀ e∈a,lowE e) (lb:∀ e∈b,lowE e):zc9 a b=some (dM a b):=by
 have:=aeo _ a b [] (qAD _) (by simpa using h) la lb;simpa [zc9] using this
def aAM (e:Ent):Prop:=lowE e∧∀ x∈e.1,x.length<1000000
theorem qP:aAM kj:=⟨⟨by decide,by decide⟩,fun x hx=>by cases hx⟩
theorem cz {R X S:Type}{g:S→X→S}{fin:S→R}:∀ (l:List X) (i:Nat) (s:S),eL (fun _ x s=>.inl (g s x)) fin i l s=fin (l.foldl g s)
 | [],_,s=>rfl
 | x::l,i,s=>by simp only[eL,qBS]; exact cz l (i+1) (g s x)
theorem wI {sep:List UInt8}{m:Nat}:∀ {l:List (List UInt8)},(∀ x∈l,x.length≤m)→(Lib.joinTail sep l).length≤l.length*(sep.length+m)
 | [],_=>by simp[Lib.joinTail]
 | x::l,h=>by
   have h1:=h x (qAL ..);have h2:=wI (sep:=sep) (l:=l) (fun y hy=>h y (qAM _ hy));have e:Lib.joinTail sep (x::l)=sep++x++Lib.joinTail sep l:=by simp[Lib.joinTail]
   rw[e];simp only[qAA,zl,qB6];omega
theorem qf {sep:List UInt8}{m:Nat}{l:List (List UInt8)} (h:∀ x∈l,x.length≤m):(Lib.join l sep).length≤l.length*(sep.length+m):=by
 cases l with
 | nil=>simp[Lib.join_nil]
 | cons x l =>
   have h1:=h x (qAL ..);have h2:=wI (sep:=sep) (l:=l) (fun y hy=>h y (qAM _ hy));rw[Lib.join_cons];simp only[qAA,zl,qB6];omega
def eM (s:List UInt8):List UInt8:=s.flatMap fun b=>if b.toNat=47∨b.toNat=92 then [92,b] else [b]
theorem acP {s:List UInt8}:(eM s).length≤2*s.length:=by
 induction s with
 | nil=>simp[eM]
 | cons b s ih =>
   unfold eM at ih ⊢;rw[qBG,qAA,zl];have:(if b.toNat=47∨b.toNat=92 then [92,b] else [b]).length≤2:=by split<;>simp
   omega
theorem uS {s:List UInt8} (hs:s.length<1000000):zdp s=some (eM s):=by
 have key:∀ (k i:Nat) (b:Bool) (o:List UInt8),s.length-i≤k→i≤s.length→o.length≤2*i→aK (nI s) ((i:Int),bI o,(b,(),()),())=some (o++eM (s.drop i)):=by
   intro k;have fin:∀ (i:Nat) (b:Bool) (o:List UInt8),i=s.length→o.length≤2*i→aK (nI s) ((i:Int),bI o,(b,(),()),())=some (o++eM (s.drop i)):=by
     intro i b o hi ho;refine aF ?_;unfold nI;simp only[ak];rw[zn (by omega),pF (by omega),qA0 (by omega)];simp[eM]
   induction k with
   | zero=>intro i b o hk hi ho; exact fin i b o (by omega) ho
   | succ k ih =>
     intro i b o hk hi ho;by_cases hlt:i<s.length
     · have hl:∀ o:List UInt8,(bI o).length=o.length:=fun o=>kc
       have tail:∀ (b:Bool) (o:List UInt8),o.length≤2*i+1→((zbe ((s[i].toNat:Nat):Int) (b,(),()) (bI o)).bind fun q7=>(some (.inl ((IntKind.wrap .i64 ((i:Int)+1)),q7.2.2.1,q7.2.1,())):Option ((Int×List Int×(Bool×Unit×Unit)×Unit)⊕List UInt8)))=some (.inl (((i+1:Nat):Int),bI (o++[s[i]]),(true,(),()),())):=by
         intro b o ho;rw[dw (by rw[hl]; omega),wrap64 (by omega) (by omega)];simp only[zb,jk];rfl
       have w92:∀ (b:Bool),zbe 92 (b,(),()) (bI o)=some (false,(true,(),()),bI (o++[92]),()):=by
         intro b;rw[dw (by rw[hl]; omega),jk];rfl
       have hd:eM (s.drop i)=(if s[i].toNat=47∨s[i].toNat=92 then [92,s[i]] else [s[i]])++eM (s.drop (i+1)):=by
         rw[qBZ hlt];unfold eM;rw[qBG]
       have turn:nI s ((i:Int),bI o,(b,(),()),())=some (.inl (((i+1:Nat):Int),bI (o++(if s[i].toNat=47∨s[i].toNat=92 then [92,s[i]] else [s[i]])),(true,(),()),())):=by
         unfold nI;simp only[ak];rw[zp (by omega),aO hlt];simp only[zb];by_cases h1:s[i].toNat=47
         · rw[zp (by omega),w92];simp only[zb,aZ];rw[tail _ _ (by simp<;>omega),zp (.inl h1),qAR];rfl
         · rw[zn (by omega)];by_cases h2:s[i].toNat=92
           · rw[zp (by omega),w92];simp only[zb,aZ];rw[tail _ _ (by simp<;>omega),zp (.inr h2),qAR];rfl
           · rw[zn (by omega)];simp only[zb,aZ];rw[tail _ _ (by omega),zn (by omega)]
       rw[aH turn,ih (i+1) true _ (by omega) (by omega) (by
         rw[qAA];have:(if s[i].toNat=47∨s[i].toNat=92 then [92,s[i]] else [s[i]]).length≤2:=(by split<;>simp);omega),hd,qAR]
     · exact fin i b o (by omega) ho
 have:=key s.length 0 false [] (by omega) (by omega) (by simp);simpa [zdp,bI] using this
def uL (p:Path):List UInt8:=Lib.join (p.map eM) [47]
theorem ahR {l:List (List UInt8)}{sep:List UInt8}{m:Nat} (hl:l.length≤1000) (hs:sep.length≤1000) (hm:m≤1000000) (h:∀ x∈l,x.length≤m):zcf l sep=some (Lib.join l sep):=by
 unfold zcf agJ;have:=qf (sep:=sep) h;have h2:l.length*(sep.length+m)≤1000*1001000:=qCU hl (by omega);rw[zp ⟨by omega,by omega⟩]
theorem jX {p:Path} (h:∀ x∈p,x.length≤120):∀ x∈p.map eM,x.length≤240:=by
 intro x hx;rw[qCX] at hx;obtain ⟨y,hy,rfl⟩:=hx;have:=h y hy;have:=acP (s:=y);omega
theorem sj {p:Path} (h1:p.length≤12) (h:∀ x∈p,x.length≤120):(uL p).length≤3000:=by
 have:=qf (sep:=[47]) (jX h);rw[qBT] at this;have h2:p.length*(([47]:List UInt8).length+240)≤12*241:=qCU h1 (by simp);unfold uL;omega
theorem yT {p:Path} (h1:p.length≤12) (h:∀ x∈p,x.length≤120):zd4 p=some (uL p):=by
 have:=bA (f:=wd p) (l:=p) (S:=List (List UInt8)) (fun i o=>((i:Int),o,())) (fun i x o=>.inl (o++[eM x])) (fun _=>uL p) (fun i o=>o=(p.take i).map eM) (fun i hi o ho=>.inl ⟨_,rfl,by
   unfold wd;simp only[ak];have hq:=h _ (zm hi);rw[zp (by omega),aO hi];simp only[zb,uS (show p[i].length<1000000 by omega)];rw[aX (by rw[ho]; simp; omega),wrap64 (by omega) (by omega)];rfl,by
   rw[ho,qC8,List.map_append,zg hi];rfl⟩) (fun o ho=>by
   unfold wd;simp only[ak];rw[List.take_length] at ho;subst ho;rw[zn (by omega),ahR (m:=240) (by simp; omega) (by simp) (by omega) (jX h)];rfl) [] (by simp)
 rw[cz] at this;exact this
def yp (l:List Val):List UInt8:=Lib.join (l.map jx) [32]
def uW (e:Ent):List UInt8 :=
 if e.2.1=1 then uL e.1++[32,61,32]++yp e.2.2.1 else if e.2.1=2 then uL e.1++[32,58,32]++yp e.2.2.1 else uL e.1++[32,35,32]++Lib.itoa e.2.2.2.1
theorem acF {v:Val} (h:cY v=true):(jx v).length≤1000:=by
 rcases j0 h with ⟨n,rfl,g1,g2⟩ | ⟨s,l,rfl,g1,g2⟩ | rfl | rfl
 · have:=w9 (n:=n) (by omega) (by omega);show (Lib.itoa n).length≤1000;omega
 · have:=rZ s;show ([34]++cK s++[34]).length≤1000;simp only[qAA,zl,qAP]; omega
 · decide
 · decide
theorem wE {l:List Val} (h:∀ v∈l,cY v=true):∀ x∈l.map jx,x.length≤1000:=by
 intro x hx;rw[qCX] at hx;obtain ⟨v,hv,rfl⟩:=hx;exact acF (h v hv)
theorem ry {l:List Val} (hl:l.length≤400) (h:∀ v∈l,cY v=true):(yp l).length≤500000:=by
 have:=qf (sep:=[32]) (wE h);rw[qBT] at this;have h2:l.length*(([32]:List UInt8).length+1000)≤400*1001:=qCU hl (by simp);unfold yp;omega
theorem sE {n:Int} (h:inR n):(Lib.itoa n).length≤21:=w9 h.1 h.2
theorem iS {e:Ent} (h:gU e) (hn:inR e.2.2.2.1):(uW e).length≤600000:=by
 have h1:=sj h.1 h.2.1;have h2:=ry h.2.2.1 h.2.2.2;have h3:=sE hn;unfold uW
 split
 · simp only[qAA,zl,qAP]; omega
 · split<;>simp only[qAA,zl,qAP]<;>omega
theorem nV {e:Ent} (h:gU e) (hn:inR e.2.2.2.1):zec e=some (uW e):=by
 have l1:=bA (f:=vR e) (l:=e.2.2.1) (S:=List (List UInt8)) (fun i o=>((i:Int),o,())) (fun i x o=>.inl (o++[jx x])) (fun o=>(.inl (o,()):(List (List UInt8)×Unit)⊕List UInt8)) (fun i o=>o.length≤i) (fun i hi o ho=>.inl ⟨_,rfl,by
   unfold vR;simp only[ak];have hv:=h.2.2.2 _ (zm hi);have hl:=h.2.2.1;rw[zp (by omega),aO hi];simp only[zb,uq hv];rw[aX (by simp; omega),wrap64 (by omega) (by omega)]
   rfl,by simp; omega⟩) (fun o ho=>by
   unfold vR;simp only[ak];rw[zn (by omega)]) [] (by simp)
 rw[cz] at l1;have fl:∀ (l:List Val) (o:List (List UInt8)),l.foldl (fun s x=>s++[jx x]) o=o++l.map jx:=by
   intro l
   induction l with
   | nil=>intro o; simp
   | cons x l ih=>intro o; rw[qBS,ih]; simp
 rw[fl,qBC] at l1;have hl:=h.2.2.1;have p1:=sj h.1 h.2.1;have p2:=ry h.2.2.1 h.2.2.2;have p3:=sE hn
 have hj:zcf (e.2.2.1.map jx) [32]=some (yp e.2.2.1):=ahR (m:=1000) (by simp; omega) (by simp) (by omega) (wE h.2.2.2);unfold zec
 rw[show ((0:Int),([]:List (List UInt8)),())=(((0:Nat):Int),[],()) from rfl,l1,aB];simp only[hj,zb,yT h.1 h.2.1,rF hn,ak];unfold uW;by_cases h1:e.2.1=1
 · rw[zp h1,zp h1,ck (by simp; omega)];simp only[zb];rw[ck (by simp; omega)];rfl
 · rw[zn h1,zn h1];by_cases h2:e.2.1=2
   · rw[zp h2,zp h2,ck (by simp; omega)];simp only[zb];rw[ck (by simp; omega)];rfl
   · rw[zn h2,zn h2,ck (by simp; omega)];simp only[zb];rw[ck (by simp; omega)];rfl
def iR (c:Chg):List UInt8:=(if c.1=1 then [] else [45,32]++uW c.2.1++[10])++(if c.1=2 then [] else [43,32]++uW c.2.2.1++[10])
def fitC (c:Chg):Prop:=(gU c.2.1∧inR c.2.1.2.2.2.1)∧gU c.2.2.1∧inR c.2.2.1.2.2.2.1
theorem adK {c:Chg} (h:fitC c):(iR c).length≤1300000:=by
 have h1:=iS h.1.1 h.1.2;have h2:=iS h.2.1 h.2.2;unfold iR
 split<;>split<;>simp only[qAA,zl,qAP]<;>omega
theorem fw {s:List UInt8}{v:Bool×Unit×Unit}{o:List UInt8} (hw:o.length+s.length<4294967000):zbc s v (bI o)=some (((s.length:Int),false,()),(true,(),()),bI (o++s),()):=by
 unfold zbc;have h:zbd v (bI o)=some ((),(true,(),()),bI o,()):=by
   obtain ⟨b,_,_⟩:=v;unfold zbd;cases b<;>rfl
 rw[h];simp only[zb];rw[aX (by rw[kc]; simp; omega),jk];rfl
theorem gp {l:List Chg} (hl:l.length≤1000) (hf:∀ c∈l,fitC c):zc8 l=some (l.flatMap iR):=by
 have:=bA (f:=wm l) (l:=l) (S:=Bool×List UInt8) (fun i s=>((i:Int),bI s.2,(s.1,(),()),())) (fun _ c s=>.inl (if c.1=1∧c.1=2 then s.1 else true,s.2++iR c)) (fun s=>s.2) (fun i s=>s.2.length≤1300000*i) (fun i hi s ho=>.inl ⟨_,rfl,by
   have hc:=hf _ (zm hi);have g1:=iS hc.1.1 hc.1.2;have g2:=iS hc.2.1 hc.2.2;have w1:IntKind.wrap .i64 ((i:Int)+1)=((i+1:Nat):Int):=by rw[wrap64 (by omega) (by omega)]; rfl
   unfold wm;simp only[ak];rw[zp (by omega),aO hi];have v1:=nV hc.1.1 hc.1.2;have v2:=nV hc.2.1 hc.2.2;simp only[zb,v1,w1];generalize l[i]=c at *;unfold iR;rw[zn (show ¬ (c.1=1∧c.1=2) by omega)]
   by_cases h1:c.1=1
   · rw[zt h1,zp h1,zn (show ¬ c.1=2 by omega)];simp only[qAU,cond_false,zb,aZ];rw[zf (show ¬ c.1=2 by omega)];simp only[qBK,cond_true,v2,zb];rw[ck (by simp; omega)];simp only[zb]
     rw[ck (by simp; omega)];simp only[zb];rw[fw (by simp; omega)];rfl
   · rw[zf h1,zn h1];simp only[qBK,cond_true];rw[ck (by simp; omega)];simp only[zb];rw[ck (by simp; omega)];simp only[zb];rw[fw (by simp; omega)];simp only[zb,aZ];by_cases h2:c.1=2
     · rw[zt h2,zp h2];simp only[qAU,cond_false,qAT]
     · rw[zf h2,zn h2];simp only[qBK,cond_true,v2,zb];rw[ck (by simp; omega)];simp only[zb];rw[ck (by simp; omega)];simp only[zb];rw[fw (by simp; omega),qAR s.2];rfl,by
   have:=adK (hf _ (zm hi));simp only[qAA]; omega⟩) (fun s ho=>by
   unfold wm;simp only[ak];rw[zn (by omega),pF (by omega)];rfl) (false,[]) (by simp)
 rw[cz] at this;have gen:∀ (l:List Chg) (s:Bool×List UInt8),(l.foldl (fun (s:Bool×List UInt8) (c:Chg)=>(if c.1=1∧c.1=2 then s.1 else true,s.2++iR c)) s).2=s.2++l.flatMap iR:=by
   intro l
   induction l with
   | nil=>intro s; simp
   | cons c l ih=>intro s; rw[qBS,ih]; simp[qBG]
 rw[gen] at this;exact this
theorem ahW:∀ (n:Nat) (a b:List Ent),a.length+b.length≤n→∀ c∈dM a b,(c.2.1∈a∨c.2.1=kj)∧(c.2.2.1∈b∨c.2.2.1=kj):=by
 intro n;have nilB:∀ b:List Ent,∀ c∈dM [] b,(c.2.1∈([]:List Ent)∨c.2.1=kj)∧(c.2.2.1∈b∨c.2.2.1=kj):=by
   intro b c hc;unfold dM at hc;rw[cC.eq_def] at hc;simp only[qCX] at hc;obtain ⟨y,hy,rfl⟩:=hc;exact ⟨.inr rfl,.inl hy⟩
 induction n with
 | zero =>
   intro a b h;have e1:a=[]:=qAV (by omega);subst e1;exact nilB b
 | succ n ih =>
   intro a b h
   match a,b,h with
   | [],b,h=>exact nilB b
   | x::a,[],h =>
     intro c hc;unfold dM at hc;rw[cC.eq_def] at hc;simp only[qCX] at hc;obtain ⟨y,hy,rfl⟩:=hc;exact ⟨.inl hy,.inr rfl⟩
   | x::a,y::b,h =>
     simp only[zl] at h;intro c hc;have i1:=ih a (y::b) (by simp only[zl]; omega);have i2:=ih (x::a) b (by simp only[zl]; omega);have i3:=ih a b (by omega);unfold dM at hc i1 i2 i3;rw[cC.eq_def] at hc
     simp only at hc
     split at hc
     · rcases qAO.1 hc with rfl | hc
       · exact ⟨.inl (qAL ..),.inr rfl⟩
       · have:=i1 c hc;exact ⟨this.1.imp_left (qAM _),this.2⟩
     · split at hc
       · rcases qAO.1 hc with rfl | hc
         · exact ⟨.inr rfl,.inl (qAL ..)⟩
         · have:=i2 c hc;exact ⟨this.1,this.2.imp_left (qAM _)⟩
       · rcases qA9.1 hc with hc | hc
         · split at hc
           · cases hc
           · simp at hc;subst hc;exact ⟨.inl (qAL ..),.inl (qAL ..)⟩
         · have:=i3 c hc;exact ⟨this.1.imp_left (qAM _),this.2.imp_left (qAM _)⟩
open Classical in
theorem vL:gU kj∧inR kj.2.2.2.1:=by
 refine ⟨⟨by decide,?_,by decide,?_⟩,by unfold inR kj; simp⟩
 · intro x hx; cases hx
 · intro x hx; cases hx
theorem oP {n:Nat} (h:n<9000000):shrT .u64 (IntKind.wrap .u64 (IntKind.wrap .i64 (n:Int))) 1=some ((n/2:Nat):Int):=by
 rw[wrap64 (by omega) (by omega)];have w:IntKind.wrap .u64 (n:Int)=(n:Int):=by simp[IntKind.wrap,IntKind.bits,IntKind.signed]; omega
 rw[w];unfold shrT;rw[zn (by omega)];have e:(2:Int) ^ min (Int.toNat 1) (IntKind.bits .u64)=2:=by decide
 rw[e,Int.fdiv_eq_ediv_of_nonneg _ (by omega)];congr 1
def one (c:Int) (a:List Int):Prop:=c = -2∨∃ x,a=[x]∧(c = -1∨c=x)
def Mt:List Int→List Int→Prop
 | [],t=>t=[]
 | c::o,t=>∃ a b,t=a++b∧one c a∧Mt o b
structure Inv (o t:List Int) (k:Nat) (star:Int) (mark i:Nat):Prop where
 k_le:k≤o.length
 i_le:i≤t.length
 no:star<0→(Mt o t↔Mt (o.drop k) (t.drop i))
 is:∀ st:Nat,star=(st:Int)→st<k∧mark≤i∧(Mt o t↔Mt (-2::o.drop (st+1)) (t.drop mark))∧(Mt (o.drop k) (t.drop i)→Mt (o.drop (st+1)) (t.drop mark))∧(∀ u,Mt (o.drop (st+1)) u→Mt (o.drop k) (u.drop (i-mark)))
 le : -1≤star
theorem eS (a b:Val):zb4 a b=some (cmpV a b):=by
 unfold zb4 cmpV zbr cmpT;simp only[jd,aDD,zb]
abbrev Dot1:=Int×Int×Unit
abbrev Ref1:=Dot1×Int×Unit
abbrev Op1:=Int×Path×Val×Int×List Ref1×Unit
abbrev Txn1:=Dot1×Int×Int×Bool×List Op1×Unit
abbrev bB:=Ref1×Op1×Int×Unit
abbrev nh:Ty:=.agg (.cons (.agg (.cons (.int .i64) (.cons (.int .i64) .unit))) (.cons (.int .i64) .unit))
theorem vI {K L:Type}{c:K→K→Int} (h:Cmp c) (f:L→K) (hf:∀ a b,f a=f b→a=b):Cmp fun a b=>c (f a) (f b) where
 one a b:=h.one _ _
 neg a b:=h.neg _ _
 zero a b:=⟨fun e=>hf _ _ ((h.zero _ _).1 e),fun e=>(h.zero _ _).2 (by rw[e])⟩
 trans a b d:=h.trans _ _ _
theorem cZ:Cmp cmpD:=by
 have:cmpD=fun a b=>cmpB cmpI cmpI ((fun x:Dot1=>(x.1,x.2.1)) a) ((fun x:Dot1=>(x.1,x.2.1)) b):=rfl;rw[this];exact vI (mN.pair mN) _ fun a b h=>by
   obtain ⟨a1,a2,⟨⟩⟩:=a; obtain ⟨b1,b2,⟨⟩⟩:=b;simp only[qAZ] at h;rw[h.1,h.2]
def cmpR (a b:Ref1):Int:=orI (cmpD a.1 b.1) (cmpI a.2.1 b.2.1)
theorem fk:Cmp cmpV:=by
 have:cmpV=fun a b=>cmpB cmpI (cmpB cmpI Lib.compareBytes) ((fun x:Val=>(x.1,x.2.1,x.2.2.1)) a) ((fun x:Val=>(x.1,x.2.1,x.2.2.1)) b):=rfl;rw[this];exact vI (mN.pair (mN.pair aeG)) _ fun a b h=>by
   obtain ⟨a1,a2,a3,⟨⟩⟩:=a; obtain ⟨b1,b2,b3,⟨⟩⟩:=b;simp only[qAZ] at h;rw[h.1,h.2.1,h.2.2]
theorem adY (a b:Int):zdl a b=some (cmpI a b):=by
 unfold zdl cmpI;simp only[ak];by_cases h1:a<b
 · rw[zp h1,zp h1]
 · by_cases h2:a>b
   · rw[zn h1,zp h2,zn h1,zp h2]
   · rw[zn h1,zn h2,zn h1,zn h2]
theorem tm (a b:Int):cmpI a b=0↔a=b:=mN.zero a b
theorem iK (a b:Dot1):zbz a b=some (cmpD a b):=by
 unfold zbz cmpD orI;simp only[adY,zb,bd];by_cases h:a.1=b.1
 · rw[zp h,zp ((tm _ _).2 h)]
 · rw[zn h,zn (fun e=>h ((tm _ _).1 e))]
theorem agi (a b:Ref1):zdx a b=some (cmpR a b):=by
 unfold zdx cmpR orI;simp only[iK,adY,zb,bd];by_cases h:cmpD a.1 b.1=0
 · rw[zp h,zp h]
 · rw[zn h,zn h]
theorem mD (a b:Dot1):zcm a b=some (cmpD a b):=by
 unfold zcm;simp only[jd,or_t,zb];rfl
theorem dA (d:Dot1):zdc d=some (bc d):=by
 unfold zdc bc;simp only[ak];by_cases h1:d.1≥0<;>by_cases h2:d.1≤15<;>by_cases h3:d.2.1≥1<;>by_cases h4:d.2.1≤1048576<;>simp[h1,h2,h3,h4]<;>omega
theorem lH {A K:Type}{c:K→K→Int}{key:A→K} (hc:Cmp c):∀ {l:List A},(∀ i,(h:i+1<l.length)→c (key l[i]) (key l[i+1])<0)→dX c key l
 | [],_=>List.Pairwise.nil
 | [x],_=>qCB ..
 | x::y::l,h=>by
   have ih:=lH hc (l:=y::l) (fun i hi=>h (i+1) (by simpa using hi));have h0:=h 0 (by simp);refine qBF.2 ⟨fun z hz => ?_,ih⟩;rcases qAO.1 hz with e | hz'
   · subst e; exact h0
   · exact hc.trans _ _ _ h0 ((qBF.1 ih).1 z hz')
theorem aeh (a b:Ref1):eqV nh a b=decide (a=b):=by
 obtain ⟨⟨a1,a2,⟨⟩⟩,a3,⟨⟩⟩:=a;obtain ⟨⟨b1,b2,⟨⟩⟩,b3,⟨⟩⟩:=b;simp only[eqV,qAZ,and_true];by_cases h1:a1=b1<;>by_cases h2:a2=b2<;>by_cases h3:a3=b3<;>simp[h1,h2,h3]
theorem mA (a b:Dot1):eqV (.agg (.cons (.int .i64) (.cons (.int .i64) .unit))) a b=decide (a=b):=by
 obtain ⟨a1,a2,⟨⟩⟩:=a;obtain ⟨b1,b2,⟨⟩⟩:=b;simp only[eqV,qAZ,and_true];by_cases h1:a1=b1<;>by_cases h2:a2=b2<;>simp[h1,h2]
def aAt (x:Ref1):Bool:=bc x.1&&decide (0≤x.2.1∧x.2.1≤15)
def ac8 (l:List Ref1) (i:Nat):Bool :=
 match l[i]? with
 | some x=>aAt x&&(decide (i=0)||match l[i-1]? with
   | some y=>decide (cmpR y x = -1)
   | none=>false)
 | none=>false
open Classical in
noncomputable def ko (l:List Ref1):Bool:=if (∀ i,i<l.length→ac8 l i=true) then true else false
theorem ac9 {l:List Ref1} (hl:l.length<1000000):zdy l=some (ko l):=by
 have:=lX (f:=vT l) l.length (fun i=>((i:Int),())) (ac8 l) true false (fun i h=>by
   unfold vT ac8 aAt;rw[zg h];simp only[ak];rw[zp (by omega),aO h];simp only[zb,dA];by_cases h0:bc l[i].1=true
   · simp only[h0,qAU,cond_false,qBO];by_cases h1:l[i].2.1<0
     · rw[zp h1,zf (by omega)]; rfl
     rw[zn h1];by_cases h2:l[i].2.1>15
     · rw[zp h2,zf (by omega)]; rfl
     rw[zn h2,zt (by omega),qBO];by_cases h3:i=0
     · subst h3;rw[zn (by omega),wrap64 (by omega) (by omega)]; rfl
     · rw[zp (by omega),wrap64 (by omega) (by omega),show (i:Int)-1=((i-1:Nat):Int) by omega,aO (by omega),zg (show i-1<l.length by omega)];simp only[zb,agi,bd];by_cases h4:cmpR l[i-1] l[i] = -1
       · rw[zp h4,wrap64 (by omega) (by omega)]; simp[h3,h4]
       · rw[zn h4]; simp[h3,h4]
   · have h0:bc l[i].1=false:=(by simpa using h0);simp only[h0,qBK,cond_true,qCV]; rfl) (by
   unfold vT;simp only[ak];rw[zn (by omega)])
 unfold zdy ko;rw[show ((0:Int),())=(((0:Nat):Int),()) from rfl,this]
def zeroV:Val:=(0,0,[],())
noncomputable def opM (o:Op1):Int :=
 if o.1<1∨5<o.1 then 18 else if fm o.2.1≠0 then fm o.2.1
 else if (o.1=3∨o.1=5)∧o.2.2.1≠zeroV then 2
 else if ¬ (o.1=3∨o.1=5)∧cY o.2.2.1=false then 2
 else if o.1≠3∧o.2.2.2.1≠0 then 2
 else if o.1=3∧(o.2.2.2.1=0∨o.2.2.2.1>2147483647∨o.2.2.2.1 < -2147483647) then 2
 else if (o.1=2∨o.1=3)∧0<o.2.2.2.2.1.length then 2
 else if 256<o.2.2.2.2.1.length then 7
 else if ko o.2.2.2.2.1=true then 0 else 2
def rO (o:Op1):Prop:=o.2.1.length≤12∧(∀ x∈o.2.1,x.length≤120)∧o.2.2.1.2.2.1.length≤200∧o.2.2.2.2.1.length≤300
theorem apg {o:Op1} (h:rO o):zcy o=some (opM o):=by
 obtain ⟨s1,s2,s3,s4⟩:=h;obtain ⟨k,p,v,n,sn,⟨⟩⟩:=o;simp only at s1 s2 s3 s4;unfold zcy opM
 simp only[ak,bd,zw,yK (p:=p) (fun x hx=>by have:=s2 x hx; omega),uI (v:=v) (by omega),ac9 (l:=sn) (by omega),zb];have ez:((0,0,[],()):Val)=zeroV:=rfl;simp only[ez];by_cases a1:k<1
 · rw[zp a1,zp (.inl a1)]
 rw[zn a1];by_cases a2:k>5
 · rw[zp a2,zp (.inr a2)]
 rw[zn a2];rw[zn (show ¬ (k<1∨5<k) by omega)];by_cases a3:¬ fm p=0
 · rw[zn a3,zp (show fm p≠0 from a3)]
 have a3:fm p=0:=qDG.1 a3;rw[zp a3,zn (show ¬ fm p≠0 from fun e=>e a3)];have hlen:((sn.length:Int)>0)↔0<sn.length:=by omega
 have hlen2:((sn.length:Int)>256)↔256<sn.length:=by omega
 simp only[hlen,hlen2];have last:(cond (!ko sn) (some (2:Int)) (some 0))=some (if ko sn=true then 0 else 2):=by cases ko sn<;>rfl
 by_cases k3:k=3
 · subst k3;by_cases hz:v=zeroV
   · by_cases n0:n=0
     · simp[hz,n0]
     · by_cases n1:n>2147483647
       · simp[hz,n0,n1]
       · by_cases n2:n < -2147483647
         · simp[hz,n0,n1,n2]
         · by_cases l0:0<sn.length
           · simp[hz,n0,n1,n2,l0]
           · by_cases l2:256<sn.length
             · omega
             · simp[hz,n0,n1,n2,l0,l2,last]
   · simp[hz]
 · by_cases k5:k=5
   · subst k5;by_cases hz:v=zeroV
     · by_cases n0:n=0
       · by_cases l2:256<sn.length
         · simp[hz,n0,l2]
         · simp[hz,n0,l2,last]
       · simp[hz,n0]
     · simp[hz]
   · cases hr:cY v with
     | false=>simp[k3,k5,hr]
     | true =>
       by_cases n0:n=0
       · by_cases k2:k=2
         · subst k2;by_cases l0:0<sn.length
           · simp[n0,l0]
           · by_cases l2:256<sn.length
             · omega
             · simp[n0,l0,l2,last]
         · by_cases l2:256<sn.length
           · simp[k2,k3,k5,n0,l2]
           · simp[k2,k3,k5,n0,l2,last]
       · simp[k3,k5,n0]
def jP (o:Op1):Bool:=decide (o.1=0∧o.2.1=[]∧o.2.2.1=zeroV∧o.2.2.2.1=0∧o.2.2.2.2.1=[])
theorem aAK (o:Op1):zds o=some (jP o):=by
 obtain ⟨k,p,v,n,sn,⟨⟩⟩:=o;unfold zds jP;simp only[ak,zw];have ez:((0,0,[],()):Val)=zeroV:=rfl;simp only[ez]
 have e1:((p.length:Int)=0)↔p=[]:=by rw[show ((p.length:Int)=0)↔p.length=0 by omega,qCA]
 have e2:((sn.length:Int)=0)↔sn=[]:=by rw[show ((sn.length:Int)=0)↔sn.length=0 by omega,qCA]
 simp only[e1,e2];by_cases h1:k=0<;>by_cases h2:p=[]<;>by_cases h3:v=zeroV<;>by_cases h4:n=0<;>by_cases h5:sn=[]<;>simp[h1,h2,h3,h4,h5]
def lu (o:Op1):Bool:=decide (o.2.1.length≤12)&&(o.2.1.all fun x=>decide (x.length≤120))&&decide (o.2.2.1.2.2.1.length≤200)&&decide (o.2.2.2.2.1.length≤300)
theorem acR (o:Op1):zcx o=some (lu o):=by
 unfold zcx lu;simp only[af8,zb,ak];cases (decide (o.2.1.length≤12)&&o.2.1.all fun x=>decide (x.length≤120)) with
 | false=>rfl
 | true =>
   rw[cond_true,qBO];by_cases h3:((o.2.2.1.2.2.1.length:Int)≤200)
   · rw[zp h3,zt (show o.2.2.1.2.2.1.length≤200 by omega),qBO];congr 1;by_cases h4:((o.2.2.2.2.1.length:Int)≤300)
     · rw[zt h4,zt (by omega)]
     · rw[zf h4,zf (by omega)]
   · rw[zn h3,zf (show ¬ o.2.2.1.2.2.1.length≤200 by omega)]; rfl
theorem oi {o:Op1}:lu o=true↔rO o:=by
 unfold lu rO;simp only[k9,decide_eq_true_eq,qB9];exact ⟨fun h=>⟨h.1.1.1,h.1.1.2,h.1.2,h.2⟩,fun h=>⟨⟨⟨h.1,h.2.1⟩,h.2.2.1⟩,h.2.2.2⟩⟩
noncomputable def gV (t:Txn1):Bool:=decide (t.2.2.2.2.1.length≤20)&&t.2.2.2.2.1.all lu
theorem yw (t:Txn1):zde t=some (gV t):=by
 unfold zde gV;simp only[ak];by_cases h1:(t.2.2.2.2.1.length:Int)>20
 · rw[zp h1,zf (by omega)]; rfl
 rw[zn h1,zt (by omega),qBO];have:=kF (f:=vX t) (l:=t.2.2.2.2.1) (fun i=>((i:Int),())) lu true false (fun i h=>by
   unfold vX;simp only[ak];rw[zp (by omega),aO h];simp only[zb,acR];by_cases hs:lu t.2.2.2.2.1[i]=true
   · rw[hs,qAU,cond_false,zp rfl,wrap64 (by omega) (by omega)]; rfl
   · rw[zn hs,eq_false_of_ne_true hs]; rfl) (by
   unfold vX;simp only[ak];rw[zn (by omega)])
 rw[ite_bool] at this;exact this
noncomputable def opsM (thin:Bool):List Op1→Int
 | []=>0
 | o::l=>if opM o≠0∧¬ (thin=true∧jP o=true) then opM o else opsM thin l
noncomputable def txnM (t:Txn1):Int :=
 if bc t.1=false∨t.2.1<0∨7<t.2.1∨t.2.2.1<1∨1099511627776<t.2.2.1 then 2
 else if t.2.2.2.2.1.length=0 then 11 else if 16<t.2.2.2.2.1.length then 7 else opsM t.2.2.2.1 t.2.2.2.2.1
theorem sm {thin:Bool}:∀ (l:List Op1) (i:Nat),eL (S:=Unit) (fun _ o _=>if opM o≠0∧¬ (thin=true∧jP o=true) then .inr (opM o) else .inl ()) (fun _=>(0:Int)) i l ()=opsM thin l
 | [],_=>rfl
 | o::l,i=>by
   unfold eL opsM;by_cases h:opM o≠0∧¬ (thin=true∧jP o=true)
   · rw[zp h,zp h]
   · rw[zn h,zn h]; exact sm l (i+1)
theorem yr {t:Txn1} (h:gV t=true):zdf t=some (txnM t):=by
 unfold gV at h;simp only[k9,decide_eq_true_eq,qB9] at h;obtain ⟨h1,h2⟩:=h
 have loop:=bA (S:=Unit) (R:=Int) (f:=qS t) (l:=t.2.2.2.2.1) (fun i _=>((i:Int),())) (fun _ o _=>if opM o≠0∧¬ (t.2.2.2.1=true∧jP o=true) then .inr (opM o) else .inl ()) (fun _=>(0:Int)) (fun _ _=>True) (fun i h s _=>by
   have turn:qS t ((i:Int),())=if opM t.2.2.2.2.1[i]≠0∧¬ (t.2.2.2.1=true∧jP t.2.2.2.2.1[i]=true) then some (.inr (opM t.2.2.2.2.1[i])) else some (.inl (((i+1:Nat):Int),())):=by
     unfold qS;simp only[ak,bd];rw[zp (by omega),aO h];simp only[zb,apg (oi.1 (h2 _ (zm h))),aAK];rw[wrap64 (by omega) (by omega),show (i:Int)+1=((i+1:Nat):Int) by omega]
     by_cases a:opM t.2.2.2.2.1[i]=0
     · rw[zp a,zn (fun e=>e.1 a)]
     · rw[zn a];cases ht:t.2.2.2.1 with
       | false=>rw[cond_false,zp ⟨a,by simp⟩]
       | true =>
         rw[cond_true];by_cases hg:jP t.2.2.2.2.1[i]=true
         · rw[hg,qAU,cond_false,zn (by simp)]
         · rw[eq_false_of_ne_true hg,qBK,cond_true,zp ⟨a,by simp⟩]
   by_cases hc:opM t.2.2.2.2.1[i]≠0∧¬ (t.2.2.2.1=true∧jP t.2.2.2.2.1[i]=true)
   · exact .inr ⟨_,by rw[zp hc],by rw[turn,zp hc]⟩
   · exact .inl ⟨(),by rw[zn hc],by rw[turn,zn hc],trivial⟩) (fun s _=>by
   unfold qS;simp only[ak];rw[zn (by omega)]) () trivial
 rw[sm] at loop;rw[show (((0:Nat):Int),())=((0:Int),()) from rfl] at loop;unfold zdf txnM;simp only[ak,dA,zb];by_cases a1:bc t.1=true
 · rw[a1,qAU,cond_false];simp only[zb];by_cases a2:t.2.1<0
   · rw[zt a2,cond_true,zp (.inr (.inl a2))]
   rw[zf a2,cond_false];by_cases a3:t.2.1>7
   · rw[zp a3,zp (.inr (.inr (.inl a3)))]
   rw[zn a3];by_cases a4:t.2.2.1<1
   · rw[zp a4,zp (.inr (.inr (.inr (.inl a4))))]
   rw[zn a4];by_cases a5:t.2.2.1>1099511627776
   · rw[zp a5,zp (.inr (.inr (.inr (.inr a5))))]
   have nn:¬ (true=false∨t.2.1<0∨7<t.2.1∨t.2.2.1<1∨1099511627776<t.2.2.1):=by
     rintro (h | h | h | h | h)
     · cases h
     · exact a2 h
     · exact a3 h
     · exact a4 h
     · exact a5 h
   rw[zn a5,zn nn];by_cases a6:t.2.2.2.2.1.length=0
   · rw[zp (show (t.2.2.2.2.1.length:Int)=0 by omega),zp a6]
   rw[zn (show ¬ (t.2.2.2.2.1.length:Int)=0 by omega),zn a6];by_cases a7:16<t.2.2.2.2.1.length
   · rw[zp (show (t.2.2.2.2.1.length:Int)>16 by omega),zp a7]
   rw[zn (show ¬ (t.2.2.2.2.1.length:Int)>16 by omega),zn a7];exact loop
 · have a1:bc t.1=false:=by simpa using a1
   rw[zp (show bc t.1=false∨t.2.1<0∨7<t.2.1∨t.2.2.1<1∨1099511627776<t.2.2.1 from .inl a1),a1];rfl
noncomputable def ot {A:Type} (key:A→Dot1) (l:List A) (i:Nat):Bool:=match l[i]?,l[i+1]? with
 | some x,some y=>decide (cmpD (key x) (key y) = -1)
 | _,_=>true
theorem yI {A:Type}{key:A→Dot1}{l:List A} (h:∀ i,i<l.length-1→ot key l i=true):dX cmpD key l:=by
 refine lH cZ fun i hi => ?_;have:=h i (by omega);unfold ot at this;rw[zg hi,zg (show i<l.length by omega)] at this;simp only[decide_eq_true_eq] at this;omega
open Classical in
theorem ac2 {l:List Txn1} (hl:l.length<1000000):zda l=some (if (∀ i,i<l.length-1→ot (·.1) l i=true) then true else false):=by
 have:=lX (f:=wb l) (l.length-1) (fun i=>(((i+1:Nat):Int),())) (ot (·.1) l) true false (fun i h=>by
   unfold wb ot;rw[zg (show i<l.length by omega),zg (show i+1<l.length by omega)];simp only[ak,bd]
   rw[zp (by omega),wrap64 (by omega) (by omega),show ((i+1:Nat):Int)-1=(i:Int) by omega,aO (show i<l.length by omega),aO (show i+1<l.length by omega)];simp only[zb,iK,decide_eq_true_eq]
   rw[wrap64 (by omega) (by omega)];by_cases h4:cmpD l[i].1 l[i+1].1 = -1
   · rw[zp h4,zp h4]; rfl
   · rw[zn h4,zn h4]) (by
   unfold wb;simp only[ak];rw[zn (by omega)])
 exact this
def oneM (x:Ref1):Bool:=bc x.1&&decide (1≤x.2.1∧x.2.1≤64)
theorem aDE (x:Ref1):zeh x=some (oneM x):=by
 unfold zeh oneM;simp only[dA,zb,ak];cases bc x.1 with
 | false=>rfl
 | true =>
   rw[cond_true,qBO];by_cases h1:x.2.1≥1<;>by_cases h2:x.2.1≤64<;>simp[h1,h2]<;>omega
def iy (l:List Ref1) (i:Nat):Bool:=match l[i]? with
 | some x=>oneM x&&(decide (i=0)||match l[i-1]? with
   | some y=>decide (cmpD y.1 x.1 = -1)
   | none=>false)
 | none=>false
open Classical in
theorem agf {l:List Ref1} (hl:l.length<1000000):zdb l=some (if (∀ i,i<l.length→iy l i=true) then true else false):=by
 have:=lX (f:=wa l) l.length (fun i=>((i:Int),())) (iy l) true false (fun i h=>by
   unfold wa iy;rw[zg h];simp only[ak];rw[zp (by omega),aO h];simp only[zb,aDE];by_cases h0:oneM l[i]=true
   · simp only[h0,qAU,cond_false,qBO];by_cases h3:i=0
     · subst h3;rw[zn (by omega),wrap64 (by omega) (by omega)]; rfl
     · rw[zp (by omega),wrap64 (by omega) (by omega),show (i:Int)-1=((i-1:Nat):Int) by omega,aO (by omega),zg (show i-1<l.length by omega)];simp only[zb,iK,bd];by_cases h4:cmpD l[i-1].1 l[i].1 = -1
       · rw[zp h4,wrap64 (by omega) (by omega)]; simp[h3,h4]
       · rw[zn h4]; simp[h3,h4]
   · have h0:oneM l[i]=false:=(by simpa using h0);simp only[h0,qBK,cond_true,qCV]; rfl) (by
   unfold wa;simp only[ak];rw[zn (by omega)])
 exact this
abbrev nj (u:List Ref1):Prop:=dX cmpD (·.1) u
structure CountsOk (u:List Ref1):Prop where
 len:u.length≤100
 rise:nj u
 one:∀ x∈u,oneM x=true
theorem counts_of {l:List Ref1} (hl:l.length≤100) (h:∀ i,i<l.length→iy l i=true):CountsOk l where
 len:=hl
 rise:=lH cZ fun i hi=>by
   have:=h (i+1) hi;unfold iy at this;rw[zg hi,Nat.add_sub_cancel,zg (show i<l.length by omega)] at this;simp only[k9,qBJ,decide_eq_true_eq] at this;omega
 one x hx:=by
   obtain ⟨i,hi,rfl⟩:=qC9.1 hx;have:=h i hi;unfold iy at this;rw[zg hi] at this;simp only[k9] at this;exact this.1
structure TxnOk (t:Txn1):Prop where
 len:t.2.2.2.2.1.length≤16
 pos:0<t.2.2.2.2.1.length
 ops:∀ o∈t.2.2.2.2.1,rO o∧(opM o=0∨t.2.2.2.1=true∧jP o=true)
 dot:bc t.1=true
 user:0≤t.2.1∧t.2.1≤7
 time:1≤t.2.2.1∧t.2.2.1≤1099511627776
theorem wV {thin:Bool}:∀ {l:List Op1},opsM thin l=0→∀ o∈l,opM o=0∨thin=true∧jP o=true
 | [],_,o,h=>by cases h
 | p::l,h,o,ho=>by
   unfold opsM at h;by_cases hc:opM p≠0∧¬ (thin=true∧jP p=true)
   · rw[zp hc] at h; exact absurd h hc.1
   · rw[zn hc] at h;rcases qAO.1 ho with e | ho
     · subst e;by_cases h1:opM o=0
       · exact .inl h1
       · exact .inr (qDG.1 fun h2=>hc ⟨h1,h2⟩)
     · exact wV h o ho
theorem aAp {t:Txn1} (h1:gV t=true) (h2:txnM t=0):TxnOk t:=by
 unfold gV at h1;simp only[k9,decide_eq_true_eq,qB9] at h1;unfold txnM at h2;by_cases a:bc t.1=false∨t.2.1<0∨7<t.2.1∨t.2.2.1<1∨1099511627776<t.2.2.1
 · rw[zp a] at h2; omega
 rw[zn a] at h2;by_cases b:t.2.2.2.2.1.length=0
 · rw[zp b] at h2; omega
 rw[zn b] at h2;by_cases c:16<t.2.2.2.2.1.length
 · rw[zp c] at h2; omega
 rw[zn c] at h2;refine ⟨by omega,by omega,fun o ho=>⟨oi.1 (h1.2 o ho),wV h2 o ho⟩,?_,?_,?_⟩
 · cases hr:bc t.1 with
   | true=>rfl
   | false=>exact absurd (.inl hr) a
 · constructor
   · exact Int.not_lt.1 fun h=>a (.inr (.inl h))
   · exact Int.not_lt.1 fun h=>a (.inr (.inr (.inl h)))
 · constructor
   · exact Int.not_lt.1 fun h=>a (.inr (.inr (.inr (.inl h))))
   · exact Int.not_lt.1 fun h=>a (.inr (.inr (.inr (.inr h))))
abbrev rW (l:List Txn1):Prop:=dX cmpD (·.1) l
structure TxnsOk (l:List Txn1) (n:Nat):Prop where
 len:l.length≤n
 rise:rW l
 all:∀ t∈l,TxnOk t
open Classical in
def getM (u:List Ref1) (d:Dot1):Int:=match u with
 | []=>0
 | x::u=>if x.1=d then x.2.1 else getM u d
abbrev loU (d:Dot1) (u:List Ref1):List Ref1:=lo cmpD (·.1) d u
abbrev hiU (d:Dot1) (u:List Ref1):List Ref1:=hi cmpD (·.1) d u
theorem mn {d:Dot1}:∀ {u:List Ref1},(∀ x∈u,x.1≠d)→getM u d=0
 | [],_=>rfl
 | x::u,h=>by
   unfold getM;rw[zn (h x (qAL ..))];exact mn fun y hy=>h y (qAM _ hy)
theorem xm {d:Dot1}:∀ {p q:List Ref1},(∀ x∈p,x.1≠d)→getM (p++q) d=getM q d
 | [],_,_=>rfl
 | x::p,q,h=>by
   rw[qBR]
   conv=>lhs; unfold getM
   rw[zn (h x (qAL ..))];exact xm fun y hy=>h y (qAM _ hy)
theorem pE (a b:Ref1):zb0 a b=some (cmpD a.1 b.1):=by
 unfold zb0;rw[mD]; rfl
theorem rA {u:List Ref1}{d:Ref1} (hl:u.length<1000000) (hr:nj u):∀ (k i j:Nat),j-i≤k→i≤(loU d.1 u).length→(loU d.1 u).length≤j→j≤u.length →
   aK (nR u d) ((i:Int),(j:Int),())=some (.inl (((loU d.1 u).length:Int),())):=by
 intro k
 induction k with
 | zero =>
   intro i j hk h1 h2 h3;refine aF ?_;unfold nR;simp only[ak];rw[zn (by omega),show (loU d.1 u).length=i by omega]
 | succ k ih =>
   intro i j hk h1 h2 h3;by_cases hij:i<j
   · have hh:(i+j)/2<u.length:=by omega
     have turn:nR u d ((i:Int),(j:Int),())=if cmpD u[(i+j)/2].1 d.1<0 then some (.inl ((((i+j)/2+1:Nat):Int),(j:Int),())) else some (.inl ((i:Int),(((i+j)/2:Nat):Int),())):=by
       unfold nR;simp only[ak];rw[zp (by omega),show (i:Int)+(j:Int)=((i+j:Nat):Int) by omega,oP (by omega)];simp only[zb];rw[wrap64 (n:=(((i+j)/2:Nat):Int)) (by omega) (by omega),aO hh]
       simp only[zb,pE];rw[wrap64 (by omega) (by omega)]; rfl
     by_cases hn:(i+j)/2<(loU d.1 u).length
     · rw[zp (ag9 hh hn)] at turn;rw[aH turn];exact ih _ _ (by omega) (by omega) h2 h3
     · have:=aha cZ hr hh (k:=d.1) (Nat.le_of_not_lt hn);rw[zn (by omega)] at turn;rw[aH turn];exact ih _ _ (by omega) h1 (by omega) (by omega)
   · refine aF ?_;unfold nR;simp only[ak];rw[zn (by omega),show (loU d.1 u).length=i by omega]
theorem mI {a b:Dot1} (h:cmpD a b≠0):a≠b:=fun e=>h ((cZ.zero _ _).2 e)
def aAJ (q:List Ref1) (d:Dot1):Bool:=match q with
 | []=>false
 | x::_=>decide (cmpD x.1 d=0)
theorem acC {u:List Ref1}{d:Ref1} (hl:u.length<1000000) (hr:nj u) :
   zad u d ()=some (((loU d.1 u).length:Int),aAJ (hiU d.1 u) d.1,()):=by
 have e2:loU d.1 u++hiU d.1 u=u:=lohi;have hlen:(loU d.1 u).length+(hiU d.1 u).length=u.length:=by rw[← qAA,e2]
 unfold zad;have:=rA (d:=d) hl hr u.length 0 u.length (by omega) (by omega) (by omega) (by omega);rw[show ((0:Int),(u.length:Int),())=(((0:Nat):Int),(u.length:Int),()) from rfl,this,aB];simp only[ak]
 cases hq:hiU d.1 u with
 | nil =>
   rw[hq] at hlen;simp only[qAP] at hlen;rw[zn (by omega)]; rfl
 | cons x q =>
   rw[hq] at hlen e2;simp only[zl] at hlen;rw[zp (by omega),gr];have e3:u[(loU d.1 u).length]? = some x:=by
     have:(loU d.1 u++x::q)[(loU d.1 u).length]? = some x:=(by simp);rw[e2] at this;exact this
   rw[e3];simp only[zb,pE];rfl
theorem aAE {u:List Ref1}{d:Dot1}{x:Ref1} (hx:x∈loU d u):x.1≠d:=by
 have h:=gM (c:=cmpD) (key:=fun y:Ref1=>y.1) (k:=d) (l:=u) x hx;exact mI (fun e=>by rw[e] at h; omega)
theorem nZ {u:List Ref1}{d:Dot1} (hl:u.length<1000000) (hr:nj u):zd9 u d=some (getM u d):=by
 have e2:loU d u++hiU d u=u:=lohi;have hlo:∀ x∈loU d u,x.1≠d:=fun x hx=>aAE hx;unfold zd9 zeq;rw[acC (d:=(d,0,())) hl hr];simp only[zb];have hg:getM u d=getM (hiU d u) d:=by
   conv=>lhs; rw[← e2]
   exact xm hlo
 rw[hg];cases hq:hiU d u with
 | nil=>rfl
 | cons x q =>
   have hab:=iV cZ hr hq;unfold aAJ;simp only[ak];by_cases h0:cmpD x.1 d=0
   · rw[zp h0,gr];have e3:u[(loU d u).length]? = some x:=by
       have:(loU d u++x::q)[(loU d u).length]? = some x:=(by simp);rw[← hq,e2] at this;exact this
     rw[e3];simp only[zb];unfold getM;rw[zp ((cZ.zero _ _).1 h0)]
   · rw[zn h0,mn];intro y hy;rcases qAO.1 hy with e | hy
     · subst e; exact mI h0
     · exact mI (by have:=hab.2 y hy; omega)
def cT (u:List Ref1) (d:Dot1):Bool:=match remT (getM u d) 2 with
 | some x=>decide (x=0)
 | none=>false
theorem rem2 (a:Int):∃ x,remT a 2=some x:=⟨_,by unfold remT; rw[zn (by omega)]⟩
theorem ij {u:List Ref1}{d:Dot1} (hl:u.length<1000000) (hr:nj u):zdm u d=some (cT u d):=by
 unfold zdm cT;rw[nZ hl hr];obtain ⟨x,hx⟩:=rem2 (getM u d);simp only[zb,hx]
theorem xr {x y:Ref1}{v:Bool}:∀ {m:List (Ref1×Bool)},eX nh x (putK nh y v m)=if x=y then some v else eX nh x m
 | []=>by
   unfold putK eX;rw[aeh,ak];unfold eX;rfl
 | e::m=>by
   unfold putK;rw[aeh];by_cases hy:y=e.1
   · rw[zt hy,cond_true]
     conv=>lhs; unfold eX
     conv=>rhs; rhs; unfold eX
     rw[aeh,aeh,ak,ak,← hy];by_cases hx:x=y
     · rw[zp hx,zp hx]
     · rw[zn hx,zn hx,zn hx]
   · rw[zf hy,cond_false]
     conv=>lhs; unfold eX
     conv=>rhs; rhs; unfold eX
     rw[aeh,ak,ak,xr];by_cases hx:x=e.1
     · rw[zp hx,zn (fun e'=>hy (by rw[← e',hx])),zp hx]
     · rw[zn hx,zn hx]
def hasK (x:Ref1) (m:List (Ref1×Bool)):Bool:=(getK nh false x m).1
theorem apN {x y:Ref1}{m:List (Ref1×Bool)}:hasK x (putK nh y true m)=(decide (x=y)||hasK x m):=by
 unfold hasK getK;rw[xr];by_cases h:x=y
 · rw[zp h,zt h]; rfl
 · rw[zn h,zf h,qDD]
def sf (m:List (Ref1×Bool)) (l:List Ref1):List (Ref1×Bool):=l.foldl (fun m x=>putK nh x true m) m
theorem ad4 {x:Ref1}:∀ {l:List Ref1}{m:List (Ref1×Bool)},hasK x (sf m l)=(l.any (fun y=>decide (x=y))||hasK x m)
 | [],m=>rfl
 | y::l,m=>by
   have:=ad4 (x:=x) (l:=l) (m:=putK nh y true m);unfold sf at this ⊢;rw[qBS,this,apN,List.any_cons];cases decide (x=y)<;>cases l.any (fun y=>decide (x=y))<;>rfl
def th (o:Op1) (x:Ref1):Bool:=o.2.2.2.2.1.any fun y=>decide (x=y)
def covT (m:List (Ref1×Bool)) (l:List Op1):List (Ref1×Bool):=l.foldl (fun m o=>sf m o.2.2.2.2.1) m
theorem xg {x:Ref1}:∀ {l:List Op1}{m:List (Ref1×Bool)},hasK x (covT m l)=(l.any (fun o=>th o x)||hasK x m)
 | [],m=>rfl
 | o::l,m=>by
   have:=xg (x:=x) (l:=l) (m:=sf m o.2.2.2.2.1);unfold covT at this ⊢;rw[qBS,this,ad4,List.any_cons];unfold th
   cases o.2.2.2.2.1.any (fun y=>decide (x=y))<;>cases l.any (fun o=>o.2.2.2.2.1.any fun y=>decide (x=y))<;>rfl
def covL (u:List Ref1) (m:List (Ref1×Bool)) (l:List Txn1):List (Ref1×Bool):=l.foldl (fun m t=>if cT u t.1=true then covT m t.2.2.2.2.1 else m) m
def covM (l:List Txn1) (u:List Ref1) (x:Ref1):Bool:=l.any fun t=>cT u t.1&&t.2.2.2.2.1.any fun o=>th o x
theorem xh {x:Ref1}{u:List Ref1}:∀ {l:List Txn1}{m:List (Ref1×Bool)},hasK x (covL u m l)=(covM l u x||hasK x m)
 | [],m=>rfl
 | t::l,m=>by
   have:=xh (x:=x) (u:=u) (l:=l) (m:=if cT u t.1=true then covT m t.2.2.2.2.1 else m);unfold covL at this ⊢;rw[qBS,this];unfold covM;rw[List.any_cons];by_cases hs:cT u t.1=true
   · rw[zp hs,xg,hs,qBO];cases t.2.2.2.2.1.any (fun o=>th o x)<;>cases l.any (fun t=>cT u t.1&&t.2.2.2.2.1.any fun o=>th o x)<;>rfl
   · rw[zn hs,eq_false_of_ne_true hs,qCV,qDD]
structure Low (l:List Txn1):Prop where
 len:l.length≤1000
 ops:∀ t∈l,t.2.2.2.2.1.length≤1000
 seen:∀ t∈l,∀ o∈t.2.2.2.2.1,o.2.2.2.2.1.length<1000000
structure LowU (u:List Ref1):Prop where
 len:u.length<1000000
 rise:nj u
theorem aet {l:List Txn1}{u:List Ref1} (hl:Low l) (hu:LowU u):zb8 l u=some (covL u [] l):=by
 have outer:=bA (S:=List (Ref1×Bool)) (f:=wy l u) (l:=l) (fun i m=>((i:Int),m,())) (fun _ t m=>.inl (if cT u t.1=true then covT m t.2.2.2.2.1 else m)) (fun m=>m) (fun _ _=>True) (fun i h m _=>by
   refine .inl ⟨_,rfl,?_,trivial⟩;have hi:=hl.len;unfold wy;simp only[ak];rw[zp (by omega),aO h];simp only[zb,ij hu.len hu.rise];have hops:=hl.ops _ (zm h);by_cases hs:cT u l[i].1=true
   · rw[hs,qAU,cond_false,zp rfl]
     have mid:=bA (S:=List (Ref1×Bool)) (f:=wx ((i:Int),m,()) l[i]) (l:=l[i].2.2.2.2.1) (fun k m=>((k:Int),m,())) (fun _ o m=>.inl (sf m o.2.2.2.2.1)) (fun m'=>(.inl (((i+1:Nat):Int),m',()):(Int×List (Ref1×Bool)×Unit)⊕List (Ref1×Bool))) (fun _ _=>True) (fun k hk m' _=>by
       refine .inl ⟨_,rfl,?_,trivial⟩;have hseen:=hl.seen _ (zm h) _ (zm hk);unfold wx;simp only[ak];rw[zp (by omega),aO hk];simp only[zb]
       have inner:=bA (S:=List (Ref1×Bool)) (f:=px ((k:Int),m',()) l[i].2.2.2.2.1[k]) (l:=l[i].2.2.2.2.1[k].2.2.2.2.1) (fun j m=>((j:Int),m,())) (fun _ x m=>.inl (putK nh x true m)) (fun m''=>(.inl (((k+1:Nat):Int),m'',()):(Int×List (Ref1×Bool)×Unit)⊕((Int×List (Ref1×Bool)×Unit)⊕List (Ref1×Bool)))) (fun _ _=>True) (fun j hj m'' _=>by
         refine .inl ⟨_,rfl,?_,trivial⟩;unfold px;simp only[ak];rw[zp (by omega),aO hj];simp only[zb];rw[wrap64 (by omega) (by omega)]; rfl) (fun m'' _=>by
         unfold px;simp only[ak];rw[zn (by omega),wrap64 (by omega) (by omega)]; rfl) m' trivial
       rw[show ((0:Int),m',())=(((0:Nat):Int),m',()) from rfl,inner,cz];rfl) (fun m' _=>by
       unfold wx;simp only[ak];rw[zn (by omega),wrap64 (by omega) (by omega)]; rfl) m trivial
     rw[show ((0:Int),m,())=(((0:Nat):Int),m,()) from rfl,mid,cz];rfl
   · rw[zn hs,eq_false_of_ne_true hs,qBK,cond_true,wrap64 (by omega) (by omega)]; rfl) (fun m _=>by
   unfold wy;simp only[ak];rw[zn (by omega)]) [] trivial
 unfold zb8;rw[show ((0:Int),([]:List (Ref1×Bool)),())=(((0:Nat):Int),[],()) from rfl,outer,cz];rfl
def fB (k:Int):Bool:=decide (1≤k∧k≤3)
def mj (p:Ref1→Bool) (t:Txn1) (k:Nat) (o:Op1):List bB:=if fB o.1=true∧p (t.1,(k:Int),())=false then [((t.1,(k:Int),()),o,t.2.2.1,())] else []
def hC (p:Ref1→Bool) (t:Txn1):Nat→List Op1→List bB
 | _,[]=>[]
 | k,o::l=>mj p t k o++hC p t (k+1) l
def allM (l:List Txn1) (u:List Ref1):List bB:=l.flatMap fun t=>if cT u t.1=true then hC (covM l u) t 0 t.2.2.2.2.1 else []
theorem oK {p:Ref1→Bool}{t:Txn1}{k:Nat}{o:Op1}:(mj p t k o).length≤1:=by
 unfold mj; split<;>simp
theorem mh {p:Ref1→Bool}{t:Txn1}:∀ {l:List Op1}{k:Nat},(hC p t k l).length≤l.length
 | [],_=>qAD _
 | o::l,k=>by
   have:=mh (p:=p) (t:=t) (l:=l) (k:=k+1);have:=oK (p:=p) (t:=t) (k:=k) (o:=o);unfold hC;rw[qAA,zl]; omega
theorem oJ {R:Type}{p:Ref1→Bool}{t:Txn1}{fin:List bB→R}:∀ (l:List Op1) (k:Nat) (o:List bB),eL (fun k x o=>.inl (o++mj p t k x)) fin k l o=fin (o++hC p t k l)
 | [],k,o=>by simp[eL,hC]
 | x::l,k,o=>by
   unfold eL hC;simp only;rw[oJ l (k+1),qAR]
theorem sR {A B R:Type}{g:A→List B}{fin:List B→R}:∀ (l:List A) (i:Nat) (o:List B),eL (fun _ x o=>.inl (o++g x)) fin i l o=fin (o++l.flatMap g)
 | [],i,o=>by simp[eL]
 | x::l,i,o=>by
   unfold eL;simp only;rw[sR l (i+1),qBG,qAR]
theorem ahd {l:List Txn1}{u:List Ref1} (hl:Low l) (hu:LowU u):zer l u=some (allM l u):=by
 unfold zer;rw[aet hl hu,zb];have hp:(fun x=>hasK x (covL u [] l))=covM l u:=by
   funext x;rw[xh];exact Bool.or_false _
 generalize hm:covL u [] l=m at hp ⊢
 have outer:=bA (S:=List bB) (f:=vN l u) (l:=l) (fun i o=>((i:Int),m,o,())) (fun _ t o=>.inl (o++if cT u t.1=true then hC (covM l u) t 0 t.2.2.2.2.1 else [])) (fun o=>o) (fun i o=>o.length≤i*1000) (fun i h o ho=>by
   have hi:=hl.len;have hops:=hl.ops _ (zm h);refine .inl ⟨_,rfl,?_,?_⟩
   · unfold vN;simp only[ak];rw[zp (by omega),aO h];simp only[zb,ij hu.len hu.rise];by_cases hs:cT u l[i].1=true
     · rw[hs,qAU,cond_false,zp rfl]
       have inner:=bA (S:=List bB) (f:=vM ((i:Int),m,o,()) l[i]) (l:=l[i].2.2.2.2.1) (fun k o=>((k:Int),m,o,l[i],())) (fun k x o=>.inl (o++mj (covM l u) l[i] k x)) (fun o'=>(.inl (((i+1:Nat):Int),m,o',()):(Int×List (Ref1×Bool)×List bB×Unit)⊕List bB)) (fun k o'=>o'.length≤i*1000+k) (fun k hk o' ho'=>by
         refine .inl ⟨_,rfl,?_,?_⟩
         · have hget:(getK nh false (l[i].1,(k:Int),()) m).1=covM l u (l[i].1,(k:Int),()):=(by rw[← hp]; rfl);unfold vM mj;simp only[ak];rw[zp (by omega),aO hk];simp only[zb]
           have hget:(getK (.agg (.cons (.agg (.cons (.int .i64) (.cons (.int .i64) .unit))) (.cons (.int .i64) .unit))) false (l[i].1,(k:Int),()) m).1=covM l u (l[i].1,(k:Int),()):=hget
           rw[hget,wrap64 (by omega) (by omega),aX (by simp; omega)];simp only[zb]
           have hk':fB l[i].2.2.2.2.1[k].1=true↔(l[i].2.2.2.2.1[k].1=1∨l[i].2.2.2.2.1[k].1=2∨l[i].2.2.2.2.1[k].1=3):=by unfold fB; simp only[decide_eq_true_eq]; omega
           by_cases hc:covM l u (l[i].1,(k:Int),())=true
           · rw[hc];simp only[qAU,cond_false,Bool.true_eq_false,and_false,if_false,qAT]
             split
             · rfl
             · split
               · rfl
               · split<;>rfl
           · rw[eq_false_of_ne_true hc];simp only[qBK,cond_true,and_true];by_cases h1:l[i].2.2.2.2.1[k].1=1
             · rw[zp h1,zp (hk'.2 (.inl h1))]; rfl
             · by_cases h2:l[i].2.2.2.2.1[k].1=2
               · rw[zn h1,zp h2,zp (hk'.2 (.inr (.inl h2)))]; rfl
               · by_cases h3:l[i].2.2.2.2.1[k].1=3
                 · rw[zn h1,zn h2,zp h3,zp (hk'.2 (.inr (.inr h3)))]; rfl
                 · rw[zn h1,zn h2,zn h3,zn (fun e=>by rcases hk'.1 e with e | e | e; exact h1 e; exact h2 e; exact h3 e),qAT]; rfl
         · have:=oK (p:=covM l u) (t:=l[i]) (k:=k) (o:=l[i].2.2.2.2.1[k]);rw[qAA]; omega) (fun o' ho'=>by
         unfold vM;simp only[ak];rw[zn (by omega),wrap64 (by omega) (by omega)]; rfl) o (by omega)
       rw[show ((0:Int),m,o,l[i],())=(((0:Nat):Int),m,o,l[i],()) from rfl,inner,oJ]
     · rw[zn hs,eq_false_of_ne_true hs,qBK,cond_true,wrap64 (by omega) (by omega),qAT]; rfl
   · have:=mh (p:=covM l u) (t:=l[i]) (l:=l[i].2.2.2.2.1) (k:=0);rw[qAA,qB6]
     split
     · omega
     · simp; omega) (fun o _=>by
   unfold vN;simp only[ak];rw[zn (by omega)]) [] (by simp)
 rw[show ((0:Int),m,([]:List bB),())=(((0:Nat):Int),m,[],()) from rfl,outer,sR];rfl
def uY (k:Int):Int:=if k=1 then 1 else if k=2∨k=4 then 2 else if k=3 then 3 else 0
theorem wW (k:Int):zex k=some (uY k):=by
 unfold zex uY;simp only[ak];by_cases h1:k=1
 · rw[zp h1,zp h1]
 · by_cases h2:k=2
   · subst h2; rfl
   · by_cases h4:k=4
     · subst h4; rfl
     · by_cases h3:k=3
       · subst h3; rfl
       · simp[h1,h2,h3,h4]
def isAt (p:Path) (leaf:Int) (x:bB):Bool:=decide (uY x.2.1.1=leaf)&&decide (x.2.1.2.1=p)
def atM (l:List bB) (p:Path) (leaf:Int):List bB:=l.filter (isAt p leaf)
theorem oU {A:Type}{q:A→Bool}:∀ {l:List A},(l.flatMap fun x=>if q x=true then [x] else [])=l.filter q
 | []=>rfl
 | x::l=>by
   rw[qBG,oU,List.filter_cons]
   split<;>rfl
structure LowI (l:List bB):Prop where
 len:l.length<1000000
 path:∀ x∈l,x.2.1.2.1.length<1000000∧∀ s∈x.2.1.2.1,s.length<1000000
theorem at_t {l:List bB}{p:Path}{leaf:Int} (hl:LowI l):zev l p leaf=some (atM l p leaf):=by
 have hlen:=hl.len;have:=fE (f:=vK l p leaf) (l:=l) (fun i o=>((i:Int),o,())) (fun x=>if isAt p leaf x=true then [x] else []) (fun o=>o) 1 (fun x _=>by split<;>simp) (fun i h o ho=>by
   have hp:=(hl.path _ (zm h)).1;unfold vK isAt;simp only[ak];rw[zp (by omega),aO h];simp only[zb,wW,oz hp];rw[wrap64 (by omega) (by omega),aX (by simp; omega)];simp only[zb,ak]
   by_cases h1:uY l[i].2.1.1=leaf
   · rw[zp h1,zt h1,qBO];by_cases h2:l[i].2.1.2.1=p
     · rw[zp h2,zt h2]; rfl
     · rw[zn h2,zf h2]; simp
   · rw[zn h1,zf h1]; simp) (fun o _=>by
   unfold vK;simp only[ak];rw[zn (by omega)])
 unfold zev atM;rw[show ((0:Int),([]:List bB),())=(((0:Nat):Int),[],()) from rfl,this,oU]
theorem vA {l:List bB}{p:Path}{leaf:Int} (hl:LowI l):LowI (atM l p leaf):=⟨Nat.lt_of_le_of_lt (List.length_filter_le ..) hl.len,fun x hx=>hl.path x (qDL.1 hx).1⟩
theorem dR {A:Type}{w:List A} (h:0<w.length):w.isEmpty=false:=by cases w with
 | nil=>cases h
 | cons _ _=>rfl
theorem e8 {n a b:Nat} (h1:a≤b) (h2:b≤n):lf n (a:Int) (b:Int)=some (a,b-a):=by
 unfold lf;rw[zp ⟨by omega,by omega,by omega⟩]; simp
theorem iG {A:Type} [DecidableEq A] {l:List A}{i:Nat} (hi:i<l.length) (h0:0<i):sqz (l.take (i+1))=if l[i-1]'(by omega)=l[i] then sqz (l.take i) else sqz (l.take i)++[l[i]]:=by
 rw[qC8,zg hi,Option.toList_some,pI];unfold sqzS;have e:(sqz (l.take i)).getLast? = some (l[i-1]'(by omega)):=by
   rw[af5,List.getLast?_eq_getElem?,qAQ,show min i l.length-1=i-1 by omega,qBQ (by omega),zg (by omega)]
 rw[e];by_cases h:l[i-1]'(by omega)=l[i]
 · rw[zp (by rw[h]),zp h]
 · rw[zn (fun e=>h (qCW e)),zn h]
structure Mid (l w:List Val) (i0 k i:Nat):Prop where
 len:w.length=l.length
 head:w.take i=sqz (l.take (i0+k))
 rest:∀ j,i0+k-1≤j→w[j]? = l[j]?
 low:i≤i0+k-1
theorem qB {l:List Val}{i0:Nat} (hl:l.length<1000000) (h0:0<i0) (hi0:i0<l.length):∀ (n k i:Nat) (w:List Val),l.length-i0-k≤n→1≤k→k≤l.length-i0→Mid l w i0 k i →
   ∃ w' i',Mid l w' i0 (l.length-i0) i'∧aK nP ((i:Int),(i0,l.length-i0),(k:Int),w,())=some (.inl ((i':Int),w',())):=by
 intro n
 induction n with
 | zero =>
   intro k i w hn hk1 hk hm;have e:k=l.length-i0:=by omega
   subst e;refine ⟨w,i,hm,aF ?_⟩;unfold nP;simp only[ak];rw[zn (by omega)]
 | succ n ih =>
   intro k i w hn hk1 hk hm;by_cases hlt:k<l.length-i0
   · have hwl:=hm.len;have hw:0<w.length:=(by omega);have hk0:i0+k<l.length:=(by omega);have ea:w[i0+k]? = some (l[i0+k]):=by rw[hm.rest _ (by omega),zg hk0]
     have eb:w[i0+(k-1)]? = some (l[i0+k-1]'(by omega)):=(by rw[show i0+(k-1)=i0+k-1 by omega,hm.rest _ (by omega),zg (by omega)]);have hlow:=hm.low;have hiw:i<w.length:=by omega
     have turn:nP ((i:Int),(i0,l.length-i0),(k:Int),w,())=if l[i0+k-1]'(by omega)=l[i0+k] then some (.inl ((i:Int),(i0,l.length-i0),((k+1:Nat):Int),w,())) else some (.inl (((i+1:Nat):Int),(i0,l.length-i0),((k+1:Nat):Int),w.set i l[i0+k],())):=by
       unfold nP;simp only[ak];rw[zp (by omega),dR hw];simp only[cond_false]
       rw[bU hlt,wrap64 (n:=(k:Int)-1) (by omega) (by omega),show (k:Int)-1=((k-1:Nat):Int) by omega,bU (show k-1<l.length-i0 by omega)];simp only[zb];rw[ea,eb];simp only[zb,zw]
       rw[wrap64 (by omega) (by omega),wrap64 (by omega) (by omega)];by_cases hx:l[i0+k]=l[i0+k-1]'(by omega)
       · rw[zp hx.symm,zt hx]; rfl
       · rw[zn (fun e=>hx e.symm),zf hx,bU hiw];simp only[qBK,cond_true,zb];rw[zg hiw];rfl
     have hsq:=iG (l:=l) (i:=i0+k) hk0 (by omega);by_cases hx:l[i0+k-1]'(by omega)=l[i0+k]
     · rw[zp hx] at turn hsq;rw[aH turn];exact ih (k+1) i w (by omega) (by omega) (by omega) ⟨hwl,by rw[hm.head,show i0+(k+1)=i0+k+1 by omega,hsq],fun j hj=>hm.rest j (by omega),by omega⟩
     · rw[zn hx] at turn hsq;rw[aH turn];refine ih (k+1) (i+1) _ (by omega) (by omega) (by omega) ⟨by rw[qCY]; exact hwl,?_,fun j hj => ?_,by omega⟩
       · rw[show i0+(k+1)=i0+k+1 by omega,hsq,← hm.head,qC8,List.take_set_of_le (by omega),qAX hiw]; rfl
       · rw[qBB (by omega)];exact hm.rest j (by omega)
   · have e:k=l.length-i0:=(by omega);subst e;refine ⟨w,i,hm,aF ?_⟩;unfold nP;simp only[ak];rw[zn (by omega)]
theorem qA {l:List Val} (hl:l.length<1000000):∀ (n i:Nat),l.length-i≤n→1≤i→i≤l.length→sqz (l.take i)=l.take i →
   aK kV ((i:Int),l,())=some (sqz l):=by
 intro n
 induction n with
 | zero =>
   intro i hn h1 hi hs;have e:i=l.length:=by omega
   subst e;rw[qBI (qAD _)] at hs;refine aF ?_;unfold kV;simp only[ak];rw[zn (by omega),hs]
 | succ n ih =>
   intro i hn h1 hi hs;by_cases hlt:i<l.length
   · have hsq:=iG (l:=l) (i:=i) hlt (by omega);have he:l.isEmpty=false:=dR (by omega);by_cases hx:l[i-1]'(by omega)=l[i]
     · refine aF ?_;unfold kV;simp only[ak];rw[zp (by omega),bU hlt,wrap64 (by omega) (by omega),show (i:Int)-1=((i-1:Nat):Int) by omega,bU (show i-1<l.length by omega)]
       simp only[zb,zg hlt,zg (show i-1<l.length by omega),zw];rw[zt hx.symm,cond_true,he,cond_false,e8 (by omega) (qAD _)];simp only[zb];rw[zp hx] at hsq
       obtain ⟨w',i',hm,hrun⟩:=qB hl (by omega) hlt (l.length-i) 1 i l (by omega) (qAD _) (by omega) ⟨rfl,by rw[hsq,hs],fun j _=>rfl,by omega⟩;rw[show ((1:Int))=((1:Nat):Int) from rfl,hrun,aB]
       have hwl:=hm.len;have hlow:=hm.low;have hle:i'≤w'.length:=(by omega);have hw:0<w'.length:=(by omega);have e2:i+(l.length-i)=l.length:=by omega
       have hhead:w'.take i'=sqz l:=(by rw[hm.head,e2,qBI (qAD _)]);simp only;rw[dR hw,cond_false,e8 hle (qAD _)];simp only[zb,cond_false];rw[zp (by omega)]
       simp only[zb];have hlen2:(List.take i' w'++List.replicate (w'.length-i') ((0,0,[],()):Val)++List.drop (i'+(w'.length-i')) w').length=w'.length:=by
         rw[qAA,qAA,qAQ,qCJ,qAW]; omega
       rw[dR (by rw[hlen2]; exact hw),cond_false,hlen2,show ((0:Int))=((0:Nat):Int) from rfl,e8 (qB3 _) hle];simp only[zb,cond_false];rw[zp (by omega)]
       simp only[qAE,qB8,qCM];rw[qAR,qCG (by rw[qAQ]; omega),List.take_take,Nat.min_self,hhead]
     · have turn : kV ((i : Int), l, ()) = some (.inl (((i + 1 : Nat) : Int), l, ())) := by
         unfold kV;simp only[ak];rw[zp (by omega),bU hlt,wrap64 (by omega) (by omega),show (i:Int)-1=((i-1:Nat):Int) by omega,bU (show i-1<l.length by omega)]
         simp only[zb,zg hlt,zg (show i-1<l.length by omega),zw];rw[zf (fun e=>hx e.symm),cond_false,wrap64 (by omega) (by omega)]; rfl
       rw[aH turn];rw[zn hx,hs] at hsq;refine ih (i+1) (by omega) (by omega) (by omega) ?_;rw[hsq,qC8,zg hlt]; rfl
   · have e:i=l.length:=(by omega);subst e;rw[qBI (qAD _)] at hs;refine aF ?_;unfold kV;simp only[ak];rw[zn (by omega),hs]
theorem aex {l:List Val} (hl:l.length<1000000):zax l=some (sqz l,()):=by
 unfold zax anu;simp only[ak]
 match l,hl with
 | [],_=>rfl
 | [x],_=>rfl
 | x::y::l,hl =>
   rw[zn (by simp only[zl]; omega)];have:=qA hl (x::y::l).length 1 (by omega) (qAD _) (by simp) rfl;rw[show ((1:Int))=((1:Nat):Int) from rfl,this];rfl
def insV (o:List Val) (v:Val):List Val:=match o with
 | []=>[v]
 | x::l=>if cmpV v x=0 then x::l else if cmpV v x<0 then v::x::l else x::insV l v
abbrev ac3 (o:List Val):Prop:=dX cmpV (fun v=>v) o
theorem qi {v x:Val}:∀ {o:List Val},x∈insV o v↔x=v∨x∈o
 | []=>by simp[insV]
 | y::l=>by
   unfold insV
   split
   · rename_i h;have e:=(fk.zero _ _).1 h;subst e;simp
   · split
     · simp
     · rw[qAO,qi,qAO];constructor
       · rintro (h | h | h)
         · exact .inr (.inl h)
         · exact .inl h
         · exact .inr (.inr h)
       · rintro (h | h | h)
         · exact .inr (.inl h)
         · exact .inl h
         · exact .inr (.inr h)
theorem oM {v:Val}:∀ {o:List Val},ac3 o→ac3 (insV o v)
 | [],_=>qCB ..
 | y::l,h=>by
   have h':=qBF.1 h;unfold insV
   split
   · exact h
   · rename_i h0
     split
     · rename_i h1;refine qBF.2 ⟨fun z hz => ?_,h⟩;rcases qAO.1 hz with e | hz
       · subst e; exact h1
       · exact fk.trans _ _ _ h1 (h'.1 z hz)
     · rename_i h1;refine qBF.2 ⟨fun z hz => ?_,oM h'.2⟩;rcases qi.1 hz with e | hz
       · subst e;have h2:=fk.neg z y;show cmpV y z<0;omega
       · exact h'.1 z hz
def jv (l:List Val):List Val:=l.foldl insV []
theorem lk:∀ (l o:List Val),ac3 o→ac3 (l.foldl insV o)∧∀ x,x∈l.foldl insV o↔x∈o∨x∈l
 | [],o,h=>⟨h,fun x=>by simp⟩
 | v::l,o,h=>by
   obtain ⟨h1,h2⟩:=lk l (insV o v) (oM h);refine ⟨h1,fun x => ?_⟩;rw[qBS,h2,qi,qAO];constructor
   · rintro ((h | h) | h)
     · exact .inr (.inl h)
     · exact .inl h
     · exact .inr (.inr h)
   · rintro (h | h | h)
     · exact .inl (.inr h)
     · exact .inl (.inl h)
     · exact .inr h
theorem li (l:List Val):ac3 (jv l):=(lk l [] List.Pairwise.nil).1
theorem lj (l:List Val) (x:Val):x∈jv l↔x∈l:=by
 have:=(lk l [] List.Pairwise.nil).2 x;simpa [jv] using this
theorem xc {v:Val}:∀ {o:List Val},(insV o v).length≤o.length+1
 | []=>qAD _
 | y::l=>by
   unfold insV
   split
   · omega
   · split
     · simp
     · have:=xc (v:=v) (o:=l);simp only[zl]; omega
theorem rx:∀ (l o:List Val),(l.foldl insV o).length≤o.length+l.length
 | [],o=>qAD _
 | v::l,o=>by
   have:=rx l (insV o v);have:=xc (v:=v) (o:=o);rw[qBS,zl]; omega
theorem rL {l:List Val} (hl:l.length<1000000):∃ s,zan l=some ((),s,())∧zax s=some (jv l,()):=by
 obtain ⟨s,h1,h2,h3⟩:=rM (c:=cmpV) (key:=fun v:Val=>v) (cmp:=fun x y=>zb4 x y) (xs:=l) fk (fun x _ y _=>eS x y) (by omega);refine ⟨s,by unfold zan; rw[h1]; rfl,?_⟩
 rw[aex (by rw[h2.length_eq]; exact hl)];have:sqz s=jv l:=by
   refine dP fk (key:=fun v:Val=>v) (rK fk (fun a b=>(fk.zero a b).1) _ s rfl h3) (li l) fun x => ?_;rw[pH _ s rfl,lj];exact h2.mem_iff
 rw[this]
def wF (l:List bB) (p:Path):List Val:=(atM l p 1).map fun x=>x.2.1.2.2.1
theorem uH {l:List bB}{p:Path} (hl:LowI l):zdz l p=some (jv (wF l p)):=by
 unfold zdz wF;rw[at_t hl];have hlow:=(vA (p:=p) (leaf:=1) hl).len;generalize atM l p 1=q at hlow;simp only[zb]
 have:=fE (f:=vS q) (l:=q) (fun i o=>((i:Int),o,())) (fun x=>[x.2.1.2.2.1]) (fun o=>(.inl (o,()):(List Val×Unit)⊕List Val)) 1 (fun x _=>qAD _) (fun i h o ho=>by
   unfold vS;simp only[ak];rw[zp (by omega),aO h];simp only[zb];rw[wrap64 (by omega) (by omega),aX (by simp; omega)]; rfl) (fun o _=>by
   unfold vS;simp only[ak];rw[zn (by omega)])
 rw[show ((0:Int),([]:List Val),())=(((0:Nat):Int),[],()) from rfl,this,aB];have e:(q.flatMap fun x=>[x.2.1.2.2.1])=q.map fun x=>x.2.1.2.2.1:=by
   clear this hlow
   induction q with
   | nil=>rfl
   | cons x q ih=>rw[qBG,qA5,ih]; rfl
 obtain ⟨s,h1,h2⟩:=rL (l:=q.map fun x=>x.2.1.2.2.1) (by rw[qBT]; exact hlow);simp only[e];rw[h1];simp only[zb,h2]
structure LowP (l:List Txn1):Prop where
 low:Low l
 ops:∀ t∈l,∀ o∈t.2.2.2.2.1,(o.2.1.length<1000000∧∀ s∈o.2.1,s.length<1000000)∧o.2.2.1.2.2.1.length<1000000
theorem sF {p:Ref1→Bool}{t:Txn1}:∀ {l:List Op1}{k:Nat}{x:bB},x∈hC p t k l→∃ (j:Nat) (o:Op1),o∈l∧fB o.1=true∧p (t.1,(j:Int),())=false∧x=((t.1,(j:Int),()),o,t.2.2.1,())
 | [],_,x,h=>by cases h
 | o::l,k,x,h=>by
   unfold hC at h;rcases qA9.1 h with h | h
   · unfold mj at h
     split at h
     · rename_i hc;rw[qA2] at h;exact ⟨k,o,qAL ..,hc.1,hc.2,h⟩
     · cases h
   · obtain ⟨j,o',h1,h2⟩:=sF h;exact ⟨j,o',qAM _ h1,h2⟩
theorem ahe {l:List Txn1}{u:List Ref1}{x:bB} (h:x∈allM l u):∃ t∈l,∃ (j:Nat) (o:Op1),o∈t.2.2.2.2.1∧fB o.1=true∧cT u t.1=true∧covM l u (t.1,(j:Int),())=false∧x=((t.1,(j:Int),()),o,t.2.2.1,()):=by
 unfold allM at h;obtain ⟨t,ht,hx⟩:=List.mem_flatMap.1 h
 split at hx
 · rename_i hs;obtain ⟨j,o,h1,h2,h3,h4⟩:=sF hx;exact ⟨t,ht,j,o,h1,h2,hs,h3,h4⟩
 · cases hx
theorem xq {A B:Type}{g:A→List B}{n:Nat}:∀ {l:List A},(∀ x∈l,(g x).length≤n)→(l.flatMap g).length≤l.length*n
 | [],_=>qB3 _
 | x::l,h=>by
   have:=xq (l:=l) fun y hy=>h y (qAM _ hy);have:=h x (qAL ..);rw[qBG,qAA,zl,qB6]; omega
theorem pC {l:List Txn1}{n:Nat} (h:TxnsOk l n) (hn:n≤900):LowP l:=by
 refine ⟨⟨by have:=h.len; omega,fun t ht=>by have:=(h.all t ht).len; omega,fun t ht o ho => ?_⟩,fun t ht o ho => ?_⟩
 · have:=((h.all t ht).ops o ho).1.2.2.2; omega
 · have:=((h.all t ht).ops o ho).1;exact ⟨⟨by have:=this.1; omega,fun s hs=>by have:=this.2.1 s hs; omega⟩,by have:=this.2.2.1; omega⟩
abbrev fq:=Path×Int×Unit
def qC (a b:fq):Int:=orI (cmpP a.1 b.1) (cmpI a.2.1 b.2.1)
theorem aAR:Cmp cmpP:=Cmp.list aeG
theorem hU:Cmp qC:=by
 have:qC=fun a b=>cmpB cmpP cmpI ((fun x:fq=>(x.1,x.2.1)) a) ((fun x:fq=>(x.1,x.2.1)) b):=rfl;rw[this];exact vI (aAR.pair mN) _ fun a b h=>by
   obtain ⟨a1,a2,⟨⟩⟩:=a; obtain ⟨b1,b2,⟨⟩⟩:=b;simp only[qAZ] at h;rw[h.1,h.2]
theorem acD {a b:fq} (ha:a.1.length<1000000):zcb a b=some (qC a b):=by
 unfold zcb;simp only[iM ha,jd,or_t,zb];rfl
theorem adO {a b:fq} (ha:a.1.length<1000000):zb2 a b=some (decide (a=b)):=by
 unfold zb2;rw[acD ha];simp only[zb];by_cases h:a=b
 · rw[zt h,zt ((hU.zero _ _).2 h)]
 · rw[zf h,zf (fun e=>h ((hU.zero _ _).1 e))]
structure MidS (l w:List (List UInt8)) (i0 k i:Nat):Prop where
 len:w.length=l.length
 head:w.take i=sqz (l.take (i0+k))
 rest:∀ j,i0+k-1≤j→w[j]? = l[j]?
 low:i≤i0+k-1
structure MidL (l w:List fq) (i0 k i:Nat):Prop where
 len:w.length=l.length
 head:w.take i=sqz (l.take (i0+k))
 rest:∀ j,i0+k-1≤j→w[j]? = l[j]?
 low:i≤i0+k-1
theorem nE {l:List fq}{i0:Nat} (hl:l.length<1000000) (hE:∀ a b,a∈l→zb2 a b=some (decide (a=b))) (h0:0<i0) (hi0:i0<l.length):∀ (n k i:Nat) (w:List fq),l.length-i0-k≤n→1≤k→k≤l.length-i0→MidL l w i0 k i →
   ∃ w' i',MidL l w' i0 (l.length-i0) i'∧aK nQ ((i:Int),(i0,l.length-i0),(k:Int),w,())=some (.inl ((i':Int),w',())):=by
 intro n
 induction n with
 | zero =>
   intro k i w hn hk1 hk hm;have e:k=l.length-i0:=by omega
   subst e;refine ⟨w,i,hm,aF ?_⟩;unfold nQ;simp only[ak];rw[zn (by omega)]
 | succ n ih =>
   intro k i w hn hk1 hk hm;by_cases hlt:k<l.length-i0
   · have hwl:=hm.len;have hw:0<w.length:=(by omega);have hk0:i0+k<l.length:=(by omega);have ea:w[i0+k]? = some (l[i0+k]):=by rw[hm.rest _ (by omega),zg hk0]
     have eb:w[i0+(k-1)]? = some (l[i0+k-1]'(by omega)):=(by rw[show i0+(k-1)=i0+k-1 by omega,hm.rest _ (by omega),zg (by omega)]);have hlow:=hm.low;have hiw:i<w.length:=by omega
     have turn:nQ ((i:Int),(i0,l.length-i0),(k:Int),w,())=if l[i0+k-1]'(by omega)=l[i0+k] then some (.inl ((i:Int),(i0,l.length-i0),((k+1:Nat):Int),w,())) else some (.inl (((i+1:Nat):Int),(i0,l.length-i0),((k+1:Nat):Int),w.set i l[i0+k],())):=by
       unfold nQ;simp only[ak];rw[zp (by omega),dR hw];simp only[cond_false]
       rw[bU hlt,wrap64 (n:=(k:Int)-1) (by omega) (by omega),show (k:Int)-1=((k-1:Nat):Int) by omega,bU (show k-1<l.length-i0 by omega)];simp only[zb];rw[ea,eb];simp only[zb,hE,zm]
       rw[wrap64 (by omega) (by omega),wrap64 (by omega) (by omega)];by_cases hx:l[i0+k]=l[i0+k-1]'(by omega)
       · rw[zp hx.symm]
         first | (rw[zt hx]; rfl) | (rw[zp hx])
       · rw[zn (fun e=>hx e.symm),zf hx,bU hiw];simp only[qBK,cond_true,zb];rw[zg hiw];rfl
     have hsq:=iG (l:=l) (i:=i0+k) hk0 (by omega);by_cases hx:l[i0+k-1]'(by omega)=l[i0+k]
     · rw[zp hx] at turn hsq;rw[aH turn];exact ih (k+1) i w (by omega) (by omega) (by omega) ⟨hwl,by rw[hm.head,show i0+(k+1)=i0+k+1 by omega,hsq],fun j hj=>hm.rest j (by omega),by omega⟩
     · rw[zn hx] at turn hsq;rw[aH turn];refine ih (k+1) (i+1) _ (by omega) (by omega) (by omega) ⟨by rw[qCY]; exact hwl,?_,fun j hj => ?_,by omega⟩
       · rw[show i0+(k+1)=i0+k+1 by omega,hsq,← hm.head,qC8,List.take_set_of_le (by omega),qAX hiw]; rfl
       · rw[qBB (by omega)];exact hm.rest j (by omega)
   · have e:k=l.length-i0:=(by omega);subst e;refine ⟨w,i,hm,aF ?_⟩;unfold nQ;simp only[ak];rw[zn (by omega)]
theorem nD {l:List fq} (hl:l.length<1000000) (hE:∀ a b,a∈l→zb2 a b=some (decide (a=b))):∀ (n i:Nat),l.length-i≤n→1≤i→i≤l.length→sqz (l.take i)=l.take i →
   aK kW ((i:Int),l,())=some (sqz l):=by
 intro n
 induction n with
 | zero =>
   intro i hn h1 hi hs;have e:i=l.length:=by omega
   subst e;rw[qBI (qAD _)] at hs;refine aF ?_;unfold kW;simp only[ak];rw[zn (by omega),hs]
 | succ n ih =>
   intro i hn h1 hi hs;by_cases hlt:i<l.length
   · have hsq:=iG (l:=l) (i:=i) hlt (by omega);have he:l.isEmpty=false:=dR (by omega);by_cases hx:l[i-1]'(by omega)=l[i]
     · refine aF ?_;unfold kW;simp only[ak];rw[zp (by omega),bU hlt,wrap64 (by omega) (by omega),show (i:Int)-1=((i-1:Nat):Int) by omega,bU (show i-1<l.length by omega)]
       simp only[zb,zg hlt,zg (show i-1<l.length by omega),hE,zm]
       first | rw[zt hx.symm,cond_true] | rw[zp hx.symm]
       rw[he,cond_false,e8 (by omega) (qAD _)];simp only[zb];rw[zp hx] at hsq
       obtain ⟨w',i',hm,hrun⟩:=nE hl hE (by omega) hlt (l.length-i) 1 i l (by omega) (qAD _) (by omega) ⟨rfl,by rw[hsq,hs],fun j _=>rfl,by omega⟩
       rw[show ((1:Int))=((1:Nat):Int) from rfl,hrun,aB];have hwl:=hm.len;have hlow:=hm.low;have hle:i'≤w'.length:=(by omega);have hw:0<w'.length:=(by omega);have e2:i+(l.length-i)=l.length:=by omega
       have hhead:w'.take i'=sqz l:=(by rw[hm.head,e2,qBI (qAD _)]);simp only;rw[dR hw,cond_false,e8 hle (qAD _)];simp only[zb,cond_false];rw[zp (by omega)]
       simp only[zb];have hlen2:(List.take i' w'++List.replicate (w'.length-i') (([],0,()):fq)++List.drop (i'+(w'.length-i')) w').length=w'.length:=by
         rw[qAA,qAA,qAQ,qCJ,qAW]; omega
       rw[dR (by rw[hlen2]; exact hw),cond_false,hlen2,show ((0:Int))=((0:Nat):Int) from rfl,e8 (qB3 _) hle];simp only[zb,cond_false];rw[zp (by omega)]
       simp only[qAE,qB8,qCM];rw[qAR,qCG (by rw[qAQ]; omega),List.take_take,Nat.min_self,hhead]
     · have turn : kW ((i : Int), l, ()) = some (.inl (((i + 1 : Nat) : Int), l, ())) := by
         unfold kW;simp only[ak];rw[zp (by omega),bU hlt,wrap64 (by omega) (by omega),show (i:Int)-1=((i-1:Nat):Int) by omega,bU (show i-1<l.length by omega)]
         simp only[zb,zg hlt,zg (show i-1<l.length by omega),hE,zm]
         first | rw[zf (fun e=>hx e.symm),cond_false] | rw[zn (fun e=>hx e.symm)]
         rw[wrap64 (by omega) (by omega)]; rfl
       rw[aH turn];rw[zn hx,hs] at hsq;refine ih (i+1) (by omega) (by omega) (by omega) ?_;rw[hsq,qC8,zg hlt]; rfl
   · have e:i=l.length:=(by omega);subst e;rw[qBI (qAD _)] at hs;refine aF ?_;unfold kW;simp only[ak];rw[zn (by omega),hs]
theorem zI {l:List fq} (hl:l.length<1000000) (hE:∀ a b,a∈l→zb2 a b=some (decide (a=b))):zaj l=some (sqz l,()):=by
 unfold zaj aoc;simp only[ak]
 match l,hl,hE with
 | [],_,_=>rfl
 | [x],_,_=>rfl
 | x::y::l,hl,hE =>
   rw[zn (by simp only[zl]; omega)];have:=nD hl hE (x::y::l).length 1 (by omega) (qAD _) (by simp) rfl;rw[show ((1:Int))=((1:Nat):Int) from rfl,this];rfl
def iT (x:bB):fq:=(x.2.1.2.1,uY x.2.1.1,())
def dD (l:List bB):List fq:=uniq qC (l.map iT)
theorem agD {l:List bB} (hl:LowI l):zc7 l=some (dD l):=by
 have hlen:=hl.len;have:=fE (f:=wn l) (l:=l) (fun i o=>((i:Int),o,())) (fun x=>[iT x]) (fun o=>(.inl (o,()):(List fq×Unit)⊕List fq)) 1 (fun x _=>qAD _) (fun i h o ho=>by
   have hp:=(hl.path _ (zm h)).1;unfold wn;simp only[ak];rw[zp (by omega),aO h];have hc:zba l[i].2.1.2.1=some l[i].2.1.2.1:=by
     unfold zba dv;rw[zp (by simp only[most]; omega)]
   simp only[zb,hc,wW];rw[wrap64 (by omega) (by omega),aX (by simp; omega)]; rfl) (fun o _=>by
   unfold wn;simp only[ak];rw[zn (by omega)])
 unfold zc7;rw[show ((0:Int),([]:List fq),())=(((0:Nat):Int),[],()) from rfl,this,aB];have e:(l.flatMap fun x=>[iT x])=l.map iT:=by
   clear this hlen hl
   induction l with
   | nil=>rfl
   | cons x l ih=>rw[qBG,qA5,ih]; rfl
 have hp:∀ x∈l.map iT,x.1.length<1000000:=fun x hx=>by
   obtain ⟨y,hy,rfl⟩:=qCX.1 hx;exact (hl.path y hy).1
 obtain ⟨s,h1,h2,h3⟩:=rM (c:=qC) (key:=fun v:fq=>v) (cmp:=fun x y=>zcb x y) (xs:=l.map iT) hU (fun x hx y _=>acD (hp x hx)) (by rw[qBT]; omega)
 have hs:zao (l.map iT)=some ((),s,()):=by unfold zao; rw[h1]; rfl
 simp only[e];rw[hs];simp only[zb];rw[zI (by rw[h2.length_eq,qBT]; omega) (fun a b ha=>adO (hp a (h2.mem_iff.1 ha)))];simp only[zb];congr 1;unfold dD
 refine dP hU (key:=fun v:fq=>v) (rK hU (fun a b=>(hU.zero a b).1) _ s rfl h3) (gB hU _) fun x => ?_;rw[pH _ s rfl,kC hU];exact h2.mem_iff
theorem uX {l:List bB}{y:fq}:y∈dD l↔∃ x∈l,iT x=y:=by
 unfold dD;rw[kC hU,qCX]
structure OpOk (o:Op1):Prop where
 kind:1≤o.1∧o.1≤5
 path:fm o.2.1=0
 val:o.1≠3→o.1≠5→cY o.2.2.1=true
 noval:o.1=3∨o.1=5→o.2.2.1=zeroV
 num:o.1=3→o.2.2.2.1≠0∧o.2.2.2.1≤2147483647 ∧ -2147483647≤o.2.2.2.1
 nonum:o.1≠3→o.2.2.2.1=0
 noseen:o.1=2∨o.1=3→o.2.2.2.2.1=[]
 seen:o.2.2.2.2.1.length≤256∧ko o.2.2.2.2.1=true
theorem aAw {o:Op1} (h:opM o=0):OpOk o:=by
 unfold opM at h;by_cases a1:o.1<1∨5<o.1
 · rw[zp a1] at h; omega
 rw[zn a1] at h;by_cases a2:fm o.2.1≠0
 · rw[zp a2] at h; exact absurd h a2
 rw[zn a2] at h;by_cases a3:(o.1=3∨o.1=5)∧o.2.2.1≠zeroV
 · rw[zp a3] at h; omega
 rw[zn a3] at h;by_cases a4:¬ (o.1=3∨o.1=5)∧cY o.2.2.1=false
 · rw[zp a4] at h; omega
 rw[zn a4] at h;by_cases a5:o.1≠3∧o.2.2.2.1≠0
 · rw[zp a5] at h; omega
 rw[zn a5] at h;by_cases a6:o.1=3∧(o.2.2.2.1=0∨o.2.2.2.1>2147483647∨o.2.2.2.1 < -2147483647)
 · rw[zp a6] at h; omega
 rw[zn a6] at h;by_cases a7:(o.1=2∨o.1=3)∧0<o.2.2.2.2.1.length
 · rw[zp a7] at h; omega
 rw[zn a7] at h;by_cases a8:256<o.2.2.2.2.1.length
 · rw[zp a8] at h; omega
 rw[zn a8] at h;by_cases a9:ko o.2.2.2.2.1=true
 · refine ⟨by omega,qDG.1 a2,fun h1 h2 => ?_,fun h1 => ?_,fun h1 => ?_,fun h1 => ?_,fun h1 => ?_,by omega,a9⟩
   · cases hr:cY o.2.2.1 with
     | true=>rfl
     | false=>exact absurd ⟨by omega,hr⟩ a4
   · exact qDG.1 fun h2=>a3 ⟨h1,h2⟩
   · exact ⟨fun h2=>a6 ⟨h1,.inl h2⟩,Int.not_lt.1 fun h2=>a6 ⟨h1,.inr (.inl h2)⟩,Int.not_lt.1 fun h2=>a6 ⟨h1,.inr (.inr h2)⟩⟩
   · exact qDG.1 fun h2=>a5 ⟨h1,h2⟩
   · exact qCA.1 (by omega)
 · rw[zn a9] at h; omega
structure ItemsOk (l:List bB):Prop where
 len:l.length≤320
 op:∀ x∈l,OpOk x.2.1∧rO x.2.1∧fB x.2.1.1=true
theorem kG {l:List Txn1}{u:List Ref1} (h:TxnsOk l 20):ItemsOk (allM l u):=by
 constructor
 · have : (allM l u).length ≤ l.length * 16 := by
     unfold allM;refine xq fun t ht => ?_
     split
     · exact qCH mh (h.all t ht).len
     · simp
   have:=h.len; omega
 · intro x hx;obtain ⟨t,ht,j,o,ho,hk,_,_,rfl⟩:=ahe hx;obtain ⟨h1,h2⟩:=(h.all t ht).ops o ho;refine ⟨?_,h1,hk⟩;rcases h2 with h2 | ⟨_,h2⟩
   · exact aAw h2
   · unfold jP at h2;unfold fB at hk;simp only[decide_eq_true_eq] at h2 hk;omega
theorem mi {l:List bB} (h:ItemsOk l):LowI l:=⟨by have:=h.len; omega,fun x hx=>by
 have:=(h.op x hx).2.1;exact ⟨by have:=this.1; omega,fun s hs=>by have:=this.2.1 s hs; omega⟩⟩
theorem atOk {l:List bB}{p:Path}{k:Int} (h:ItemsOk l):ItemsOk (atM l p k):=⟨qCH (List.length_filter_le ..) h.len,fun x hx=>h.op x (qDL.1 hx).1⟩
theorem adM {k:Int} (h:fB k=true):uY k=k:=by
 unfold fB at h;simp only[decide_eq_true_eq] at h;unfold uY
 split
 · omega
 · split
   · omega
   · split<;>omega
theorem aeP {l:List bB}{p:Path}{k:Int} (h:ItemsOk l):∀ x∈atM l p k,x.2.1.1=k∧x.2.1.2.1=p:=fun x hx=>by
 obtain ⟨h1,h2⟩:=qDL.1 hx;unfold isAt at h2;simp only[k9,decide_eq_true_eq] at h2;exact ⟨by rw[← adM (h.op x h1).2.2]; exact h2.1,h2.2⟩
theorem apK {A:Type}{p q:List A}{y:A} (h:(p++q).length<1000000):insT (p++q) (p.length:Int) [y]=some (p++y::q):=by
 simp only[qAA] at h;unfold insT;rw[zp ⟨by omega,by simp only[qAA]; omega,by simp,by simp only[qAA,zl,qAP]; unfold most; omega⟩];simp
theorem yn (l:List Val):jv l=uniq cmpV l:=by
 refine dP fk (key:=fun v:Val=>v) (li l) (gB fk l) fun x => ?_;rw[lj,kC fk]
theorem rg {u:List Val}{d:Val} (hl:u.length<1000000) (hr:eU cmpV u):∀ (k i j:Nat),j-i≤k→i≤(loA cmpV d u).length→(loA cmpV d u).length≤j→j≤u.length →
   aK (nS u d) ((i:Int),(j:Int),())=some (.inl (((loA cmpV d u).length:Int),())):=by
 intro k
 induction k with
 | zero =>
   intro i j hk h1 h2 h3;refine aF ?_;unfold nS;simp only[ak];rw[zn (by omega),show (loA cmpV d u).length=i by omega]
 | succ k ih =>
   intro i j hk h1 h2 h3;by_cases hij:i<j
   · have hh:(i+j)/2<u.length:=by omega
     have turn:nS u d ((i:Int),(j:Int),())=if cmpV u[(i+j)/2] d<0 then some (.inl ((((i+j)/2+1:Nat):Int),(j:Int),())) else some (.inl ((i:Int),(((i+j)/2:Nat):Int),())):=by
       unfold nS;simp only[ak];rw[zp (by omega),show (i:Int)+(j:Int)=((i+j:Nat):Int) by omega,oP (by omega)];simp only[zb];rw[wrap64 (n:=(((i+j)/2:Nat):Int)) (by omega) (by omega),aO hh]
       simp only[zb,eS];rw[wrap64 (by omega) (by omega)]; rfl
     by_cases hn:(i+j)/2<(loA cmpV d u).length
     · rw[zp (ag9 (c:=cmpV) (key:=fun v:Val=>v) hh hn)] at turn;rw[aH turn];exact ih _ _ (by omega) (by omega) h2 h3
     · have:=aha fk (key:=fun v:Val=>v) hr hh (k:=d) (Nat.le_of_not_lt hn);rw[zn (by omega)] at turn;rw[aH turn];exact ih _ _ (by omega) h1 (by omega) (by omega)
   · refine aF ?_;unfold nS;simp only[ak];rw[zn (by omega),show (loA cmpV d u).length=i by omega]
def apM (q:List Val) (d:Val):Bool:=match q with
 | []=>false
 | x::_=>decide (cmpV x d=0)
theorem acx {u:List Val}{d:Val} (hl:u.length<1000000) (hr:eU cmpV u) :
   zac u d ()=some (((loA cmpV d u).length:Int),apM (hiA cmpV d u) d,()):=by
 have e2:loA cmpV d u++hiA cmpV d u=u:=adH;have hlen:(loA cmpV d u).length+(hiA cmpV d u).length=u.length:=by rw[← qAA,e2]
 unfold zac;have:=rg (d:=d) hl hr u.length 0 u.length (by omega) (by omega) (by omega) (by omega);rw[show ((0:Int),(u.length:Int),())=(((0:Nat):Int),(u.length:Int),()) from rfl,this,aB];simp only[ak]
 cases hq:hiA cmpV d u with
 | nil =>
   rw[hq] at hlen;simp only[qAP] at hlen;rw[zn (by omega)]; rfl
 | cons x q =>
   rw[hq] at hlen e2;simp only[zl] at hlen;rw[zp (by omega),gr];have e3:u[(loA cmpV d u).length]? = some x:=by
     have:(loA cmpV d u++x::q)[(loA cmpV d u).length]? = some x:=(by simp);rw[e2] at this;exact this
   rw[e3];simp only[zb,eS];rfl
def ag7 (l:List bB) (p:Path):List Val:=(atM l p 2).map fun x=>x.2.1.2.2.1
theorem vy {l:List bB}{p:Path} (hl:LowI l):zdq l p=some (jv (ag7 l p)):=by
 unfold zdq ag7;rw[at_t hl];have hlow:=(vA (p:=p) (leaf:=2) hl).len;generalize atM l p 2=q at hlow;simp only[zb]
 have loop:=bA (S:=List Val) (f:=vU q) (l:=q) (fun i o=>((i:Int),o,())) (fun _ x o=>.inl (putU cmpV o x.2.1.2.2.1)) (fun o=>o) (fun i o=>eU cmpV o∧o.length≤i) (fun i h o ho=>by
   refine .inl ⟨_,rfl,?_,ov fk ho.1,by have:=agp (c:=cmpV) (o:=o) (v:=q[i].2.1.2.2.1); have:=ho.2; omega⟩;have ho2:=ho.2;unfold vU;simp only[ak];rw[zp (by omega),aO h]
   simp only[zb,acx (show o.length<1000000 by omega) ho.1];rw[wrap64 (by omega) (by omega)];generalize q[i].2.1.2.2.1=v;have e:loA cmpV v o++hiA cmpV v o=o:=adH
   have ins:insT o ((loA cmpV v o).length:Int) [v]=some (loA cmpV v o++v::hiA cmpV v o):=by
     have:=apK (p:=loA cmpV v o) (q:=hiA cmpV v o) (y:=v) (by rw[e]; omega);rwa [e] at this
   unfold zay putU;cases hq:hiA cmpV v o with
   | nil =>
     rw[hq] at ins;simp only[apM,qBK,cond_true,ins,qAE,zb]; rfl
   | cons y r =>
     rw[hq] at ins;simp only[apM];by_cases h0:cmpV y v=0
     · rw[zt h0,qAU,cond_false,zp h0]; rfl
     · rw[zf h0,qBK,cond_true,zn h0,ins]; rfl) (fun o _=>by
   unfold vU;simp only[ak];rw[zn (by omega)]) [] ⟨List.Pairwise.nil,by simp⟩
 rw[show ((0:Int),([]:List Val),())=(((0:Nat):Int),[],()) from rfl,loop,cz,yn,← agk fk,List.foldl_map]
def sumI (q:List bB):Int:=q.foldl (fun n x=>n+x.2.1.2.2.2.1) 0
def acM (q:List bB):Prop:=∀ x∈q,-2147483647≤x.2.1.2.2.2.1∧x.2.1.2.2.2.1≤2147483647
theorem aDA {l:List bB}{p:Path} (hl:LowI l) (hn:acM (atM l p 3)):zee l p=some (sumI (atM l p 3)):=by
 unfold zee;rw[at_t hl];have hlow:=(vA (p:=p) (leaf:=3) hl).len;generalize atM l p 3=q at hlow hn;simp only[zb]
 have loop:=bA (S:=Int) (f:=vQ q) (l:=q) (fun i n=>(n,(i:Int),())) (fun _ x n=>.inl (n+x.2.1.2.2.2.1)) (fun n=>n) (fun i n => -2147483648*(i:Int)≤n∧n≤2147483648*(i:Int)) (fun i h n hb=>by
   have hx:=hn _ (zm h);refine .inl ⟨_,rfl,?_,by constructor<;>omega⟩;unfold vQ;simp only[ak];rw[zp (by omega),aO h];simp only[zb]
   rw[wrap64 (n:=(i:Int)+1) (by omega) (by omega),wrap64 (by omega) (by omega)]; rfl) (fun n _=>by
   unfold vQ;simp only[ak];rw[zn (by omega)]) 0 (by omega)
 rw[cz] at loop;exact loop
def entM (l:List bB) (p:Path) (k:Int):Ent:=(p,k,if k=1 then jv (wF l p) else if k=2 then jv (ag7 l p) else [],if k=3 then sumI (atM l p 3) else 0,())
theorem ady {l:List bB}{p:Path} (h:ItemsOk l):acM (atM l p 3):=fun x hx=>by
 have h1:=(aeP h x hx).1;have h2:=((atOk h).op x hx).1.num h1;omega
theorem ap6 {p:Path} (hp:p.length<1000000):zba p=some p:=by
 unfold zba dv;rw[zp (by simp only[most]; omega)]
theorem afW {l:List bB}{p:Path}{k:Int} (h:ItemsOk l) (hp:p.length<1000000):ze0 l p k=some (entM l p k):=by
 have hl:=mi h;unfold ze0 entM;rw[ap6 hp];simp only[zb,ak,uH hl,vy hl,aDA hl (ady h)];by_cases h1:k=1
 · rw[zp h1,zp h1,zn (by omega)]
 · rw[zn h1,zn h1];by_cases h2:k=2
   · rw[zp h2,zp h2,zn (by omega)]
   · rw[zn h2,zn h2];by_cases h3:k=3
     · rw[zp h3,zp h3]
     · rw[zn h3,zn h3]
def f0 (l:List bB):List Ent:=(dD l).map fun y=>entM l y.1 y.2.1
theorem cQ {A B:Type}{g:A→B}:∀ {l:List A},(l.flatMap fun x=>[g x])=l.map g
 | []=>rfl
 | x::l=>by rw[qBG,qA5,cQ]; rfl
theorem jK {l:List bB} (h:ItemsOk l) {y:fq} (hy:y∈dD l):y.1.length≤12∧∀ s∈y.1,s.length≤120:=by
 obtain ⟨x,hx,rfl⟩:=uX.1 hy;have:=(h.op x hx).2.1;exact ⟨this.1,this.2.1⟩
theorem oF {l:List bB} (h:ItemsOk l):(dD l).length≤320:=by
 have h1:=afZ (c:=qC) (l.map iT);rw[qBT] at h1;have:=h.len;unfold dD; omega
theorem nX {l:List bB}{p:Path}{k:Int} (h:ItemsOk l) (hk:k=1∨k=2):∀ v∈(atM l p k).map (fun x=>x.2.1.2.2.1),cY v=true:=fun v hv=>by
 obtain ⟨x,hx,rfl⟩:=qCX.1 hv;have h1:=(aeP h x hx).1;exact ((atOk h).op x hx).1.val (by omega) (by omega)
theorem lh {q:List Val} (hq:q.length≤320) (hr:∀ v∈q,cY v=true):(jv q).length≤400∧∀ v∈jv q,cY v=true:=by
 constructor
 · have:=rx q [];simp only[qAP,qAN] at this;unfold jv; omega
 · intro v hv;exact hr v ((lj q v).1 hv)
theorem ahK:∀ (q:List bB) (n:Int) (k:Nat),acM q→(-2147483647*(k:Int)≤n∧n≤2147483647*(k:Int)) → -2147483647*((k+q.length:Nat):Int)≤q.foldl (fun n x=>n+x.2.1.2.2.2.1) n∧q.foldl (fun n x=>n+x.2.1.2.2.2.1) n≤2147483647*((k+q.length:Nat):Int)
 | [],n,k,_,h=>h
 | x::q,n,k,hn,h=>by
   have hx:=hn x (qAL ..);rw[qBS,zl,show k+(q.length+1)=(k+1)+q.length by omega];exact ahK q _ (k+1) (fun y hy=>hn y (qAM _ hy)) (by omega)
theorem sY {l:List bB}{p:Path}{k:Int} (h:ItemsOk l) (hp:p.length≤12) (hs:∀ s∈p,s.length≤120):gU (entM l p k)∧inR (entM l p k).2.2.2.1:=by
 have hat:∀ k,(atM l p k).length≤320:=fun k=>(atOk h).len;refine ⟨⟨hp,hs,?_⟩,?_⟩
 · unfold entM;simp only;by_cases h1:k=1
   · rw[zp h1];exact lh (by simp only[wF,qBT]; exact hat 1) (nX h (.inl rfl))
   · rw[zn h1];by_cases h2:k=2
     · rw[zp h2];exact lh (by simp only[ag7,qBT]; exact hat 2) (nX h (.inr rfl))
     · rw[zn h2];exact ⟨by simp,fun v hv=>by cases hv⟩
 · unfold entM inR;simp only;have h1:=ahK (atM l p 3) 0 0 (ady h) (by simp);have:=hat 3;unfold sumI
   split<;>omega
theorem apU {l:List bB}{p:Path}{k:Int} (h:ItemsOk l) (hp:p.length≤12) (hs:∀ s∈p,s.length≤120):lowE (entM l p k):=by
 have:=(sY (k:=k) h hp hs).1;exact ⟨by have:=this.1; omega,by have:=this.2.2.1; omega⟩
theorem wD {l:List bB}{e:Ent} (h:e∈f0 l):∃ y∈dD l,e=entM l y.1 y.2.1:=by
 obtain ⟨y,hy,rfl⟩:=qCX.1 h;exact ⟨y,hy,rfl⟩
theorem gA {l:List bB} (h:ItemsOk l):∀ e∈f0 l,gU e∧inR e.2.2.2.1:=fun e he=>by
 obtain ⟨y,hy,rfl⟩:=wD he;have:=jK h hy;exact sY h this.1 this.2
theorem afV {l:List bB} (h:ItemsOk l):(f0 l).length≤320:=by unfold f0; rw[qBT]; exact oF h
theorem pA {l m:List Ent} (hl:l.length<1000000) (hs:∀ e∈l,lowE e):zem l m=some (decide (l=m)):=by
 unfold zem zaa;by_cases hlen:l.length=m.length
 · rw[zt (by omega)];simp only[qAU,cond_false];have:=iQ (f:=kX l m) (l:=l) (m:=m) (fun i=>((i:Int),())) (fun x y=>decide (x=y)) true false hlen (fun i h h'=>by
     unfold kX;simp only[ak];rw[zp (by omega),aO h,aO h'];simp only[zb,nU (hs _ (zm h)),bd];rw[wrap64 (by omega) (by omega)];by_cases e:l[i]=m[i]
     · rw[zp e,zp (zt e)]; rfl
     · rw[zn e,zn (by simpa using e)]) (by
     unfold kX;simp only[ak];rw[zn (by omega)])
   rw[jm,ite_bool] at this;rw[show ((0:Int),())=(((0:Nat):Int),()) from rfl,this]; rfl
 · rw[zf (by omega)];have:l≠m:=fun e=>hlen (by rw[e]);rw[zf this]; rfl
theorem aev {l:List Txn1}{u v:List Ref1} (h:∀ t∈l,cT u t.1=cT v t.1) (x:Ref1):covM l u x=covM l v x:=by
 unfold covM
 induction l with
 | nil=>rfl
 | cons t l ih =>
   rw[List.any_cons,List.any_cons,h t (qAL ..),ih fun t' ht=>h t' (qAM _ ht)]
theorem aeV {l:List Txn1}{u v:List Ref1} (h:∀ t∈l,cT u t.1=cT v t.1):allM l u=allM l v:=by
 have hc:covM l u=covM l v:=funext (aev h);unfold allM;rw[hc];exact xp fun t ht=>by rw[h t ht]
def NS (G:Prop) {A:Type} (o:Option A) (b:A):Prop:=o=some b∨¬ G∧o=none
theorem NS.bind {G:Prop}{A B:Type}{o:Option A}{a:A}{f:A→Option B}{b:B} (h:NS G o a) (hf:NS G (f a) b):NS G (o.bind f) b:=by
 rcases h with h | ⟨h1,h2⟩
 · rw[h,zb]; exact hf
 · exact .inr ⟨h1,by rw[h2]; rfl⟩
abbrev loE:Path×Int→List Ent→List Ent:=lo cmpK keyE
abbrev hiE:Path×Int→List Ent→List Ent:=hi cmpK keyE
abbrev rJ:List Ent→Chg→List Ent⊕Int:=kl cmpK keyE
abbrev xL:List Ent→List Chg→List Ent×Int×Unit:=gt cmpK keyE
abbrev lI:List Ent→Prop:=dX cmpK keyE
def seen (q:List Ent) (k:Path×Int):Bool:=match q with
 | x::_=>decide (cmpK (keyE x) k=0)
 | []=>false
theorem uB {l:List Ent}{e:Ent} (hl:l.length<1000000) (hr:lI l) (hs:∀ x∈l,lowE x):∀ (k i j:Nat),j-i≤k→i≤(loE (keyE e) l).length→(loE (keyE e) l).length≤j→j≤l.length →
   aK (nT l e) ((i:Int),(j:Int),())=some (.inl (((loE (keyE e) l).length:Int),())):=by
 intro k
 induction k with
 | zero =>
   intro i j hk h1 h2 h3;refine aF ?_;unfold nT;simp only[ak];rw[zn (by omega),show (loE (keyE e) l).length=i by omega]
 | succ k ih =>
   intro i j hk h1 h2 h3;by_cases hij:i<j
   · have hh:(i+j)/2<l.length:=by omega
     have turn:nT l e ((i:Int),(j:Int),())=if cmpK (keyE l[(i+j)/2]) (keyE e)<0 then some (.inl ((((i+j)/2+1:Nat):Int),(j:Int),())) else some (.inl ((i:Int),(((i+j)/2:Nat):Int),())):=by
       unfold nT;simp only[ak];rw[zp (by omega),show (i:Int)+(j:Int)=((i+j:Nat):Int) by omega,oP (by omega)];simp only[zb];rw[wrap64 (n:=(((i+j)/2:Nat):Int)) (by omega) (by omega),aO hh]
       simp only[zb,b9 (hs _ (zm hh)).1];rw[wrap64 (by omega) (by omega)]; rfl
     by_cases hn:(i+j)/2<(loE (keyE e) l).length
     · rw[zp (ag9 hh hn)] at turn;rw[aH turn];exact ih _ _ (by omega) (by omega) h2 h3
     · have:=aha tu hr hh (k:=keyE e) (Nat.le_of_not_lt hn);rw[zn (by omega)] at turn;rw[aH turn];exact ih _ _ (by omega) h1 (by omega) (by omega)
   · refine aF ?_;unfold nT;simp only[ak];rw[zn (by omega),show (loE (keyE e) l).length=i by omega]
theorem aga {l:List Ent}{e:Ent} (hl:l.length<1000000) (hr:lI l) (hs:∀ x∈l,lowE x) :
   zab l e ()=some (((loE (keyE e) l).length:Int),seen (hiE (keyE e) l) (keyE e),()):=by
 have e2:loE (keyE e) l++hiE (keyE e) l=l:=lohi;have hlen:(loE (keyE e) l).length+(hiE (keyE e) l).length=l.length:=by rw[← qAA,e2]
 unfold zab;have:=uB (e:=e) hl hr hs l.length 0 l.length (by omega) (by omega) (by omega) (by omega);rw[show ((0:Int),(l.length:Int),())=(((0:Nat):Int),(l.length:Int),()) from rfl,this,aB]
 simp only[ak];cases hq:hiE (keyE e) l with
 | nil =>
   rw[hq] at hlen;simp only[qAP] at hlen;rw[zn (by omega)]; rfl
 | cons x q =>
   rw[hq] at hlen e2;simp only[zl] at hlen;rw[zp (by omega),gr];have e3:l[(loE (keyE e) l).length]? = some x:=by
     have:(loE (keyE e) l++x::q)[(loE (keyE e) l).length]? = some x:=(by simp);rw[e2] at this;exact this
   rw[e3];have hx:lowE x:=hs x (by rw[← e2]; simp);simp only[zb,b9 hx.1];rfl
theorem apC (c:Chg):zbm c=some (fF c):=by
 unfold zbm fF;simp only[ak];by_cases h:c.1=1
 · rw[zp h,zp h]
 · rw[zn h,zn h]
theorem ahT {p q:List Ent}{y:Ent} (h:(p++q).length<1000000):insT (p++q) (p.length:Int) [y]=some (p++y::q):=by
 simp only[qAA] at h;unfold insT;rw[zp ⟨by omega,by simp only[qAA]; omega,by simp,by simp only[qAA,zl,qAP]; unfold most; omega⟩];simp
theorem aAO {p q:List Ent}{x:Ent} (h:(p++x::q).length<1000000):delT (p++x::q) (p.length:Int) (IntKind.wrap .i64 ((p.length:Int)+1))=some (p++q):=by
 simp only[qAA,zl] at h;rw[wrap64 (by omega) (by omega)];unfold delT;rw[zp ⟨by omega,by omega,by simp only[qAA,zl]; omega⟩]
 have:((p.length:Int)+1).toNat=p.length+1:=by omega
 rw[this];simp
theorem wZ {p q:List Ent}{x:Ent}:inI (p++x::q).length (p.length:Int)=some p.length∧(p++x::q)[p.length]? = some x:=by
 refine ⟨bU (by simp),by simp⟩
def endE {A:Type} (f:List Ent→A):List Ent⊕Int→A⊕(List Ent×Int×Unit)
 | .inl l=>.inl (f l)
 | .inr e=>.inr ([],e,())
theorem ado {cs:List Chg}{i:Nat}{l:List Ent} (hi:i<cs.length) (hcs:cs.length<1000000) (hl:l.length<1000000) (hs:∀ x∈l,lowE x) (hr:lI l) (hd:lowC cs[i]) :
   qU cs ((i:Int),l,())=some (endE (fun l'=>(((i+1:Nat):Int),l',())) (rJ l cs[i])):=by
 have w1:IntKind.wrap .i64 ((i:Int)+1)=((i+1:Nat):Int):=by rw[wrap64 (by omega) (by omega)]; rfl
 unfold qU;simp only[ak];rw[zp (by omega),aO hi];simp only[zb,apC,aga hl hr hs,w1];generalize cs[i]=d at *;unfold rJ kl;have e:loE (keyE (fF d)) l++hiE (keyE (fF d)) l=l:=lohi
 generalize hk:keyE (fF d)=k at *;show _=some (endE _ (lQ cmpK keyE l d (loE k l) (hiE k l)));generalize loE k l=p at *;generalize hiE k l=q at *;subst e;obtain ⟨n,w,y,⟨⟩⟩:=d;simp only
 have hw:lowE w:=hd.1;have hy:lowE y:=hd.2;unfold lQ;dsimp only;by_cases h1:n<1
 · rw[zp h1,zp (.inl h1)]; rfl
 rw[zn h1];by_cases h3:n>3
 · rw[zp h3,zp (.inr h3)]; rfl
 rw[zn h3,zn (show ¬ (n<1∨n>3) by omega)];by_cases hn:n=1
 · subst hn;rw[show fF ((1,w,y,()):Chg)=y from rfl] at hk;subst hk;cases q with
   | nil =>
     simp only[seen,decide_true,qAU,beq_self_eq_true,cond_false,if_true];rw[zn (by decide)];simp only[aB,cN,if_true,ed hy,zb,zav];rw[ahT hl]; rfl
   | cons x q =>
     simp only[seen];by_cases h0:cmpK (keyE x) (keyE y)=0
     · simp[h0,endE]
     · simp only[h0,decide_false,decide_true,qAU,beq_self_eq_true,cond_false,if_true];rw[zn (by decide)];simp only[aB,cN,if_true,ed hy,zb,zav];rw[ahT hl]; rfl
 · rw[show fF ((n,w,y,()):Chg)=w from zn hn] at hk;subst hk;rw[zn hn];cases q with
   | nil =>
     simp only[seen,zf hn];rfl
   | cons x q =>
     have hx:lowE x:=hs x (by simp);simp only[seen,zf hn,qBK];by_cases h0:cmpK (keyE x) (keyE w)=0
     · rw[zt h0];simp only[beq_self_eq_true,qAU,cond_false,cond_true,wZ.1,wZ.2,zb,j9 hx,bd];by_cases hxw:x=w
       · rw[zp hxw,zp hxw];by_cases h3:n=3
         · rw[zp h3,zp h3,b9 hw.1];simp only[zb,bd];by_cases h4:cmpK (keyE w) (keyE y)=0
           · rw[zp h4,zp h4];simp only[zb,cN];rw[zn hn,zn (by omega),ed hy];simp only[zb,wZ.1,wZ.2];simp[endE]
           · rw[zn h4,zn h4]; rfl
         · rw[zn h3,zn h3];simp only[zb,cN];rw[zn hn,zp (by omega)];simp only[zau];rw[aAO hl]; rfl
       · rw[zn hxw,zn hxw]; rfl
     · have hxw:x≠w:=fun e=>h0 (by rw[e]; exact (tu.zero _ _).2 rfl);rw[zf h0,zn hxw];rfl
theorem pa:∀ (cs:List Chg) (i:Nat) (l:List Ent),eL (fun _ d l=>endE (fun l=>l) (rJ l d)) (fun l=>(l,0,())) i cs l=xL l cs
 | [],_,l=>rfl
 | d::cs,i,l=>by
   unfold xL;rw[gt];simp only[eL];have e:kl cmpK keyE l d=rJ l d:=rfl;rw[e];cases h:rJ l d with
   | inl l'=>exact pa cs (i+1) l'
   | inr e=>rfl
theorem zN {A:Type}{f:A→Option (A⊕(List Ent×Int×Unit))}{enc:Nat→List Ent→A}{cs:List Chg}{l:List Ent}{P:Ent→Prop} (hs:∀ x∈l,P x) (hr:lI l) (hd:∀ d∈cs,P d.2.2.1)
   (hturn:∀ (i:Nat) (h:i<cs.length) (s:List Ent),s.length≤l.length+i→(∀ x∈s,P x)→lI s→f (enc i s)=some (endE (fun l'=>enc (i+1) l') (rJ s cs[i])))
   (hend:∀ s,f (enc cs.length s)=some (.inr (s,0,()))):aK f (enc 0 l)=some (xL l cs):=by
 have:=bA (f:=f) (l:=cs) (S:=List Ent) enc (fun _ d l=>endE (fun l=>l) (rJ l d)) (fun l=>(l,0,())) (fun i s=>s.length≤l.length+i∧(∀ x∈s,P x)∧lI s) (fun i hi s ⟨h1,h2,h3⟩=>by
   have hc:=hd _ (zm hi);have t:=hturn i hi s h1 h2 h3;cases h:rJ s cs[i] with
   | inl l' =>
     rw[h] at t;have k:=yu tu h3 h;exact .inl ⟨l',rfl,t,by omega,fun x hx=>by
       rcases k.2.2 x hx with h | rfl
       · exact h2 x h
       · exact hc,k.1⟩
   | inr e =>
     rw[h] at t;exact .inr ⟨_,rfl,t⟩) (fun s _=>hend s) l ⟨by omega,hs,hr⟩
 rw[pa] at this;exact this
theorem aqd {cs:List Chg}{l:List Ent} (hcs:cs.length<1000) (hl:l.length<1000) (hs:∀ x∈l,lowE x) (hr:lI l) (hd:∀ d∈cs,lowC d):zcc l cs=some (xL l cs):=by
 have:=zN (f:=qU cs) (enc:=fun i l=>((i:Int),l,())) hs hr (fun d h=>(hd d h).2) (fun i hi s h1 h2 h3=>ado hi (by omega) (by omega) h2 h3 (hd _ (zm hi))) (fun s=>by
   unfold qU;simp only[ak];rw[zn (by omega)])
 unfold zcc zaw dv;rw[zp (by unfold most; omega)];exact this
theorem aAQ {a b:List Ent} (sa:∀ e∈a,lowE e) (sb:∀ e∈b,lowE e):∀ c∈dM a b,lowC c:=fun c hc=>by
 obtain ⟨h1,h2⟩:=ahW _ a b (qAD _) c hc;refine ⟨?_,?_⟩
 · rcases h1 with h1 | h1
   · exact sa _ h1
   · rw[h1]; exact qP.1
 · rcases h2 with h2 | h2
   · exact sb _ h2
   · rw[h2]; exact qP.1
theorem aqe {a b:List Ent} (la:a.length<400) (lb:b.length<400) (sa:∀ e∈a,lowE e) (sb:∀ e∈b,lowE e) (ra:lI a) (rb:lI b):zcc a (dM a b)=some (b,0,()):=by
 have hlen:=ahX _ a b (qAD _);rw[aqd (by omega) (by omega) sa ra (aAQ sa sb)];exact congrArg some (zO tu (z:=kj) _ [] a b (qAD _) ra rb)
theorem aeO (a b:List Ent):(dM a b).map nG=dM b a:=aeN tu (z:=kj) _ a b (qAD _)
structure VOk (v:List Ent):Prop where
 len:v.length≤320
 easy:∀ e∈v,aAM e
 rise:lI v
theorem VOk.low {v:List Ent} (h:VOk v):∀ e∈v,lowE e:=fun e he=>(h.easy e he).1
abbrev W1:=Path×List Ent×Int×Unit
theorem apY {a b:List Ent} (ha:VOk a) (hb:VOk b):zc9 a b=some (dM a b):=aAN (by have:=ha.len; have:=hb.len; omega) ha.low hb.low
theorem ahZ {a b:List Ent} (ha:VOk a) (hb:VOk b):(dM a b).length≤640:=by
 have:=ahX _ a b (qAD _);have:=ha.len;have:=hb.len;omega
theorem ac6:ko []=true:=by
 unfold ko;rw[zp (by intro i h; simp at h)]
theorem aAs {a:UInt8} (h:a.toNat<128):ct [a]=some [(a.toNat:Int)]:=by
 have hc:aL [a]=((a.toNat:Int),1):=by simp only[aL]; rw[zp h]
 rw[fA (by simp) (by rw[hc]; simp),hc];show (ct []).map _=_;rw[gE]; rfl
theorem aDG {a:UInt8} (h:a.toNat<128) (hm:mayM (a.toNat:Int)=true):uT [a]=true:=by
 unfold uT;rw[aAs h];simp[hm]
theorem aeD:fm [[97]]=0:=by
 unfold fm;simp[aDG (a:=97) (by decide) (by decide)]
theorem aAu {p:Path} (h:fm p=0):opM (1,p,(1,1,[],()),0,[],())=0:=by
 unfold opM;simp[h,cY,ac6]
theorem kx {l:List bB} (h:ItemsOk l):zew l=some (f0 l):=by
 have hlen:=oF h;unfold zew;rw[agD (mi h)];simp only[zb]
 have this:=fE (f:=vJ l (dD l)) (l:=dD l) (fun i o=>((i:Int),o,())) (fun y=>[entM l y.1 y.2.1]) (fun o=>o) 1 (fun x _=>qAD _) (fun i hi o ho=>by
   have hs:=jK h (zm hi);unfold vJ;simp only[ak];rw[zp (by omega),aO hi];simp only[zb,afW h (show (dD l)[i].1.length<1000000 by omega)]
   rw[wrap64 (by omega) (by omega),aX (by simp; omega)]; rfl) (fun o _=>by
   unfold vJ;simp only[ak];rw[zn (by omega)])
 rw[show ((0:Int),([]:List Ent),())=(((0:Nat):Int),[],()) from rfl,this,cQ];rfl
abbrev nH:=List Int×List Dot1×Unit
abbrev St1:=List Txn1×List Ref1×nH×nH×List (List Dot1)×Unit
abbrev Dl1:=List Txn1×List Ref1×List Dot1×Unit
abbrev aDJ:=Int×Txn1×Int×Ref1×Int×Dl1×St1×Unit
theorem cM {A R S:Type}{f:A→Option (A⊕R)} (n:Nat) (enc:Nat→S→A) (inv:Nat→S→Prop) (Q:R→Prop)
   (hturn:∀ i s,i<n→inv i s→(∃ s',f (enc i s)=some (.inl (enc (i+1) s'))∧inv (i+1) s')∨(∃ r,f (enc i s)=some (.inr r)∧Q r))
   (hend:∀ s,inv n s→∃ r,f (enc n s)=some (.inr r)∧Q r):∀ s,inv 0 s→∃ r,aK f (enc 0 s)=some r∧Q r:=by
 have key:∀ (k i:Nat) (s:S),n-i≤k→i≤n→inv i s→∃ r,aK f (enc i s)=some r∧Q r:=by
   intro k
   induction k with
   | zero =>
     intro i s hk hi hv;have:i=n:=(by omega);subst this;obtain ⟨r,h1,h2⟩:=hend s hv;exact ⟨r,aF h1,h2⟩
   | succ k ih =>
     intro i s hk hi hv;by_cases hlt:i<n
     · rcases hturn i s hlt hv with ⟨s',h1,h2⟩ | ⟨r,h1,h2⟩
       · obtain ⟨r,h3,h4⟩:=ih (i+1) s' (by omega) (by omega) h2;exact ⟨r,(aH h1).trans h3,h4⟩
       · exact ⟨r,aF h1,h2⟩
     · have:i=n:=(by omega);subst this;obtain ⟨r,h1,h2⟩:=hend s hv;exact ⟨r,aF h1,h2⟩
 exact fun s hv=>key n 0 s (by omega) (by omega) hv
theorem ap7 {R:Type}{f:Int×Int×Unit→Option ((Int×Int×Unit)⊕((Int×Unit)⊕R))} (c:Nat→Bool) (n:Nat)
   (hturn:∀ i j:Nat,i<j→j≤n→f ((i:Int),(j:Int),())=some (.inl (if c ((i+j)/2)=true then ((((i+j)/2+1:Nat):Int),(j:Int),()) else ((i:Int),(((i+j)/2:Nat):Int),()))))
   (hend:∀ i:Nat,f ((i:Int),(i:Int),())=some (.inr (.inl ((i:Int),())))) :
   ∃ k:Nat,k≤n∧aK f ((0:Int),(n:Int),())=some (.inl ((k:Int),())):=by
 have key:∀ (q i j:Nat),j-i≤q→i≤j→j≤n→∃ k:Nat,k≤n∧aK f ((i:Int),(j:Int),())=some (.inl ((k:Int),())):=by
   intro q
   induction q with
   | zero =>
     intro i j h1 h2 h3;have:i=j:=(by omega);subst this;exact ⟨i,h3,aF (hend i)⟩
   | succ q ih =>
     intro i j h1 h2 h3;by_cases hij:i<j
     · have ht:=hturn i j hij h3;by_cases hc:c ((i+j)/2)=true
       · rw[zp hc] at ht;obtain ⟨k,k1,k2⟩:=ih ((i+j)/2+1) j (by omega) (by omega) h3;exact ⟨k,k1,(aH ht).trans k2⟩
       · rw[zn hc] at ht;obtain ⟨k,k1,k2⟩:=ih i ((i+j)/2) (by omega) (by omega) (by omega);exact ⟨k,k1,(aH ht).trans k2⟩
     · have:i=j:=(by omega);subst this;exact ⟨i,h3,aF (hend i)⟩
 exact key n 0 n (by omega) (by omega) (qAD _)
theorem fj (d:Dot1):zd6 d=some (bc d):=by
 unfold zd6 bc;simp only[ak];by_cases h1:d.1≥0<;>by_cases h2:d.1<16<;>by_cases h3:d.2.1≥1<;>by_cases h4:d.2.1≤1048576<;>simp[h1,h2,h3,h4]<;>omega
theorem gH {d:Dot1} (h:bc d=true):∃ k:Nat,k<16∧d.1=(k:Int)∧inI 16 d.1=some k:=by
 unfold bc at h;simp only[decide_eq_true_eq] at h;refine ⟨d.1.toNat,by omega,by omega,?_⟩;unfold inI;rw[zp (by omega)]
theorem afX {v:List Int}{d:Dot1} (hv:v.length=16):∃ b,zez v d=some b:=by
 unfold zez;rw[fj];simp only[zb];cases h:bc d with
 | false=>exact ⟨_,rfl⟩
 | true =>
   obtain ⟨k,h1,h2,h3⟩:=gH h;rw[cond_true,h3];simp only[zb];rw[zg (by omega)];exact ⟨_,rfl⟩
theorem mC {l:List Dot1}{d:Dot1} (hl:l.length<1000000) :
   ∃ k:Nat,k≤l.length∧∃ b,zae l d ()=some ((k:Int),b,())∧(b=true→∃ x∈l,x=d):=by
 obtain ⟨k,h1,h2⟩:=ap7 (f:=wB l d) (fun m=>match l[m]? with | some x=>decide (cmpD x d<0) | none=>false) l.length (fun i j hij hj=>by
   have hh:(i+j)/2<l.length:=by omega
   unfold wB;simp only[ak];rw[zp (by omega),show (i:Int)+(j:Int)=((i+j:Nat):Int) by omega,oP (by omega)];simp only[zb];rw[wrap64 (n:=(((i+j)/2:Nat):Int)) (by omega) (by omega),aO hh]
   simp only[zb,mD,zg hh,decide_eq_true_eq];rw[wrap64 (by omega) (by omega)];by_cases hc:cmpD l[(i+j)/2] d<0
   · rw[zp hc,zp hc]; rfl
   · rw[zn hc,zn hc]) (fun i=>by
   unfold wB;simp only[ak];rw[zn (by omega)])
 refine ⟨k,h1,?_⟩;unfold zae;rw[h2,aB];simp only[ak];by_cases hk:k<l.length
 · rw[zp (by omega),aO hk];simp only[zb,mD];exact ⟨_,rfl,fun h=>⟨_,zm hk,(cZ.zero _ _).1 (of_decide_eq_true h)⟩⟩
 · rw[zn (by omega)];exact ⟨_,rfl,fun h=>by cases h⟩
theorem ta {s:nH}{d:Dot1} (hv:s.1.length=16) (hm:s.2.1.length<1000000):∃ b,zes s d=some b:=by
 obtain ⟨b,hb⟩:=afX (d:=d) hv;obtain ⟨k,_,c,hc,_⟩:=mC (d:=d) hm;unfold zes;rw[hb,hc];simp only[zb];cases b<;>exact ⟨_,rfl⟩
structure DOk (s:nH) (n:Nat):Prop where
 vec:s.1.length=16
 len:s.2.1.length≤n
 right:∀ d∈s.2.1,bc d=true
theorem aAD {v:List Int}{l:List Dot1} (hv:v.length=16) (hl:l.length<1000000) (hr:∀ d∈l,bc d=true):∃ s,zei v l=some s∧DOk s l.length:=by
 unfold zei
 refine cM (S:=List Int×List Dot1) (f:=vP l) l.length (fun i s=>((i:Int),([0,0,0,0,0,0,0,0,0,0,0,0,0,0,0,0],(),()),(s.1,(),()),s.2,())) (fun i s=>s.1.length=16∧s.2.length≤i∧∀ d∈s.2,bc d=true) (fun s=>DOk s l.length) (fun i s hi hs => ?_) (fun s hs => ?_) (v,[]) ⟨hv,by simp,fun d hd=>by cases hd⟩
 · obtain ⟨w,m⟩:=s;obtain ⟨s1,s2,s3⟩:=hs;have hx:=hr _ (zm hi);obtain ⟨k,k1,k2,k3⟩:=gH hx;have k4:k<w.length:=by simp only at s1; omega
   have push:(∀ d∈m++[l[i]],bc d=true):=fun d hd=>by
     rcases qA9.1 hd with h | h
     · exact s3 d h
     · rw[qA2.1 h]; exact hx
   simp only at s1 s2 s3;have room:bY (m.length+[l[i]].length)=some ():=aX (by simp; omega);refine .inl ?_;unfold vP;simp only[ak];rw[zp (by omega),aO hi];simp only[zb,k3];rw[zg k4];simp only[zb]
   rw[wrap64 (n:=(i:Int)+1) (by omega) (by omega)];by_cases c1:l[i].2.1≤w[k]
   · rw[zp c1]; exact ⟨(w,m),rfl,s1,by simp only; omega,s3⟩
   rw[zn c1];by_cases c2:l[i].2.1=IntKind.wrap .i64 (w[k]+1)
   · rw[zp c2]; exact ⟨(w.set k l[i].2.1,m),rfl,by simp only[qCY]; exact s1,by simp only; omega,s3⟩
   rw[zn c2];by_cases c3:(m.length:Int)=0
   · rw[zp c3,room]; exact ⟨(w,m++[l[i]]),rfl,s1,by simp; omega,push⟩
   rw[zn c3,wrap64 (by omega) (by omega),show (m.length:Int)-1=((m.length-1:Nat):Int) by omega,bU (by omega)];simp only[zb];rw[zg (by omega)];simp only[zb,mA,bd]
   by_cases c4:m[m.length-1]'(by omega)=l[i]
   · rw[zp c4]; exact ⟨(w,m),rfl,s1,by simp only; omega,s3⟩
   · rw[zn c4,room]; exact ⟨(w,m++[l[i]]),rfl,s1,by simp; omega,push⟩
 · unfold vP;simp only[ak];rw[zn (by omega)];exact ⟨_,rfl,hs.1,hs.2.1,hs.2.2⟩
theorem ael {s:nH}{d:Dot1}{n:Nat} (hs:DOk s n) (hn:n<100000):∃ t,zet s d=some t∧DOk t (n+1):=by
 unfold zet;rw[fj];simp only[zb];have up:DOk s (n+1):=⟨hs.vec,qCH hs.len (by omega),hs.right⟩;cases h:bc d with
 | false=>exact ⟨s,rfl,up⟩
 | true =>
   have hl:=hs.len;obtain ⟨b,hb⟩:=ta (d:=d) hs.vec (by omega);rw[qAU,cond_false,hb];simp only[zb];cases b with
   | true=>exact ⟨s,rfl,up⟩
   | false =>
     obtain ⟨k,k1,c,hc,_⟩:=mC (l:=s.2.1) (d:=d) (by omega);rw[cond_false,hc];simp only[zb];have e1:za9 s.2.1=some s.2.1:=by
       unfold za9 dv;rw[zp (by simp only[most]; omega)]
     have e2:zaz (k:Int) [d] s.2.1=some (s.2.1.take k++[d]++s.2.1.drop k,()):=by
       unfold zaz za5 insT;rw[zp ⟨by omega,by omega,by simp,by simp only[most,qCO]; omega⟩];simp
     rw[e1];simp only[zb];rw[e2];simp only[zb];have hlen:(s.2.1.take k++[d]++s.2.1.drop k).length=s.2.1.length+1:=by simp; omega
     obtain ⟨t,t1,t2⟩:=aAD (v:=s.1) (l:=s.2.1.take k++[d]++s.2.1.drop k) hs.vec (by omega) (fun x hx=>by
       rcases qA9.1 hx with hx | hx
       · rcases qA9.1 hx with hx | hx
         · exact hs.right x (List.mem_of_mem_take hx)
         · rw[qA2.1 hx]; exact h
       · exact hs.right x (List.mem_of_mem_drop hx))
     rw[t1];exact ⟨t,rfl,t2.vec,by have:=t2.len; omega,t2.right⟩
theorem xu {s:nH}{n:Nat} (hs:DOk s n) (hn:n<100000):∃ t,zca s=some t∧DOk t n:=by
 have hl:=hs.len;unfold zca
 refine cM (S:=List Int×List Dot1) (f:=wl s) s.2.1.length (fun i t=>((i:Int),([0,0,0,0,0,0,0,0,0,0,0,0,0,0,0,0],(),()),(t.1,(),()),t.2,())) (fun i t=>t.1.length=16∧t.2.length≤i∧∀ d∈t.2,bc d=true) (fun t=>DOk t n) (fun i t hi ht => ?_) (fun t ht => ?_) (s.1,[]) ⟨hs.vec,by simp,fun d hd=>by cases hd⟩
 · obtain ⟨w,m⟩:=t;obtain ⟨s1,s2,s3⟩:=ht;have hx:=hs.right _ (zm hi);obtain ⟨k,k1,k2,k3⟩:=gH hx;have k4:k<w.length:=by simp only at s1; omega
   have push:(∀ d∈m++[s.2.1[i]],bc d=true):=fun d hd=>by
     rcases qA9.1 hd with h | h
     · exact s3 d h
     · rw[qA2.1 h]; exact hx
   simp only at s1 s2 s3;have room:bY (m.length+[s.2.1[i]].length)=some ():=aX (by simp; omega);refine .inl ?_;unfold wl;simp only[ak];rw[zp (by omega),aO hi];simp only[zb,k3];rw[zg k4];simp only[zb]
   rw[wrap64 (n:=(i:Int)+1) (by omega) (by omega)];by_cases c2:s.2.1[i].2.1=IntKind.wrap .i64 (w[k]+1)
   · rw[zp c2]; exact ⟨(w.set k s.2.1[i].2.1,m),rfl,by simp only[qCY]; exact s1,by simp only; omega,s3⟩
   rw[zn c2];by_cases c3:s.2.1[i].2.1>w[k]
   · rw[zp c3,room]; exact ⟨(w,m++[s.2.1[i]]),rfl,s1,by simp; omega,push⟩
   · rw[zn c3]; exact ⟨(w,m),rfl,s1,by simp only; omega,s3⟩
 · unfold wl;simp only[ak];rw[zn (by omega)];exact ⟨_,rfl,ht.1,by have:=ht.2.1; simp only; omega,ht.2.2⟩
theorem apP {v:List Int}{d:Dot1} (hv:v.length=16):∃ b,zd5 v d=some b:=by
 unfold zd5;rw[dA];simp only[zb];cases h:bc d with
 | false=>exact ⟨_,rfl⟩
 | true =>
   obtain ⟨k,h1,h2,h3⟩:=gH h;rw[cond_true,h3];simp only[zb];rw[zg (by omega)];exact ⟨_,rfl⟩
theorem apO {s:nH}{d:Dot1} (hv:s.1.length=16) (hm:s.2.1.length<1000000):∃ b,zek s d=some b:=by
 obtain ⟨b,hb⟩:=apP (d:=d) hv;unfold zek;rw[hb];simp only[zb];cases b with
 | true=>exact ⟨_,rfl⟩
 | false =>
   obtain ⟨r,hr,_⟩:=cM (S:=Unit) (f:=vO s d) s.2.1.length (fun i _=>((i:Int),())) (fun _ _=>True) (fun _=>True) (fun i _ hi _=>by
     unfold vO;simp only[ak,mA];rw[zp (by omega),aO hi];simp only[zb];rw[wrap64 (by omega) (by omega)];by_cases c:s.2.1[i]=d
     · rw[zp c]; exact .inr ⟨_,rfl,trivial⟩
     · rw[zn c]; exact .inl ⟨(),rfl,trivial⟩) (fun _ _=>by
     unfold vO;simp only[ak];rw[zn (by omega)];exact ⟨_,rfl,trivial⟩) () trivial
   exact ⟨r,hr⟩
theorem apk {s:nH}{d:Dot1}{n:Nat} (hs:DOk s n) (hn:n<10000):∃ t,zd1 s d=some t∧DOk t (n+1):=by
 have hl:=hs.len;have up:DOk s (n+1):=⟨hs.vec,by omega,hs.right⟩;unfold zd1;rw[dA];simp only[zb];cases h:bc d with
 | false=>exact ⟨s,rfl,up⟩
 | true =>
   obtain ⟨b,hb⟩:=apO (d:=d) hs.vec (show s.2.1.length<1000000 by omega);rw[qAU,cond_false,hb];simp only[zb];cases b with
   | true=>exact ⟨s,rfl,up⟩
   | false =>
     rw[cond_false]
     obtain ⟨r,h1,laid,l,rfl,h2,h3⟩:=cM (S:=Bool×List Dot1) (f:=we s d) s.2.1.length (fun i t=>(t.1,(i:Int),([0,0,0,0,0,0,0,0,0,0,0,0,0,0,0,0],(),()),t.2,())) (fun i t=>(t.2.length=i+(if t.1=true then 1 else 0))∧∀ x∈t.2,bc x=true) (fun r=>∃ laid l,r = .inl (laid,([0,0,0,0,0,0,0,0,0,0,0,0,0,0,0,0],(),()),l,())∧(l.length=s.2.1.length+(if laid=true then 1 else 0))∧∀ x∈l,bc x=true) (fun i t hi ht=>by
       obtain ⟨laid,l⟩:=t;obtain ⟨t1,t2⟩:=ht;have hx:=hs.right _ (zm hi);simp only at t1 t2;have bl:l.length≤i+1:=by cases laid<;>simp at t1<;>omega
       have room:∀ (m:List Dot1) (x:Dot1),m.length≤i+5→bY (m.length+[x].length)=some ():=fun m x hm=>aX (by simp; omega);refine .inl ?_;unfold we;simp only[ak]
       rw[zp (by omega),aO hi,wrap64 (n:=(i:Int)+1) (by omega) (by omega)];simp only[zb,iK];cases laid with
       | true =>
         rw[qAU,cond_false,aB];simp only;rw[room l _ (by omega)];refine ⟨(true,l++[s.2.1[i]]),rfl,by simp at t1 ⊢; omega,fun x hx2 => ?_⟩;rcases qA9.1 hx2 with q | q
         · exact t2 x q
         · rw[qA2.1 q]; exact hx
       | false =>
         rw[qBK,cond_true];by_cases c:cmpD d s.2.1[i]<0
         · rw[zp c,room l _ (by omega)];simp only[zb];rw[cN];simp only;rw[room (l++[d]) _ (by simp; omega)];refine ⟨(true,l++[d]++[s.2.1[i]]),rfl,by simp at t1 ⊢; omega,fun x hx2 => ?_⟩
           rcases qA9.1 hx2 with q | q
           · rcases qA9.1 q with q | q
             · exact t2 x q
             · rw[qA2.1 q]; exact h
           · rw[qA2.1 q]; exact hx
         · rw[zn c,aB];simp only;rw[room l _ (by omega)];refine ⟨(false,l++[s.2.1[i]]),rfl,by simp at t1 ⊢; omega,fun x hx2 => ?_⟩;rcases qA9.1 hx2 with q | q
           · exact t2 x q
           · rw[qA2.1 q]; exact hx) (fun t ht=>by
       unfold we;simp only[ak];rw[zn (by omega)];exact ⟨_,rfl,_,_,rfl,ht.1,ht.2⟩) (false,[]) ⟨rfl,fun x hx=>by cases hx⟩
     rw[show ((false,(0:Int),(([0,0,0,0,0,0,0,0,0,0,0,0,0,0,0,0]:List Int),(),()),([]:List Dot1),()):Bool×Int×(List Int×Unit×Unit)×List Dot1×Unit)=(false,((0:Nat):Int),([0,0,0,0,0,0,0,0,0,0,0,0,0,0,0,0],(),()),[],()) from rfl,h1,aB]
     cases laid with
     | true =>
       simp only[qAU,cond_false];rw[aB];simp at h2;obtain ⟨t,t1,t2⟩:=xu (s:=(s.1,l,())) (n:=n+1) ⟨hs.vec,by simp only; omega,h3⟩ (by omega);simp only;rw[t1]; exact ⟨t,rfl,t2⟩
     | false =>
       simp only[qBK,cond_true];simp at h2;rw[aX (by simp; omega)];simp only[zb];rw[cN];obtain ⟨t,t1,t2⟩:=xu (s:=(s.1,l++[d],())) (n:=n+1) ⟨hs.vec,by simp; omega,fun x hx=>by
         rcases qA9.1 hx with q | q
         · exact h3 x q
         · rw[qA2.1 q]; exact h⟩ (by omega)
       simp only;rw[t1]; exact ⟨t,rfl,t2⟩
structure Wide (s:St1):Prop where
 known:s.2.2.1.1.length=16
 fast:s.2.2.2.1.1.length=16
 redo:s.2.2.2.2.1.length=8
structure ShortS (s:St1):Prop where
 txns:s.1.length≤20
 undos:s.2.1.length≤100
 known:s.2.2.1.2.1.length≤100
 fast:s.2.2.2.1.2.1.length≤100
 all:∀ t∈s.1,gV t=true
 redo:∀ l∈s.2.2.2.2.1,l.length≤40
theorem ff {A R X:Type}{f:A→Option (A⊕R)}{l:List X} (enc:Nat→A) (P:X→Prop) (yes no:R)
   (hturn:∀ (i:Nat) (h:i<l.length),(f (enc i)=some (.inl (enc (i+1)))∧P l[i])∨f (enc i)=some (.inr no)) (hend:f (enc l.length)=some (.inr yes)) :
   (aK f (enc 0)=some yes∧∀ x∈l,P x)∨aK f (enc 0)=some no:=by
 obtain ⟨r,h1,h2⟩:=cM (S:=Unit) (f:=f) l.length (fun i _=>enc i) (fun i _=>∀ k (h:k<l.length),k<i→P l[k]) (fun r=>(r=yes∧∀ x∈l,P x)∨r=no) (fun i _ hi hv=>by
   rcases hturn i hi with ⟨h1,h2⟩ | h1
   · exact .inl ⟨(), h1, fun k hk hki => by
       by_cases e:k=i
       · subst e; exact h2
       · exact hv k hk (by omega)⟩
   · exact .inr ⟨no,h1,.inr rfl⟩) (fun _ hv=>⟨yes,hend,.inl ⟨rfl,fun x hx=>by
   obtain ⟨k,hk,rfl⟩:=qC9.1 hx;exact hv k hk hk⟩⟩) () (fun k hk hki=>by omega)
 rcases h2 with ⟨rfl,h2⟩ | rfl
 · exact .inl ⟨h1,h2⟩
 · exact .inr h1
theorem acS {s:St1} (hw:Wide s):∃ b,zcn s=some b∧(b=true→ShortS s):=by
 have l1:s.1.length≤20→((aK (nN) (((0:Nat):Int),s,())=some (.inl (s,()))∧∀ t∈s.1,gV t=true)∨aK (nN) (((0:Nat):Int),s,())=some (.inr false)):=fun hl=>by
   refine ff (f:=nN) (l:=s.1) (fun i=>((i:Int),s,())) (fun t=>gV t=true) (.inl (s,())) (.inr false) (fun i h => ?_) ?_
   · unfold nN;simp only[ak];rw[zp (by omega),aO h];simp only[zb,yw];cases hs:gV s.1[i] with
     | false=>exact .inr rfl
     | true =>
       refine .inl ⟨?_,by trivial⟩;rw[qAU,cond_false,wrap64 (by omega) (by omega)]; rfl
   · unfold nN;simp only[ak];rw[zn (by omega)]
 have l2:(aK (nM) (((0:Nat):Int),s,())=some true∧∀ l∈s.2.2.2.2.1,l.length≤40)∨aK (nM) (((0:Nat):Int),s,())=some false:=by
   have hr:=hw.redo;refine ff (f:=nM) (l:=s.2.2.2.2.1) (fun i=>((i:Int),s,())) (fun l=>l.length≤40) true false (fun i h => ?_) ?_
   · unfold nM;simp only[ak];rw[zp (by omega),bU (by omega)];simp only[zb];rw[zg h];simp only[zb];by_cases c:((s.2.2.2.2.1[i].length:Int)>40)
     · rw[zp c]; exact .inr rfl
     · rw[zn c,wrap64 (by omega) (by omega)]; exact .inl ⟨rfl,by omega⟩
   · unfold nM;simp only[ak];rw[zn (by omega)]
 unfold zcn;simp only[ak];by_cases c1:(s.1.length:Int)>20
 · rw[zp c1]; exact ⟨false,rfl,fun h=>by cases h⟩
 rw[zn c1];simp only[zb,ak];by_cases c2:(s.2.1.length:Int)>100
 · rw[zp c2]; exact ⟨false,rfl,fun h=>by cases h⟩
 rw[zn c2];by_cases c3:(s.2.2.1.2.1.length:Int)>100
 · rw[zp c3]; exact ⟨false,rfl,fun h=>by cases h⟩
 rw[zn c3];by_cases c4:(s.2.2.2.1.2.1.length:Int)>100
 · rw[zp c4]; exact ⟨false,rfl,fun h=>by cases h⟩
 rw[zn c4];rcases l1 (by omega) with ⟨h1,h2⟩ | h1
 · rw[show ((0:Int),s,())=(((0:Nat):Int),s,()) from rfl,h1,aB];simp only;rcases l2 with ⟨h3,h4⟩ | h3
   · rw[show ((0:Int),s,())=(((0:Nat):Int),s,()) from rfl,h3];exact ⟨true,rfl,fun _=>⟨by omega,by omega,by omega,by omega,h2,h4⟩⟩
   · rw[show ((0:Int),s,())=(((0:Nat):Int),s,()) from rfl,h3];exact ⟨false,rfl,fun h=>by cases h⟩
 · rw[show ((0:Int),s,())=(((0:Nat):Int),s,()) from rfl,h1];exact ⟨false,rfl,fun h=>by cases h⟩
theorem ac5 {v:List Int} (hv:v.length=16):∃ b,zcs v=some b:=by
 unfold zcs;obtain ⟨r,h,_⟩:=cM (S:=Unit) (f:=wg) 16 (fun i _=>((i:Int),v,())) (fun _ _=>True) (fun _=>True) (fun i _ hi _=>by
   unfold wg;simp only[ak];rw[zp (by omega),bU (by omega)];simp only[zb];rw[zg (by omega),wrap64 (by omega) (by omega)];simp only[zb];by_cases c1:v[i]<0
   · rw[zp c1]; exact .inr ⟨_,rfl,trivial⟩
   rw[zn c1];by_cases c2:v[i]>1048576
   · rw[zp c2]; exact .inr ⟨_,rfl,trivial⟩
   · rw[zn c2]; exact .inl ⟨(),rfl,trivial⟩) (fun _ _=>by
   unfold wg;simp only[ak];rw[zn (by omega)];exact ⟨_,rfl,trivial⟩) () trivial
 exact ⟨r,h⟩
theorem rX {s:nH} (hv:s.1.length=16) (hm:s.2.1.length≤100):∃ b,zch s=some b∧(b=true→DOk s 100):=by
 obtain ⟨b,hb⟩:=ac5 hv;unfold zch;rw[hb];simp only[zb];cases b with
 | false=>exact ⟨false,rfl,fun h=>by cases h⟩
 | true =>
   simp only[qAU,cond_false,ak];rw[zn (by omega)];have:=ff (f:=wk) (l:=s.2.1) (fun i=>((i:Int),s,())) (fun d=>bc d=true) true false (fun i h=>by
     unfold wk;simp only[ak];rw[zp (by omega),aO h];simp only[zb,dA];cases hs:bc s.2.1[i] with
     | false=>exact .inr rfl
     | true =>
       obtain ⟨k,k1,k2,k3⟩:=gH hs;simp only[qAU,cond_false];rw[k3];simp only[zb];rw[zg (by omega),wrap64 (n:=(i:Int)+1) (by omega) (by omega)];simp only[zb]
       by_cases c1:IntKind.wrap .i64 (s.2.1[i].2.1-1)≤s.1[k]'(by omega)
       · rw[zp c1]; exact .inr rfl
       rw[zn c1];by_cases c2:(i:Int)>0
       · rw[zp c2,wrap64 (by omega) (by omega),show (i:Int)-1=((i-1:Nat):Int) by omega,aO (by omega)];simp only[zb,iK,bd];by_cases c3:cmpD (s.2.1[i-1]'(by omega)) s.2.1[i] = -1
         · rw[zp c3]; exact .inl ⟨rfl,by trivial⟩
         · rw[zn c3]; exact .inr rfl
       · rw[zn c2]; exact .inl ⟨rfl,by trivial⟩) (by
     unfold wk;simp only[ak];rw[zn (by omega)])
   rcases this with ⟨h1,h2⟩ | h1
   · exact ⟨true,h1,fun _=>⟨hv,hm,h2⟩⟩
   · exact ⟨false,h1,fun h=>by cases h⟩
theorem apD {l:List Txn1} (hl:l.length≤1000):∃ s,zc4 l=some s:=by
 unfold zc4;obtain ⟨r,h,_⟩:=cM (S:=nH) (f:=wo l) l.length (fun i s=>((i:Int),([0,0,0,0,0,0,0,0,0,0,0,0,0,0,0,0],(),()),s,())) (fun i s=>DOk s i) (fun _=>True) (fun i s hi hs=>by
   obtain ⟨t,t1,t2⟩:=apk (d:=l[i].1) hs (by omega);unfold wo;simp only[ak];rw[zp (by omega),aO hi];simp only[zb];rw[t1,wrap64 (by omega) (by omega)];exact .inl ⟨t,rfl,t2⟩) (fun s _=>by
   unfold wo;simp only[ak];rw[zn (by omega)];exact ⟨_,rfl,trivial⟩) ([0,0,0,0,0,0,0,0,0,0,0,0,0,0,0,0],[],()) ⟨rfl,by simp,fun d hd=>by cases hd⟩
 exact ⟨r,h⟩
theorem agb {a b:List Dot1} (ha:a.length<1000000):∃ c,zdo a b=some c:=by
 unfold zdo;simp only[bd];by_cases h:(a.length:Int)=b.length
 · rw[zp h];obtain ⟨r,h,_⟩:=cM (S:=Unit) (f:=vV a b) a.length (fun i _=>((i:Int),())) (fun _ _=>True) (fun _=>True) (fun i _ hi _=>by
     unfold vV;simp only[ak];rw[zp (by omega),aO hi,aO (by omega),wrap64 (by omega) (by omega)];simp only[zb,mA,bd];by_cases c:a[i]=b[i]'(by omega)
     · rw[zp c]; exact .inl ⟨(),rfl,trivial⟩
     · rw[zn c]; exact .inr ⟨_,rfl,trivial⟩) (fun _ _=>by
     unfold vV;simp only[ak];rw[zn (by omega)];exact ⟨_,rfl,trivial⟩) () trivial
   exact ⟨r,h⟩
 · rw[zn h]; exact ⟨_,rfl⟩
structure GoodS (s:St1):Prop where
 txns:TxnsOk s.1 20
 undos:CountsOk s.2.1
 known:DOk s.2.2.1 100
 fast:DOk s.2.2.2.1 100
 rlen:s.2.2.2.2.1.length=8
 redo:∀ l∈s.2.2.2.2.1,l.length≤40
theorem ac4 {s:St1} (hw:Wide s) (hs:ShortS s):∃ b,zco s=some b∧(b=true→GoodS s):=by
 have n1:=hs.txns; have n2:=hs.undos; have n3:=hs.known; have n4:=hs.fast; have hr:=hw.redo;have no:∀ {Q:Prop},∃ b,some false=some b∧(b=true→Q):=fun {Q}=>⟨false,rfl,fun h=>by cases h⟩;unfold zco
 simp only[ak];rw[zn (by omega),ac2 (by omega)];simp only[zb];by_cases r1:∀ i,i<s.1.length-1→ot (·.1) s.1 i=true
 rotate_left
 · rw[zn r1]; exact no
 rw[zp r1,qAU,cond_false,agf (by omega)];simp only[zb];by_cases r2:∀ i,i<s.2.1.length→iy s.2.1 i=true
 rotate_left
 · rw[zn r2]; exact no
 rw[zp r2,qAU,cond_false];obtain ⟨b3,r3,k3⟩:=rX hw.fast n4;rw[r3];simp only[zb];cases b3 with
 | false=>exact no
 | true =>
 rw[qAU,cond_false];have l1:=ff (f:=wh) (l:=s.1) (fun i=>((i:Int),s,())) (fun t=>txnM t=0) (.inl (s,())) (.inr false) (fun i h=>by
   unfold wh;simp only[ak];rw[zp (by omega),aO h];simp only[zb];rw[yr (hs.all _ (zm h)),wrap64 (by omega) (by omega)];simp only[zb,bd];by_cases c:txnM s.1[i]=0
   · rw[zp c]; exact .inl ⟨rfl,c⟩
   · rw[zn c]; exact .inr rfl) (by
   unfold wh;simp only[ak];rw[zn (by omega)])
 rcases l1 with ⟨h1,h2⟩ | h1
 rotate_left
 · rw[show ((0:Int),s,())=(((0:Nat):Int),s,()) from rfl,h1]; exact no
 rw[show ((0:Int),s,())=(((0:Nat):Int),s,()) from rfl,h1,aB];simp only;have l2:(aK nL (((0:Nat):Int),s,())=some (.inl (s,()))∧∀ l∈s.2.2.2.2.1,True)∨aK nL (((0:Nat):Int),s,())=some (.inr false):=by
   refine ff (f:=nL) (l:=s.2.2.2.2.1) (fun i=>((i:Int),s,())) (fun _=>True) (.inl (s,())) (.inr false) (fun i h => ?_) ?_
   · have hl:=hs.redo _ (zm h);have inner:=ff (f:=pm ((i:Int),s,())) (l:=s.2.2.2.2.1[i]) (fun k=>((k:Int),s,())) (fun _=>True) (.inl ((((i+1:Nat):Int),s,()))) (.inr (.inr false)) (fun k hk=>by
       unfold pm;simp only;rw[bU (show i<8 by omega)];simp only[zb];rw[zg h];simp only[zb,ak];rw[zp (by omega),aO hk,wrap64 (n:=(k:Int)+1) (by omega) (by omega)];simp only[zb,dA]
       cases bc s.2.2.2.2.1[i][k] with
       | false=>exact .inr rfl
       | true=>exact .inl ⟨rfl,trivial⟩) (by
       unfold pm;simp only;rw[bU (show i<8 by omega)];simp only[zb];rw[zg h];simp only[zb,ak];rw[zn (by omega),wrap64 (n:=(i:Int)+1) (by omega) (by omega)]; rfl)
     unfold nL;simp only[ak];rw[zp (by omega),bU (by omega)];simp only[zb];rw[zg h];simp only[zb];rw[zn (by omega)];rcases inner with ⟨q,_⟩ | q
     · exact .inl ⟨q,trivial⟩
     · exact .inr q
   · unfold nL;simp only[ak];rw[zn (by omega)]
 rcases l2 with ⟨h3,_⟩ | h3
 rotate_left
 · rw[show ((0:Int),s,())=(((0:Nat):Int),s,()) from rfl,h3]; exact no
 rw[show ((0:Int),s,())=(((0:Nat):Int),s,()) from rfl,h3,aB];simp only;obtain ⟨b5,r5,k5⟩:=rX hw.known n3;rw[r5];simp only[zb];cases b5 with
 | false=>exact no
 | true =>
 rw[cond_true];obtain ⟨kn,hk⟩:=apD (l:=s.1) (by omega);rw[hk];simp only[zb];have fin:GoodS s:=⟨⟨n1,yI r1,fun t ht=>aAp (hs.all t ht) (h2 t ht)⟩,counts_of n2 r2,k5 rfl,k3 rfl,hr,hs.redo⟩;unfold zdj
 cases eqV (.arr 16 (.int .i64)) s.2.2.1.1 kn.1 with
 | false=>exact ⟨false,rfl,fun _=>fin⟩
 | true =>
   obtain ⟨c,hc⟩:=agb (a:=s.2.2.1.2.1) (b:=kn.2.1) (by omega);rw[cond_true,hc];exact ⟨c,rfl,fun _=>fin⟩
theorem agO {s:St1} (hw:Wide s):∃ b,zd0 s=some b∧(b=true→GoodS s):=by
 obtain ⟨b,h1,h2⟩:=acS hw;unfold zd0;rw[h1];simp only[zb];cases b with
 | false=>exact ⟨false,rfl,fun h=>by cases h⟩
 | true =>
   obtain ⟨c,h3,h4⟩:=ac4 hw (h2 rfl);rw[cond_true,h3];exact ⟨c,rfl,h4⟩
def fH:List Ref1→Ref1→List Ref1
 | [],x=>[x]
 | y::l,x=>if cmpD y.1 x.1<0 then y::fH l x else if 0<cmpD y.1 x.1 then x::y::l else (y.1,max y.2.1 x.2.1,())::l
theorem sD {x:Ref1}:∀ (l:List Ref1),(fH l x).length≤l.length+1
 | []=>by simp[fH]
 | y::l=>by
   have:=sD (x:=x) l;unfold fH
   split
   · simp; omega
   · split<;>simp
theorem sC {x z:Ref1}:∀ {l:List Ref1},z∈fH l x→z.1=x.1∨∃ y∈l,z.1=y.1
 | [],h=>by
   rw[qA2.1 h]; exact .inl rfl
 | y::l,h=>by
   unfold fH at h
   split at h
   · rcases qAO.1 h with e | h
     · exact .inr ⟨y,qAL ..,by rw[e]⟩
     · rcases sC h with e | ⟨w,w1,w2⟩
       · exact .inl e
       · exact .inr ⟨w,qAM _ w1,w2⟩
   · split at h
     · rcases qAO.1 h with e | h
       · exact .inl (by rw[e])
       · exact .inr ⟨z,h,rfl⟩
     · rcases qAO.1 h with e | h
       · exact .inr ⟨y,qAL ..,by rw[e]⟩
       · exact .inr ⟨z,qAM _ h,rfl⟩
theorem sB {x:Ref1} (hx:oneM x=true):∀ {l:List Ref1},(∀ y∈l,oneM y=true)→∀ z∈fH l x,oneM z=true
 | [],_,z,h=>by rw[qA2.1 h]; exact hx
 | y::l,hl,z,h=>by
   unfold fH at h
   split at h
   · rcases qAO.1 h with e | h
     · rw[e]; exact hl y (qAL ..)
     · exact sB hx (fun w hw=>hl w (qAM _ hw)) z h
   · split at h
     · rcases qAO.1 h with e | h
       · rw[e]; exact hx
       · exact hl z h
     · rcases qAO.1 h with e | h
       · have hy:=hl y (qAL ..);rw[e];unfold oneM at hx hy ⊢;simp only[k9,decide_eq_true_eq] at hx hy ⊢;exact ⟨hy.1,by omega,by omega⟩
       · exact hl z (qAM _ h)
theorem oG {x:Ref1}:∀ {l:List Ref1},nj l→nj (fH l x)
 | [],_=>qCB ..
 | y::l,h=>by
   have h1:=qBF.1 h;unfold fH
   split
   · rename_i c;refine qBF.2 ⟨fun z hz => ?_,oG h1.2⟩;show cmpD y.1 z.1<0;rcases sC hz with e | ⟨w,w1,w2⟩
     · rw[e]; exact c
     · rw[w2]; exact h1.1 w w1
   · rename_i c
     split
     · rename_i d;have d':cmpD x.1 y.1<0:=(by have:=cZ.neg x.1 y.1; omega);refine qBF.2 ⟨fun z hz => ?_,h⟩;rcases qAO.1 hz with e | hz
       · rw[e]; exact d'
       · exact cZ.trans _ _ _ d' (h1.1 z hz)
     · exact qBF.2 ⟨h1.1,h1.2⟩
theorem xk {x:Ref1} (hx:0≤x.2.1) {d:Dot1}:∀ {l:List Ref1},nj l→getM (fH l x) d=if d=x.1 then max (getM l d) x.2.1 else getM l d
 | [],_=>by
   unfold fH getM getM;by_cases h:x.1=d
   · rw[zp h,zp h.symm]; omega
   · rw[zn h,zn (fun e=>h e.symm)]
 | y::l,h=>by
   have h1:=qBF.1 h;have ih:=xk hx (d:=d) h1.2;unfold fH;by_cases c:cmpD y.1 x.1<0
   · rw[zp c]
     conv=>lhs; unfold getM
     conv=>rhs; unfold getM
     by_cases e:y.1=d
     · rw[zp e,zp e];have ne:d≠x.1:=fun e2=>(by rw[e,e2,(cZ.zero _ _).2 rfl] at c; omega);rw[zn ne]
     · rw[zn e,zn e,ih]
   · rw[zn c];by_cases c2:0<cmpD y.1 x.1
     · rw[zp c2]
       conv=>lhs; unfold getM
       by_cases e:x.1=d
       · rw[zp e,zp e.symm,mn]
         · omega
         · intro z hz;rcases qAO.1 hz with q | hz
           · rw[q,← e]; exact mI (by omega)
           · have:=cZ.trans _ _ _ (show cmpD x.1 y.1<0 by have:=cZ.neg x.1 y.1; omega) (h1.1 z hz);have q:cmpD x.1 z.1<0:=this;rw[← e]; exact mI (by have:=cZ.neg z.1 x.1; omega)
       · rw[zn e,zn (fun q=>e q.symm)]
     · rw[zn c2];have e0:y.1=x.1:=(cZ.zero _ _).1 (by omega)
       conv=>lhs; unfold getM
       conv=>rhs; unfold getM
       by_cases e:y.1=d
       · rw[zp e,zp e,zp (by rw[← e,e0])]
       · rw[zn e,zn e,zn (fun q=>e (by rw[e0,q]))]
theorem mg:∀ (a out:List Ref1),a.length+out.length<1000000→aK fT (a,[],out,())=some (out++a)
 | [],out,_=>by
   refine (aF ?_).trans (by rw[qAT]);unfold fT;simp
 | y::a,out,h=>by
   have turn:fT (y::a,[],out,())=some (.inl (a,[],out++[y],())):=by
     unfold fT;simp only[ak,zl,qAP];rw[zp (by omega),aB,zn (by omega),zn (by omega),aB];simp only;rw[zp (by omega),show atI (y::a) 0=some y from rfl];simp only[zb]
     rw[aX (by simp at h ⊢; omega)];simp only[zb];rw[show ((a.length+1:Nat):Int)=((y::a).length:Int) from rfl,show (1:Int)=((1:Nat):Int) from rfl,eo (by simp)];rfl
   rw[aH turn,mg a (out++[y]) (by simp at h ⊢; omega),qAR]; rfl
theorem oH:∀ (a out:List Ref1),a.length+out.length<1000000→aK fT ([],a,out,())=some (out++a)
 | [],out,_=>by
   refine (aF ?_).trans (by rw[qAT]);unfold fT;simp
 | y::a,out,h=>by
   have turn:fT ([],y::a,out,())=some (.inl ([],a,out++[y],())):=by
     unfold fT;simp only[ak,zl,qAP];rw[zn (by omega),zp (by omega),aB,zp (by omega),aB];simp only;rw[zn (by omega),zp (by omega),show atI (y::a) 0=some y from rfl];simp only[zb]
     rw[aX (by simp at h ⊢; omega)];simp only[zb];rw[show ((a.length+1:Nat):Int)=((y::a).length:Int) from rfl,show (1:Int)=((1:Nat):Int) from rfl,eo (by simp)];rfl
   rw[aH turn,oH a (out++[y]) (by simp at h ⊢; omega),qAR]; rfl
theorem sA {x:Ref1}:∀ (a out:List Ref1),a.length+out.length<900000→aK fT (a,[x],out,())=some (out++fH a x)
 | [],out,h=>by rw[oH [x] out (by simp at h ⊢; omega)]; rfl
 | y::a,out,h=>by
   simp only[zl] at h
   have head:fT (y::a,[x],out,())=if cmpD y.1 x.1<0 then some (.inl (a,[x],out++[y],())) else if 0<cmpD y.1 x.1 then some (.inl (y::a,[],out++[x],())) else some (.inl (a,[],out++[(y.1,max y.2.1 x.2.1,())],())):=by
     unfold fT;simp only[ak,zl,qAP];rw[zp (by omega),aB,zn (by omega),zp (by omega),show atI (y::a) 0=some y from rfl,show atI [x] 0=some x from rfl];simp only[zb,pE];rw[cN];simp only
     rw[aX (show out.length+1<4294967296 by omega),show ((a.length+1:Nat):Int)=((y::a).length:Int) from rfl,show ((0+1:Nat):Int)=(([x]:List Ref1).length:Int) from rfl,show (1:Int)=((1:Nat):Int) from rfl,eo (l:=y::a) (i:=1) (by simp),eo (l:=[x]) (i:=1) (by simp)]
     rfl
   unfold fH;by_cases c:cmpD y.1 x.1<0
   · rw[zp c] at head ⊢;rw[aH head,sA a (out++[y]) (by simp; omega),qAR]; rfl
   · rw[zn c] at head ⊢;by_cases c2:0<cmpD y.1 x.1
     · rw[zp c2] at head ⊢;rw[aH head,mg (y::a) (out++[x]) (by simp; omega),qAR]; rfl
     · rw[zn c2] at head ⊢;rw[aH head,mg a (out++[(y.1,max y.2.1 x.2.1,())]) (by simp; omega),qAR]; rfl
theorem adU {a:List Ref1}{x:Ref1} (h:a.length<800000):zdk a [x]=some (fH a x):=by
 unfold zdk;rw[sA a [] (by simp; omega)]; rfl
structure UOk (u:List Ref1) (n:Nat):Prop where
 len:u.length≤n
 rise:nj u
 one:∀ x∈u,oneM x=true
theorem UOk.low {u:List Ref1}{n:Nat} (h:UOk u n) (hn:n<100000):LowU u:=⟨by have:=h.len; omega,h.rise⟩
theorem UOk.join {u:List Ref1}{n:Nat}{x:Ref1} (h:UOk u n) (hx:oneM x=true):UOk (fH u x) (n+1):=⟨by have:=sD (x:=x) u; have:=h.len; omega,oG h.rise,sB hx h.one⟩
theorem mm {d:Dot1}:∀ {u:List Ref1},(∀ x∈u,oneM x=true)→0≤getM u d∧getM u d≤64
 | [],_=>by unfold getM; omega
 | x::u,h=>by
   unfold getM;by_cases e:x.1=d
   · rw[zp e];have:=h x (qAL ..);unfold oneM at this;simp only[k9,decide_eq_true_eq] at this;omega
   · rw[zn e]; exact mm fun y hy=>h y (qAM _ hy)
theorem iH {u:List Ref1}{d:Dot1} (h:0≤getM u d):cT u d=decide (getM u d%2=0):=by
 unfold cT remT;rw[zn (by omega)];simp only;rw[Int.tmod_eq_emod_of_nonneg h]
theorem jz {u:List Ref1}{d:Dot1}{n:Nat} (h:UOk u n) (hn:n<100000) :
   zcg u d=some (if bc d=false then (((0,0,()),0,()),2,()) else if getM u d≥64 then (((0,0,()),0,()),14,()) else ((d,getM u d+1,()),0,())):=by
 have hg:=mm (d:=d) h.one;unfold zcg;rw[nZ (h.low hn).len h.rise,fj];simp only[zb,ak];rw[wrap64 (by omega) (by omega)];cases bc d with
 | false=>rfl
 | true =>
   by_cases c:getM u d≥64<;>simp[c]
structure StOk (s:St1) (n:Nat):Prop where
 txns:s.1.length≤1000
 undos:UOk s.2.1 n
 vec:s.2.2.2.1.1.length=16
 more:s.2.2.2.1.2.1.length≤100000
 rlen:s.2.2.2.2.1.length=8
theorem GoodS.st {s:St1} (h:GoodS s):StOk s 100:=⟨by have:=h.txns.len; omega,⟨h.undos.len,h.undos.rise,h.undos.one⟩,h.fast.vec,by have:=h.fast.len; omega,h.rlen⟩
theorem af4 {s:St1}{n:Nat}{d:Dot1} (h:StOk s n) (hn:n<100000):∃ b,zes s.2.2.2.1 d=some b∧zel s d=some (if b=true then 13 else if bc d=false then 2 else if getM s.2.1 d≥64 then 14 else 0):=by
 obtain ⟨b,hb⟩:=ta (d:=d) h.vec (by have:=h.more; omega);refine ⟨b,hb,?_⟩;unfold zel;rw[hb,jz h.undos hn];simp only[zb];cases b with
 | true=>rfl
 | false =>
   by_cases c1:bc d=false<;>by_cases c2:getM s.2.1 d≥64<;>simp[c1,c2]
def keyT (t:Txn1):Int×Dot1:=(t.2.2.1,t.1)
def aDH:Int×Dot1→Int×Dot1→Int:=cmpB cmpI cmpD
def cmpT (a b:Txn1):Int:=aDH (keyT a) (keyT b)
def Cand (s:St1) (user:Int) (t:Txn1):Prop:=t∈s.1∧t.2.1=user∧cT s.2.1 t.1=true
structure Best (s:St1) (user:Int) (t:Txn1):Prop where
 cand:Cand s user t
 top:∀ x,Cand s user x→cmpT x t≤0
abbrev ur (user:Int) (u:Ref1) (back:Int):aDJ:=(2,((0,0,()),0,0,false,[],()),user,u,back,([],[],[],()),([],[],([0,0,0,0,0,0,0,0,0,0,0,0,0,0,0,0],[],()),([0,0,0,0,0,0,0,0,0,0,0,0,0,0,0,0],[],()),[[],[],[],[],[],[],[],[]],()),())
theorem uw {x:Ref1} (h:oneM x=true):zc2 [x]=some true:=by
 unfold oneM at h;simp only[k9,decide_eq_true_eq] at h;have t1:qW [x] (0,())=some (.inl (1,())):=by
   unfold qW;rw[show atI [x] 0=some x from rfl];simp only[zb,fj,h.1,qAU,cond_false,ak,qCO];rw[zp (by decide),zn (by omega),zf (show ¬ x.2.1<1 by omega)]
   simp only[cond_false,zb];rw[zf (show ¬ x.2.1>64 by omega)];rfl
 have t2:qW [x] (1,())=some (.inr true):=by
   unfold qW;rfl
 unfold zc2;rw[aH t1,aF t2]
theorem acJ {s:St1}{n:Nat}{user:Int}{d:Dot1}{back:Int} (h:StOk s n) (hn:n<100000) (hu:0≤user∧user<8) (hb:0≤back∧back≤2) (hd:bc d=true) (hg:getM s.2.1 d<64) :
   zdr s user d back=some (ur user (d,getM s.2.1 d+1,()) back,0,()):=by
 have hg0:=mm (d:=d) h.undos.one;have h1:oneM (d,getM s.2.1 d+1,())=true:=by
   unfold oneM;simp only[k9,decide_eq_true_eq];exact ⟨hd,by omega,by omega⟩
 unfold zdr;rw[jz h.undos hn,zn (by rw[hd]; decide),zn (by omega)];simp only[zb,bd];rw[zp trivial];have e:zb5 (ur user (d,getM s.2.1 d+1,()) back)=some true:=by
   unfold zb5 zcv;simp only[ak];rw[zn (by decide),zp trivial,zp hu.1];simp only[zb,ak];rw[zp hu.2,uw h1];simp only[zb,cond_true];rw[zp hb.1,zt hb.2]
 unfold ur at e;rw[e];rfl
theorem pG {s:St1}{n:Nat}{user:Int}{u:Ref1}{back:Int}{l m:List Dot1}{k:Nat} (h:StOk s n) (hn:n<100000) (hk:k<8) (hu:user=(k:Int)) (hl:s.2.2.2.2.1[k]? = some l) (hm:zck l (ur user u back)=some m) :
   zct s (ur user u back)=some (s.1,fH s.2.1 u,s.2.2.1,s.2.2.2.1,s.2.2.2.2.1.set k m,()):=by
 subst hu;unfold zct zc3;simp only[ak];rw[zn (by decide),zp trivial,adU (by have:=h.undos.len; omega)];simp only[zb];rw[bU hk];simp only[zb];rw[hl];simp only[zb];rw[hm];rfl
structure Undone (s u:St1) (t:Txn1) (k:Nat) (l:List Dot1):Prop where
 txns:u.1=s.1
 get:∀ d,getM u.2.1 d=if d=t.1 then getM s.2.1 t.1+1 else getM s.2.1 d
 st:StOk u 101
 fast:u.2.2.2.1=s.2.2.2.1
 redo:u.2.2.2.2.1[k]? = some (l++[t.1])
theorem acU {u v:List Ref1}{d:Dot1} (h:getM u d=getM v d):cT u d=cT v d:=by
 unfold cT; rw[h]
theorem aqO {k:Nat} (h:k<16):([0,0,0,0,0,0,0,0,0,0,0,0,0,0,0,0]:List Int)[k]? = some 0:=by
 revert h; revert k; decide
theorem uz {d:Dot1} (h:bc d=true):zes ([0,0,0,0,0,0,0,0,0,0,0,0,0,0,0,0],[],()) d=some false:=by
 obtain ⟨k,k1,k2,k3⟩:=gH h;have hr:=h;unfold bc at hr;simp only[decide_eq_true_eq] at hr;obtain ⟨m,_,b,hb,hb2⟩:=mC (l:=[]) (d:=d) (by simp);have:b=false:=by
   cases b with
   | false=>rfl
   | true=>obtain ⟨x,h1,_⟩:=hb2 rfl; cases h1
 subst this;unfold zes zez;rw[fj,h];simp only[zb,cond_true];rw[k3];simp only[zb];rw[aqO k1];simp only[zb,ak];rw[zn (by omega),hb];rfl
theorem ao8 {s:St1} (h:okV (.agg (.cons (.sl (.agg (.cons (.agg (.cons (.int .i64) (.cons (.int .i64) .unit))) (.cons (.int .i64) (.cons (.int .i64) (.cons .bool (.cons (.sl (.agg (.cons (.int .i64) (.cons (.sl .str) (.cons (.agg (.cons (.int .i64) (.cons (.int .i64) (.cons .str .unit)))) (.cons (.int .i64) (.cons (.sl (.agg (.cons (.agg (.cons (.int .i64) (.cons (.int .i64) .unit))) (.cons (.int .i64) .unit)))) .unit))))))) .unit))))))) (.cons (.sl (.agg (.cons (.agg (.cons (.int .i64) (.cons (.int .i64) .unit))) (.cons (.int .i64) .unit)))) (.cons (.agg (.cons (.arr 16 (.int .i64)) (.cons (.sl (.agg (.cons (.int .i64) (.cons (.int .i64) .unit)))) .unit))) (.cons (.agg (.cons (.arr 16 (.int .i64)) (.cons (.sl (.agg (.cons (.int .i64) (.cons (.int .i64) .unit)))) .unit))) (.cons (.arr 8 (.sl (.agg (.cons (.int .i64) (.cons (.int .i64) .unit))))) .unit)))))) s):Wide s:=by
 obtain ⟨_,_,h3,h4,h5,_⟩:=h;exact ⟨h3.1.1,h4.1.1,h5.1⟩
abbrev loT (d:Dot1) (l:List Txn1):List Txn1:=lo cmpD (·.1) d l
abbrev hiT (d:Dot1) (l:List Txn1):List Txn1:=hi cmpD (·.1) d l
theorem ah2 {R X:Type}{key:X→Dot1}{f:Int×Int×Unit→Option ((Int×Int×Unit)⊕((Int×Unit)⊕R))}{l:List X}{d:Dot1} (hr:dX cmpD key l)
   (hturn:∀ i j:Nat,i<j→j≤l.length→∀ h:(i+j)/2<l.length,f ((i:Int),(j:Int),())=some (.inl (if cmpD (key l[(i+j)/2]) d<0 then ((((i+j)/2+1:Nat):Int),(j:Int),()) else ((i:Int),(((i+j)/2:Nat):Int),()))))
   (hend:∀ i:Nat,f ((i:Int),(i:Int),())=some (.inr (.inl ((i:Int),())))) :
   aK f ((0:Int),(l.length:Int),())=some (.inl (((lo cmpD key d l).length:Int),())):=by
 have hlen:(lo cmpD key d l).length≤l.length:=by
   have e:lo cmpD key d l++hi cmpD key d l=l:=lohi;have:=congrArg List.length e;rw[qAA] at this; omega
 have key:∀ (q i j:Nat),j-i≤q→i≤(lo cmpD key d l).length→(lo cmpD key d l).length≤j→j≤l.length→aK f ((i:Int),(j:Int),())=some (.inl (((lo cmpD key d l).length:Int),())):=by
   intro q
   induction q with
   | zero =>
     intro i j h1 h2 h3 h4;have e:i=j:=(by omega);subst e;rw[aF (hend i),show (lo cmpD key d l).length=i by omega]
   | succ q ih =>
     intro i j h1 h2 h3 h4;by_cases hij:i<j
     · have hh:(i+j)/2<l.length:=(by omega);have ht:=hturn i j hij h4 hh;by_cases hn:(i+j)/2<(lo cmpD key d l).length
       · rw[zp (ag9 hh hn)] at ht;rw[aH ht];exact ih _ _ (by omega) (by omega) h3 h4
       · have:=aha cZ hr hh (k:=d) (Nat.le_of_not_lt hn);rw[zn (by omega)] at ht;rw[aH ht];exact ih _ _ (by omega) h2 (by omega) (by omega)
     · have e:i=j:=(by omega);subst e;rw[aF (hend i),show (lo cmpD key d l).length=i by omega]
 exact key l.length 0 l.length (by omega) (by omega) hlen (qAD _)
def u9 (q:List Txn1) (d:Dot1):Bool:=match q with
 | []=>false
 | x::_=>decide (cmpD x.1 d=0)
theorem adJ {l:List Txn1}{d:Dot1}{x:Txn1}{q:List Txn1} (h:hiT d l=x::q):∃ hk:(loT d l).length<l.length,l[(loT d l).length]=x:=by
 have e:loT d l++hiT d l=l:=lohi;rw[h] at e;have hl:=congrArg List.length e;simp only[qAA,zl] at hl;have e3:(loT d l++x::q)[(loT d l).length]? = some x:=by simp
 rw[e] at e3;have hk:(loT d l).length<l.length:=by omega
 rw[zg hk] at e3;exact ⟨hk,qCW e3⟩
theorem adI {l:List Txn1}{d:Dot1} (h:hiT d l=[]):(loT d l).length=l.length:=by
 have e:loT d l++hiT d l=l:=lohi;rw[h,qAT] at e;rw[e]
theorem sP {l:List Txn1}{d:Dot1} (hl:l.length<1000000) (hr:rW l) :
   zaf l d ()=some (((loT d l).length:Int),u9 (hiT d l) d,()):=by
 have h:aK (re l d) ((0:Int),(l.length:Int),())=some (.inl (((loT d l).length:Int),())):=ah2 (key:=fun t:Txn1=>t.1) (f:=re l d) (d:=d) hr (fun i j hij hj hh=>by
   unfold re zdh;simp only[ak];rw[zp (by omega),show (i:Int)+(j:Int)=((i+j:Nat):Int) by omega,oP (by omega)];simp only[zb];rw[wrap64 (n:=(((i+j)/2:Nat):Int)) (by omega) (by omega),aO hh]
   simp only[zb,mD];rw[wrap64 (by omega) (by omega)];by_cases hc:cmpD l[(i+j)/2].1 d<0
   · rw[zp hc,zp hc]; rfl
   · rw[zn hc,zn hc]) (fun i=>by
   unfold re;simp only[ak];rw[zn (by omega)])
 unfold zaf;rw[h,aB];simp only[ak];cases hq:hiT d l with
 | nil=>rw[adI hq,zn (by omega)]; rfl
 | cons x q =>
   obtain ⟨hk,e⟩:=adJ hq;rw[zp (by omega),aO hk,e];unfold zdh;simp only[zb,mD];rfl
theorem adn {l:List Txn1}{d:Dot1} (hl:l.length<1000000) (hr:rW l) :
   zag l d ()=some (((loT d l).length:Int),u9 (hiT d l) d,()):=by
 have h:aK (rd l d) ((0:Int),(l.length:Int),())=some (.inl (((loT d l).length:Int),())):=ah2 (key:=fun t:Txn1=>t.1) (f:=rd l d) (d:=d) hr (fun i j hij hj hh=>by
   unfold rd zd2;simp only[ak];rw[zp (by omega),show (i:Int)+(j:Int)=((i+j:Nat):Int) by omega,oP (by omega)];simp only[zb];rw[wrap64 (n:=(((i+j)/2:Nat):Int)) (by omega) (by omega),aO hh]
   simp only[zb,mD];rw[wrap64 (by omega) (by omega)];by_cases hc:cmpD l[(i+j)/2].1 d<0
   · rw[zp hc,zp hc]; rfl
   · rw[zn hc,zn hc]) (fun i=>by
   unfold rd;simp only[ak];rw[zn (by omega)])
 unfold zag;rw[h,aB];simp only[ak];cases hq:hiT d l with
 | nil=>rw[adI hq,zn (by omega)]; rfl
 | cons x q =>
   obtain ⟨hk,e⟩:=adJ hq;rw[zp (by omega),aO hk,e];unfold zd2;simp only[zb,mD];rfl
theorem ad3 {l:List Txn1}{d:Dot1} (hr:rW l) (h:u9 (hiT d l) d=false):∀ t∈l,t.1≠d:=by
 intro t ht e;have e2:loT d l++hiT d l=l:=lohi;rw[← e2] at ht;rcases qA9.1 ht with ht | ht
 · have:=gM (c:=cmpD) (key:=fun y:Txn1=>y.1) (k:=d) (l:=l) t ht;have q:cmpD t.1 d<0:=this;rw[e,(cZ.zero _ _).2 rfl] at q; omega
 · cases hq:hiT d l with
   | nil=>rw[hq] at ht; cases ht
   | cons x q =>
     rw[hq] at ht h;have ha:=iV cZ hr hq;unfold u9 at h;simp only[decide_eq_false_iff_not] at h;rcases qAO.1 ht with e3 | ht
     · rw[← e3,e] at h; exact h ((cZ.zero _ _).2 rfl)
     · have q:0<cmpD t.1 d:=ha.2 t ht;rw[e,(cZ.zero _ _).2 rfl] at q; omega
theorem aec {l:List Txn1}{d:Dot1} (hl:l.length<1000000) (hr:rW l) :
   (zeo l d=some (-1)∧∀ t∈l,t.1≠d)∨∃ k:Nat,zeo l d=some (k:Int)∧∃ h:k<l.length,l[k].1=d:=by
 unfold zeo;rw[sP hl hr];simp only[zb];cases hh:u9 (hiT d l) d with
 | false=>exact .inl ⟨rfl,ad3 hr hh⟩
 | true =>
   cases hq:hiT d l with
   | nil=>rw[hq] at hh; cases hh
   | cons x q =>
     rw[hq] at hh;obtain ⟨hk,e⟩:=adJ hq;exact .inr ⟨_,rfl,hk,by rw[e]; exact (cZ.zero _ _).1 (of_decide_eq_true hh)⟩
abbrev rz:Ty:=(.agg (.cons (.int .i64) (.cons (.int .i64) .unit)))
theorem tc {x y:Dot1}{v:Bool}:∀ {m:List (Dot1×Bool)},eX rz x (putK rz y v m)=if x=y then some v else eX rz x m
 | []=>by
   unfold putK eX;rw[mA,ak];unfold eX;rfl
 | e::m=>by
   unfold putK;rw[mA];by_cases hy:y=e.1
   · rw[zt hy,cond_true]
     conv=>lhs; unfold eX
     conv=>rhs; rhs; unfold eX
     rw[mA,mA,ak,ak,← hy];by_cases hx:x=y
     · rw[zp hx,zp hx]
     · rw[zn hx,zn hx,zn hx]
   · rw[zf hy,cond_false]
     conv=>lhs; unfold eX
     conv=>rhs; rhs; unfold eX
     rw[mA,ak,ak,tc];by_cases hx:x=e.1
     · rw[zp hx,zn (fun e'=>hy (by rw[← e',hx])),zp hx]
     · rw[zn hx,zn hx]
def hasD (x:Dot1) (m:List (Dot1×Bool)):Bool:=(getK rz false x m).1
theorem agN {x y:Dot1}{m:List (Dot1×Bool)}:hasD x (putK rz y true m)=(decide (y=x)||hasD x m):=by
 unfold hasD getK;rw[tc];by_cases h:x=y
 · rw[zp h,zt h.symm]; rfl
 · rw[zn h,zf (fun e=>h e.symm),qDD]
def ac7 (m:List (Dot1×Bool)) (l:List Ref1):List (Dot1×Bool):=l.foldl (fun m x=>putK rz x.1 true m) m
def nk (l:List Ref1) (d:Dot1):Bool:=l.any fun r=>decide (r.1=d)
theorem sJ {x:Dot1}:∀ {l:List Ref1}{m:List (Dot1×Bool)},hasD x (ac7 m l)=(nk l x||hasD x m)
 | [],m=>rfl
 | y::l,m=>by
   have:=sJ (x:=x) (l:=l) (m:=putK rz y.1 true m);unfold ac7 nk at this ⊢;rw[qBS,this,agN,List.any_cons];cases decide (y.1=x)<;>cases l.any (fun r=>decide (r.1=x))<;>rfl
def opsD (m:List (Dot1×Bool)) (l:List Op1):List (Dot1×Bool):=l.foldl (fun m o=>ac7 m o.2.2.2.2.1) m
def opsN (l:List Op1) (d:Dot1):Bool:=l.any fun o=>nk o.2.2.2.2.1 d
theorem xf {x:Dot1}:∀ {l:List Op1}{m:List (Dot1×Bool)},hasD x (opsD m l)=(opsN l x||hasD x m)
 | [],m=>rfl
 | o::l,m=>by
   have:=xf (x:=x) (l:=l) (m:=ac7 m o.2.2.2.2.1);unfold opsD opsN at this ⊢;rw[qBS,this,sJ,List.any_cons];cases nk o.2.2.2.2.1 x<;>cases l.any (fun o=>nk o.2.2.2.2.1 x)<;>rfl
structure LowN (l:List Txn1):Prop where
 len:l.length≤1000
 rise:rW l
 ops:∀ t∈l,t.2.2.2.2.1.length≤1000
 refs:∀ t∈l,∀ o∈t.2.2.2.2.1,o.2.2.2.2.1.length<1000000
theorem TxnsOk.lowN {l:List Txn1} (h:TxnsOk l 20):LowN l:=by
 have low:=(pC h (by omega)).low;exact ⟨low.len,h.rise,low.ops,low.seen⟩
theorem yX {t:Txn1} (ho:t.2.2.2.2.1.length≤1000) (hs:∀ o∈t.2.2.2.2.1,o.2.2.2.2.1.length<1000000) :
   aK (qY t) (0,[],())=some (.inl (opsD [] t.2.2.2.2.1,())):=by
 have mid:=bA (S:=List (Dot1×Bool)) (R:=((List (Dot1×Bool)×Unit)⊕List Dot1)) (f:=qY t) (l:=t.2.2.2.2.1) (fun k m=>((k:Int),m,())) (fun _ o m=>.inl (ac7 m o.2.2.2.2.1)) (fun m'=>.inl (m',())) (fun _ _=>True) (fun k hk m' _=>by
   refine .inl ⟨_,rfl,?_,trivial⟩;have hseen:=hs _ (zm hk);unfold qY;simp only[ak];rw[zp (by omega),aO hk];simp only[zb]
   have inner:=bA (S:=List (Dot1×Bool)) (f:=wq ((k:Int),m',()) t.2.2.2.2.1[k]) (l:=t.2.2.2.2.1[k].2.2.2.2.1) (fun j m=>((j:Int),m,())) (fun _ x m=>.inl (putK rz x.1 true m)) (fun m''=>(.inl (((k+1:Nat):Int),m'',()):(Int×List (Dot1×Bool)×Unit)⊕((List (Dot1×Bool)×Unit)⊕List Dot1))) (fun _ _=>True) (fun j hj m'' _=>by
     refine .inl ⟨_,rfl,?_,trivial⟩;unfold wq;simp only[ak];rw[zp (by omega),aO hj];simp only[zb];rw[wrap64 (by omega) (by omega)]; rfl) (fun m'' _=>by
     unfold wq;simp only[ak];rw[zn (by omega),wrap64 (by omega) (by omega)]; rfl) m' trivial
   rw[show ((0:Int),m',())=(((0:Nat):Int),m',()) from rfl,inner,cz];rfl) (fun m' _=>by
   unfold qY;simp only[ak];rw[zn (by omega)]) [] trivial
 rw[show ((0:Int),([]:List (Dot1×Bool)),())=(((0:Nat):Int),[],()) from rfl,mid,cz];rfl
def apv (l:List Txn1) (t:Txn1):List Dot1:=l.flatMap fun x=>if opsN t.2.2.2.2.1 x.1=true∧x.1≠t.1 then [x.1] else []
def aeu (l:List Txn1) (d:Dot1):List Dot1:=l.flatMap fun t=>if t.1≠d∧opsN t.2.2.2.2.1 d=true then [t.1] else []
theorem apu {s:St1}{a:Dot1} (h:LowN s.1) :
   (zby s a=some []∧∀ t∈s.1,t.1≠a)∨∃ t∈s.1,t.1=a∧zby s a=some (apv s.1 t):=by
 have hl:=h.len;unfold zby;rcases aec (d:=a) (l:=s.1) (by omega) h.rise with ⟨hf,hn⟩ | ⟨k,hf,hk,ha⟩
 · rw[hf];exact .inl ⟨rfl,hn⟩
 · refine .inr ⟨s.1[k],zm hk,ha,?_⟩;rw[hf];simp only[zb,ak];rw[zn (by omega),aO hk];simp only[zb];rw[yX (h.ops _ (zm hk)) (h.refs _ (zm hk)),aB]
   have out:=fE (R:=List Dot1) (f:=po s a) (l:=s.1) (fun i o=>((i:Int),opsD [] s.1[k].2.2.2.2.1,o,())) (fun x=>if opsN s.1[k].2.2.2.2.1 x.1=true∧x.1≠s.1[k].1 then [x.1] else []) (fun o=>o) 1 (fun x _=>by split<;>simp) (fun i hi o ho=>by
     have hh:(getK (.agg (.cons (.int .i64) (.cons (.int .i64) .unit))) false s.1[i].1 (opsD [] s.1[k].2.2.2.2.1)).1=opsN s.1[k].2.2.2.2.1 s.1[i].1:=by
       have:=xf (x:=s.1[i].1) (l:=s.1[k].2.2.2.2.1) (m:=[]);unfold hasD at this;rw[this];show (_||false)=_;rw[Bool.or_false]
     unfold po;simp only[ak];rw[zp (by omega),aO hi];simp only[zb];rw[hh,wrap64 (by omega) (by omega),mA];cases hx:opsN s.1[k].2.2.2.2.1 s.1[i].1 with
     | false=>simp
     | true =>
       simp only[cond_true,bd];by_cases c:s.1[i].1=a
       · rw[zp c,zn (by rw[ha]; exact fun q=>q.2 c)]; simp
       · rw[zn c,zp ⟨trivial,by rw[ha]; exact c⟩,aX (by simp; omega)];rfl) (fun o _=>by
     unfold po;simp only[ak];rw[zn (by omega)])
   exact out
theorem qz {l:List Ref1}{d:Dot1} (h:l.length<1000000):zah l (d,())=some (nk l d):=by
 obtain ⟨r,h1,h2⟩:=cM (S:=Unit) (f:=wA l (d,())) l.length (fun i _=>((i:Int),())) (fun i _=>∀ k (hk:k<l.length),k<i→l[k].1≠d) (fun r=>(r<0∧nk l d=false)∨(0≤r∧nk l d=true)) (fun i _ hi hv=>by
   unfold wA zbk;simp only[ak,mA];rw[zp (by omega),aO hi,wrap64 (by omega) (by omega)];simp only[zb,ak];by_cases c:l[i].1=d
   · rw[zp c];exact .inr ⟨_,rfl,.inr ⟨by omega,List.any_eq_true.2 ⟨_,zm hi,zt c⟩⟩⟩
   · rw[zn c];exact .inl ⟨(),rfl,fun k hk hki=>by
       by_cases e:k=i
       · subst e; exact c
       · exact hv k hk (by omega)⟩) (fun _ hv=>by
   unfold wA;simp only[ak];rw[zn (by omega)];exact ⟨_,rfl,.inl ⟨by omega,List.any_eq_false.2 fun x hx=>by
     obtain ⟨k,hk,rfl⟩:=qC9.1 hx;simpa using hv k hk hk⟩⟩) () (fun k hk hki=>by omega)
 unfold zah zai;rw[show ((0:Int),())=(((0:Nat):Int),()) from rfl,h1];simp only[zb];rcases h2 with ⟨q,e⟩ | ⟨q,e⟩
 · rw[e,zf (by omega)]
 · rw[e,zt (by omega)]
theorem tg {l:List Op1}{d:Dot1} (h:l.length≤1000) (hs:∀ o∈l,o.2.2.2.2.1.length<1000000):zak l (d,())=some (opsN l d):=by
 obtain ⟨r,h1,h2⟩:=cM (S:=Unit) (f:=wz l (d,())) l.length (fun i _=>((i:Int),())) (fun i _=>∀ k (hk:k<l.length),k<i→nk l[k].2.2.2.2.1 d=false) (fun r=>(r<0∧opsN l d=false)∨(0≤r∧opsN l d=true)) (fun i _ hi hv=>by
   unfold wz zbp;simp only[ak];rw[zp (by omega),aO hi,wrap64 (by omega) (by omega)];simp only[zb];rw[qz (hs _ (zm hi))];simp only[zb];cases c:nk l[i].2.2.2.2.1 d with
   | true=>exact .inr ⟨_,rfl,.inr ⟨by omega,List.any_eq_true.2 ⟨_,zm hi,c⟩⟩⟩
   | false =>
     exact .inl ⟨(),rfl,fun k hk hki=>by
       by_cases e:k=i
       · subst e; exact c
       · exact hv k hk (by omega)⟩) (fun _ hv=>by
   unfold wz;simp only[ak];rw[zn (by omega)];exact ⟨_,rfl,.inl ⟨by omega,List.any_eq_false.2 fun x hx=>by
     obtain ⟨k,hk,rfl⟩:=qC9.1 hx;simp[hv k hk hk]⟩⟩) () (fun k hk hki=>by omega)
 unfold zak zap;rw[show ((0:Int),())=(((0:Nat):Int),()) from rfl,h1];simp only[zb];rcases h2 with ⟨q,e⟩ | ⟨q,e⟩
 · rw[e,zf (by omega)]
 · rw[e,zt (by omega)]
theorem zH {s:St1}{d:Dot1} (h:LowN s.1):zbt s d=some (aeu s.1 d):=by
 have hl:=h.len
 have out:=fE (R:=List Dot1) (f:=wu s d) (l:=s.1) (fun i o=>((i:Int),o,())) (fun t=>if t.1≠d∧opsN t.2.2.2.2.1 d=true then [t.1] else []) (fun o=>o) 1 (fun x _=>by split<;>simp) (fun i hi o ho=>by
   unfold wu;simp only[ak];rw[zp (by omega),aO hi];simp only[zb];rw[tg (h.ops _ (zm hi)) (h.refs _ (zm hi)),wrap64 (by omega) (by omega),mA];simp only[zb,bd];by_cases c:s.1[i].1=d
   · rw[zp c,zn (fun q=>q.1 c)]; simp
   · rw[zn c];cases hx:opsN s.1[i].2.2.2.2.1 d with
     | false=>rw[zn (fun q=>by cases q.2)]; simp
     | true =>
       rw[zp ⟨c,rfl⟩,aX (by simp; omega)];rfl) (fun o _=>by
   unfold wu;simp only[ak];rw[zn (by omega)])
 exact out
def rB (l:List Txn1) (d:Dot1):Bool:=l.any fun t=>decide (t.1=d)
def fY (s:St1) (d:Dot1) (redo b:Bool):Int:=if rB s.1 d=false then 12 else if b=true then 13 else if cT s.2.1 d=redo then 11 else if bc d=false then 2 else if getM s.2.1 d≥64 then 14 else 0
theorem apw {s:St1}{n:Nat}{d:Dot1}{redo:Bool} (h:StOk s n) (hn:n<100000) (hr:rW s.1):∃ b,zes s.2.2.2.1 d=some b∧zcz s d redo=some (fY s d redo b):=by
 obtain ⟨b,hb,hm⟩:=af4 (d:=d) h hn;refine ⟨b,hb,?_⟩;have hl:=h.txns;unfold zcz fY;have hu:=h.undos.low hn;rw[hb,ij hu.len hu.rise,hm]
 rcases aec (l:=s.1) (d:=d) (by omega) hr with ⟨hf,hno⟩ | ⟨k,hf,hk,e⟩
 · have:rB s.1 d=false:=List.any_eq_false.2 fun t ht=>by simpa using hno t ht
   rw[hf,zp this]; rfl
 · have:rB s.1 d=true:=List.any_eq_true.2 ⟨_,zm hk,zt e⟩;rw[hf,zn (show ¬ rB s.1 d=false by rw[this]; decide)];simp only[zb,ak];rw[zn (show ¬ (k:Int)<0 by omega)];cases b with
   | true=>rfl
   | false =>
     simp only[cond_false,qA7,if_false];cases hs:cT s.2.1 d<;>cases redo<;>simp
theorem oB {s:St1}{d:Dot1}{redo b:Bool} (h:fY s d redo b=0):rB s.1 d=true∧b=false∧cT s.2.1 d = !redo∧bc d=true∧getM s.2.1 d<64:=by
 unfold fY at h
 split at h
 · omega
 split at h
 · omega
 split at h
 · omega
 split at h
 · omega
 split at h
 · omega
 rename_i h1 h2 h3 h4 h5;refine ⟨by simpa using h1,by simpa using h2,?_,by simpa using h4,by omega⟩;cases hs:cT s.2.1 d<;>cases redo<;>simp_all
def upU (s:St1) (d:Dot1):List Ref1:=fH s.2.1 (d,getM s.2.1 d+1,())
theorem aqf {s:St1}{n:Nat}{d:Dot1} (h:StOk s n) (hn:n<100000) (hd:bc d=true) (hg:getM s.2.1 d<64):zb1 s d=some ((s.1,upU s d,s.2.2.1,s.2.2.2.1,s.2.2.2.2.1,()),0,()):=by
 have hl:=h.undos.len;unfold zb1;rw[jz h.undos hn,zn (by rw[hd]; decide),zn (by omega)];simp only[zb,bd];rw[zp trivial];unfold zc3;rw[adU (by omega)];rfl
theorem ahH {s:St1}{n:Nat}{d:Dot1} (h:StOk s n) (hd:bc d=true) (hg:getM s.2.1 d<64):UOk (upU s d) (n+1):=by
 have hg0:=mm (d:=d) h.undos.one;refine h.undos.join ?_;unfold oneM;simp only[k9,decide_eq_true_eq];exact ⟨hd,by omega,by omega⟩
theorem acz {s:St1}{n:Nat}{d x:Dot1} (h:StOk s n):getM (upU s d) x=if x=d then getM s.2.1 d+1 else getM s.2.1 x:=by
 have hg0:=mm (d:=d) h.undos.one;unfold upU;rw[xk (by simp only; omega) h.undos.rise];by_cases c:x=d
 · rw[zp c,zp c,c]; simp only; omega
 · rw[zn c,zn c]
theorem ym {l:List bB}:lI (f0 l):=by
 unfold f0;have h:dX qC (fun v=>v) (dD l):=gB hU _;show List.Pairwise _ _;rw[List.pairwise_map];refine List.Pairwise.imp (fun {a b} hab => ?_) h
 have e:cmpK (keyE (entM l a.1 a.2.1)) (keyE (entM l b.1 b.2.1))=qC a b:=by
   unfold cmpK cmpB qC orI keyE entM;rfl
 rw[e]; exact hab
theorem pz {l:List bB} (h:ItemsOk l):VOk (f0 l) where
 len:=afV h
 easy e he:=by
   obtain ⟨y,hy,rfl⟩:=wD he;have hs:=jK h hy;exact ⟨apU h hs.1 hs.2,fun x hx=>by have:=hs.2 x hx; omega⟩
 rise:=ym
theorem of_t {s:St1}{n:Nat}{d:Dot1}{redo:Bool} (h:StOk s n) (hn:n<10000) (ht:TxnsOk s.1 20):∃ b,zes s.2.2.2.1 d=some b∧zcz s d redo=some (fY s d redo b) ∧
   zdi s d redo=some (if fY s d redo b=0 then (dM (f0 (allM s.1 s.2.1)) (f0 (allM s.1 (upU s d))),0,()) else ([],fY s d redo b,())):=by
 obtain ⟨b,hb,hm⟩:=apw (d:=d) (redo:=redo) h (by omega) ht.rise;refine ⟨b,hb,hm,?_⟩;unfold zdi;rw[hm];simp only[zb,bd];by_cases c:fY s d redo b=0
 · obtain ⟨_,_,_,c4,c5⟩:=oB c;have hp:=(pC ht (by omega)).low;have hu:=h.undos.low (by omega);have hv:=(ahH h c4 c5).low (by omega);have ia:=kG (u:=s.2.1) ht;have ib:=kG (u:=upU s d) ht
   rw[zp c,zp c,aqf h (by omega) c4 c5];simp only[zb,bd];rw[zp trivial];unfold zc1;simp only;rw[ahd hp hu,ahd hp hv];simp only[zb];rw[kx ia];simp only[zb];rw[kx ib];simp only[zb]
   rw[apY (pz ia) (pz ib)];rfl
 · rw[zn c,zn c]
theorem ahP {s:St1}{t:Txn1}{n:Nat} (hl:s.1.length≤500) (hr:rW s.1) (hk:DOk s.2.2.1 n) (hn:n<10000) (h:u9 (hiT t.1 s.1) t.1=false) :
   ∃ kn,zeb s t=some (loT t.1 s.1++t::hiT t.1 s.1,s.2.1,kn,s.2.2.2.1,s.2.2.2.2.1,())∧DOk kn (n+1):=by
 have e2:loT t.1 s.1++hiT t.1 s.1=s.1:=lohi;obtain ⟨kn,d1,d2⟩:=ael (d:=t.1) hk (by omega);have e1:za7 s.1=some s.1:=by
   unfold za7 dv;rw[zp (by simp only[most]; omega)]
 have hlen:(loT t.1 s.1).length≤s.1.length:=by
   have:=congrArg List.length e2;rw[qAA] at this; omega
 have e3:za6 ((loT t.1 s.1).length:Int) [t] s.1=some ((),loT t.1 s.1++t::hiT t.1 s.1,()):=by
   unfold za6 insT;rw[zp ⟨by omega,by omega,by simp,by simp only[most,qCO]; omega⟩];have q1:s.1.take (loT t.1 s.1).length=loT t.1 s.1:=by
     have q:(loT t.1 s.1++hiT t.1 s.1).take (loT t.1 s.1).length=loT t.1 s.1:=List.take_left' rfl;rwa [e2] at q
   have q2:s.1.drop (loT t.1 s.1).length=hiT t.1 s.1:=by
     have q:(loT t.1 s.1++hiT t.1 s.1).drop (loT t.1 s.1).length=hiT t.1 s.1:=List.drop_left' rfl;rwa [e2] at q
   simp[q1,q2]
 refine ⟨kn,?_,d2⟩;unfold zeb zeo ze2;rw[sP (by omega) hr,adn (by omega) hr,h];simp only[zb,qBK,cond_true,cond_false,ak];rw[zn (by decide),e1];simp only[zb];rw[e3];simp only[zb];rw[d1];rfl
abbrev opA:Op1:=(1,[[97]],(1,1,[],()),0,[],())
abbrev opB:Op1:=(1,[[97]],(1,2,[],()),0,[((0,1,()),0,())],())
abbrev txA:Txn1:=((0,1,()),0,1,false,[opA],())
abbrev txB:Txn1:=((0,2,()),0,2,false,[opB],())
theorem aDC:ko [((0,1,()),0,())]=true:=by
 unfold ko;rw[zp (fun i h=>by
   have:i=0:=by simp at h; omega
   subst this;decide)]
theorem aAy:opM opA=0:=aAu aeD
theorem aAx:opM opB=0:=by
 unfold opM;simp[aeD,cY,aDC]
theorem ahI:TxnsOk [txA,txB] 20 where
 len:=by simp
 rise:=qBF.2 ⟨fun x hx=>by rw[qA2.1 hx]; decide,qCB ..⟩
 all t ht:=by
   rcases qAO.1 ht with rfl | ht
   · exact ⟨by simp,by simp,fun o ho=>by rw[qA2.1 ho]; exact ⟨⟨by simp,by simp,by simp,by simp⟩,.inl aAy⟩,by decide,by decide,by decide⟩
   · rw[qA2.1 ht];exact ⟨by simp,by simp,fun o ho=>by rw[qA2.1 ho]; exact ⟨⟨by simp,by simp,by simp,by simp⟩,.inl aAx⟩,by decide,by decide,by decide⟩
theorem ahJ {n:Nat} (h:n<10):jx (1,(n:Int),[],())=[UInt8.ofNat (48+n)]:=by
 show Lib.itoa (n:Int)=_;rw[agK,mG h]
theorem aqc:zc6=some true:=by
 have r2:bc (0,2,())=true:=by decide
 unfold zc6;rw[show zeg 1 1 []=some txA from rfl,show zeg 2 2 [((0,1,()),0,())]=some txB from rfl];simp only[zb]
 obtain ⟨k1,a1,a2⟩:=ahP (s:=(([],[],([0,0,0,0,0,0,0,0,0,0,0,0,0,0,0,0],[],()),([0,0,0,0,0,0,0,0,0,0,0,0,0,0,0,0],[],()),[[],[],[],[],[],[],[],[]],()):St1)) (t:=txA) (n:=0) (by simp) List.Pairwise.nil ⟨rfl,by simp,fun d hd=>by cases hd⟩ (by omega) rfl
 rw[a1];simp only[zb];have c1:loT txA.1 []++txA::hiT txA.1 []=[txA]:=rfl;rw[c1]
 obtain ⟨k2,b1,b2⟩:=ahP (s:=(([txA],[],k1,([0,0,0,0,0,0,0,0,0,0,0,0,0,0,0,0],[],()),[[],[],[],[],[],[],[],[]],()):St1)) (t:=txB) (n:=1) (by simp) (qCB ..) a2 (by omega) (show u9 (hiT (0,2,()) [txA]) (0,2,())=false from rfl)
 rw[b1];simp only[zb];have c2:loT txB.1 [txA]++txB::hiT txB.1 [txA]=[txA,txB]:=rfl;rw[c2]
 have st:StOk ([txA,txB],[],k2,([0,0,0,0,0,0,0,0,0,0,0,0,0,0,0,0],[],()),[[],[],[],[],[],[],[],[]],()) 100:=⟨by simp,⟨by simp,List.Pairwise.nil,fun x hx=>by cases hx⟩,rfl,by simp,rfl⟩
 have low:LowN [txA,txB]:=ahI.lowN;obtain ⟨b,hb,hm,hof⟩:=of_t (d:=(0,2,())) (redo:=false) st (by omega) ahI;have hbf:zes ([0,0,0,0,0,0,0,0,0,0,0,0,0,0,0,0],[],()) (0,2,())=some false:=uz r2
 simp only at hb;rw[hbf] at hb;cases hb;have nz:fY ([txA,txB],[],k2,([0,0,0,0,0,0,0,0,0,0,0,0,0,0,0,0],[],()),[[],[],[],[],[],[],[],[]],()) (0,2,()) false false=0:=by rfl
 rw[hof,zp nz];simp only[zb];have e:dM (f0 (allM [txA,txB] [])) (f0 (allM [txA,txB] [((0,2,()),1,())]))=[lm ([[97]],1,[(1,2,[],())],0,()) ([[97]],1,[(1,1,[],())],0,())]:=by
   have v1:f0 (allM [txA,txB] [])=[([[97]],1,[(1,2,[],())],0,())]:=rfl;have v2:f0 (allM [txA,txB] [((0,2,()),1,())])=[([[97]],1,[(1,1,[],())],0,())]:=rfl;rw[v1,v2];unfold dM;rw[cC.eq_def];simp only
   rw[zn (by decide),zn (by decide),zn (by decide),cC.eq_def];rfl
 have eu:upU ([txA,txB],[],k2,([0,0,0,0,0,0,0,0,0,0,0,0,0,0,0,0],[],()),[[],[],[],[],[],[],[],[]],()) (0,2,())=[((0,2,()),1,())]:=rfl;rw[eu,e]
 have small:∀ n:Int,-2147483647≤n→n≤2147483647→gU ([[97]],1,[(1,n,[],())],0,()):=fun n h1 h2=>⟨by simp,by simp,by simp,fun v hv=>by
   rw[qA2.1 hv];unfold cY; rw[decide_eq_true_eq]; exact .inl ⟨rfl,rfl,h1,h2⟩⟩
 have fit:∀ c∈[lm ([[97]],1,[(1,2,[],())],0,()) ([[97]],1,[(1,1,[],())],0,())],fitC c:=fun c hc=>by
   rw[qA2.1 hc];exact ⟨⟨small 2 (by omega) (by omega),by unfold inR; simp[lm]⟩,small 1 (by omega) (by omega),by unfold inR; simp[lm]⟩
 rw[gp (by simp) fit];have t1:jx (1,1,[],())=[49]:=ahJ (n:=1) (by omega);have t2:jx (1,2,[],())=[50]:=ahJ (n:=2) (by omega)
 have tx:([lm ([[97]],1,[(1,2,[],())],0,()) ([[97]],1,[(1,1,[],())],0,())].flatMap iR)=[45,32,97,32,61,32,50,10,43,32,97,32,61,32,49,10]:=by
   rw[qBG,List.flatMap_nil,qAT];unfold iR lm uW yp;simp only[qA5,qCP,t1,t2];rfl
 rw[tx];simp only[zb,decide_true,cond_true];rcases apu (s:=([txA,txB],[],k2,([0,0,0,0,0,0,0,0,0,0,0,0,0,0,0,0],[],()),[[],[],[],[],[],[],[],[]],())) (a:=(0,2,())) low with ⟨_,hn⟩ | ⟨t,ht,htd,hn⟩
 · exact absurd rfl (hn txB (by simp))
 · have : t = txB := by
     simp only[qAO,qDJ,or_false] at ht;rcases ht with rfl | rfl
     · exact absurd htd (by decide)
     · rfl
   subst this;rw[hn,zH low];rfl
theorem aAU {l:List Chg} (hl:l.length<1000000):zdd l=some (l.map nG):=by
 have:=fE (f:=vY l) (l:=l) (fun i o=>((i:Int),o,())) (fun x=>[nG x]) (fun o=>o) 1 (fun x _=>by simp) (fun i h o ho=>by
   unfold vY;simp only[ak];rw[zp (by omega),aO h];simp only[zb];have w1:IntKind.wrap .i64 ((i:Int)+1)=((i+1:Nat):Int):=by rw[wrap64 (by omega) (by omega)]; rfl
   rw[w1];generalize l[i]=d;obtain ⟨k,x,y,⟨⟩⟩:=d;unfold nG;simp only;by_cases h1:k=1
   · rw[zp h1,zp h1];simp only[zb,cN];rw[aX (by simp; omega)]; rfl
   · rw[zn h1,zn h1];by_cases h2:k=2
     · rw[zp h2,zp h2];simp only[zb,cN];rw[aX (by simp; omega)]; rfl
     · rw[zn h2,zn h2];simp only[zb,cN];rw[aX (by simp; omega)]; rfl) (fun o ho=>by
   unfold vY;simp only[ak];rw[zn (by omega)])
 unfold zdd;have e:∀ l:List Chg,l.flatMap (fun x=>[nG x])=l.map nG:=by
   intro l
   induction l with
   | nil=>rfl
   | cons x l ih=>simp[qBG,ih]
 rw[e] at this;exact this
end Go.Proofs.YtnbgkhdcidbkaaaGreatDoor.Q
