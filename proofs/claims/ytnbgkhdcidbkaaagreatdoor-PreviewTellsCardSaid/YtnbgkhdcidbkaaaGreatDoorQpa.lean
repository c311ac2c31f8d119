import Derived.Test.YtnbgkhdcidbkaaaGreatDoorW
import Derived.Test.YtnbgkhdcidbkaaaGreatDoorT14
import Derived.Test.YtnbgkhdcidbkaaaGreatDoorT32
set_option linter.unusedVariables false
set_option linter.unusedSimpArgs false
set_option maxRecDepth 100000
namespace Go.Proofs.YtnbgkhdcidbkaaaGreatDoor.Q
open Go.EM Go.TY Go.Proofs Go.Proofs.YtnbgkhdcidbkaaaGreatDoor.Y
def aN:List UInt8→Int×Nat
 | []=>(0,0)
 | a::t =>
   if a.toNat<128 then (a.toNat,1)
   else if 194≤a.toNat∧a.toNat<224 then (match t with
     | b::_=>if 128≤b.toNat∧b.toNat≤191 then (64*((a.toNat:Int)-192)+b.toNat-128,2) else (0,0)
     | _=>(0,0))
   else if 224≤a.toNat∧a.toNat<240 then (match t with
     | b :: c :: _ => if (128 ≤ b.toNat ∧ b.toNat ≤ 191) ∧ (128 ≤ c.toNat ∧ c.toNat ≤ 191) then
         let r:Int:=64*(64*((a.toNat:Int)-224)+b.toNat-128)+c.toNat-128
         if r<2048∨(55296≤r∧r≤57343) then (0,0) else (r,3)
       else (0,0)
     | _=>(0,0))
   else if 240≤a.toNat∧a.toNat<245 then (match t with
     | b :: c :: d :: _ => if (128 ≤ b.toNat ∧ b.toNat ≤ 191) ∧ (128 ≤ c.toNat ∧ c.toNat ≤ 191) ∧ (128 ≤ d.toNat ∧ d.toNat ≤ 191) then
         let r:Int:=64*(64*(64*((a.toNat:Int)-240)+b.toNat-128)+c.toNat-128)+d.toNat-128
         if r<65536∨1114111<r then (0,0) else (r,4)
       else (0,0)
     | _=>(0,0))
   else (0,0)
theorem oF {s:List UInt8}{q:Int×Int×Int×Unit}{x:Int}{i:Nat}{b:UInt8} (hi:(i:Int)<q.2.1) (hi4:i≤4) (h:s[i]? = some b) (hx:0≤x) (hx2:x≤100000000) :
   gm s q (x,(i:Int),())=if 128≤b.toNat∧b.toNat≤191 then some (.inl (64*x+b.toNat-128,((i+1:Nat):Int),())) else some (.inr (.inr (0,0,()))):=by
 have hb:b.toNat<256:=b.toNat_lt;simp only[gm,gF,h,zb,ah,zp hi]
 rw[wrap64 (n:=64*x) (by omega) (by omega),wrap64 (n:=(b.toNat:Int)) (by omega) (by omega),wrap64 (n:=64*x+b.toNat) (by omega) (by omega),wrap64 (n:=64*x+b.toNat-128) (by omega) (by omega),wrap64 (n:=(i:Int)+1) (by omega) (by omega)]
 by_cases h1:b.toNat<128
 · rw[zp (by omega),zn (by omega)]
 · rw[zn (by omega)];by_cases h2:b.toNat>191
   · rw[zp (by omega),zn (by omega)]
   · rw[zn (by omega),zp (by omega)]; rfl
theorem aeu {s:List UInt8}{q:Int×Int×Int×Unit}{x:Int}{i:Nat} (hi:¬ (i:Int)<q.2.1):gm s q (x,(i:Int),())=some (.inr (.inl (x,()))):=by
 simp only[gm,ah,zn hi]
theorem ain {a b:UInt8}{t:List UInt8}{l:Int}{c x:Int} (hx:0≤x) (hx2:x≤1000) :
   aH (gm (a::b::t) (c,2,l,())) (x,1,())=if 128≤b.toNat∧b.toNat≤191 then some (.inl (64*x+b.toNat-128,())) else some (.inr (0,0,())):=by
 have h:=oF (s:=a::b::t) (q:=(c,2,l,())) (i:=1) (b:=b) (x:=x) (by simp) (by omega) rfl hx (by omega);by_cases hb:128≤b.toNat∧b.toNat≤191
 · rw[zp hb] at h ⊢;exact (aG h).trans (aD (aeu (by simp)))
 · rw[zn hb] at h ⊢;exact aD h
theorem aim {a b d:UInt8}{t:List UInt8}{l:Int}{c x:Int} (hx:0≤x) (hx2:x≤1000) :
   aH (gm (a::b::d::t) (c,3,l,())) (x,1,())=if (128≤b.toNat∧b.toNat≤191)∧(128≤d.toNat∧d.toNat≤191) then some (.inl (64*(64*x+b.toNat-128)+d.toNat-128,())) else some (.inr (0,0,())):=by
 have hb':=b.toNat_lt;have h:=oF (s:=a::b::d::t) (q:=(c,3,l,())) (i:=1) (b:=b) (x:=x) (by simp) (by omega) rfl hx (by omega);by_cases hb:128≤b.toNat∧b.toNat≤191
 · rw[zp hb] at h;have h2:=oF (s:=a::b::d::t) (q:=(c,3,l,())) (i:=2) (b:=d) (x:=64*x+b.toNat-128) (by simp) (by omega) rfl (by omega) (by omega);by_cases hd:128≤d.toNat∧d.toNat≤191
   · rw[zp hd] at h2;rw[zp ⟨hb,hd⟩];exact ((aG h).trans (aG h2)).trans (aD (aeu (by simp)))
   · rw[zn hd] at h2;rw[zn (fun e=>hd e.2)];exact (aG h).trans (aD h2)
 · rw[zn hb] at h;rw[zn (fun e=>hb e.1)];exact aD h
theorem ail {a b d e:UInt8}{t:List UInt8}{l:Int}{c x:Int} (hx:0≤x) (hx2:x≤1000) :
   aH (gm (a::b::d::e::t) (c,4,l,())) (x,1,())=if (128≤b.toNat∧b.toNat≤191)∧(128≤d.toNat∧d.toNat≤191)∧(128≤e.toNat∧e.toNat≤191) then some (.inl (64*(64*(64*x+b.toNat-128)+d.toNat-128)+e.toNat-128,())) else some (.inr (0,0,())):=by
 have hb':=b.toNat_lt;have hd':=d.toNat_lt;have h:=oF (s:=a::b::d::e::t) (q:=(c,4,l,())) (i:=1) (b:=b) (x:=x) (by simp) (by omega) rfl hx (by omega);by_cases hb:128≤b.toNat∧b.toNat≤191
 · rw[zp hb] at h;have h2:=oF (s:=a::b::d::e::t) (q:=(c,4,l,())) (i:=2) (b:=d) (x:=64*x+b.toNat-128) (by simp) (by omega) rfl (by omega) (by omega);by_cases hd:128≤d.toNat∧d.toNat≤191
   · rw[zp hd] at h2;have h3:=oF (s:=a::b::d::e::t) (q:=(c,4,l,())) (i:=3) (b:=e) (x:=64*(64*x+b.toNat-128)+d.toNat-128) (by simp) (by omega) rfl (by omega) (by omega)
     by_cases he:128≤e.toNat∧e.toNat≤191
     · rw[zp he] at h3;rw[zp ⟨hb,hd,he⟩];exact (((aG h).trans (aG h2)).trans (aG h3)).trans (aD (aeu (by simp)))
     · rw[zn he] at h3;rw[zn (fun q=>he q.2.2)];exact ((aG h).trans (aG h2)).trans (aD h3)
   · rw[zn hd] at h2;rw[zn (fun q=>hd q.2.1)];exact (aG h).trans (aD h2)
 · rw[zn hb] at h;rw[zn (fun q=>hb q.1)];exact aD h
theorem aj2 (s:List UInt8):zdy s=some ((aN s).1,((aN s).2:Int),()):=by
 cases s with
 | nil=>simp[zdy,aN]
 | cons a t =>
   have ha:a.toNat<256:=a.toNat_lt;have h0:¬ (((a::t).length:Int)=0):=by simp only[zl]; omega
   have hi:atI (a::t) 0=some a:=by simp[atI]
   unfold zdy;simp only[ah,zn h0,hi,zb,ai6,aiz,arK];rw[wrap64 (n:=(a.toNat:Int)) (by omega) (by omega)];by_cases c1:a.toNat<128
   · rw[zp (by omega)];simp only[bj,aN,zp c1]; rfl
   rw[zn (by omega)];by_cases c2:194≤a.toNat∧a.toNat<224
   · rw[zp (by omega),wrap64 (by omega) (by omega)];simp only[ay]
     match t with
     | []=>simp[aN,c1,c2]
     | b::t =>
       rw[zn (by simp only[zl]; omega),ain (by omega) (by omega)];by_cases hb:128≤b.toNat∧b.toNat≤191
       · rw[zp hb];simp only[ay];rw[kh,zn (by omega)];simp only[aN,c1,c2,hb,if_true,if_false,and_self]; rfl
       · rw[zn hb];simp only[bj];simp[aN,c1,c2,hb]
   rw[zn (by omega)];by_cases c3:224≤a.toNat∧a.toNat<240
   · rw[zp (by omega),wrap64 (by omega) (by omega)];simp only[ay]
     match t with
     | []=>simp[aN,c1,c2,c3]
     | [b]=>simp[aN,c1,c2,c3]
     | b::c::t =>
       have hb:=b.toNat_lt;have hc:=c.toNat_lt;rw[zn (by simp only[zl]; omega),aim (by omega) (by omega)];by_cases hb':(128≤b.toNat∧b.toNat≤191)∧(128≤c.toNat∧c.toNat≤191)
       · rw[zp hb'];simp only[ay];rw[kh];simp only[aN,c1,c2,c3,hb',if_true,if_false,and_self]
         by_cases hr:64*(64*((a.toNat:Int)-224)+b.toNat-128)+c.toNat-128<2048∨(55296≤64*(64*((a.toNat:Int)-224)+b.toNat-128)+c.toNat-128∧64*(64*((a.toNat:Int)-224)+b.toNat-128)+c.toNat-128≤57343)
         · rw[zp (by omega),zp hr]; rfl
         · rw[zn (by omega),zn hr]; rfl
       · rw[zn hb'];simp only[bj];simp[aN,c1,c2,c3,hb']
   rw[zn (by omega)];by_cases c4:240≤a.toNat∧a.toNat<245
   · rw[zp (by omega),wrap64 (by omega) (by omega)];simp only[ay]
     match t with
     | []=>simp[aN,c1,c2,c3,c4]
     | [b]=>simp[aN,c1,c2,c3,c4]
     | [b,c]=>simp[aN,c1,c2,c3,c4]
     | b::c::d::t =>
       have hb:=b.toNat_lt;have hc:=c.toNat_lt;have hd:=d.toNat_lt;rw[zn (by simp only[zl]; omega),ail (by omega) (by omega)]
       by_cases hb':(128≤b.toNat∧b.toNat≤191)∧(128≤c.toNat∧c.toNat≤191)∧(128≤d.toNat∧d.toNat≤191)
       · rw[zp hb'];simp only[ay];rw[kh];simp only[aN,c1,c2,c3,c4,hb',if_true,if_false,and_self]
         by_cases hr:64*(64*(64*((a.toNat:Int)-240)+b.toNat-128)+c.toNat-128)+d.toNat-128<65536∨1114111<64*(64*(64*((a.toNat:Int)-240)+b.toNat-128)+c.toNat-128)+d.toNat-128
         · rw[zp (by omega),zp hr]; rfl
         · rw[zn (by omega),zn hr]; rfl
       · rw[zn hb'];simp only[bj];simp[aN,c1,c2,c3,c4,hb']
   rw[zn (by omega)];simp only[bj];simp[aN,c1,c2,c3,c4]
theorem zy (s:List UInt8):(aN s).2≤s.length:=by
 unfold aN
 repeat' split
 all_goals (try simp only[])
 all_goals (try split)
 all_goals (try simp only[zl])
 all_goals omega
theorem jx (s:List UInt8):0≤(aN s).1∧(aN s).1≤1114111:=by
 unfold aN
 repeat' split
 all_goals (try simp only[])
 all_goals (try split)
 all_goals (try simp only[])
 all_goals omega
def cB (s:List UInt8):Option (List Int) :=
 if h:s=[] then some []
 else if h0:(aN s).2=0 then none
 else (cB (s.drop (aN s).2)).map fun l=>(aN s).1::l
termination_by s.length
decreasing_by
 have:s.length≠0:=fun e=>h (qA1 e);simp only[qA2]; omega
theorem gR:cB []=some []:=by rw[cB,dif_pos rfl]
theorem iz {s:List UInt8} (h:s≠[]) (h0:(aN s).2=0):cB s=none:=by rw[cB,dif_neg h,dif_pos h0]
theorem fL {s:List UInt8} (h:s≠[]) (h0:(aN s).2≠0):cB s=(cB (s.drop (aN s).2)).map fun l=>(aN s).1::l:=by rw[cB,dif_neg h,dif_neg h0]
def gb (s:List UInt8) (out:List Int):List Int×Bool×Unit :=
 match cB s with
 | some m=>(out++m,true,())
 | none=>([],false,())
theorem aaz {s:List UInt8} (hs:s.length<4294967296):∀ (k i:Nat) (l:List Int),s.length-i≤k→i≤s.length→l.length≤i→aH (oq s) ((i:Int),l,())=some (gb (s.drop i) l):=by
 intro k;have fin:∀ (i:Nat) (l:List Int),¬ i<s.length→aH (oq s) ((i:Int),l,())=some (gb (s.drop i) l):=by
   intro i l hi;rw[qAU (by omega),aD (x:=(l,true,())) (by simp only[oq,ah]; rw[zn (by omega)])];simp[gb,gR]
 induction k with
 | zero=>intro i l hk hi hl; exact fin i l (by omega)
 | succ k ih =>
   intro i l hk hi hl;by_cases hlt:i<s.length
   · have hne:s.drop i≠[]:=fun e=>(by have:=congrArg List.length e; simp at this; omega);have hle:=zy (s.drop i);simp only[qA2] at hle;by_cases h0:(aN (s.drop i)).2=0
     · rw[aD (x:=([],false,()))]
       · simp only[gb,iz hne h0]
       · simp only[oq,ah];rw[zp (by omega),ev (by omega)];simp only[zb,aj2];rw[zp (by omega)]
     · rw[aG (b:=(((i+(aN (s.drop i)).2:Nat):Int),l++[(aN (s.drop i)).1],()))]
       · rw[ih _ _ (by omega) (by omega) (by simp; omega)];simp only[gb,fL hne h0,qB2];cases cB (s.drop (i+(aN (s.drop i)).2))<;>simp
       · simp only[oq,ah];rw[zp (by omega),ev (by omega)];simp only[zb,aj2];rw[zn (by omega),aL (by simp; omega)];simp only[zb];rw[wrap64 (by omega) (by omega)];simp
   · exact fin i l hlt
theorem aeF {s:List UInt8} (hs:s.length<4294967296):zc9 s=some (gb s []):=by
 have:=aaz hs s.length 0 [] (by omega) (by omega) (by simp);simpa [zc9] using this
def decN (l:List UInt8):Nat×Nat:=if (aN l).2=0 then (65533,1) else ((aN l).1.toNat,(aN l).2)
theorem get_at {s:List UInt8}{i:Nat}{b:UInt8} (h:s[i]? = some b):(⟨s.toArray⟩:ByteArray).get! i=b:=by
 have:(⟨s.toArray⟩:ByteArray).get! i=s.toArray[i]! := rfl;rw[this];simp[h]
theorem ar8 {s:List UInt8}{i:Nat} (h:s.length≤i):decide (i<(⟨s.toArray⟩:ByteArray).size)=false:=by
 have:(⟨s.toArray⟩:ByteArray).size=s.length:=by simp[ByteArray.size]
 rw[this]; simp; omega
theorem aiY {s:List UInt8}{i:Nat} (h:i<s.length):decide (i<(⟨s.toArray⟩:ByteArray).size)=true:=by
 have:(⟨s.toArray⟩:ByteArray).size=s.length:=by simp[ByteArray.size]
 rw[this]; simp; omega
theorem drop_at {s t:List UInt8}{i k:Nat}{b:UInt8} (h:s.drop i=t) (hb:t[k]? = some b):s[i+k]? = some b:=by
 rw[← h,qBY] at hb; exact hb
theorem aiR {s t:List UInt8}{i:Nat} (h:s.drop i=t) (hi:i≤s.length):s.length=i+t.length:=by
 rw[← h,qA2]; omega
def decV (b0:Nat) (b1 b2 b3:Option Nat):Nat×Nat :=
 let cont (b:Option Nat):Bool:=match b with
   | some b=>b/64==2
   | none=>false
 if b0<0x80 then (b0,1)
 else if b0/32==6&&cont b1 then
   let c:=(b0%32)*64+b1.getD 0%64
   if c≥0x80 then (c,2) else (65533,1)
 else if b0/16==14&&cont b1&&cont b2 then
   let c:=(b0%16)*4096+(b1.getD 0%64)*64+b2.getD 0%64
   if c≥0x800&&Utf8.valid c then (c,3) else (65533,1)
 else if b0/8==30&&cont b1&&cont b2&&cont b3 then
   let c:=(b0%8)*262144+(b1.getD 0%64)*4096+(b2.getD 0%64)*64+b3.getD 0%64
   if c≥0x10000&&Utf8.valid c then (c,4) else (65533,1)
 else (65533,1)
theorem aiU {s t:List UInt8}{i:Nat}{a:UInt8} (h:s.drop i=a::t) (hi:i≤s.length):Utf8.decode ⟨s.toArray⟩ i=decV a.toNat (t[0]?.map (·.toNat)) (t[1]?.map (·.toNat)) (t[2]?.map (·.toNat)):=by
 have hlen:=aiR h hi;have g0:(⟨s.toArray⟩:ByteArray).get! (i+0)=a:=get_at (drop_at h rfl)
 have gk:∀ k b,t[k]? = some b→(⟨s.toArray⟩:ByteArray).get! (i+(k+1))=b:=fun k b hb=>get_at (drop_at h (by simpa using hb))
 have cy:∀ k b,t[k]? = some b→decide (i+(k+1)<(⟨s.toArray⟩:ByteArray).size)=true:=fun k b hb=>aiY (by
   rcases qAV k t.length with h' | h'
   · simp only[zl] at hlen; omega
   · rw[qAH h'] at hb; cases hb)
 have cn:∀ k,t[k]? = none→decide (i+(k+1)<(⟨s.toArray⟩:ByteArray).size)=false:=fun k hb=>ar8 (by
   rw[qDC] at hb;simp only[zl] at hlen; omega)
 unfold Utf8.decode decV;simp only[g0];have e:Utf8.runeError=65533:=rfl;cases h1:t[0]? with
 | none =>
   have c1:=cn 0 h1;have h2:t[1]? = none:=by rw[qDC] at h1 ⊢; omega
   have h3:t[2]? = none:=by rw[qDC] at h1 ⊢; omega
   simp only[qAO] at c1;simp[c1,h2,h3,e]
 | some b =>
   have c1:=cy 0 b h1;have d1:=gk 0 b h1;simp only[qAO] at c1 d1;cases h2:t[1]? with
   | none =>
     have c2:=cn 1 h2;have h3:t[2]? = none:=(by rw[qDC] at h2 ⊢; omega);simp only[Nat.reduceAdd] at c2;simp[c1,c2,d1,h3,e]
   | some c =>
     have c2:=cy 1 c h2;have d2:=gk 1 c h2;simp only[Nat.reduceAdd] at c2 d2;cases h3:t[2]? with
     | none =>
       have c3:=cn 2 h3;simp only[Nat.reduceAdd] at c3;simp[c1,c2,c3,d1,d2,e]
     | some d =>
       have c3:=cy 2 d h3;have d3:=gk 2 d h3;simp only[Nat.reduceAdd] at c3 d3;simp[c1,c2,c3,d1,d2,d3,e]
theorem ar0 {b:Nat}:(b/64==2)=decide (128≤b∧b≤191):=by
 rw[qDH]; simp; omega
theorem aDk (a:UInt8) (t:List UInt8):decV a.toNat (t[0]?.map (·.toNat)) (t[1]?.map (·.toNat)) (t[2]?.map (·.toNat))=decN (a::t):=by
 have ha:=a.toNat_lt;unfold decV decN;by_cases c1:a.toNat<128
 · simp[aN,c1]
 have c1':¬ a.toNat<0x80:=c1;simp only[zn c1'];by_cases c2:a.toNat/32=6
 · have e2:(a.toNat/32==6)=true:=by simp[c2]
   match t with
   | [] =>
     have e3:¬ a.toNat/16=14:=(by omega);have e4:¬ a.toNat/8=30:=(by omega);have d3:¬ (224≤a.toNat∧a.toNat<240):=(by omega);have d4:¬ (240≤a.toNat∧a.toNat<245):=(by omega);simp[aN,c1,e3,e4,d3,d4]
   | b::t =>
     have hb:=b.toNat_lt;have e3:¬ a.toNat/16=14:=(by omega);have e4:¬ a.toNat/8=30:=(by omega);have d3:¬ (224≤a.toNat∧a.toNat<240):=(by omega);have d4:¬ (240≤a.toNat∧a.toNat<245):=by omega
     simp only[qBR,qAF,e2,ar0,qBK,qBG];by_cases hb':128≤b.toNat∧b.toNat≤191
     · rw[zp (by simpa using hb')];by_cases c3:194≤a.toNat
       · rw[zp (by omega)];have q:194≤a.toNat∧a.toNat<224:=(by omega);simp only[aN,zn c1,zp q,zp hb'];rw[zn (by omega)];congr 1;omega
       · rw[zn (by omega)];have q:¬ (194≤a.toNat∧a.toNat<224):=(by omega);simp[aN,c1,q,d3,d4]
     · rw[zn (by simpa using hb')];have x3:(a.toNat/16==14)=false:=(by simp[e3]);have x4:(a.toNat/8==30)=false:=(by simp[e4]);simp only[x3,x4,qCS,qA0,if_false]
       by_cases c3:194≤a.toNat∧a.toNat<224
       · simp[aN,c1,c3,hb']
       · simp[aN,c1,c3,d3,d4]
 have e2:(a.toNat/32==6)=false:=by simp[c2]
 simp only[e2,qCS,qA0,if_false];have d2:¬ (194≤a.toNat∧a.toNat<224):=by omega
 by_cases c3:a.toNat/16=14
 · have e3:(a.toNat/16==14)=true:=by simp[c3]
   have d3:(224≤a.toNat∧a.toNat<240):=by omega
   have x4:(a.toNat/8==30)=false:=by simp; omega
   simp only[e3,x4,qBK,qCS,qA0,if_false]
   match t with
   | []=>simp[aN,c1,d2,d3]
   | [b]=>simp[aN,c1,d2,d3]
   | b::c::t =>
     have hb:=b.toNat_lt;have hc:=c.toNat_lt;simp only[qBR,qC2,qAF,ar0,qBG]
     by_cases hb':(128≤b.toNat∧b.toNat≤191)∧(128≤c.toNat∧c.toNat≤191)
     · rw[zp (by simp only[k9,decide_eq_true_eq]; exact hb')];simp only[aN,zn c1,zn d2,zp d3,zp hb']
       by_cases hr:64*(64*((a.toNat:Int)-224)+b.toNat-128)+c.toNat-128<2048∨(55296≤64*(64*((a.toNat:Int)-224)+b.toNat-128)+c.toNat-128∧64*(64*((a.toNat:Int)-224)+b.toNat-128)+c.toNat-128≤57343)
       · rw [zp hr, zn (by
           simp only[Utf8.valid,k9,qBL,decide_eq_true_eq]; omega)]
         rfl
       · rw [zn hr, zp (by
           simp only[Utf8.valid,k9,qBL,decide_eq_true_eq]; omega),zn (by simp)]
         congr 1;omega
     · rw[zn (by simp only[k9,decide_eq_true_eq]; exact hb')];simp only[aN,zn c1,zn d2,zp d3,zn hb'];rfl
 have e3:(a.toNat/16==14)=false:=by simp[c3]
 have d3:¬ (224≤a.toNat∧a.toNat<240):=by omega
 simp only[e3,qCS,qA0,if_false];by_cases c4:a.toNat/8=30
 · have e4:(a.toNat/8==30)=true:=by simp[c4]
   simp only[e4,qBK]
   match t with
   | []=>simp[aN,c1,d2,d3]
   | [b]=>simp[aN,c1,d2,d3]
   | [b,c]=>simp[aN,c1,d2,d3]
   | b::c::d::t =>
     have hb:=b.toNat_lt;have hc:=c.toNat_lt;have hd:=d.toNat_lt;simp only[qBR,qC2,qAF,ar0,qBG]
     by_cases hb':(128≤b.toNat∧b.toNat≤191)∧(128≤c.toNat∧c.toNat≤191)∧(128≤d.toNat∧d.toNat≤191)
     · rw[zp (by simp only[k9,decide_eq_true_eq]; exact ⟨⟨hb'.1,hb'.2.1⟩,hb'.2.2⟩)];by_cases d4:(240≤a.toNat∧a.toNat<245)
       · simp only[aN,zn c1,zn d2,zn d3,zp d4,zp hb']
         by_cases hr:64*(64*(64*((a.toNat:Int)-240)+b.toNat-128)+c.toNat-128)+d.toNat-128<65536∨1114111<64*(64*(64*((a.toNat:Int)-240)+b.toNat-128)+c.toNat-128)+d.toNat-128
         · rw [zp hr, zn (by
             simp only[Utf8.valid,k9,qBL,decide_eq_true_eq]; omega)]
           rfl
         · rw [zn hr, zp (by
             simp only[Utf8.valid,k9,qBL,decide_eq_true_eq]; omega),zn (by simp)]
           congr 1;omega
       · rw [zn (by
           simp only[Utf8.valid,k9,qBL,decide_eq_true_eq]; omega)]
         simp only[aN,zn c1,zn d2,zn d3,zn d4];rfl
     · rw[zn (by simp only[k9,decide_eq_true_eq]; exact fun e=>hb' ⟨e.1.1,e.1.2,e.2⟩)];by_cases d4:(240≤a.toNat∧a.toNat<245)
       · simp only[aN,zn c1,zn d2,zn d3,zp d4,zn hb'];rfl
       · simp only[aN,zn c1,zn d2,zn d3,zn d4];rfl
 · have e4:(a.toNat/8==30)=false:=by simp[c4]
   have d4:¬ (240≤a.toNat∧a.toNat<245):=by omega
   simp[e4,aN,c1,d2,d3,d4]
theorem decode_N {s:List UInt8}{i:Nat} (hi:i<s.length):Utf8.decode ⟨s.toArray⟩ i=decN (s.drop i):=by
 cases h:s.drop i with
 | nil=>have:=congrArg List.length h; simp at this; omega
 | cons a t=>rw[aiU h (by omega),aDk]
def cmpI (a b:Int):Int:=if a<b then -1 else if a>b then 1 else 0
theorem jw (a b:Int):zbj a b=some (cmpI a b):=by
 unfold zbj zbv cmpI;simp only[zb,decide_true,qAN,cond_false,ah];by_cases h1:a<b
 · simp[h1]
 · by_cases h2:a>b<;>simp[h1,h2]
def orI (a b:Int):Int:=if a=0 then b else a
theorem or_t (a b:Int):zd5 [a,b]=some (orI a b):=by
 unfold zd5 orI;by_cases h1:a=0
 · rw[zp h1];have t0:ga [a,b] (0,())=some (.inl (1,())):=by
     unfold ga;simp only[ah,zl,qAQ];rw[zp (by decide)];simp[atI,h1,wrap64]
   rw[aG t0];by_cases h2:b=0
   · have t1 : ga [a, b] (1, ()) = some (.inl (2, ())) := by
       unfold ga;simp only[ah,zl,qAQ];rw[zp (by decide)];simp[atI,h2,wrap64]
     rw[aG t1,h2];refine aD ?_;unfold ga;simp only[ah,zl,qAQ];rw[zn (by decide)]
   · refine aD ?_;unfold ga;simp only[ah,zl,qAQ];rw[zp (by decide)];simp[atI,h2]
 · rw[zn h1];refine aD ?_;unfold ga;simp only[ah,zl,qAQ];rw[zp (by decide)];simp[atI,h1]
def cmpD (a b:Int×Int×Unit):Int:=orI (cmpI a.1 b.1) (cmpI a.2.1 b.2.1)
def bI (s:List UInt8):List Int:=s.map fun b=>(b.toNat:Int)
theorem jD {s t:List UInt8}:bI (s++t)=bI s++bI t:=by simp[bI]
theorem kR {s:List UInt8}:(bI s).length=s.length:=by simp[bI]
theorem ash {s:List UInt8}:((bI s).map fun n=>UInt8.ofNat n.toNat)=s:=by
 unfold bI;rw[List.map_map]
 conv=>rhs; rw[← List.map_id s]
 congr 1;funext b;simp
theorem ajJ {n:Int}:IntKind.wrap .u8 n=n%256:=by
 simp[IntKind.wrap,IntKind.signed,IntKind.bits]
theorem dC {c:Int}{v:Bool×Unit×Unit}{w:List Int} (hw:w.length<4294967000):za4 c v w=some (false,(true,(),()),w++[c],()):=by
 unfold za4;have h:za3 v w=some ((),(true,(),()),w,()):=by
   obtain ⟨b,_,_⟩:=v;unfold za3;cases b<;>rfl
 rw[h];simp only[zb];rw[aL (by simp; omega)];rfl
theorem pX {v:Bool×Unit×Unit}{s:List UInt8} (hs:s.length<4294967296):za6 v (bI s)=some (s,v,()):=by
 unfold za6;cases s with
 | nil=>rfl
 | cons b s =>
   have:(bI (b::s)).isEmpty=false:=rfl;rw[this,cond_false,ash];have:rJ 0 (bI (b::s)).length ((bI (b::s)).length:Int)=some ():=by
     unfold rJ;rw[kR,zp ⟨rfl,rfl,by simp only[zl]; omega,by omega⟩]
   rw[this]; rfl
theorem arZ {n k b:Nat} (hb:0<b) (h:n<b ^ (k+1)):n/b<b ^ k:=by
 rw[Nat.div_lt_iff_lt_mul hb];rw[Nat.pow_succ] at h; exact h
theorem np {u:Nat} (h:u<10):Lib.decDigits u=[UInt8.ofNat (48+u)]:=by rw[Lib.decDigits,dif_pos h]
theorem ar5 {u:Nat} (h:¬ u<10):Lib.decDigits u=Lib.decDigits (u/10)++[UInt8.ofNat (48+u%10)]:=by rw[Lib.decDigits,dif_neg h]
theorem wu:∀ (k u:Nat),u<10 ^ k→(Lib.decDigits u).length≤k+1
 | 0,u,h=>by rw[np (by simp at h; omega)]; simp
 | k+1,u,h=>by
   by_cases hu:u<10
   · rw[np hu]; simp
   · rw[ar5 hu,qAA];have:=wu k (u/10) (arZ (by omega) h);simp only[zl,qAQ]; omega
theorem yM {n:Int} (h : -9223372036854775808≤n) (h2:n≤9223372036854775807):(Lib.itoa n).length≤21:=by
 unfold Lib.itoa
 split
 · have:=wu 19 n.natAbs (by simp only[Nat.reducePow]; omega);rw[zl]; omega
 · have:=wu 19 n.toNat (by simp only[Nat.reducePow]; omega);omega
theorem aix {n:Nat}:Lib.itoa (n:Int)=Lib.decDigits n:=by unfold Lib.itoa; rw[zn (by omega),qDB]
def inR (n:Int):Prop := -9223372036854775808≤n∧n≤9223372036854775807
theorem rY {n:Int} (h:inR n):zb5 n=some (Lib.itoa n):=zp h
def bd (d:Int×Int×Unit):Bool:=decide (0≤d.1∧d.1≤15∧1≤d.2.1∧d.2.1≤1048576)
theorem nR {n:Nat}{x:UInt8} (h:n=x.toNat):UInt8.ofNat n=x:=by subst h; exact UInt8.ofNat_toNat
def encN (c:Nat):List UInt8 :=
 if c<128 then [UInt8.ofNat c]
 else if c<2048 then [UInt8.ofNat (192+c/64),UInt8.ofNat (128+c%64)]
 else if c<65536 then [UInt8.ofNat (224+c/4096),UInt8.ofNat (128+c/64%64),UInt8.ofNat (128+c%64)]
 else [UInt8.ofNat (240+c/262144),UInt8.ofNat (128+c/4096%64),UInt8.ofNat (128+c/64%64),UInt8.ofNat (128+c%64)]
theorem af6 {r:Int} (h:Utf8.valid r=true):(Utf8.encode r).data.toList=encN r.toNat:=by
 unfold Utf8.encode encN;simp only[h,if_true]
 split
 · rfl
 · split
   · rfl
   · split<;>rfl
theorem lr {r:Int} (h0:0≤r) (h1:r≤1114111) (h2:¬ (55296≤r∧r≤57343)):Utf8.valid r=true:=by
 simp[Utf8.valid]; omega
theorem aiO {s:List UInt8} (h:(aN s).2≠0):(Utf8.encode (aN s).1).data.toList=s.take (aN s).2:=by
 match s with
 | []=>exact absurd rfl h
 | a::t =>
   have ha:=a.toNat_lt;by_cases c1:a.toNat<128
   · have e:aN (a::t)=((a.toNat:Int),1):=(by simp only[aN,zp c1]);rw[e,af6 (lr (by omega) (by omega) (by omega))];simp only[qDB,encN,zp c1];rw[nR rfl]; rfl
   by_cases c2:194≤a.toNat∧a.toNat<224
   · match t with
     | []=>simp only[aN,zn c1,zp c2,ne_eq,not_true_eq_false] at h
     | b::t =>
       by_cases hb:128≤b.toNat∧b.toNat≤191
       · have e:aN (a::b::t)=(64*((a.toNat:Int)-192)+b.toNat-128,2):=(by simp only[aN,zn c1,zp c2,zp hb]);rw[e,af6 (lr (by simp only[]; omega) (by simp only[]; omega) (by simp only[]; omega))]
         simp only[];have:(64*((a.toNat:Int)-192)+b.toNat-128).toNat=64*(a.toNat-192)+(b.toNat-128):=(by omega);rw[this];unfold encN
         rw[zn (by omega),zp (by omega),nR (x:=a) (by omega),nR (x:=b) (by omega)]; rfl
       · simp only[aN,zn c1,zp c2,zn hb,ne_eq,not_true_eq_false] at h
   by_cases c3:224≤a.toNat∧a.toNat<240
   · match t with
     | []=>simp only[aN,zn c1,zn c2,zp c3,ne_eq,not_true_eq_false] at h
     | [b]=>simp only[aN,zn c1,zn c2,zp c3,ne_eq,not_true_eq_false] at h
     | b::c::t =>
       by_cases hb:(128≤b.toNat∧b.toNat≤191)∧(128≤c.toNat∧c.toNat≤191)
       · by_cases hr:64*(64*((a.toNat:Int)-224)+b.toNat-128)+c.toNat-128<2048∨(55296≤64*(64*((a.toNat:Int)-224)+b.toNat-128)+c.toNat-128∧64*(64*((a.toNat:Int)-224)+b.toNat-128)+c.toNat-128≤57343)
         · simp only[aN,zn c1,zn c2,zp c3,zp hb,zp hr,ne_eq,not_true_eq_false] at h
         · have e:aN (a::b::c::t)=(64*(64*((a.toNat:Int)-224)+b.toNat-128)+c.toNat-128,3):=by simp only[aN,zn c1,zn c2,zp c3,zp hb,zn hr]
           rw[e,af6 (lr (by simp only[]; omega) (by simp only[]; omega) (by simp only[]; omega))];simp only[]
           have:(64*(64*((a.toNat:Int)-224)+b.toNat-128)+c.toNat-128).toNat=4096*(a.toNat-224)+64*(b.toNat-128)+(c.toNat-128):=(by omega);rw[this];unfold encN
           rw[zn (by omega),zn (by omega),zp (by omega),nR (x:=a) (by omega),nR (x:=b) (by omega),nR (x:=c) (by omega)]; rfl
       · simp only[aN,zn c1,zn c2,zp c3,zn hb,ne_eq,not_true_eq_false] at h
   by_cases c4:240≤a.toNat∧a.toNat<245
   · match t with
     | []=>simp only[aN,zn c1,zn c2,zn c3,zp c4,ne_eq,not_true_eq_false] at h
     | [b]=>simp only[aN,zn c1,zn c2,zn c3,zp c4,ne_eq,not_true_eq_false] at h
     | [b,c]=>simp only[aN,zn c1,zn c2,zn c3,zp c4,ne_eq,not_true_eq_false] at h
     | b::c::d::t =>
       by_cases hb:(128≤b.toNat∧b.toNat≤191)∧(128≤c.toNat∧c.toNat≤191)∧(128≤d.toNat∧d.toNat≤191)
       · by_cases hr:64*(64*(64*((a.toNat:Int)-240)+b.toNat-128)+c.toNat-128)+d.toNat-128<65536∨1114111<64*(64*(64*((a.toNat:Int)-240)+b.toNat-128)+c.toNat-128)+d.toNat-128
         · simp only[aN,zn c1,zn c2,zn c3,zp c4,zp hb,zp hr,ne_eq,not_true_eq_false] at h
         · have e:aN (a::b::c::d::t)=(64*(64*(64*((a.toNat:Int)-240)+b.toNat-128)+c.toNat-128)+d.toNat-128,4):=by simp only[aN,zn c1,zn c2,zn c3,zp c4,zp hb,zn hr]
           rw[e,af6 (lr (by simp only[]; omega) (by simp only[]; omega) (by simp only[]; omega))];simp only[]
           have:(64*(64*(64*((a.toNat:Int)-240)+b.toNat-128)+c.toNat-128)+d.toNat-128).toNat=262144*(a.toNat-240)+4096*(b.toNat-128)+64*(c.toNat-128)+(d.toNat-128):=(by omega);rw[this];unfold encN
           rw[zn (by omega),zn (by omega),zn (by omega),nR (x:=a) (by omega),nR (x:=b) (by omega),nR (x:=c) (by omega),nR (x:=d) (by omega)]; rfl
       · simp only[aN,zn c1,zn c2,zn c3,zp c4,zn hb,ne_eq,not_true_eq_false] at h
   · simp only[aN,zn c1,zn c2,zn c3,zn c4,ne_eq,not_true_eq_false] at h
def Good (c:Int):Prop:=∃ s,(aN s).2≠0∧(aN s).1=c
theorem aiN {n:Nat} (h:128≤n) (h2:n≤1114111):∀ b∈encN n,128≤b.toNat:=by
 have e:∀ n:Nat,128≤n→n<256→128≤(UInt8.ofNat n).toNat:=by
   intro n h1 h2;rw[UInt8.toNat_ofNat_of_lt' (by simpa using h2)]; exact h1
 intro b hb;unfold encN at hb;rw[zn (by omega)] at hb
 split at hb
 · simp only[qAS,qDF,or_false] at hb;rcases hb with rfl | rfl<;>exact e _ (by omega) (by omega)
 · split at hb
   · simp only[qAS,qDF,or_false] at hb;rcases hb with rfl | rfl | rfl<;>exact e _ (by omega) (by omega)
   · simp only[qAS,qDF,or_false] at hb;rcases hb with rfl | rfl | rfl | rfl<;>exact e _ (by omega) (by omega)
theorem wF {s:List UInt8} (h0:(aN s).2≠0):s.take (aN s).2=encN (aN s).1.toNat:=by
 have hi:=jx s;have he:=aiO h0;by_cases hv:Utf8.valid (aN s).1=true
 · rw[← he,af6 hv]
 · exfalso;have hs:55296≤(aN s).1∧(aN s).1≤57343:=by
     simp[Utf8.valid] at hv; omega
   have h3:(aN s).2=3∨(aN s).2≠3:=by omega
   revert hs h0
   unfold aN
   repeat' split
   all_goals (try simp only[])
   all_goals (try split)
   all_goals (try simp only[])
   all_goals omega
theorem aeh {n:Int} (h:0≤n) (h2:n<4294967296):IntKind.wrap .u32 n=n:=by
 simp[IntKind.wrap,IntKind.signed,IntKind.bits]; omega
theorem arC:∀ x:Fin 256,(IntKind.wrap .u8 ((BitVec.ofInt (IntKind.bits .u8) 128 ||| BitVec.ofInt (IntKind.bits .u8) (IntKind.wrap .u8 ((BitVec.ofInt (IntKind.bits .u8) ((x.val:Nat):Int) &&& BitVec.ofInt (IntKind.bits .u8) 63).toNat:Nat))).toNat:Nat))=((128+x.val%64:Nat):Int):=by decide +kernel
theorem aa1 {c:Int}:(IntKind.wrap .u8 ((BitVec.ofInt (IntKind.bits .u8) 128 ||| BitVec.ofInt (IntKind.bits .u8) (IntKind.wrap .u8 ((BitVec.ofInt (IntKind.bits .u8) (IntKind.wrap .u8 c) &&& BitVec.ofInt (IntKind.bits .u8) 63).toNat:Nat))).toNat:Nat))=128+c%64:=by
 have h0:0≤c%256:=by omega
 have h1:c%256<256:=by omega
 have:=arC ⟨(c%256).toNat,by omega⟩;simp only at this;rw[show (((c%256).toNat:Nat):Int)=c%256 by omega] at this;rw[ajJ (n:=c),this];omega
theorem vk:(∀ x:Fin 32,(IntKind.wrap .u8 ((BitVec.ofInt (IntKind.bits .u8) 192 ||| BitVec.ofInt (IntKind.bits .u8) (IntKind.wrap .u8 ((x.val:Nat):Int))).toNat:Nat))=((192+x.val:Nat):Int))∧(∀ x:Fin 16,(IntKind.wrap .u8 ((BitVec.ofInt (IntKind.bits .u8) 224 ||| BitVec.ofInt (IntKind.bits .u8) (IntKind.wrap .u8 ((x.val:Nat):Int))).toNat:Nat))=((224+x.val:Nat):Int))∧(∀ x:Fin 8,(IntKind.wrap .u8 ((BitVec.ofInt (IntKind.bits .u8) 240 ||| BitVec.ofInt (IntKind.bits .u8) (IntKind.wrap .u8 ((x.val:Nat):Int))).toNat:Nat))=((240+x.val:Nat):Int)):=by decide +kernel
theorem top2 {x:Int} (h:0≤x) (h2:x<32):(IntKind.wrap .u8 ((BitVec.ofInt (IntKind.bits .u8) 192 ||| BitVec.ofInt (IntKind.bits .u8) (IntKind.wrap .u8 x)).toNat:Nat))=192+x:=by
 have:=vk.1 ⟨x.toNat,by omega⟩;simp only at this;rw[show ((x.toNat:Nat):Int)=x by omega] at this;rw[this]; omega
theorem top3 {x:Int} (h:0≤x) (h2:x<16):(IntKind.wrap .u8 ((BitVec.ofInt (IntKind.bits .u8) 224 ||| BitVec.ofInt (IntKind.bits .u8) (IntKind.wrap .u8 x)).toNat:Nat))=224+x:=by
 have:=vk.2.1 ⟨x.toNat,by omega⟩;simp only at this;rw[show ((x.toNat:Nat):Int)=x by omega] at this;rw[this]; omega
theorem top4 {x:Int} (h:0≤x) (h2:x<8):(IntKind.wrap .u8 ((BitVec.ofInt (IntKind.bits .u8) 240 ||| BitVec.ofInt (IntKind.bits .u8) (IntKind.wrap .u8 x)).toNat:Nat))=240+x:=by
 have:=vk.2.2 ⟨x.toNat,by omega⟩;simp only at this;rw[show ((x.toNat:Nat):Int)=x by omega] at this;rw[this]; omega
theorem ard {c:Int}{n:Int}{k:Nat} (hn:n=(k:Int)) (hk:k≤32):shrT .i32 c n=some (c/(2 ^ k:Nat)):=by
 subst hn;unfold shrT;rw[zn (by omega)];congr 1;rw[qDB,Int.fdiv_eq_ediv_of_nonneg _ (by exact_mod_cast qBW _)];have:min k (IntKind.bits .i32)=k:=by show min k 32=k; omega
 rw[this]
 norm_cast
def asl (c:Int):Prop:=0≤c∧c≤1114111∧¬ (55296≤c∧c≤57343)
theorem ai2 {l:List Nat} (h:∀ n∈l,n<256):bI (l.map UInt8.ofNat)=l.map fun (n:Nat)=>(n:Int):=by
 unfold bI;rw[List.map_map];refine List.map_congr_left fun n hn => ?_;simp only[Function.comp];rw[UInt8.toNat_ofNat_of_lt' (by simpa using h n hn)]
theorem ai5 {c:Int}{w:List Int} (hc:asl c) (hw:w.length<4294967000):zbf c w=some ((),w++bI (encN c.toNat),()):=by
 obtain ⟨h0,h1,h2⟩:=hc;obtain ⟨n,rfl⟩:∃ n:Nat,c=(n:Int):=⟨c.toNat,by omega⟩;unfold zbf;rw[qDB];simp only[ah,aeh (n:=(n:Int)) (by omega) (by omega)];by_cases c1:n<128
 · rw[zp (by omega),aL (by simp; omega),zb];unfold encN;rw[zp c1,ajJ];have e:[UInt8.ofNat n]=[n].map UInt8.ofNat:=rfl;rw[e,ai2 (by intro m hm; simp at hm; omega)];simp only[qBE,qCP]
   rw[show (n:Int)%256=n by omega]
 rw[zn (by omega)];have room:∀ l:List Int,l.length≤4→bh (w.length+l.length)=some ():=fun l hl=>aL (by omega);have key:za5 (n:Int) w=some ((),w++bI (encN n),()):=by
   unfold za5 encN;rw[zn c1];simp only[ah,aeh (n:=(n:Int)) (by omega) (by omega),ard (n:=6) (k:=6) rfl (by omega),ard (n:=12) (k:=12) rfl (by omega),ard (n:=18) (k:=18) rfl (by omega),zb]
   by_cases c2:n<2048
   · rw[zp (by omega),zp c2,room _ (by simp),zb,aa1,top2 (by omega) (by omega)];have e:[UInt8.ofNat (192+n/64),UInt8.ofNat (128+n%64)]=[192+n/64,128+n%64].map UInt8.ofNat:=rfl
     rw[e,ai2 (by intro m hm; simp at hm; omega)]
     simp only[qBE,qCP,show ((2 ^ 6:Nat):Int)=64 from rfl,show ((2 ^ 12:Nat):Int)=4096 from rfl,show ((2 ^ 18:Nat):Int)=262144 from rfl,Int.natCast_add,Int.natCast_ediv,Int.natCast_emod,Int.cast_ofNat_Int]
   rw[zn (by omega),zn c2];by_cases c3:n<65536
   · have hA : ((if (n : Int) < 55296 then some (Sum.inl (decide ((n : Int) < 55296), w, ())) else
         (if 57343<(n:Int) then some (decide ((n:Int)≤65535),w,()) else some (false,w,())).bind fun v3=>some (Sum.inl (v3.1,v3.2.1,()))):Option ((Bool×List Int×Unit)⊕(Unit×List Int×Unit)))=some (.inl (true,w,())):=by
       by_cases g:(n:Int)<55296
       · rw[zp g]; simp[g]
       · rw[zn g,zp (by omega)]; simp; omega
     rw[hA,ay,zp c3];simp only[cond_true];rw[room _ (by simp),zb,aa1,aa1,top3 (by omega) (by omega)]
     have e:[UInt8.ofNat (224+n/4096),UInt8.ofNat (128+n/64%64),UInt8.ofNat (128+n%64)]=[224+n/4096,128+n/64%64,128+n%64].map UInt8.ofNat:=rfl;rw[e,ai2 (by intro m hm; simp at hm; omega)]
     simp only[qBE,qCP,show ((2 ^ 6:Nat):Int)=64 from rfl,show ((2 ^ 12:Nat):Int)=4096 from rfl,show ((2 ^ 18:Nat):Int)=262144 from rfl,Int.natCast_add,Int.natCast_ediv,Int.natCast_emod,Int.cast_ofNat_Int]
   · have hA : ((if (n : Int) < 55296 then some (Sum.inl (decide ((n : Int) < 55296), w, ())) else
         (if 57343<(n:Int) then some (decide ((n:Int)≤65535),w,()) else some (false,w,())).bind fun v3=>some (Sum.inl (v3.1,v3.2.1,()))):Option ((Bool×List Int×Unit)⊕(Unit×List Int×Unit)))=some (.inl (false,w,())):=by
       rw[zn (by omega),zp (by omega)]; simp; omega
     rw[hA,ay,zn c3];simp only[cond_false];rw[zp (by omega),zp (by omega),room _ (by simp),zb,aa1,aa1,aa1,top4 (by omega) (by omega)]
     have e:[UInt8.ofNat (240+n/262144),UInt8.ofNat (128+n/4096%64),UInt8.ofNat (128+n/64%64),UInt8.ofNat (128+n%64)]=[240+n/262144,128+n/4096%64,128+n/64%64,128+n%64].map UInt8.ofNat:=rfl
     rw[e,ai2 (by intro m hm; simp at hm; omega)]
     simp only[qBE,qCP,show ((2 ^ 6:Nat):Int)=64 from rfl,show ((2 ^ 12:Nat):Int)=4096 from rfl,show ((2 ^ 18:Nat):Int)=262144 from rfl,Int.natCast_add,Int.natCast_ediv,Int.natCast_emod,Int.cast_ofNat_Int]
 rw[key]; rfl
theorem wG {s:List UInt8} (h0:(aN s).2≠0):asl (aN s).1:=by
 have hi:=jx s;refine ⟨hi.1,hi.2,?_⟩;intro hs
 revert hs h0
 unfold aN
 repeat' split
 all_goals (try simp only[])
 all_goals (try split)
 all_goals (try simp only[])
 all_goals omega
theorem aiP {n:Nat}:1≤(encN n).length∧(encN n).length≤4:=by
 unfold encN
 repeat' split
 all_goals simp
abbrev Val:=Int×Int×List UInt8×Unit
theorem vI {l:List Int}{i:Nat}{x:Int} (h:l[i]? = some x) (hl:l.length<1000000):ga l ((i:Int),())=if x=0 then some (.inl (((i+1:Nat):Int),())) else some (.inr x):=by
 have hi:i<l.length:=by
   rcases qAV i l.length with h' | h'
   · exact h'
   · rw[qAH h'] at h; cases h
 unfold ga;simp only[ah];rw[zp (by omega),gF,h];simp only[zb];by_cases hx:x=0
 · rw[zp hx];simp only[hx,decide_true,qAN,cond_false];rw[wrap64 (by omega) (by omega)]; rfl
 · rw[zn hx];simp only[hx,decide_false,qAZ,cond_true]
theorem aGp (a b c:Int):zd5 [a,b,c]=some (orI a (orI b c)):=by
 unfold zd5;have t0:=vI (l:=[a,b,c]) (i:=0) (x:=a) rfl (by simp);have t1:=vI (l:=[a,b,c]) (i:=1) (x:=b) rfl (by simp);have t2:=vI (l:=[a,b,c]) (i:=2) (x:=c) rfl (by simp)
 have t3:ga [a,b,c] (((3:Nat):Int),())=some (.inr 0):=by
   unfold ga;simp only[ah,zl,qAQ];rw[zn (by decide)]
 unfold orI;by_cases h0:a=0
 · rw[zp h0] at t0 ⊢;rw[show ((0:Int),())=(((0:Nat):Int),()) from rfl,aG t0];by_cases h1:b=0
   · rw[zp h1] at t1 ⊢;rw[aG t1];by_cases h2:c=0
     · rw[zp h2] at t2;rw[aG t2,aD t3,h2]
     · rw[zn h2] at t2;rw[aD t2]
   · rw[zn h1] at t1 ⊢;rw[aD t1]
 · rw[zn h0] at t0 ⊢;exact aD t0
theorem ago:∀ a b:List UInt8,Lib.compareBytes b a = - Lib.compareBytes a b
 | [],[]=>rfl
 | [],_::_=>rfl
 | _::_,[]=>rfl
 | x::a,y::b=>by
   simp only[Lib.compareBytes,UInt8.lt_iff_toNat_lt];by_cases h1:x.toNat<y.toNat
   · have h2:¬ y.toNat<x.toNat:=(by omega);simp only[zp h1,zn h2];rfl
   · by_cases h2:y.toNat<x.toNat
     · simp only[zp h2,zn h1]
     · simp only[zn h2,zn h1]; exact ago a b
theorem qW:∀ a b:List UInt8,Lib.compareBytes a b=0↔a=b
 | [],[]=>by simp[Lib.compareBytes]
 | [],_::_=>by simp[Lib.compareBytes]
 | _::_,[]=>by simp[Lib.compareBytes]
 | x::a,y::b=>by
   simp only[Lib.compareBytes,UInt8.lt_iff_toNat_lt];by_cases h1:x.toNat<y.toNat
   · rw[zp h1];constructor
     · intro h; cases h
     · intro h; cases h; omega
   · rw[zn h1];by_cases h2:y.toNat<x.toNat
     · rw[zp h2];constructor
       · intro h; cases h
       · intro h; cases h; omega
     · rw[zn h2,qW a b];have:x=y:=UInt8.toNat_inj.1 (by omega);subst this;simp
theorem agn:∀ a b:List UInt8,Lib.compareBytes a b = -1∨Lib.compareBytes a b=0∨Lib.compareBytes a b=1
 | [],[]=>.inr (.inl rfl)
 | [],_::_=>.inl rfl
 | _::_,[]=>.inr (.inr rfl)
 | x::a,y::b=>by
   simp only[Lib.compareBytes]
   split
   · exact .inl rfl
   · split
     · exact .inr (.inr rfl)
     · exact agn a b
theorem zz:∀ a b c:List UInt8,Lib.compareBytes a b≤0→Lib.compareBytes b c≤0→Lib.compareBytes a c≤0
 | [],b,[],_,_=>by simp[Lib.compareBytes]
 | [],b,_::_,_,_=>by simp[Lib.compareBytes]
 | _::_,[],_,h,_=>by simp[Lib.compareBytes] at h
 | x::a,y::b,[],_,h=>by simp[Lib.compareBytes] at h
 | x::a,y::b,z::c,h,k=>by
   simp only[Lib.compareBytes,UInt8.lt_iff_toNat_lt] at h k ⊢;by_cases h1:x.toNat<y.toNat
   · by_cases k1:y.toNat<z.toNat
     · rw[zp (by omega)]; omega
     · rw[zn k1] at k;by_cases k2:z.toNat<y.toNat
       · rw[zp k2] at k; omega
       · rw[zp (by omega)]; omega
   · rw[zn h1] at h;by_cases h2:y.toNat<x.toNat
     · rw[zp h2] at h; omega
     · rw[zn h2] at h;by_cases k1:y.toNat<z.toNat
       · rw[zp (by omega)]; omega
       · rw[zn k1] at k;by_cases k2:z.toNat<y.toNat
         · rw[zp k2] at k; omega
         · rw[zn k2] at k;rw[zn (by omega),zn (by omega)];exact zz a b c h k
def cmpV (a b:Val):Int:=orI (cmpI a.1 b.1) (orI (cmpI a.2.1 b.2.1) (Lib.compareBytes a.2.2.1 b.2.2.1))
theorem wo (a b:Val):eqV (.agg (.cons (.int .i64) (.cons (.int .i64) (.cons .str .unit)))) a b=decide (a=b):=by
 obtain ⟨k,n,s,⟨⟩⟩:=a;obtain ⟨k',n',s',⟨⟩⟩:=b;simp only[eqV,Bool.and_true];rw[qDH];simp
theorem vY (a b:Int):zd3 a b=some (cmpI a b):=by
 unfold zd3 cmpI;simp only[ah];by_cases h1:a<b
 · simp[h1]
 · by_cases h2:a>b<;>simp[h1,h2]
theorem aiS {A:Type}{s:List A}{i:Nat} (h:i<s.length):s.drop i=s[i]::s.drop (i+1):=qBC h
theorem aaw {a b:List UInt8} (ha:a.length<1000000):∀ (k i:Nat),a.length-i≤k→i≤a.length→i≤b.length →
   ((aH (ky a b) ((i:Int),()):Option (Unit⊕Int)).bind (aT fun _=>some (cmpI (a.length:Int) (b.length:Int))))=some (Lib.compareBytes (a.drop i) (b.drop i)):=by
 intro k
 have fin:∀ i:Nat,i≤a.length→i≤b.length→¬ (i<a.length∧i<b.length)→((aH (ky a b) ((i:Int),()):Option (Unit⊕Int)).bind (aT fun _=>some (cmpI (a.length:Int) (b.length:Int))))=some (Lib.compareBytes (a.drop i) (b.drop i)):=by
   intro i h1 h2 h3;have hl:aH (ky a b) ((i:Int),())=some (.inl ()):=by
     refine aD ?_;unfold ky;simp only[ah];by_cases h4:(i:Int)<(a.length:Int)
     · rw[zp h4,zn (by omega)]
     · rw[zn h4]
   rw[hl,ay];congr 1;unfold cmpI;by_cases h4:i<a.length
   · have e:b.drop i=[]:=qAU (by omega);rw[e,aiS h4];simp only[Lib.compareBytes];rw[zn (by omega),zp (by omega)]
   · have e:a.drop i=[]:=qAU (by omega);rw[e];by_cases h5:i<b.length
     · rw[aiS h5];simp only[Lib.compareBytes];rw[zp (by omega)]
     · have e:b.drop i=[]:=qAU (by omega);rw[e];simp only[Lib.compareBytes];rw[zn (by omega),zn (by omega)]
 induction k with
 | zero=>intro i hk h1 h2; exact fin i h1 h2 (by omega)
 | succ k ih =>
   intro i hk h1 h2;by_cases h3:i<a.length∧i<b.length
   · obtain ⟨h3,h4⟩:=h3;rw[aiS h3,aiS h4];simp only[Lib.compareBytes,UInt8.lt_iff_toNat_lt];by_cases he:a[i].toNat=b[i].toNat
     · rw[zn (by omega),zn (by omega),← ih (i+1) (by omega) (by omega) (by omega)];rw[aG (b:=(((i+1:Nat):Int),()))];unfold ky;simp only[ah];rw[zp (by omega),zp (by omega),aI h3,aI h4];simp only[zb]
       rw[zt (by omega)];simp only[qAN,cond_false];rw[wrap64 (by omega) (by omega)]; rfl
     · have ba:=a[i].toNat_lt;have bb:=b[i].toNat_lt;have hl:aH (ky a b) ((i:Int),())=some (.inr (cmpI (a[i].toNat:Int) (b[i].toNat:Int))):=by
         refine aD ?_;unfold ky;simp only[ah];rw[zp (by omega),zp (by omega),aI h3,aI h4];simp only[zb];rw[zf (by omega)];simp only[qAZ,cond_true,vY,zb]
         rw[wrap64 (by omega) (by omega),wrap64 (by omega) (by omega)]
       rw[hl,bj];congr 1;unfold cmpI;by_cases h5:a[i].toNat<b[i].toNat
       · rw[zp (by omega),zp h5]
       · rw[zn (by omega),zn h5,zp (by omega),zp (by omega)]
   · exact fin i h1 h2 h3
theorem aer {a b:List UInt8} (ha:a.length<1000000):zcf a b=some (Lib.compareBytes a b):=by
 have:=aaw (b:=b) ha a.length 0 (by omega) (by omega) (by omega);simp only[qB3] at this;unfold zcf;simp only[vY,zb];exact this
theorem aeI {s:List UInt8}:(gb s []).2.1=(cB s).isSome:=by
 unfold gb; cases cB s<;>rfl
def df (v:Val):Bool:=decide ((v.1=1∧v.2.2.1=[] ∧ -2147483647≤v.2.1∧v.2.1≤2147483647)∨(v.1=2∧v.2.1=0∧(cB v.2.2.1).isSome=true∧v.2.2.1.length≤64)∨(v.1=3∧v.2.2.1=[]∧0≤v.2.1∧v.2.1≤1))
theorem vA {v:Val} (hv:v.2.2.1.length<4294967296):zc8 v=some (df v):=by
 unfold zc8 df;simp only[aeF (s:=v.2.2.1) (by omega),zb,aeI,ah];by_cases h1:v.1=1
 · rw[zp h1];by_cases h2:v.2.2.1=[]
   · by_cases h3:v.2.1 ≥ -2147483647
     · simp only[h1,h2,h3]; simp<;>omega
     · simp only[h1,h2]; simp[h3]<;>omega
   · simp[h1,h2]
 rw[zn h1];by_cases h2:v.1=2
 · rw[zp h2];cases hr:(cB v.2.2.1).isSome with
   | true =>
     by_cases h3:v.2.1=0
     · simp only[h2,h3]; simp<;>omega
     · simp[h2,h3]
   | false=>by_cases h3:v.2.1=0<;>simp[h2,h3]
 rw[zn h2];by_cases h3:v.1=3
 · rw[zp h3];by_cases h4:v.2.2.1=[]
   · by_cases h5:v.2.1≥0
     · simp only[h3,h4]; simp[h5]<;>omega
     · simp only[h3,h4]; simp[h5]<;>omega
   · simp[h3,h4]
 rw[zn h3];simp[h1,h2,h3]
def vn (b:UInt8):Bool:=decide (b.toNat=34)||decide (b.toNat=92)
def spec (c:Int):Bool:=decide (c=34)||decide (c=92)
def cS (s:List UInt8):List UInt8:=s.flatMap fun b=>if vn b then [92,b] else [b]
theorem jV {b:UInt8}{s:List UInt8}:cS (b::s)=(if vn b then [92,b] else [b])++cS s:=by unfold cS; rw[qA5]
theorem ae0 {s t:List UInt8}:cS (s++t)=cS s++cS t:=by unfold cS; rw[List.flatMap_append]
theorem sD:∀ (s:List UInt8),(cS s).length≤2*s.length
 | []=>by simp[cS]
 | b::s=>by
   have:=sD s;rw[jV,qAA,zl]
   split<;>simp<;>omega
theorem oW:∀ (s:List UInt8),(∀ b∈s,128≤b.toNat)→cS s=s
 | [],_=>rfl
 | b::s,h=>by
   have h1:=h b (qAL ..);have:vn b=false:=by
     simp only[vn,qCR,decide_eq_false_iff_not]; omega
   rw[jV,this,oW s (fun x hx=>h x (qAK _ hx))]; rfl
theorem aev {a:UInt8}:spec (a.toNat:Int)=vn a:=by
 unfold spec vn;have h1:decide ((a.toNat:Int)=34)=decide (a.toNat=34):=by rw[decide_eq_decide]; omega
 have h3:decide ((a.toNat:Int)=92)=decide (a.toNat=92):=by rw[decide_eq_decide]; omega
 rw[h1,h3]
theorem aaO {s:List UInt8} (h0:(aN s).2≠0):cS s=(if spec (aN s).1 then [92] else [])++encN (aN s).1.toNat++cS (s.drop (aN s).2):=by
 have hi:=jx s;have hv:=wF h0;have hq:cS s=cS (s.take (aN s).2)++cS (s.drop (aN s).2):=by rw[← ae0,qCH]
 rw[hq];congr 1;by_cases hc:(aN s).1.toNat<128
 · have hb:encN (aN s).1.toNat=[UInt8.ofNat (aN s).1.toNat]:=by unfold encN; rw[zp hc]
   have ht:(UInt8.ofNat (aN s).1.toNat).toNat=(aN s).1.toNat:=UInt8.toNat_ofNat_of_lt' (by show _<256; omega);rw[hv,hb];generalize hbb:UInt8.ofNat (aN s).1.toNat=b at ht ⊢
   have hcb:(aN s).1=(b.toNat:Int):=by omega
   rw[hcb,aev,jV];have hnil:cS []=[]:=rfl;rw[hnil,qAR];cases vn b<;>rfl
 · have hsp : spec (aN s).1 = false := by
     simp only[spec,qCR,decide_eq_false_iff_not]; omega
   rw[oW _ (by rw[hv]; exact aiN (by omega) (by omega)),hsp,hv]; rfl
theorem lV {c:Int}{v:Bool×Unit×Unit}{w:List Int} (hc:asl c) (hw:w.length<4294967000):∃ n,za2 c v w=some ((n,false,()),(true,(),()),w++bI (encN c.toNat),()):=by
 unfold za2;have h:za3 v w=some ((),(true,(),()),w,()):=by
   obtain ⟨b,_,_⟩:=v;unfold za3;cases b<;>rfl
 rw[h];simp only[zb,ai5 hc hw];exact ⟨_,rfl⟩
theorem aDt:bI [92]=[92]:=rfl
theorem aDu:bI [34]=[34]:=rfl
theorem aaP {s:List UInt8} (hs:s.length<1000000):∀ (k i:Nat) (out:List UInt8) (b:Bool) (l:List Int),s.length-i≤k→i≤s.length→out.length≤5*i+1→cB (s.drop i)=some l →
   aH (oo s) (bI out,(b,(),()),i,())=some (out++cS (s.drop i)++[34]):=by
 intro k;have fin:∀ (i:Nat) (out:List UInt8) (b:Bool),¬ i<s.length→out.length≤5*s.length+1→aH (oo s) (bI out,(b,(),()),i,())=some (out++cS (s.drop i)++[34]):=by
   intro i out b hi ho;refine aD ?_;unfold oo;rw[ah,zn (by simp only[]; exact hi),dC (by rw[kR]; omega)];simp only[zb]
   rw[← aDu,← jD,pX (by rw[qAA]; simp only[zl,qAQ]; omega),qAU (by omega)];simp[cS]
 induction k with
 | zero=>intro i out b l hk hi ho hl; exact fin i out b (by omega) (by omega)
 | succ k ih =>
   intro i out b l hk hi ho hl;by_cases hlt:i<s.length
   · have hne:s.drop i≠[]:=fun e=>(by have:=congrArg List.length e; simp at this; omega);have hle:=zy (s.drop i);simp only[qA2] at hle;by_cases h0:(aN (s.drop i)).2=0
     · rw[iz hne h0] at hl; cases hl
     · rw[fL hne h0,qB2,x0] at hl;obtain ⟨l',hl',rfl⟩:=hl;have hc:=wG h0;have hstep:=aaO h0;rw[qB2] at hstep;have hen:=aiP (n:=(aN (s.drop i)).1.toNat)
       have turn:oo s (bI out,(b,(),()),i,())=some (.inl (bI (out++((if spec (aN (s.drop i)).1 then [92] else [])++encN (aN (s.drop i)).1.toNat)),(true,(),()),i+(aN (s.drop i)).2,())):=by
         unfold oo;rw[ah,zp (by simp only[]; exact hlt)];have hnat:(((aN (s.drop i)).1.toNat:Nat):Int)=(aN (s.drop i)).1:=(by have:=jx (s.drop i); omega);simp only[decode_N hlt,decN,zn h0,hnat,zb]
         obtain ⟨n2,e2⟩:=lV (v:=(true,(),())) (w:=bI out++[92]) hc (by rw[qAA,kR]; simp only[zl,qAQ]; omega)
         obtain ⟨n1,e1⟩:=lV (v:=(b,(),())) (w:=bI out) hc (by rw[kR]; omega);have es:spec (aN (s.drop i)).1=(decide ((aN (s.drop i)).1=34)||decide ((aN (s.drop i)).1=92)):=rfl;rw[es]
         cases h34:decide ((aN (s.drop i)).1=34) with
         | true =>
           simp only[cond_true,Bool.true_or,if_true];rw[dC (by rw[kR]; omega)];simp only[zb];rw[e2];simp only[zb];rw[← aDt,← jD,← jD,qAT]
         | false =>
           simp only[cond_false,qCW];cases h92:decide ((aN (s.drop i)).1=92) with
           | true =>
             simp only[cond_true,if_true];rw[dC (by rw[kR]; omega)];simp only[zb];rw[e2];simp only[zb];rw[← aDt,← jD,← jD,qAT]
           | false =>
             simp only[cond_false,qA0,if_false,qBB];rw[e1];simp only[zb];rw[← jD]
       rw[aG turn,ih _ _ _ l' (by omega) (by omega) ?_ hl',hstep]
       · simp only[qAT]
       · have h1:(if spec (aN (s.drop i)).1 then ([92]:List UInt8) else []).length≤1:=by split<;>simp
         have h5:((if spec (aN (s.drop i)).1 then ([92]:List UInt8) else [])++encN (aN (s.drop i)).1.toNat).length≤5*(aN (s.drop i)).2:=by
           rw[qAA]; omega
         rw[qAA];omega
   · exact fin i out b (by omega) (by omega)
theorem arn {s:List UInt8}{l:List Int} (hs:s.length<1000000) (hl:cB s=some l):zcj s=some ([34]++cS s++[34]):=by
 have:=aaP hs s.length 0 [34] true l (by omega) (by omega) (by simp) (by simpa using hl);unfold zcj;rw[dC (by simp)];simp only[zb,qBB];simpa [aDu] using this
def jQ (v:Val):List UInt8:=if v.1=1 then Lib.itoa v.2.1 else if v.1=3 then (if v.2.1=1 then [116,114,117,101] else [102,97,108,115,101]) else [34]++cS v.2.2.1++[34]
theorem kJ {v:Val} (h:df v=true):(∃ n:Int,v=(1,n,[],()) ∧ -2147483647≤n∧n≤2147483647)∨(∃ s l,v=(2,0,s,())∧cB s=some l∧s.length≤64)∨v=(3,0,[],())∨v=(3,1,[],()):=by
 obtain ⟨k,n,s,⟨⟩⟩:=v;unfold df at h;simp only[decide_eq_true_eq] at h;rcases h with ⟨rfl,rfl,h1,h2⟩ | ⟨rfl,rfl,h1,h2⟩ | ⟨rfl,rfl,h1,h2⟩
 · exact .inl ⟨n,rfl,h1,h2⟩
 · cases hr:cB s with
   | none=>rw[hr] at h1; cases h1
   | some l=>exact .inr (.inl ⟨s,l,rfl,hr,h2⟩)
 · have:n=0∨n=1:=by omega
   rcases this with rfl | rfl
   · exact .inr (.inr (.inl rfl))
   · exact .inr (.inr (.inr rfl))
theorem vj {v:Val} (h:df v=true):zdh v=some (jQ v):=by
 rcases kJ h with ⟨n,rfl,h1,h2⟩ | ⟨s,l,rfl,h1,h2⟩ | rfl | rfl
 · unfold zdh jQ;simp only[rY (show inR n from ⟨by omega,by omega⟩)];rfl
 · unfold zdh jQ;simp only[arn (by omega) h1];rfl
 · rfl
 · rfl
abbrev Path:=List (List UInt8)
abbrev Ent:=Path×Int×List Val×Int×Unit
abbrev Chg:=Int×Ent×Ent×Unit
theorem zA:Cmp Lib.compareBytes where
 one a b:=by have:=agn a b; omega
 neg a b:=ago a b
 zero a b:=qW a b
 trans a b d h1 h2:=by
   have h3:=zz a b d (by omega) (by omega);rcases Int.lt_or_eq_of_le h3 with h | h
   · exact h
   · have e:=(qW a d).1 h;subst e;have:=ago a b;omega
theorem nv:Cmp cmpI where
 one a b:=by
   unfold cmpI
   split
   · omega
   · split<;>omega
 neg a b:=by
   unfold cmpI;by_cases h1:a<b
   · rw[zn (by omega),zp (by omega),zp h1]; rfl
   · by_cases h2:a>b
     · rw[zp (by omega),zn h1,zp h2]
     · rw[zn (by omega),zn (by omega),zn h1,zn h2]; rfl
 zero a b:=by
   unfold cmpI;by_cases h1:a<b
   · rw[zp h1]; constructor<;>intro h<;>omega
   · by_cases h2:a>b
     · rw[zn h1,zp h2]; constructor<;>intro h<;>omega
     · rw[zn h1,zn h2]; constructor<;>intro h<;>omega
 trans a b d h1 h2:=by
   unfold cmpI at h1 h2 ⊢;have e1:a<b:=by
     by_cases h:a<b
     · exact h
     · rw[zn h] at h1; split at h1<;>omega
   have e2:b<d:=by
     by_cases h:b<d
     · exact h
     · rw[zn h] at h2; split at h2<;>omega
   rw[zp (by omega)]; omega
theorem afw:∀ a b:List UInt8,Op.bytesLess a b=decide (Lib.compareBytes a b<0)
 | [],[]=>rfl
 | _::_,[]=>rfl
 | [],_::_=>rfl
 | x::a,y::b=>by
   simp only[Op.bytesLess,Lib.compareBytes];by_cases h1:x<y
   · simp[h1]
   · by_cases h2:y<x
     · have h3:x≠y:=fun e=>(by subst e; exact h1 h2);simp[h1,h2,h3]
     · have h3:x=y:=UInt8.toNat_inj.1 (by rw[UInt8.lt_iff_toNat_lt] at h1 h2; omega);subst h3;simp[h1,afw a b]
theorem rZ (a b:List UInt8):za9 a b=some (Lib.compareBytes a b):=by
 unfold za9 zbd;simp only[decide_true,qAN,zb,cond_false,afw];have h1:=agn a b;have h0:=qW a b;by_cases h2:Lib.compareBytes a b<0
 · rw[zt h2];simp only[cond_true];congr 1; omega
 · rw[zf h2];simp only[cond_false,qCW];by_cases h3:a=b
   · rw[zt h3];simp only[qAN,cond_false];rw[h0.2 h3]
   · rw[zf h3];simp only[qAZ,cond_true];congr 1;have:Lib.compareBytes a b≠0:=fun e=>h3 (h0.1 e);omega
def cmpP:Path→Path→Int:=cmpL Lib.compareBytes
theorem tZ {x y:List UInt8}{a b:Path}:cmpP (x::a) (y::b)=if Lib.compareBytes x y=0 then cmpP a b else Lib.compareBytes x y:=by unfold cmpP; rw[cmpL]
theorem sL {a b:Path} (ha:a.length<1000000):∀ (k i:Nat),a.length-i≤k→i≤a.length→i≤b.length →
   ((aH (iP a b) ((i:Int),()):Option (Unit⊕Int)).bind (aT fun _=>cond (decide ((a.length:Int)<(b.length:Int))) (some (-1)) (some 0)))=some (cmpP (a.drop i) (b.drop i)):=by
 intro k
 have fin:∀ i:Nat,i=a.length→i≤b.length→((aH (iP a b) ((i:Int),()):Option (Unit⊕Int)).bind (aT fun _=>cond (decide ((a.length:Int)<(b.length:Int))) (some (-1)) (some 0)))=some (cmpP (a.drop i) (b.drop i)):=by
   intro i hi h2;have hl:aH (iP a b) ((i:Int),())=some (.inl ()):=by
     refine aD ?_;unfold iP;simp only[ah];rw[zn (by omega)]
   rw[hl,ay,qAU (by omega:a.length≤i)];rw[ah];by_cases h5:i<b.length
   · rw[qBC h5,zp (by omega)]; rfl
   · rw[qAU (by omega),zn (by omega)]; rfl
 induction k with
 | zero=>intro i hk h1 h2; exact fin i (by omega) h2
 | succ k ih =>
   intro i hk h1 h2;by_cases h3:i<a.length
   · rw[qBC h3];by_cases h4:i<b.length
     · rw[qBC h4,tZ];have turn:iP a b ((i:Int),())=if Lib.compareBytes a[i] b[i]=0 then some (.inl (((i+1:Nat):Int),())) else some (.inr (.inr (Lib.compareBytes a[i] b[i]))):=by
         unfold iP;simp only[ah];rw[zp (by omega),aI h3];simp only[zb];rw[zn (by omega),aI h4];simp only[zb,rZ];by_cases hz:Lib.compareBytes a[i] b[i]=0
         · rw[zt hz,zp hz];simp only[qAN,cond_false];rw[wrap64 (by omega) (by omega)]; rfl
         · rw[zf hz,zn hz];simp only[qAZ,cond_true]
       by_cases hz:Lib.compareBytes a[i] b[i]=0
       · rw[zp hz] at turn ⊢;rw[aG turn];exact ih (i+1) (by omega) (by omega) (by omega)
       · rw[zn hz] at turn ⊢;rw[aD turn,bj]
     · have hl : aH (iP a b) ((i : Int), ()) = some (.inr 1) := by
         refine aD ?_;unfold iP;simp only[ah];rw[zp (by omega),aI h3];simp only[zb];rw[zp (by omega)]
       rw[hl,bj,qAU (by omega:b.length≤i)]; rfl
   · exact fin i (by omega) h2
theorem iZ {a b:Path} (ha:a.length<1000000):zb3 a b=some (cmpP a b):=by
 have:=sL (b:=b) ha a.length 0 (by omega) (by omega) (by omega);simp only[qB3] at this;rw[show (((0:Nat):Int))=0 from rfl] at this;unfold zb3 zax;rw[this]; rfl
theorem vB {a b:Path} (ha:a.length<1000000) (hs:∀ x∈a,x.length<1000000):∀ (k i:Nat),a.length-i≤k→i≤a.length→i≤b.length →
   ((aH (lR a b) ((i:Int),()):Option (Unit⊕Int)).bind (aT fun _=>cond (decide ((a.length:Int)<(b.length:Int))) (some (-1)) (cond (decide ((a.length:Int)>(b.length:Int))) (some 1) (some 0))))=some (cmpP (a.drop i) (b.drop i)):=by
 intro k
 have fin:∀ i:Nat,i≤a.length→i≤b.length→¬ (i<a.length∧i<b.length)→((aH (lR a b) ((i:Int),()):Option (Unit⊕Int)).bind (aT fun _=>cond (decide ((a.length:Int)<(b.length:Int))) (some (-1)) (cond (decide ((a.length:Int)>(b.length:Int))) (some 1) (some 0))))=some (cmpP (a.drop i) (b.drop i)):=by
   intro i h1 h2 h3;have hl:aH (lR a b) ((i:Int),())=some (.inl ()):=by
     refine aD ?_;unfold lR;simp only[ah];by_cases h4:(i:Int)<(a.length:Int)
     · rw[zp h4,zn (by omega)]
     · rw[zn h4]
   rw[hl,ay];simp only[ah];by_cases h4:i<a.length
   · rw[qAU (by omega:b.length≤i),qBC h4,zn (by omega),zp (by omega)]; rfl
   · rw[qAU (by omega:a.length≤i)];by_cases h5:i<b.length
     · rw[qBC h5,zp (by omega)]; rfl
     · rw[qAU (by omega),zn (by omega),zn (by omega)]; rfl
 induction k with
 | zero=>intro i hk h1 h2; exact fin i h1 h2 (by omega)
 | succ k ih =>
   intro i hk h1 h2;by_cases h3:i<a.length∧i<b.length
   · obtain ⟨h3,h4⟩:=h3;rw[qBC h3,qBC h4,tZ]
     have turn:lR a b ((i:Int),())=if Lib.compareBytes a[i] b[i]=0 then some (.inl (((i+1:Nat):Int),())) else some (.inr (.inr (Lib.compareBytes a[i] b[i]))):=by
       unfold lR;simp only[ah];rw[zp (by omega),zp (by omega),aI h3,aI h4];simp only[zb,aer (hs _ (zm h3))];by_cases hz:Lib.compareBytes a[i] b[i]=0
       · rw[zt hz,zp hz];simp only[qAN,cond_false];rw[wrap64 (by omega) (by omega)]; rfl
       · rw[zf hz,zn hz];simp only[qAZ,cond_true]
     by_cases hz:Lib.compareBytes a[i] b[i]=0
     · rw[zp hz] at turn ⊢;rw[aG turn];exact ih (i+1) (by omega) (by omega) (by omega)
     · rw[zn hz] at turn ⊢;rw[aD turn,bj]
   · exact fin i h1 h2 h3
theorem d7 {a b:Path} (ha:a.length<1000000) (hs:∀ x∈a,x.length<1000000):zbu a b=some (cmpP a b):=by
 have:=vB (b:=b) ha hs a.length 0 (by omega) (by omega) (by omega);simp only[qB3] at this;rw[show (((0:Nat):Int))=0 from rfl] at this;unfold zbu;exact this
def keyE (e:Ent):Path×Int:=(e.1,e.2.1)
def cmpK:Path×Int→Path×Int→Int:=cmpB cmpP cmpI
theorem aDr:Cmp cmpK:=(Cmp.list zA).pair nv
theorem eN {a b:Ent} (ha:a.1.length<1000000):zbk a b=some (cmpK (keyE a) (keyE b)):=by
 unfold zbk;simp only[iZ ha,jw,or_t,zb];rfl
theorem ff {a b:Ent} (ha:a.1.length<1000000) (hs:∀ x∈a.1,x.length<1000000):zbw a b=some (cmpK (keyE a) (keyE b)):=by
 unfold zbw cmpK cmpB keyE;simp only[d7 ha hs,zb,ah];by_cases h0:cmpP a.1 b.1=0
 · rw[zt h0,zp h0];simp only[qAN,cond_false];unfold cmpI;by_cases h1:a.2.1<b.2.1
   · rw[zp h1,zp h1]
   · by_cases h2:a.2.1>b.2.1
     · rw[zn h1,zp h2,zn h1,zp h2]
     · rw[zn h1,zn h2,zn h1,zn h2]
 · rw[zf h0,zn h0];simp only[qAZ,cond_true]
def mayM (c:Int):Bool:=decide (32≤c∧(c<127∨159<c)∧c≠65533)
theorem ah8 (c:Int):zen c=some (mayM c):=by
 unfold zen mayM;simp only[ah];by_cases h1:c≥32
 · rw[zp h1];by_cases h2:c<127
   · rw[zp h2,zf (by omega:¬ c=65533),zt (by omega)]; rfl
   · rw[zn h2];by_cases h3:c>159
     · rw[zp h3];by_cases h4:c=65533
       · rw[zt h4,zf (by omega)]; rfl
       · rw[zf h4,zt (by omega)]; rfl
     · rw[zn h3,zf (by omega)]
 · rw[zn h1,zf (by omega)]
theorem aeG:∀ {s:List UInt8}{l:List Int},cB s=some l→l.length≤s.length:=by
 have key:∀ (n:Nat) (s:List UInt8) (l:List Int),s.length≤n→cB s=some l→l.length≤s.length:=by
   intro n
   induction n with
   | zero =>
     intro s l hn h;have:s=[]:=qA1 (by omega);subst this;rw[gR] at h; cases h; simp
   | succ n ih =>
     intro s l hn h;by_cases hs:s=[]
     · subst hs;rw[gR] at h; cases h; simp
     · have hl:s.length≠0:=fun e=>hs (qA1 e);by_cases h0:(aN s).2=0
       · rw[iz hs h0] at h; cases h
       · rw[fL hs h0,x0] at h;obtain ⟨l',hl',rfl⟩:=h;have:=ih _ l' (by rw[qA2]; omega) hl';rw[qA2] at this;simp only[zl]; omega
 intro s l h;exact key s.length s l (qAD _) h
def vR (s:List UInt8):Bool:=match cB s with
 | some l=>decide (1≤l.length∧l.length≤24)&&l.all mayM
 | none=>false
theorem nU {s:List UInt8} (hs:s.length<1000000):zch s=some (vR s):=by
 unfold zch vR;rw[aeF (by omega)];simp only[zb];have gen:∀ (l:List Int) (ok:Bool),l.length<1000000→aH (ry (l,ok,())) ((0:Int),())=some (if l.all mayM=true then .inl () else .inr false):=by
   intro l ok hl;have:=eW (f:=ry (l,ok,())) (l:=l) (fun i=>((i:Int),())) mayM (.inl ()) (.inr false) (fun i h=>by
     unfold ry;simp only[ah];rw[zp (by omega),aI h];simp only[zb,ah8];cases mayM l[i] with
     | true=>simp only[qAN,cond_false,if_true]; rw[wrap64 (by omega) (by omega)]; rfl
     | false=>rfl) (by
     unfold ry;simp only[ah];rw[zn (by omega)])
   exact this
 cases hr:cB s with
 | none =>
   have e:gb s []=([],false,()):=by unfold gb; rw[hr]
   rw[e,gen [] false (by simp)];rfl
 | some l =>
   have e:gb s []=(l,true,()):=by unfold gb; rw[hr]; rfl
   have hl:l.length≤s.length:=aeG hr;rw[e,gen l true (by omega)];cases hm:l.all mayM with
   | false =>
     simp only[qA0,if_false,bj,hm,Bool.and_false]
   | true =>
     simp only[if_true,ay,cond_true,hm,Bool.and_true,ah];by_cases h1:(l.length:Int)≥1
     · rw[zp h1];congr 1;rw[decide_eq_decide]; omega
     · rw[zn h1,zf (by omega)]
def fF (p:Path):Int:=if p.length=0 then 8 else if p.length>8 then 9 else if p.all vR=true then 0 else 8
theorem aaM {p:Path} (hs:∀ x∈p,x.length<1000000):zcl p=some (fF p):=by
 unfold zcl fF;simp only[ah];by_cases h1:(p.length:Int)=0
 · rw[zp h1,zp (show p.length=0 by omega)]
 rw[zn h1,zn (show ¬ p.length=0 by omega)];by_cases h2:(p.length:Int)>8
 · rw[zp h2,zp (show p.length>8 by omega)]
 rw[zn h2,zn (show ¬ p.length>8 by omega)];have:=eW (f:=xy p) (l:=p) (fun i=>((i:Int),())) vR (0:Int) 8 (fun i h=>by
   unfold xy;simp only[ah];rw[zp (by omega),aI h];simp only[zb,nU (hs _ (zm h))];cases vR p[i] with
   | true=>simp only[qAN,cond_false,if_true]; rw[wrap64 (by omega) (by omega)]; rfl
   | false=>rfl) (by
   unfold xy;simp only[ah];rw[zn (by omega)])
 exact this
instance decE1:DecidableEq (List Val×Int×Unit):=fun a b => @instDecidableEqProd (List Val) (Int×Unit) inferInstance inferInstance a b
instance decE2:DecidableEq (Int×List Val×Int×Unit):=fun a b => @instDecidableEqProd Int (List Val×Int×Unit) inferInstance decE1 a b
instance decE:DecidableEq Ent:=fun a b => @instDecidableEqProd Path (Int×List Val×Int×Unit) inferInstance decE2 a b
instance decC1:DecidableEq (Ent×Unit):=fun a b => @instDecidableEqProd Ent Unit decE inferInstance a b
instance decC2:DecidableEq (Ent×Ent×Unit):=fun a b => @instDecidableEqProd Ent (Ent×Unit) decE decC1 a b
instance decC:DecidableEq Chg:=fun a b => @instDecidableEqProd Int (Ent×Ent×Unit) inferInstance decC2 a b
theorem ite_bool {b:Bool}:(if b=true then true else false)=b:=by cases b<;>rfl
theorem ahQ {a b:Path} (ha:a.length<1000000):zaz a b=some (decide (a=b)):=by
 unfold zaz;by_cases hl:a.length=b.length
 · rw[zt (by omega)];simp only[qAN,cond_false];have:=fy (f:=xW a b) (l:=a) (m:=b) (fun i=>((i:Int),())) (fun x y=>decide (x=y)) true false hl (fun i h h'=>by
     unfold xW;simp only[ah];rw[zp (by omega),aI h,aI h'];simp only[zb];cases decide (a[i]=b[i]) with
     | true=>simp only[qAN,cond_false,if_true]; rw[wrap64 (by omega) (by omega)]; rfl
     | false=>rfl) (by
     unfold xW;simp only[ah];rw[zn (by omega)])
   rw[fZ,ite_bool] at this;exact this
 · rw[zf (by omega)];have:a≠b:=fun e=>hl (by rw[e]);rw[zf this]; rfl
theorem mC {a b:Path} (ha:a.length<1000000):zdu a b=some (decide (a=b)):=by
 unfold zdu;by_cases hl:a.length=b.length
 · rw[zt (by omega)];simp only[qAN,cond_false];have:=fy (f:=xe a b) (l:=a) (m:=b) (fun i=>((i:Int),())) (fun x y=>decide (x=y)) true false hl (fun i h h'=>by
     unfold xe;simp only[ah];rw[zp (by omega),aI h,aI h'];simp only[zb];cases decide (a[i]=b[i]) with
     | true=>simp only[qAN,cond_false,if_true]; rw[wrap64 (by omega) (by omega)]; rfl
     | false=>rfl) (by
     unfold xe;simp only[ah];rw[zn (by omega)])
   rw[fZ,ite_bool] at this;exact this
 · rw[zf (by omega)];have:a≠b:=fun e=>hl (by rw[e]);rw[zf this]; rfl
theorem ahM {a b:List Val} (ha:a.length<1000000):zas a b=some (decide (a=b)):=by
 unfold zas;by_cases hl:a.length=b.length
 · rw[zt (by omega)];simp only[qAN,cond_false];have:=fy (f:=xX a b) (l:=a) (m:=b) (fun i=>((i:Int),())) (fun x y=>decide (x=y)) true false hl (fun i h h'=>by
     unfold xX;simp only[ah];rw[zp (by omega),aI h,aI h'];simp only[zb,wo];cases decide (a[i]=b[i]) with
     | true=>simp only[qAN,cond_false,if_true]; rw[wrap64 (by omega) (by omega)]; rfl
     | false=>rfl) (by
     unfold xX;simp only[ah];rw[zn (by omega)])
   rw[fZ,ite_bool] at this;exact this
 · rw[zf (by omega)];have:a≠b:=fun e=>hl (by rw[e]);rw[zf this]; rfl
theorem vy {a b:List Val} (ha:a.length<1000000):zds a b=some (decide (a=b)):=by
 unfold zds;by_cases hl:a.length=b.length
 · rw[zt (by omega)];simp only[qAN,cond_false];have:=fy (f:=xf a b) (l:=a) (m:=b) (fun i=>((i:Int),())) (fun x y=>decide (x=y)) true false hl (fun i h h'=>by
     unfold xf;simp only[ah];rw[zp (by omega),aI h,aI h'];simp only[zb,wo];cases decide (a[i]=b[i]) with
     | true=>simp only[qAN,cond_false,if_true]; rw[wrap64 (by omega) (by omega)]; rfl
     | false=>rfl) (by
     unfold xf;simp only[ah];rw[zn (by omega)])
   rw[fZ,ite_bool] at this;exact this
 · rw[zf (by omega)];have:a≠b:=fun e=>hl (by rw[e]);rw[zf this]; rfl
def lowE (e:Ent):Prop:=e.1.length<1000000∧e.2.2.1.length<1000000
theorem o0 {a b:Path} (ha:a.length<1000000):zep a b=some (decide (a=b)):=by
 unfold zep;rw[ahQ ha]; rfl
theorem aar {a b:Ent} (ha:lowE a):zew a b=some (decide (a=b)):=by
 obtain ⟨p,k,l,n,⟨⟩⟩:=a;obtain ⟨p',k',l',n',⟨⟩⟩:=b;unfold zew;simp only[o0 ha.1,ahM ha.2,zb,ah];by_cases h1:k=k'
 · rw[zp h1];simp only[zb];by_cases h2:n=n'
   · by_cases h3:p=p'
     · by_cases h4:l=l'
       · simp[h1,h2,h3,h4]
       · simp[h1,h2,h3,h4]
     · simp[h1,h2,h3]
   · simp[h1,h2]
 · rw[zn h1];simp[h1]
theorem uo {a b:Ent} (ha:lowE a):zc2 a b=some (decide (a=b)):=by
 unfold zc2 zea zaa;simp only[zl,qAQ,decide_true,qAN,cond_false]
 have:=fy (f:=ya [a] [b]) (l:=[a]) (m:=[b]) (fun i=>((i:Int),())) (fun x y=>decide (x=y)) true false rfl (fun i h h'=>by
   have hi:i=0:=by simpa using h
   subst hi;unfold ya;simp only[ah];rw[zp (by simp),aI h,aI h'];simp only[zb,List.getElem_cons_zero,aar ha];by_cases hab:a=b
   · simp only[zt hab,qAN,cond_false,if_true]; rw[wrap64 (by omega) (by omega)]; rfl
   · simp only[zf hab,qAZ,cond_true,qA0,if_false]) (by
   unfold ya;simp only[ah];rw[zn (by simp)])
 rw[fZ,ite_bool] at this;rw[show (0:Int)=((0:Nat):Int) from rfl,this];simp
theorem mG {l m:List Ent} (hl:l.length<1000000) (hs:∀ e∈l,lowE e):zdl l m=some (decide (l=m)):=by
 unfold zdl;by_cases hlen:l.length=m.length
 · rw[zt (by omega)];simp only[qAN,cond_false];have:=fy (f:=xh l m) (l:=l) (m:=m) (fun i=>((i:Int),())) (fun x y=>decide (x=y)) true false hlen (fun i h h'=>by
     unfold xh;simp only[ah];rw[zp (by omega),aI h,aI h'];have hlo:=hs _ (zm h);simp only[zb,mC hlo.1,vy hlo.2]
     have w1:IntKind.wrap .i64 ((i:Int)+1)=((i+1:Nat):Int):=(by rw[wrap64 (by omega) (by omega)]; rfl);rw[w1];generalize l[i]=x at *;generalize m[i]=y at *;obtain ⟨p,k,v,n,⟨⟩⟩:=x
     obtain ⟨p',k',v',n',⟨⟩⟩:=y;simp only;by_cases h1:k=k'
     · by_cases h2:n=n'
       · by_cases h3:p=p'
         · by_cases h4:v=v'
           · simp[h1,h2,h3,h4]
           · simp[h1,h2,h3,h4]
         · simp[h1,h2,h3]
       · simp[h1,h2]
     · simp[h1]) (by
     unfold xh;simp only[ah];rw[zn (by omega)])
   rw[fZ,ite_bool] at this;exact this
 · rw[zf (by omega)];have:l≠m:=fun e=>hlen (by rw[e]);rw[zf this]; rfl
theorem vz {a b:Ent} (ha:lowE a):zdk a b=some (decide (a=b)):=by
 unfold zdk;rw[mG (by simp) (fun e he=>by simp at he; subst he; exact ha)];simp
def lowC (c:Chg):Prop:=lowE c.2.1∧lowE c.2.2.1
theorem hJ {e:Ent} (h:lowE e):zcd e=some e:=by
 unfold zcd za0 zar fE;have h1:e.1.length<most:=by unfold most; have:=h.1; omega
 have h2:e.2.2.1.length<most:=by unfold most; have:=h.2; omega
 rw[zp h1,zp h2];rfl
theorem ahO {l:List Ent} (hl:l.length<1000000):zb4 l=some l:=by
 have:=cM (f:=xT l) (l:=l) (fun i o=>((i:Int),o,())) (fun x=>[x]) (fun o=>o) 1 (fun x _=>by simp) (fun i h o ho=>by
   unfold xT;simp only[ah];rw[zp (by omega),aI h];simp only[zb];rw[aL (by simp; omega),wrap64 (by omega) (by omega)];rfl) (fun o ho=>by
   unfold xT;simp only[ah];rw[zn (by omega)])
 unfold zb4;rw[List.flatMap_singleton'] at this;exact this
def oM (e:Ent):Prop:=e.1.length≤12∧(∀ x∈e.1,x.length≤120)∧e.2.2.1.length≤400∧∀ v∈e.2.2.1,df v=true
theorem ahW {p:Path}:zc6 p=some (decide (p.length≤12)&&p.all fun x=>decide (x.length≤120)):=by
 unfold zc6;simp only[ah];by_cases h1:(p.length:Int)>12
 · rw[zp h1,zf (by omega)]; rfl
 rw[zn h1,zt (by omega),qBK];have:=eW (f:=xC p) (l:=p) (fun i=>((i:Int),())) (fun x=>decide (x.length≤120)) true false (fun i h=>by
   unfold xC;simp only[ah];rw[zp (by omega),aI h];simp only[zb];by_cases h2:(p[i].length:Int)>120
   · rw[zp h2,zn (by simp; omega)]
   · rw[zn h2,zp (by simp; omega),wrap64 (by omega) (by omega)]; rfl) (by
   unfold xC;simp only[ah];rw[zn (by omega)])
 rw[ite_bool] at this;exact this
def uC:Ent:=([],0,[],0,())
def lc (x y:Ent):Bool:=decide (x=y)
def tw (x:Ent):Chg:=(2,x,uC,())
def vT (y:Ent):Chg:=(1,uC,y,())
def jP (x y:Ent):Chg:=(3,x,y,())
def lh (c:Chg):Ent:=if c.1=1 then c.2.2.1 else c.2.1
def j9 (c:Chg):Path×Int:=keyE (lh c)
def dM:List Ent→List Ent→List Chg:=dJ cmpK keyE lc tw vT jP
theorem aDn:∀ (n:Nat) (a b:List Ent),a.length+b.length≤n→(dM a b).length≤a.length+b.length:=by
 intro n
 induction n with
 | zero =>
   intro a b h;have e1:a=[]:=qA1 (by omega);have e2:b=[]:=qA1 (by omega);subst e1; subst e2;simp[dM,dJ]
 | succ n ih =>
   intro a b h
   match a,b,h with
   | [],b,h=>simp[dM,dJ]
   | x::a,[],h=>simp[dM,dJ]
   | x::a,y::b,h =>
     simp only[zl] at h;have i1:=ih a (y::b) (by simp only[zl]; omega);have i2:=ih (x::a) b (by simp only[zl]; omega);have i3:=ih a b (by omega);simp only[zl] at i1 i2;unfold dM at i1 i2 i3 ⊢
     rw[dJ.eq_def];simp only
     split
     · simp only[zl]; omega
     · split
       · simp only[zl]; omega
       · rw[qAA];have:(if lc x y=true then [] else [jP x y]).length≤1:=(by split<;>simp);simp only[zl]; omega
theorem sub1 {A:Type}{x:A}{l:List A}:subI (x::l) 1 ((x::l).length:Int)=some l:=by
 have:=ev (l:=x::l) (i:=1) (by simp);simpa using this
theorem at0 {A:Type}{x:A}{l:List A}:atI (x::l) 0=some x:=by
 have:=gF (l:=x::l) (i:=0);simpa using this
theorem agc:∀ (n:Nat) (a b:List Ent) (o:List Chg),a.length+b.length≤n→a.length+b.length+o.length<1000000→(∀ e∈a,lowE e)→(∀ e∈b,lowE e)→aH iO (a,b,o,())=some (o++dM a b):=by
 intro n
 induction n with
 | zero =>
   intro a b o h _ _ _;have e1:a=[]:=qA1 (by omega);have e2:b=[]:=qA1 (by omega);subst e1; subst e2;refine aD ?_;unfold iO;simp[dM,dJ]
 | succ n ih =>
   intro a b o h hb la lb
   match a,b,h,hb,la,lb with
   | [],[],h,hb,la,lb =>
     refine aD ?_;unfold iO;simp[dM,dJ]
   | [],y::b,h,hb,la,lb =>
     simp only[zl,qAQ] at h hb;rw[aG (b:=([],b,o++[vT y],())),ih [] b _ (by simp<;>omega) (by simp<;>omega) (fun e he=>by cases he) (fun e he=>lb e (qAK _ he))]
     · simp[dM,dJ]
     · unfold iO;simp only[ah];rw[zn (by simp),zp (by simp<;>omega),ay];simp only[];rw[zn (by simp<;>omega),zn (by simp),ay];simp only[];rw[zn (by omega),zp (by omega),at0]
       simp only[zb,hJ (lb y (qAL ..))];rw[aL (by simp<;>omega)];simp only[zb];rw[sub1];rfl
   | x::a,[],h,hb,la,lb =>
     simp only[zl,qAQ] at h hb;rw[aG (b:=(a,[],o++[tw x],())),ih a [] _ (by simp<;>omega) (by simp<;>omega) (fun e he=>la e (qAK _ he)) (fun e he=>by cases he)]
     · cases a<;>simp[dM,dJ]
     · unfold iO;simp only[ah];rw[zp (by simp<;>omega),ay];simp only[];rw[zp (by simp),ay];simp only[];rw[zp (by omega),at0];simp only[zb,hJ (la x (qAL ..))];rw[aL (by simp<;>omega)]
       simp only[zb];rw[sub1];rfl
   | x::a,y::b,h,hb,la,lb =>
     simp only[zl] at h hb;have lx:=la x (qAL ..);have ly:=lb y (qAL ..);have la':∀ e∈a,lowE e:=fun e he=>la e (qAK _ he)
     have lb':∀ e∈b,lowE e:=fun e he=>lb e (qAK _ he)
     have hd:dM (x::a) (y::b)=if cmpK (keyE x) (keyE y)<0 then tw x::dM a (y::b) else if cmpK (keyE x) (keyE y)>0 then vT y::dM (x::a) b else (if lc x y then [] else [jP x y])++dM a b:=by
       unfold dM;rw[dJ.eq_def]
     rw[hd];by_cases h1:cmpK (keyE x) (keyE y)<0
     · rw[zp h1,aG (b:=(a,y::b,o++[tw x],())),ih a (y::b) _ (by simp only[zl]; omega) (by simp<;>omega) la' lb]
       · simp
       · unfold iO;simp only[ah];rw[zp (by simp<;>omega),ay];simp only[];rw[zn (by simp<;>omega),zp (by simp<;>omega),at0,at0];simp only[zb,eN lx.1,aT];rw[zp h1];simp only[zb,hJ lx]
         rw[aL (by simp<;>omega)];simp only[zb];rw[sub1];rfl
     · rw[zn h1];by_cases h2:cmpK (keyE x) (keyE y)>0
       · rw[zp h2,aG (b:=(x::a,b,o++[vT y],())),ih (x::a) b _ (by simp only[zl]; omega) (by simp<;>omega) la lb']
         · simp
         · unfold iO;simp only[ah];rw[zp (by simp<;>omega),ay];simp only[];rw[zn (by simp<;>omega),zp (by simp<;>omega),at0,at0];simp only[zb,eN lx.1,aT];rw[zn h1,zp h2];simp only[zb,hJ ly]
           rw[aL (by simp<;>omega)];simp only[zb];rw[sub1];rfl
       · rw [zn h2, aG (b := (a, b, o ++ (if lc x y then [] else [jP x y]), ())), ih a b _ (by omega) (by
           rw[qAA];have:(if lc x y=true then [] else [jP x y]).length≤1:=(by split<;>simp);omega) la' lb']
         · simp
         · unfold iO;simp only[ah];rw[zp (by simp<;>omega),ay];simp only[];rw[zn (by simp<;>omega),zp (by simp<;>omega),at0,at0];simp only[zb,eN lx.1,aT];rw[zn h1,zn h2]
           simp only[zb,uo lx,hJ lx,hJ ly];unfold lc;by_cases hxy:x=y
           · simp only[zt hxy,qAN,cond_false,if_true,qAR];rw[ay,sub1,sub1];rfl
           · simp only[zf hxy,qAZ,cond_true,qA0,if_false];rw[aL (by simp<;>omega)];simp only[zb,aT];rw[sub1,sub1];rfl
theorem aDi {a b:List Ent} (h:a.length+b.length<1000000) (la:∀ e∈a,lowE e) (lb:∀ e∈b,lowE e):zcq a b=some (dM a b):=by
 have:=agc _ a b [] (qAD _) (by simpa using h) la lb;simpa [zcq] using this
def kp (e:Ent):Prop:=lowE e∧∀ x∈e.1,x.length<1000000
theorem rk:kp uC:=⟨⟨by decide,by decide⟩,fun x hx=>by cases hx⟩
theorem afY {l:List Ent}{e:Ent} (hl:l.length<1000000) (hs:∀ x∈l,kp x):∀ (k i:Nat),l.length-i≤k→i≤l.length →
   ∃ r,aH (oj l e) ((i:Int),())=some r∧((r<0∧(l.drop i).find? (fun x=>decide (cmpK (keyE x) (keyE e)=0))=none)∨∃ (j:Nat) (y:Ent),r=(j:Int)∧l[j]? = some y∧(l.drop i).find? (fun x=>decide (cmpK (keyE x) (keyE e)=0))=some y):=by
 intro k
 have fin:∀ i:Nat,i=l.length→∃ r,aH (oj l e) ((i:Int),())=some r∧((r<0∧(l.drop i).find? (fun x=>decide (cmpK (keyE x) (keyE e)=0))=none)∨∃ (j:Nat) (y:Ent),r=(j:Int)∧l[j]? = some y∧(l.drop i).find? (fun x=>decide (cmpK (keyE x) (keyE e)=0))=some y):=by
   intro i hi;refine ⟨-1,aD ?_,.inl ⟨by omega,by rw[qAU (by omega)]; rfl⟩⟩;unfold oj;simp only[ah];rw[zn (by omega)]
 induction k with
 | zero=>intro i hk hi; exact fin i (by omega)
 | succ k ih =>
   intro i hk hi;by_cases hlt:i<l.length
   · rw[qBC hlt,List.find?_cons];have hx:=hs _ (zm hlt)
     have turn:oj l e ((i:Int),())=if cmpK (keyE l[i]) (keyE e)=0 then some (.inr (i:Int)) else some (.inl (((i+1:Nat):Int),())):=by
       unfold oj;simp only[ah];rw[zp (by omega),aI hlt];simp only[zb,ff hx.1.1 hx.2];rw[wrap64 (by omega) (by omega)]; rfl
     by_cases hz:cmpK (keyE l[i]) (keyE e)=0
     · rw[zp hz] at turn;refine ⟨_,aD turn,.inr ⟨i,l[i],rfl,zg hlt,?_⟩⟩;rw[zt hz]
     · rw[zn hz] at turn;rw[aG turn,zf hz];exact ih (i+1) (by omega) (by omega)
   · exact fin i (by omega)
theorem ajZ {l:List Ent}{e:Ent} (hl:l.length<1000000) (hs:∀ x∈l,kp x) :
   ∃ r,zdn l e=some r∧((r<0∧l.find? (fun x=>decide (cmpK (keyE x) (keyE e)=0))=none)∨∃ (j:Nat) (y:Ent),r=(j:Int)∧l[j]? = some y∧l.find? (fun x=>decide (cmpK (keyE x) (keyE e)=0))=some y):=by
 have:=afY (e:=e) hl hs l.length 0 (by omega) (by omega);simpa [zdn] using this
theorem ajV (c:Chg):zd8 c=some (lh c):=by
 unfold zd8 lh;simp only[ah];by_cases h:c.1=1
 · rw[zp h,zp h]
 · rw[zn h,zn h]
def insC:Chg→List Chg→List Chg:=ins cmpK j9
theorem tk {v e:Chg}{l:List Chg}:insC v (e::l)=if cmpK (j9 v) (j9 e)<0 then v::e::l else e::insC v l:=by unfold insC; rw[ins]
theorem gZ:∀ {v:Chg}{l:List Chg},(insC v l).length=l.length+1
 | v,[]=>rfl
 | v,e::l=>by
   rw[tk]
   split
   · rfl
   · simp only[zl,gZ]
theorem wa {l:List Chg}{v:Chg} (hl:l.length<1000000) (hv:kp (lh v)):∀ (k i:Nat) (laid:Bool) (o:List Chg),l.length-i≤k→i≤l.length→o.length≤2*i →
   ((aH (gp l v) (laid,(i:Int),o,()):Option ((Bool×List Chg×Unit)⊕List Chg)).bind (aT fun v9=>cond (!v9.1) ((bh (v9.2.1.length+([v]:List Chg).length)).bind fun u10=>some (v9.2.1++([v]:List Chg))) (some v9.2.1)))=some (if laid=true then o++l.drop i else o++insC v (l.drop i)):=by
 intro k
 have fin:∀ (i:Nat) (laid:Bool) (o:List Chg),i=l.length→o.length≤2*i→((aH (gp l v) (laid,(i:Int),o,()):Option ((Bool×List Chg×Unit)⊕List Chg)).bind (aT fun v9=>cond (!v9.1) ((bh (v9.2.1.length+([v]:List Chg).length)).bind fun u10=>some (v9.2.1++([v]:List Chg))) (some v9.2.1)))=some (if laid=true then o++l.drop i else o++insC v (l.drop i)):=by
   intro i laid o hi ho;have:aH (gp l v) (laid,(i:Int),o,())=some (.inl (laid,o,())):=by
     refine aD ?_;unfold gp;simp only[ah];rw[zn (by omega)]
   rw[this,ay,qAU (by omega)];cases laid with
   | true=>simp
   | false =>
     simp only[qAZ,cond_true,qA0,if_false];rw[aL (by simp<;>omega)];rfl
 induction k with
 | zero=>intro i laid o hk hi ho; exact fin i laid o (by omega) ho
 | succ k ih =>
   intro i laid o hk hi ho;by_cases hlt:i<l.length
   · have w1:IntKind.wrap .i64 ((i:Int)+1)=((i+1:Nat):Int):=(by rw[wrap64 (by omega) (by omega)]; rfl);rw[qBC hlt];cases laid with
     | true =>
       have turn:gp l v (true,(i:Int),o,())=some (.inl (true,((i+1:Nat):Int),o++[l[i]],())):=by
         unfold gp;simp only[ah];rw[zp (by omega)];simp only[qAN,cond_false,zb,aT];rw[aI hlt];simp only[zb];rw[aL (by simp<;>omega),w1];rfl
       rw[aG turn,ih (i+1) true _ (by omega) (by omega) (by simp<;>omega)];simp
     | false =>
       simp only[qA0,if_false];rw[tk];by_cases hc:cmpK (j9 v) (j9 l[i])<0
       · have turn : gp l v (false, (i : Int), o, ()) = some (.inl (true, ((i + 1 : Nat) : Int), o ++ [v] ++ [l[i]], ())) := by
           unfold gp;simp only[ah];rw[zp (by omega),aI hlt];simp only[qAZ,cond_true,ajV,zb,ff hv.1.1 hv.2];rw[zp (show cmpK (keyE (lh v)) (keyE (lh l[i]))<0 from hc),aL (by simp<;>omega)]
           simp only[zb,aT];rw[aL (by simp<;>omega),w1];rfl
         rw[aG turn,ih (i+1) true _ (by omega) (by omega) (by simp<;>omega),zp hc];simp
       · have turn : gp l v (false, (i : Int), o, ()) = some (.inl (false, ((i + 1 : Nat) : Int), o ++ [l[i]], ())) := by
           unfold gp;simp only[ah];rw[zp (by omega),aI hlt];simp only[qAZ,cond_true,ajV,zb,ff hv.1.1 hv.2];rw[zn (show ¬ cmpK (keyE (lh v)) (keyE (lh l[i]))<0 from hc)];simp only[zb,aT]
           rw[aL (by simp<;>omega),w1];rfl
         rw[aG turn,ih (i+1) false _ (by omega) (by omega) (by simp<;>omega),zn hc];simp
   · exact fin i laid o (by omega) ho
theorem qB {l:List Chg}{v:Chg} (hl:l.length<1000000) (hv:kp (lh v)):zce l v=some (insC v l):=by
 have:=wa hl hv l.length 0 false [] (by omega) (by omega) (by simp);simpa [zce] using this
theorem bi {R X S:Type}{g:S→X→S}{fin:S→R}:∀ (l:List X) (i:Nat) (s:S),cO (fun _ x s=>.inl (g s x)) fin i l s=fin (l.foldl g s)
 | [],_,s=>rfl
 | x::l,i,s=>by simp only[cO,qAX]; exact bi l (i+1) (g s x)
def iA (b:List Ent):List Chg→Ent→List Chg:=insA cmpK keyE lc tw jP j9 b
def iB (a:List Ent):List Chg→Ent→List Chg:=insB cmpK keyE vT j9 a
theorem aeW {a b:List Ent} (ha:a.length≤1000) (hb:b.length≤1000) (ea:∀ e∈a,kp e) (eb:∀ e∈b,kp e):zdf a b=some (b.foldl (iB a) (a.foldl (iA b) [])):=by
 have l1:=aS (f:=rr a b) (l:=a) (S:=List Chg) (fun i o=>(o,(i:Int),())) (fun _ x o=>.inl (iA b o x)) (fun o=>(.inl (o,()):(List Chg×Unit)⊕List Chg)) (fun i o=>o.length≤i) (fun i h o ho=>.inl ⟨_,rfl,by
   have hx:=ea _ (zm h);obtain ⟨r,hr,hcase⟩:=ajZ (l:=b) (e:=a[i]) (by omega) eb;have w1:IntKind.wrap .i64 ((i:Int)+1)=((i+1:Nat):Int):=by rw[wrap64 (by omega) (by omega)]; rfl
   have turn:rr a b (o,(i:Int),())=some (.inl (iA b o a[i],((i+1:Nat):Int),())):=by
     unfold rr;simp only[ah];rw[zp (by omega),aI h];simp only[zb,hr,w1];unfold iA insA oneA;rcases hcase with ⟨h1,h2⟩ | ⟨j,y,rfl,h1,h2⟩
     · rw[zp h1,h2,qB (by omega) (show kp (lh (2,(a[i].1,a[i].2.1,a[i].2.2.1,a[i].2.2.2.1,()),([],0,[],0,()),())) from hx)];rfl
     · rw[zn (by omega),h2,gF,h1];simp only[zb,vz hx.1];by_cases hs:a[i]=y
       · have:lc a[i] y=true:=(by unfold lc; exact zt hs);rw[zt hs,this];simp
       · have:lc a[i] y=false:=(by unfold lc; exact zf hs);rw[zf hs,this];simp only[qAZ,cond_true,qA0,if_false];rw[qB (by omega) (show kp (lh (3,a[i],y,())) from hx)];rfl
   exact turn,by
   unfold iA insA oneA
   split
   · simp only[qAX,qDP];have:(ins cmpK j9 (tw a[i]) o).length=o.length+1:=gZ;omega
   · split
     · simp; omega
     · simp only[qAX,qDP];have:∀ v,(ins cmpK j9 v o).length=o.length+1:=fun v=>gZ;rw[this]; omega⟩) (fun o ho=>by
   unfold rr;simp only[ah];rw[zn (by omega)]) [] (by simp)
 rw[bi] at l1;have hlen:∀ (l:List Ent) (o:List Chg),(l.foldl (iA b) o).length≤o.length+l.length:=by
   intro l
   induction l with
   | nil=>intro o; simp
   | cons x l ihl =>
     intro o;rw[qAX];have h1:=ihl (iA b o x);have h2:(iA b o x).length≤o.length+1:=by
       unfold iA insA oneA
       split
       · simp only[qAX,qDP];have:(ins cmpK j9 (tw x) o).length=o.length+1:=gZ;omega
       · split
         · simp
         · simp only[qAX,qDP];have:∀ v,(ins cmpK j9 v o).length=o.length+1:=fun v=>gZ;rw[this]; omega
     simp only[zl]; omega
 have l2:=aS (f:=lO a b) (l:=b) (S:=List Chg) (fun i o=>(o,(i:Int),())) (fun _ y o=>.inl (iB a o y)) (fun o=>o) (fun i o=>o.length≤1000+i) (fun i h o ho=>.inl ⟨_,rfl,by
   have hx:=eb _ (zm h);obtain ⟨r,hr,hcase⟩:=ajZ (l:=a) (e:=b[i]) (by omega) ea;have w1:IntKind.wrap .i64 ((i:Int)+1)=((i+1:Nat):Int):=by rw[wrap64 (by omega) (by omega)]; rfl
   have turn:lO a b (o,(i:Int),())=some (.inl (iB a o b[i],((i+1:Nat):Int),())):=by
     unfold lO;simp only[ah];rw[zp (by omega),aI h];simp only[zb,hr,w1];unfold iB insB;rcases hcase with ⟨h1,h2⟩ | ⟨j,y,rfl,h1,h2⟩
     · rw[zp h1,h2,qB (by omega) (show kp (lh (1,([],0,[],0,()),(b[i].1,b[i].2.1,b[i].2.2.1,b[i].2.2.2.1,()),())) from hx)];rfl
     · rw[zn (by omega),h2];rfl
   exact turn,by
   unfold iB insB
   split
   · have:(ins cmpK j9 (vT b[i]) o).length=o.length+1:=gZ;omega
   · omega⟩) (fun o ho=>by
   unfold lO;simp only[ah];rw[zn (by omega)]) (a.foldl (iA b) []) (by
   have:=hlen a [];simp at this ⊢;omega)
 rw[bi] at l2;unfold zdf;rw[show ((0:Int))=((0:Nat):Int) from rfl,l1,ay];exact l2
theorem ar1 {a b:List Ent} (ha:a.length≤1000) (hb:b.length≤1000) (ea:∀ e∈a,kp e) (eb:∀ e∈b,kp e) (ra:ep cmpK keyE a) (rb:ep cmpK keyE b):zdf a b=some (dM a b):=by
 rw[aeW ha hb ea eb];congr 1;exact aiT (key:=keyE) (same:=lc) (G:=tw) (M:=vT) (T:=jP) (leaf:=j9) aDr (fun x=>rfl) (fun x=>rfl) (fun x y=>rfl) ra rb
theorem yh {sep:List UInt8}{m:Nat}:∀ {l:List (List UInt8)},(∀ x∈l,x.length≤m)→(Lib.joinTail sep l).length≤l.length*(sep.length+m)
 | [],_=>by simp[Lib.joinTail]
 | x::l,h=>by
   have h1:=h x (qAL ..);have h2:=yh (sep:=sep) (l:=l) (fun y hy=>h y (qAK _ hy));have e:Lib.joinTail sep (x::l)=sep++x++Lib.joinTail sep l:=by simp[Lib.joinTail]
   rw[e];simp only[qAA,zl,qB4];omega
theorem qz {sep:List UInt8}{m:Nat}{l:List (List UInt8)} (h:∀ x∈l,x.length≤m):(Lib.join l sep).length≤l.length*(sep.length+m):=by
 cases l with
 | nil=>simp[Lib.join_nil]
 | cons x l =>
   have h1:=h x (qAL ..);have h2:=yh (sep:=sep) (l:=l) (fun y hy=>h y (qAK _ hy));rw[Lib.join_cons];simp only[qAA,zl,qB4];omega
def eU (s:List UInt8):List UInt8:=s.flatMap fun b=>if b.toNat=47∨b.toNat=92 then [92,b] else [b]
theorem aez {s:List UInt8}:(eU s).length≤2*s.length:=by
 induction s with
 | nil=>simp[eU]
 | cons b s ih =>
   unfold eU at ih ⊢;rw[qA5,qAA,zl];have:(if b.toNat=47∨b.toNat=92 then [92,b] else [b]).length≤2:=by split<;>simp
   omega
theorem vQ {s:List UInt8} (hs:s.length<1000000):zdm s=some (eU s):=by
 have key:∀ (k i:Nat) (b:Bool) (o:List UInt8),s.length-i≤k→i≤s.length→o.length≤2*i→aH (ol s) ((i:Int),bI o,(b,(),()),())=some (o++eU (s.drop i)):=by
   intro k;have fin:∀ (i:Nat) (b:Bool) (o:List UInt8),i=s.length→o.length≤2*i→aH (ol s) ((i:Int),bI o,(b,(),()),())=some (o++eU (s.drop i)):=by
     intro i b o hi ho;refine aD ?_;unfold ol;simp only[ah];rw[zn (by omega),pX (by omega),qAU (by omega)];simp[eU]
   induction k with
   | zero=>intro i b o hk hi ho; exact fin i b o (by omega) ho
   | succ k ih =>
     intro i b o hk hi ho;by_cases hlt:i<s.length
     · have hl:∀ o:List UInt8,(bI o).length=o.length:=fun o=>kR
       have tail:∀ (b:Bool) (o:List UInt8),o.length≤2*i+1→((za4 ((s[i].toNat:Nat):Int) (b,(),()) (bI o)).bind fun q7=>(some (.inl ((IntKind.wrap .i64 ((i:Int)+1)),q7.2.2.1,q7.2.1,())):Option ((Int×List Int×(Bool×Unit×Unit)×Unit)⊕List UInt8)))=some (.inl (((i+1:Nat):Int),bI (o++[s[i]]),(true,(),()),())):=by
         intro b o ho;rw[dC (by rw[hl]; omega),wrap64 (by omega) (by omega)];simp only[zb,jD];rfl
       have w92:∀ (b:Bool),za4 92 (b,(),()) (bI o)=some (false,(true,(),()),bI (o++[92]),()):=by
         intro b;rw[dC (by rw[hl]; omega),jD];rfl
       have hd:eU (s.drop i)=(if s[i].toNat=47∨s[i].toNat=92 then [92,s[i]] else [s[i]])++eU (s.drop (i+1)):=by
         rw[qBC hlt];unfold eU;rw[qA5]
       have turn:ol s ((i:Int),bI o,(b,(),()),())=some (.inl (((i+1:Nat):Int),bI (o++(if s[i].toNat=47∨s[i].toNat=92 then [92,s[i]] else [s[i]])),(true,(),()),())):=by
         unfold ol;simp only[ah];rw[zp (by omega),aI hlt];simp only[zb];by_cases h1:s[i].toNat=47
         · rw[zp (by omega),w92];simp only[zb,aT];rw[tail _ _ (by simp<;>omega),zp (.inl h1),qAT];rfl
         · rw[zn (by omega)];by_cases h2:s[i].toNat=92
           · rw[zp (by omega),w92];simp only[zb,aT];rw[tail _ _ (by simp<;>omega),zp (.inr h2),qAT];rfl
           · rw[zn (by omega)];simp only[zb,aT];rw[tail _ _ (by omega),zn (by omega)]
       rw[aG turn,ih (i+1) true _ (by omega) (by omega) (by
         rw[qAA];have:(if s[i].toNat=47∨s[i].toNat=92 then [92,s[i]] else [s[i]]).length≤2:=(by split<;>simp);omega),hd,qAT]
     · exact fin i b o (by omega) ho
 have:=key s.length 0 false [] (by omega) (by omega) (by simp);simpa [zdm,bI] using this
def vF (p:Path):List UInt8:=Lib.join (p.map eU) [47]
theorem ajW {l:List (List UInt8)}{sep:List UInt8}{m:Nat} (hl:l.length≤1000) (hs:sep.length≤1000) (hm:m≤1000000) (h:∀ x∈l,x.length≤m):zb2 l sep=some (Lib.join l sep):=by
 unfold zb2 aiw;have:=qz (sep:=sep) h;have h2:l.length*(sep.length+m)≤1000*1001000:=qCQ hl (by omega);rw[zp ⟨by omega,by omega⟩]
theorem kG {p:Path} (h:∀ x∈p,x.length≤120):∀ x∈p.map eU,x.length≤240:=by
 intro x hx;rw[qC6] at hx;obtain ⟨y,hy,rfl⟩:=hx;have:=h y hy;have:=aez (s:=y);omega
theorem sK {p:Path} (h1:p.length≤12) (h:∀ x∈p,x.length≤120):(vF p).length≤3000:=by
 have:=qz (sep:=[47]) (kG h);rw[qBU] at this;have h2:p.length*(([47]:List UInt8).length+240)≤12*241:=qCQ h1 (by simp);unfold vF;omega
theorem aaV {p:Path} (h1:p.length≤12) (h:∀ x∈p,x.length≤120):zes p=some (vF p):=by
 have:=aS (f:=wW p) (l:=p) (S:=List (List UInt8)) (fun i o=>((i:Int),o,())) (fun i x o=>.inl (o++[eU x])) (fun _=>vF p) (fun i o=>o=(p.take i).map eU) (fun i hi o ho=>.inl ⟨_,rfl,by
   unfold wW;simp only[ah];have hq:=h _ (zm hi);rw[zp (by omega),aI hi];simp only[zb,vQ (show p[i].length<1000000 by omega)];rw[aL (by rw[ho]; simp; omega),wrap64 (by omega) (by omega)];rfl,by
   rw[ho,qC1,List.map_append,zg hi];rfl⟩) (fun o ho=>by
   unfold wW;simp only[ah];rw[List.take_length] at ho;subst ho;rw[zn (by omega),ajW (m:=240) (by simp; omega) (by simp) (by omega) (kG h)];rfl) [] (by simp)
 rw[bi] at this;exact this
def aat (l:List Val):List UInt8:=Lib.join (l.map jQ) [32]
def vV (e:Ent):List UInt8 :=
 if e.2.1=1 then vF e.1++[32,61,32]++aat e.2.2.1 else if e.2.1=2 then vF e.1++[32,58,32]++aat e.2.2.1 else vF e.1++[32,35,32]++Lib.itoa e.2.2.2.1
theorem aes {v:Val} (h:df v=true):(jQ v).length≤1000:=by
 rcases kJ h with ⟨n,rfl,g1,g2⟩ | ⟨s,l,rfl,g1,g2⟩ | rfl | rfl
 · have:=yM (n:=n) (by omega) (by omega);show (Lib.itoa n).length≤1000;omega
 · have:=sD s;show ([34]++cS s++[34]).length≤1000;simp only[qAA,zl,qAQ]; omega
 · decide
 · decide
theorem yc {l:List Val} (h:∀ v∈l,df v=true):∀ x∈l.map jQ,x.length≤1000:=by
 intro x hx;rw[qC6] at hx;obtain ⟨v,hv,rfl⟩:=hx;exact aes (h v hv)
theorem rT {l:List Val} (hl:l.length≤400) (h:∀ v∈l,df v=true):(aat l).length≤500000:=by
 have:=qz (sep:=[32]) (yc h);rw[qBU] at this;have h2:l.length*(([32]:List UInt8).length+1000)≤400*1001:=qCQ hl (by simp);unfold aat;omega
theorem tg {n:Int} (h:inR n):(Lib.itoa n).length≤21:=yM h.1 h.2
theorem jf {e:Ent} (h:oM e) (hn:inR e.2.2.2.1):(vV e).length≤600000:=by
 have h1:=sK h.1 h.2.1;have h2:=rT h.2.2.1 h.2.2.2;have h3:=tg hn;unfold vV
 split
 · simp only[qAA,zl,qAQ]; omega
 · split<;>simp only[qAA,zl,qAQ]<;>omega
theorem oB {e:Ent} (h:oM e) (hn:inR e.2.2.2.1):zef e=some (vV e):=by
 have l1:=aS (f:=w6 e) (l:=e.2.2.1) (S:=List (List UInt8)) (fun i o=>((i:Int),o,())) (fun i x o=>.inl (o++[jQ x])) (fun o=>(.inl (o,()):(List (List UInt8)×Unit)⊕List UInt8)) (fun i o=>o.length≤i) (fun i hi o ho=>.inl ⟨_,rfl,by
   unfold w6;simp only[ah];have hv:=h.2.2.2 _ (zm hi);have hl:=h.2.2.1;rw[zp (by omega),aI hi];simp only[zb,vj hv];rw[aL (by simp; omega),wrap64 (by omega) (by omega)]
   rfl,by simp; omega⟩) (fun o ho=>by
   unfold w6;simp only[ah];rw[zn (by omega)]) [] (by simp)
 rw[bi] at l1;have fl:∀ (l:List Val) (o:List (List UInt8)),l.foldl (fun s x=>s++[jQ x]) o=o++l.map jQ:=by
   intro l
   induction l with
   | nil=>intro o; simp
   | cons x l ih=>intro o; rw[qAX,ih]; simp
 rw[fl,qBB] at l1;have hl:=h.2.2.1;have p1:=sK h.1 h.2.1;have p2:=rT h.2.2.1 h.2.2.2;have p3:=tg hn
 have hj:zb2 (e.2.2.1.map jQ) [32]=some (aat e.2.2.1):=ajW (m:=1000) (by simp; omega) (by simp) (by omega) (yc h.2.2.2);unfold zef
 rw[show ((0:Int),([]:List (List UInt8)),())=(((0:Nat):Int),[],()) from rfl,l1,ay];simp only[hj,zb,aaV h.1 h.2.1,rY hn,ah];unfold vV;by_cases h1:e.2.1=1
 · rw[zp h1,zp h1,ct (by simp; omega)];simp only[zb];rw[ct (by simp; omega)];rfl
 · rw[zn h1,zn h1];by_cases h2:e.2.1=2
   · rw[zp h2,zp h2,ct (by simp; omega)];simp only[zb];rw[ct (by simp; omega)];rfl
   · rw[zn h2,zn h2,ct (by simp; omega)];simp only[zb];rw[ct (by simp; omega)];rfl
def je (c:Chg):List UInt8:=(if c.1=1 then [] else [45,32]++vV c.2.1++[10])++(if c.1=2 then [] else [43,32]++vV c.2.2.1++[10])
def fitC (c:Chg):Prop:=(oM c.2.1∧inR c.2.1.2.2.2.1)∧oM c.2.2.1∧inR c.2.2.1.2.2.2.1
theorem afv {c:Chg} (h:fitC c):(je c).length≤1300000:=by
 have h1:=jf h.1.1 h.1.2;have h2:=jf h.2.1 h.2.2;unfold je
 split<;>split<;>simp only[qAA,zl,qAQ]<;>omega
theorem fI {s:List UInt8}{v:Bool×Unit×Unit}{o:List UInt8} (hw:o.length+s.length<4294967000):za1 s v (bI o)=some (((s.length:Int),false,()),(true,(),()),bI (o++s),()):=by
 unfold za1;have h:za3 v (bI o)=some ((),(true,(),()),bI o,()):=by
   obtain ⟨b,_,_⟩:=v;unfold za3;cases b<;>rfl
 rw[h];simp only[zb];rw[aL (by rw[kR]; simp; omega),jD];rfl
theorem un {l:List Chg} (hl:l.length≤1000) (hf:∀ c∈l,fitC c):zdb l=some (l.flatMap je):=by
 have:=aS (f:=xk l) (l:=l) (S:=Bool×List UInt8) (fun i s=>((i:Int),bI s.2,(s.1,(),()),())) (fun _ c s=>.inl (if c.1=1∧c.1=2 then s.1 else true,s.2++je c)) (fun s=>s.2) (fun i s=>s.2.length≤1300000*i) (fun i hi s ho=>.inl ⟨_,rfl,by
   have hc:=hf _ (zm hi);have g1:=jf hc.1.1 hc.1.2;have g2:=jf hc.2.1 hc.2.2;have w1:IntKind.wrap .i64 ((i:Int)+1)=((i+1:Nat):Int):=by rw[wrap64 (by omega) (by omega)]; rfl
   unfold xk;simp only[ah];rw[zp (by omega),aI hi];have v1:=oB hc.1.1 hc.1.2;have v2:=oB hc.2.1 hc.2.2;simp only[zb,v1,w1];generalize l[i]=c at *;unfold je;rw[zn (show ¬ (c.1=1∧c.1=2) by omega)]
   by_cases h1:c.1=1
   · rw[zt h1,zp h1,zn (show ¬ c.1=2 by omega)];simp only[qAN,cond_false,zb,aT];rw[zf (show ¬ c.1=2 by omega)];simp only[qAZ,cond_true,v2,zb];rw[ct (by simp; omega)];simp only[zb]
     rw[ct (by simp; omega)];simp only[zb];rw[fI (by simp; omega)];rfl
   · rw[zf h1,zn h1];simp only[qAZ,cond_true];rw[ct (by simp; omega)];simp only[zb];rw[ct (by simp; omega)];simp only[zb];rw[fI (by simp; omega)];simp only[zb,aT];by_cases h2:c.1=2
     · rw[zt h2,zp h2];simp only[qAN,cond_false,qAR]
     · rw[zf h2,zn h2];simp only[qAZ,cond_true,v2,zb];rw[ct (by simp; omega)];simp only[zb];rw[ct (by simp; omega)];simp only[zb];rw[fI (by simp; omega),qAT s.2];rfl,by
   have:=afv (hf _ (zm hi));simp only[qAA]; omega⟩) (fun s ho=>by
   unfold xk;simp only[ah];rw[zn (by omega),pX (by omega)];rfl) (false,[]) (by simp)
 rw[bi] at this;have gen:∀ (l:List Chg) (s:Bool×List UInt8),(l.foldl (fun (s:Bool×List UInt8) (c:Chg)=>(if c.1=1∧c.1=2 then s.1 else true,s.2++je c)) s).2=s.2++l.flatMap je:=by
   intro l
   induction l with
   | nil=>intro s; simp
   | cons c l ih=>intro s; rw[qAX,ih]; simp[qA5]
 rw[gen] at this;exact this
theorem aDl:∀ (n:Nat) (a b:List Ent),a.length+b.length≤n→∀ c∈dM a b,(c.2.1∈a∨c.2.1=uC)∧(c.2.2.1∈b∨c.2.2.1=uC):=by
 intro n;have nilB:∀ b:List Ent,∀ c∈dM [] b,(c.2.1∈([]:List Ent)∨c.2.1=uC)∧(c.2.2.1∈b∨c.2.2.1=uC):=by
   intro b c hc;unfold dM at hc;rw[dJ.eq_def] at hc;simp only[qC6] at hc;obtain ⟨y,hy,rfl⟩:=hc;exact ⟨.inr rfl,.inl hy⟩
 induction n with
 | zero =>
   intro a b h;have e1:a=[]:=qA1 (by omega);subst e1;exact nilB b
 | succ n ih =>
   intro a b h
   match a,b,h with
   | [],b,h=>exact nilB b
   | x::a,[],h =>
     intro c hc;unfold dM at hc;rw[dJ.eq_def] at hc;simp only[qC6] at hc;obtain ⟨y,hy,rfl⟩:=hc;exact ⟨.inl hy,.inr rfl⟩
   | x::a,y::b,h =>
     simp only[zl] at h;intro c hc;have i1:=ih a (y::b) (by simp only[zl]; omega);have i2:=ih (x::a) b (by simp only[zl]; omega);have i3:=ih a b (by omega);unfold dM at hc i1 i2 i3;rw[dJ.eq_def] at hc
     simp only at hc
     split at hc
     · rcases qAS.1 hc with rfl | hc
       · exact ⟨.inl (qAL ..),.inr rfl⟩
       · have:=i1 c hc;exact ⟨this.1.imp_left (qAK _),this.2⟩
     · split at hc
       · rcases qAS.1 hc with rfl | hc
         · exact ⟨.inr rfl,.inl (qAL ..)⟩
         · have:=i2 c hc;exact ⟨this.1,this.2.imp_left (qAK _)⟩
       · rcases qBF.1 hc with hc | hc
         · split at hc
           · cases hc
           · simp at hc;subst hc;exact ⟨.inl (qAL ..),.inl (qAL ..)⟩
         · have:=i3 c hc;exact ⟨this.1.imp_left (qAK _),this.2.imp_left (qAK _)⟩
theorem pg {n:Nat} (h:n<9000000):shrT .u64 (IntKind.wrap .u64 (IntKind.wrap .i64 (n:Int))) 1=some ((n/2:Nat):Int):=by
 rw[wrap64 (by omega) (by omega)];have w:IntKind.wrap .u64 (n:Int)=(n:Int):=by simp[IntKind.wrap,IntKind.bits,IntKind.signed]; omega
 rw[w];unfold shrT;rw[zn (by omega)];have e:(2:Int) ^ min (Int.toNat 1) (IntKind.bits .u64)=2:=by decide
 rw[e,Int.fdiv_eq_ediv_of_nonneg _ (by omega)];congr 1
def one (c:Int) (a:List Int):Prop:=c = -2∨∃ x,a=[x]∧(c = -1∨c=x)
def Mt:List Int→List Int→Prop
 | [],t=>t=[]
 | c::o,t=>∃ a b,t=a++b∧one c a∧Mt o b
structure Inv (o t:List Int) (k:Nat) (star:Int) (mark i:Nat):Prop where
 k_le:k≤o.length
 i_le:i≤t.length
 no:star<0→(Mt o t↔Mt (o.drop k) (t.drop i))
 is:∀ st:Nat,star=(st:Int)→st<k∧mark≤i∧(Mt o t↔Mt (-2::o.drop (st+1)) (t.drop mark))∧(Mt (o.drop k) (t.drop i)→Mt (o.drop (st+1)) (t.drop mark))∧(∀ u,Mt (o.drop (st+1)) u→Mt (o.drop k) (u.drop (i-mark)))
 le : -1≤star
theorem fb (a b:Val):zbs a b=some (cmpV a b):=by
 unfold zbs cmpV zbh cmpT;simp only[jw,aGp,zb]
theorem qi {a b:Val} (ha:a.2.2.1.length<1000000):zbn a b=some (cmpV a b):=by
 unfold zbn cmpV orI;simp only[vY,aer ha,zb];unfold cmpI;by_cases h1:a.1=b.1
 · simp only[h1,decide_true,qAN,cond_false];by_cases h2:a.2.1=b.2.1
   · simp[h2]
   · simp only[h2,decide_false,qAZ,cond_true];by_cases h3:a.2.1<b.2.1
     · simp[h3]
     · have h4:b.2.1<a.2.1:=(by omega);simp[h3,h4]
 · simp only[h1,decide_false,qAZ,cond_true];by_cases h3:a.1<b.1
   · simp[h3]
   · have h4:b.1<a.1:=(by omega);simp[h3,h4]
abbrev Dot1:=Int×Int×Unit
abbrev Ref1:=Dot1×Int×Unit
abbrev Op1:=Int×Path×Val×Int×List Ref1×Unit
abbrev Txn1:=Dot1×Int×Int×Bool×List Op1×Unit
abbrev aQ:=Ref1×Op1×Int×Unit
abbrev kZ:Ty:=.agg (.cons (.agg (.cons (.int .i64) (.cons (.int .i64) .unit))) (.cons (.int .i64) .unit))
theorem wS {K L:Type}{c:K→K→Int} (h:Cmp c) (f:L→K) (hf:∀ a b,f a=f b→a=b):Cmp fun a b=>c (f a) (f b) where
 one a b:=h.one _ _
 neg a b:=h.neg _ _
 zero a b:=⟨fun e=>hf _ _ ((h.zero _ _).1 e),fun e=>(h.zero _ _).2 (by rw[e])⟩
 trans a b d:=h.trans _ _ _
theorem cd:Cmp cmpD:=by
 have:cmpD=fun a b=>cmpB cmpI cmpI ((fun x:Dot1=>(x.1,x.2.1)) a) ((fun x:Dot1=>(x.1,x.2.1)) b):=rfl;rw[this];exact wS (nv.pair nv) _ fun a b h=>by
   obtain ⟨a1,a2,⟨⟩⟩:=a; obtain ⟨b1,b2,⟨⟩⟩:=b;simp only[qA4] at h;rw[h.1,h.2]
def cmpR (a b:Ref1):Int:=orI (cmpD a.1 b.1) (cmpI a.2.1 b.2.1)
theorem e7:Cmp cmpV:=by
 have:cmpV=fun a b=>cmpB cmpI (cmpB cmpI Lib.compareBytes) ((fun x:Val=>(x.1,x.2.1,x.2.2.1)) a) ((fun x:Val=>(x.1,x.2.1,x.2.2.1)) b):=rfl;rw[this];exact wS (nv.pair (nv.pair zA)) _ fun a b h=>by
   obtain ⟨a1,a2,a3,⟨⟩⟩:=a; obtain ⟨b1,b2,b3,⟨⟩⟩:=b;simp only[qA4] at h;rw[h.1,h.2.1,h.2.2]
theorem afJ (a b:Int):zd2 a b=some (cmpI a b):=by
 unfold zd2 cmpI;simp only[ah];by_cases h1:a<b
 · rw[zp h1,zp h1]
 · by_cases h2:a>b
   · rw[zn h1,zp h2,zn h1,zp h2]
   · rw[zn h1,zn h2,zn h1,zn h2]
theorem t7 (a b:Int):cmpI a b=0↔a=b:=nv.zero a b
theorem fN (a b:Dot1):zbq a b=some (cmpD a b):=by
 unfold zbq cmpD orI;simp only[afJ,zb,aW];by_cases h:a.1=b.1
 · rw[zp h,zp ((t7 _ _).2 h)]
 · rw[zn h,zn (fun e=>h ((t7 _ _).1 e))]
theorem ah6 (a b:Ref1):zdt a b=some (cmpR a b):=by
 unfold zdt cmpR orI;simp only[fN,afJ,zb,aW];by_cases h:cmpD a.1 b.1=0
 · rw[zp h,zp h]
 · rw[zn h,zn h]
theorem jt (a b:Dot1):zdd a b=some (cmpD a b):=by
 unfold zdd;simp only[jw,or_t,zb];rfl
theorem cw (d:Dot1):zcy d=some (bd d):=by
 unfold zcy bd;simp only[ah];by_cases h1:d.1≥0<;>by_cases h2:d.1≤15<;>by_cases h3:d.2.1≥1<;>by_cases h4:d.2.1≤1048576<;>simp[h1,h2,h3,h4]<;>omega
theorem iU {A K:Type}{c:K→K→Int}{key:A→K} (hc:Cmp c):∀ {l:List A},(∀ i,(h:i+1<l.length)→c (key l[i]) (key l[i+1])<0)→ep c key l
 | [],_=>List.Pairwise.nil
 | [x],_=>qCC ..
 | x::y::l,h=>by
   have ih:=iU hc (l:=y::l) (fun i hi=>h (i+1) (by simpa using hi));have h0:=h 0 (by simp);refine qA9.2 ⟨fun z hz => ?_,ih⟩;rcases qAS.1 hz with e | hz'
   · subst e; exact h0
   · exact hc.trans _ _ _ h0 ((qA9.1 ih).1 z hz')
theorem wq (a b:Ref1):eqV kZ a b=decide (a=b):=by
 obtain ⟨⟨a1,a2,⟨⟩⟩,a3,⟨⟩⟩:=a;obtain ⟨⟨b1,b2,⟨⟩⟩,b3,⟨⟩⟩:=b;simp only[eqV,qA4,and_true];by_cases h1:a1=b1<;>by_cases h2:a2=b2<;>by_cases h3:a3=b3<;>simp[h1,h2,h3]
theorem gA (a b:Dot1):eqV (.agg (.cons (.int .i64) (.cons (.int .i64) .unit))) a b=decide (a=b):=by
 obtain ⟨a1,a2,⟨⟩⟩:=a;obtain ⟨b1,b2,⟨⟩⟩:=b;simp only[eqV,qA4,and_true];by_cases h1:a1=b1<;>by_cases h2:a2=b2<;>simp[h1,h2]
def aCW (x:Ref1):Bool:=bd x.1&&decide (0≤x.2.1∧x.2.1≤15)
def aeP (l:List Ref1) (i:Nat):Bool :=
 match l[i]? with
 | some x=>aCW x&&(decide (i=0)||match l[i-1]? with
   | some y=>decide (cmpR y x = -1)
   | none=>false)
 | none=>false
open Classical in
noncomputable def lf (l:List Ref1):Bool:=if (∀ i,i<l.length→aeP l i=true) then true else false
theorem aeS {l:List Ref1} (hl:l.length<1000000):zdp l=some (lf l):=by
 have:=mU (f:=xg l) l.length (fun i=>((i:Int),())) (aeP l) true false (fun i h=>by
   unfold xg aeP aCW;rw[zg h];simp only[ah];rw[zp (by omega),aI h];simp only[zb,cw];by_cases h0:bd l[i].1=true
   · simp only[h0,qAN,cond_false,qBK];by_cases h1:l[i].2.1<0
     · rw[zp h1,zf (by omega)]; rfl
     rw[zn h1];by_cases h2:l[i].2.1>15
     · rw[zp h2,zf (by omega)]; rfl
     rw[zn h2,zt (by omega),qBK];by_cases h3:i=0
     · subst h3;rw[zn (by omega),wrap64 (by omega) (by omega)]; rfl
     · rw[zp (by omega),wrap64 (by omega) (by omega),show (i:Int)-1=((i-1:Nat):Int) by omega,aI (by omega),zg (show i-1<l.length by omega)];simp only[zb,ah6,aW];by_cases h4:cmpR l[i-1] l[i] = -1
       · rw[zp h4,wrap64 (by omega) (by omega)]; simp[h3,h4]
       · rw[zn h4]; simp[h3,h4]
   · have h0:bd l[i].1=false:=(by simpa using h0);simp only[h0,qAZ,cond_true,qCS]; rfl) (by
   unfold xg;simp only[ah];rw[zn (by omega)])
 unfold zdp lf;rw[show ((0:Int),())=(((0:Nat):Int),()) from rfl,this]
def zeroV:Val:=(0,0,[],())
noncomputable def opM (o:Op1):Int :=
 if o.1<1∨5<o.1 then 18 else if fF o.2.1≠0 then fF o.2.1
 else if (o.1=3∨o.1=5)∧o.2.2.1≠zeroV then 2
 else if ¬ (o.1=3∨o.1=5)∧df o.2.2.1=false then 2
 else if o.1≠3∧o.2.2.2.1≠0 then 2
 else if o.1=3∧(o.2.2.2.1=0∨o.2.2.2.1>2147483647∨o.2.2.2.1 < -2147483647) then 2
 else if (o.1=2∨o.1=3)∧0<o.2.2.2.2.1.length then 2
 else if 256<o.2.2.2.2.1.length then 7
 else if lf o.2.2.2.2.1=true then 0 else 2
def si (o:Op1):Prop:=o.2.1.length≤12∧(∀ x∈o.2.1,x.length≤120)∧o.2.2.1.2.2.1.length≤200∧o.2.2.2.2.1.length≤300
theorem arl {o:Op1} (h:si o):zda o=some (opM o):=by
 obtain ⟨s1,s2,s3,s4⟩:=h;obtain ⟨k,p,v,n,sn,⟨⟩⟩:=o;simp only at s1 s2 s3 s4;unfold zda opM
 simp only[ah,aW,wo,aaM (p:=p) (fun x hx=>by have:=s2 x hx; omega),vA (v:=v) (by omega),aeS (l:=sn) (by omega),zb];have ez:((0,0,[],()):Val)=zeroV:=rfl;simp only[ez];by_cases a1:k<1
 · rw[zp a1,zp (.inl a1)]
 rw[zn a1];by_cases a2:k>5
 · rw[zp a2,zp (.inr a2)]
 rw[zn a2];rw[zn (show ¬ (k<1∨5<k) by omega)];by_cases a3:¬ fF p=0
 · rw[zn a3,zp (show fF p≠0 from a3)]
 have a3:fF p=0:=qDL.1 a3;rw[zp a3,zn (show ¬ fF p≠0 from fun e=>e a3)];have hlen:((sn.length:Int)>0)↔0<sn.length:=by omega
 have hlen2:((sn.length:Int)>256)↔256<sn.length:=by omega
 simp only[hlen,hlen2];have last:(cond (!lf sn) (some (2:Int)) (some 0))=some (if lf sn=true then 0 else 2):=by cases lf sn<;>rfl
 by_cases k3:k=3
 · subst k3;by_cases hz:v=zeroV
   · by_cases n0:n=0
     · simp[hz,n0]
     · by_cases n1:n>2147483647
       · simp[hz,n0,n1]
       · by_cases n2:n < -2147483647
         · simp[hz,n0,n1,n2]
         · by_cases l0:0<sn.length
           · simp[hz,n0,n1,n2,l0]
           · by_cases l2:256<sn.length
             · omega
             · simp[hz,n0,n1,n2,l0,l2,last]
   · simp[hz]
 · by_cases k5:k=5
   · subst k5;by_cases hz:v=zeroV
     · by_cases n0:n=0
       · by_cases l2:256<sn.length
         · simp[hz,n0,l2]
         · simp[hz,n0,l2,last]
       · simp[hz,n0]
     · simp[hz]
   · cases hr:df v with
     | false=>simp[k3,k5,hr]
     | true =>
       by_cases n0:n=0
       · by_cases k2:k=2
         · subst k2;by_cases l0:0<sn.length
           · simp[n0,l0]
           · by_cases l2:256<sn.length
             · omega
             · simp[n0,l0,l2,last]
         · by_cases l2:256<sn.length
           · simp[k2,k3,k5,n0,l2]
           · simp[k2,k3,k5,n0,l2,last]
       · simp[k3,k5,n0]
def ki (o:Op1):Bool:=decide (o.1=0∧o.2.1=[]∧o.2.2.1=zeroV∧o.2.2.2.1=0∧o.2.2.2.2.1=[])
theorem aDf (o:Op1):zdg o=some (ki o):=by
 obtain ⟨k,p,v,n,sn,⟨⟩⟩:=o;unfold zdg ki;simp only[ah,wo];have ez:((0,0,[],()):Val)=zeroV:=rfl;simp only[ez]
 have e1:((p.length:Int)=0)↔p=[]:=by rw[show ((p.length:Int)=0)↔p.length=0 by omega,qCK]
 have e2:((sn.length:Int)=0)↔sn=[]:=by rw[show ((sn.length:Int)=0)↔sn.length=0 by omega,qCK]
 simp only[e1,e2];by_cases h1:k=0<;>by_cases h2:p=[]<;>by_cases h3:v=zeroV<;>by_cases h4:n=0<;>by_cases h5:sn=[]<;>simp[h1,h2,h3,h4,h5]
def mi (o:Op1):Bool:=decide (o.2.1.length≤12)&&(o.2.1.all fun x=>decide (x.length≤120))&&decide (o.2.2.1.2.2.1.length≤200)&&decide (o.2.2.2.2.1.length≤300)
theorem aeB (o:Op1):zdc o=some (mi o):=by
 unfold zdc mi;simp only[ahW,zb,ah];cases (decide (o.2.1.length≤12)&&o.2.1.all fun x=>decide (x.length≤120)) with
 | false=>rfl
 | true =>
   rw[cond_true,qBK];by_cases h3:((o.2.2.1.2.2.1.length:Int)≤200)
   · rw[zp h3,zt (show o.2.2.1.2.2.1.length≤200 by omega),qBK];congr 1;by_cases h4:((o.2.2.2.2.1.length:Int)≤300)
     · rw[zt h4,zt (by omega)]
     · rw[zf h4,zf (by omega)]
   · rw[zn h3,zf (show ¬ o.2.2.1.2.2.1.length≤200 by omega)]; rfl
theorem oP {o:Op1}:mi o=true↔si o:=by
 unfold mi si;simp only[k9,decide_eq_true_eq,qCB];exact ⟨fun h=>⟨h.1.1.1,h.1.1.2,h.1.2,h.2⟩,fun h=>⟨⟨⟨h.1,h.2.1⟩,h.2.2.1⟩,h.2.2.2⟩⟩
noncomputable def ii (t:Txn1):Bool:=decide (t.2.2.2.2.1.length≤20)&&t.2.2.2.2.1.all mi
theorem aax (t:Txn1):zck t=some (ii t):=by
 unfold zck ii;simp only[ah];by_cases h1:(t.2.2.2.2.1.length:Int)>20
 · rw[zp h1,zf (by omega)]; rfl
 rw[zn h1,zt (by omega),qBK];have:=eW (f:=xz t) (l:=t.2.2.2.2.1) (fun i=>((i:Int),())) mi true false (fun i h=>by
   unfold xz;simp only[ah];rw[zp (by omega),aI h];simp only[zb,aeB];by_cases hs:mi t.2.2.2.2.1[i]=true
   · rw[hs,qAN,cond_false,zp rfl,wrap64 (by omega) (by omega)]; rfl
   · rw[zn hs,eq_false_of_ne_true hs]; rfl) (by
   unfold xz;simp only[ah];rw[zn (by omega)])
 rw[ite_bool] at this;exact this
noncomputable def opsM (thin:Bool):List Op1→Int
 | []=>0
 | o::l=>if opM o≠0∧¬ (thin=true∧ki o=true) then opM o else opsM thin l
noncomputable def txnM (t:Txn1):Int :=
 if bd t.1=false∨t.2.1<0∨7<t.2.1∨t.2.2.1<1∨1099511627776<t.2.2.1 then 2
 else if t.2.2.2.2.1.length=0 then 11 else if 16<t.2.2.2.2.1.length then 7 else opsM t.2.2.2.1 t.2.2.2.2.1
theorem sM {thin:Bool}:∀ (l:List Op1) (i:Nat),cO (S:=Unit) (fun _ o _=>if opM o≠0∧¬ (thin=true∧ki o=true) then .inr (opM o) else .inl ()) (fun _=>(0:Int)) i l ()=opsM thin l
 | [],_=>rfl
 | o::l,i=>by
   unfold cO opsM;by_cases h:opM o≠0∧¬ (thin=true∧ki o=true)
   · rw[zp h,zp h]
   · rw[zn h,zn h]; exact sM l (i+1)
theorem aav {t:Txn1} (h:ii t=true):zcp t=some (txnM t):=by
 unfold ii at h;simp only[k9,decide_eq_true_eq,qCB] at h;obtain ⟨h1,h2⟩:=h
 have loop:=aS (S:=Unit) (R:=Int) (f:=rx t) (l:=t.2.2.2.2.1) (fun i _=>((i:Int),())) (fun _ o _=>if opM o≠0∧¬ (t.2.2.2.1=true∧ki o=true) then .inr (opM o) else .inl ()) (fun _=>(0:Int)) (fun _ _=>True) (fun i h s _=>by
   have turn:rx t ((i:Int),())=if opM t.2.2.2.2.1[i]≠0∧¬ (t.2.2.2.1=true∧ki t.2.2.2.2.1[i]=true) then some (.inr (opM t.2.2.2.2.1[i])) else some (.inl (((i+1:Nat):Int),())):=by
     unfold rx;simp only[ah,aW];rw[zp (by omega),aI h];simp only[zb,arl (oP.1 (h2 _ (zm h))),aDf];rw[wrap64 (by omega) (by omega),show (i:Int)+1=((i+1:Nat):Int) by omega]
     by_cases a:opM t.2.2.2.2.1[i]=0
     · rw[zp a,zn (fun e=>e.1 a)]
     · rw[zn a];cases ht:t.2.2.2.1 with
       | false=>rw[cond_false,zp ⟨a,by simp⟩]
       | true =>
         rw[cond_true];by_cases hg:ki t.2.2.2.2.1[i]=true
         · rw[hg,qAN,cond_false,zn (by simp)]
         · rw[eq_false_of_ne_true hg,qAZ,cond_true,zp ⟨a,by simp⟩]
   by_cases hc:opM t.2.2.2.2.1[i]≠0∧¬ (t.2.2.2.1=true∧ki t.2.2.2.2.1[i]=true)
   · exact .inr ⟨_,by rw[zp hc],by rw[turn,zp hc]⟩
   · exact .inl ⟨(),by rw[zn hc],by rw[turn,zn hc],trivial⟩) (fun s _=>by
   unfold rx;simp only[ah];rw[zn (by omega)]) () trivial
 rw[sM] at loop;rw[show (((0:Nat):Int),())=((0:Int),()) from rfl] at loop;unfold zcp txnM;simp only[ah,cw,zb];by_cases a1:bd t.1=true
 · rw[a1,qAN,cond_false];simp only[zb];by_cases a2:t.2.1<0
   · rw[zt a2,cond_true,zp (.inr (.inl a2))]
   rw[zf a2,cond_false];by_cases a3:t.2.1>7
   · rw[zp a3,zp (.inr (.inr (.inl a3)))]
   rw[zn a3];by_cases a4:t.2.2.1<1
   · rw[zp a4,zp (.inr (.inr (.inr (.inl a4))))]
   rw[zn a4];by_cases a5:t.2.2.1>1099511627776
   · rw[zp a5,zp (.inr (.inr (.inr (.inr a5))))]
   have nn:¬ (true=false∨t.2.1<0∨7<t.2.1∨t.2.2.1<1∨1099511627776<t.2.2.1):=by
     rintro (h | h | h | h | h)
     · cases h
     · exact a2 h
     · exact a3 h
     · exact a4 h
     · exact a5 h
   rw[zn a5,zn nn];by_cases a6:t.2.2.2.2.1.length=0
   · rw[zp (show (t.2.2.2.2.1.length:Int)=0 by omega),zp a6]
   rw[zn (show ¬ (t.2.2.2.2.1.length:Int)=0 by omega),zn a6];by_cases a7:16<t.2.2.2.2.1.length
   · rw[zp (show (t.2.2.2.2.1.length:Int)>16 by omega),zp a7]
   rw[zn (show ¬ (t.2.2.2.2.1.length:Int)>16 by omega),zn a7];exact loop
 · have a1:bd t.1=false:=by simpa using a1
   rw[zp (show bd t.1=false∨t.2.1<0∨7<t.2.1∨t.2.2.1<1∨1099511627776<t.2.2.1 from .inl a1),a1];rfl
noncomputable def oU {A:Type} (key:A→Dot1) (l:List A) (i:Nat):Bool:=match l[i]?,l[i+1]? with
 | some x,some y=>decide (cmpD (key x) (key y) = -1)
 | _,_=>true
theorem aaI {A:Type}{key:A→Dot1}{l:List A} (h:∀ i,i<l.length-1→oU key l i=true):ep cmpD key l:=by
 refine iU cd fun i hi => ?_;have:=h i (by omega);unfold oU at this;rw[zg hi,zg (show i<l.length by omega)] at this;simp only[decide_eq_true_eq] at this;omega
open Classical in
theorem aeL {l:List Txn1} (hl:l.length<1000000):zc3 l=some (if (∀ i,i<l.length-1→oU (·.1) l i=true) then true else false):=by
 have:=mU (f:=xE l) (l.length-1) (fun i=>(((i+1:Nat):Int),())) (oU (·.1) l) true false (fun i h=>by
   unfold xE oU;rw[zg (show i<l.length by omega),zg (show i+1<l.length by omega)];simp only[ah,aW]
   rw[zp (by omega),wrap64 (by omega) (by omega),show ((i+1:Nat):Int)-1=(i:Int) by omega,aI (show i<l.length by omega),aI (show i+1<l.length by omega)];simp only[zb,fN,decide_eq_true_eq]
   rw[wrap64 (by omega) (by omega)];by_cases h4:cmpD l[i].1 l[i+1].1 = -1
   · rw[zp h4,zp h4]; rfl
   · rw[zn h4,zn h4]) (by
   unfold xE;simp only[ah];rw[zn (by omega)])
 exact this
def oneM (x:Ref1):Bool:=bd x.1&&decide (1≤x.2.1∧x.2.1≤64)
theorem aC3 (x:Ref1):zd9 x=some (oneM x):=by
 unfold zd9 oneM;simp only[cw,zb,ah];cases bd x.1 with
 | false=>rfl
 | true =>
   rw[cond_true,qBK];by_cases h1:x.2.1≥1<;>by_cases h2:x.2.1≤64<;>simp[h1,h2]<;>omega
def iK (l:List Ref1) (i:Nat):Bool:=match l[i]? with
 | some x=>oneM x&&(decide (i=0)||match l[i-1]? with
   | some y=>decide (cmpD y.1 x.1 = -1)
   | none=>false)
 | none=>false
open Classical in
theorem ah4 {l:List Ref1} (hl:l.length<1000000):zc7 l=some (if (∀ i,i<l.length→iK l i=true) then true else false):=by
 have:=mU (f:=xB l) l.length (fun i=>((i:Int),())) (iK l) true false (fun i h=>by
   unfold xB iK;rw[zg h];simp only[ah];rw[zp (by omega),aI h];simp only[zb,aC3];by_cases h0:oneM l[i]=true
   · simp only[h0,qAN,cond_false,qBK];by_cases h3:i=0
     · subst h3;rw[zn (by omega),wrap64 (by omega) (by omega)]; rfl
     · rw[zp (by omega),wrap64 (by omega) (by omega),show (i:Int)-1=((i-1:Nat):Int) by omega,aI (by omega),zg (show i-1<l.length by omega)];simp only[zb,fN,aW];by_cases h4:cmpD l[i-1].1 l[i].1 = -1
       · rw[zp h4,wrap64 (by omega) (by omega)]; simp[h3,h4]
       · rw[zn h4]; simp[h3,h4]
   · have h0:oneM l[i]=false:=(by simpa using h0);simp only[h0,qAZ,cond_true,qCS]; rfl) (by
   unfold xB;simp only[ah];rw[zn (by omega)])
 exact this
abbrev ld (u:List Ref1):Prop:=ep cmpD (·.1) u
structure CountsOk (u:List Ref1):Prop where
 len:u.length≤100
 rise:ld u
 one:∀ x∈u,oneM x=true
theorem counts_of {l:List Ref1} (hl:l.length≤100) (h:∀ i,i<l.length→iK l i=true):CountsOk l where
 len:=hl
 rise:=iU cd fun i hi=>by
   have:=h (i+1) hi;unfold iK at this;rw[zg hi,Nat.add_sub_cancel,zg (show i<l.length by omega)] at this;simp only[k9,qBL,decide_eq_true_eq] at this;omega
 one x hx:=by
   obtain ⟨i,hi,rfl⟩:=qCZ.1 hx;have:=h i hi;unfold iK at this;rw[zg hi] at this;simp only[k9] at this;exact this.1
structure TxnOk (t:Txn1):Prop where
 len:t.2.2.2.2.1.length≤16
 pos:0<t.2.2.2.2.1.length
 ops:∀ o∈t.2.2.2.2.1,si o∧(opM o=0∨t.2.2.2.1=true∧ki o=true)
 dot:bd t.1=true
 user:0≤t.2.1∧t.2.1≤7
 time:1≤t.2.2.1∧t.2.2.1≤1099511627776
theorem yD {thin:Bool}:∀ {l:List Op1},opsM thin l=0→∀ o∈l,opM o=0∨thin=true∧ki o=true
 | [],_,o,h=>by cases h
 | p::l,h,o,ho=>by
   unfold opsM at h;by_cases hc:opM p≠0∧¬ (thin=true∧ki p=true)
   · rw[zp hc] at h; exact absurd h hc.1
   · rw[zn hc] at h;rcases qAS.1 ho with e | ho
     · subst e;by_cases h1:opM o=0
       · exact .inl h1
       · exact .inr (qDL.1 fun h2=>hc ⟨h1,h2⟩)
     · exact yD h o ho
theorem aCQ {t:Txn1} (h1:ii t=true) (h2:txnM t=0):TxnOk t:=by
 unfold ii at h1;simp only[k9,decide_eq_true_eq,qCB] at h1;unfold txnM at h2;by_cases a:bd t.1=false∨t.2.1<0∨7<t.2.1∨t.2.2.1<1∨1099511627776<t.2.2.1
 · rw[zp a] at h2; omega
 rw[zn a] at h2;by_cases b:t.2.2.2.2.1.length=0
 · rw[zp b] at h2; omega
 rw[zn b] at h2;by_cases c:16<t.2.2.2.2.1.length
 · rw[zp c] at h2; omega
 rw[zn c] at h2;refine ⟨by omega,by omega,fun o ho=>⟨oP.1 (h1.2 o ho),yD h2 o ho⟩,?_,?_,?_⟩
 · cases hr:bd t.1 with
   | true=>rfl
   | false=>exact absurd (.inl hr) a
 · constructor
   · exact Int.not_lt.1 fun h=>a (.inr (.inl h))
   · exact Int.not_lt.1 fun h=>a (.inr (.inr (.inl h)))
 · constructor
   · exact Int.not_lt.1 fun h=>a (.inr (.inr (.inr (.inl h))))
   · exact Int.not_lt.1 fun h=>a (.inr (.inr (.inr (.inr h))))
abbrev nT (l:List Txn1):Prop:=ep cmpD (·.1) l
structure TxnsOk (l:List Txn1) (n:Nat):Prop where
 len:l.length≤n
 rise:nT l
 all:∀ t∈l,TxnOk t
open Classical in
def getM (u:List Ref1) (d:Dot1):Int:=match u with
 | []=>0
 | x::u=>if x.1=d then x.2.1 else getM u d
abbrev loU (d:Dot1) (u:List Ref1):List Ref1:=lo cmpD (·.1) d u
abbrev hiU (d:Dot1) (u:List Ref1):List Ref1:=hi cmpD (·.1) d u
theorem tD {d:Dot1}:∀ {u:List Ref1},(∀ x∈u,x.1≠d)→getM u d=0
 | [],_=>rfl
 | x::u,h=>by
   unfold getM;rw[zn (h x (qAL ..))];exact tD fun y hy=>h y (qAK _ hy)
theorem zc {d:Dot1}:∀ {p q:List Ref1},(∀ x∈p,x.1≠d)→getM (p++q) d=getM q d
 | [],_,_=>rfl
 | x::p,q,h=>by
   rw[qBV]
   conv=>lhs; unfold getM
   rw[zn (h x (qAL ..))];exact zc fun y hy=>h y (qAK _ hy)
theorem pW (a b:Ref1):zbl a b=some (cmpD a.1 b.1):=by
 unfold zbl;rw[jt]; rfl
theorem rV {u:List Ref1}{d:Ref1} (hl:u.length<1000000) (hr:ld u):∀ (k i j:Nat),j-i≤k→i≤(loU d.1 u).length→(loU d.1 u).length≤j→j≤u.length →
   aH (oz u d) ((i:Int),(j:Int),())=some (.inl (((loU d.1 u).length:Int),())):=by
 intro k
 induction k with
 | zero =>
   intro i j hk h1 h2 h3;refine aD ?_;unfold oz;simp only[ah];rw[zn (by omega),show (loU d.1 u).length=i by omega]
 | succ k ih =>
   intro i j hk h1 h2 h3;by_cases hij:i<j
   · have hh:(i+j)/2<u.length:=by omega
     have turn:oz u d ((i:Int),(j:Int),())=if cmpD u[(i+j)/2].1 d.1<0 then some (.inl ((((i+j)/2+1:Nat):Int),(j:Int),())) else some (.inl ((i:Int),(((i+j)/2:Nat):Int),())):=by
       unfold oz;simp only[ah];rw[zp (by omega),show (i:Int)+(j:Int)=((i+j:Nat):Int) by omega,pg (by omega)];simp only[zb];rw[wrap64 (n:=(((i+j)/2:Nat):Int)) (by omega) (by omega),aI hh]
       simp only[zb,pW];rw[wrap64 (by omega) (by omega)]; rfl
     by_cases hn:(i+j)/2<(loU d.1 u).length
     · rw[zp (ai3 hh hn)] at turn;rw[aG turn];exact ih _ _ (by omega) (by omega) h2 h3
     · have:=ai4 cd hr hh (k:=d.1) (Nat.le_of_not_lt hn);rw[zn (by omega)] at turn;rw[aG turn];exact ih _ _ (by omega) h1 (by omega) (by omega)
   · refine aD ?_;unfold oz;simp only[ah];rw[zn (by omega),show (loU d.1 u).length=i by omega]
theorem wy {a b:Dot1} (h:cmpD a b≠0):a≠b:=fun e=>h ((cd.zero _ _).2 e)
def aDe (q:List Ref1) (d:Dot1):Bool:=match q with
 | []=>false
 | x::_=>decide (cmpD x.1 d=0)
theorem ael {u:List Ref1}{d:Ref1} (hl:u.length<1000000) (hr:ld u) :
   zac u d ()=some (((loU d.1 u).length:Int),aDe (hiU d.1 u) d.1,()):=by
 have e2:loU d.1 u++hiU d.1 u=u:=lohi;have hlen:(loU d.1 u).length+(hiU d.1 u).length=u.length:=by rw[← qAA,e2]
 unfold zac;have:=rV (d:=d) hl hr u.length 0 u.length (by omega) (by omega) (by omega) (by omega);rw[show ((0:Int),(u.length:Int),())=(((0:Nat):Int),(u.length:Int),()) from rfl,this,ay];simp only[ah]
 cases hq:hiU d.1 u with
 | nil =>
   rw[hq] at hlen;simp only[qAQ] at hlen;rw[zn (by omega)]; rfl
 | cons x q =>
   rw[hq] at hlen e2;simp only[zl] at hlen;rw[zp (by omega),gF];have e3:u[(loU d.1 u).length]? = some x:=by
     have:(loU d.1 u++x::q)[(loU d.1 u).length]? = some x:=(by simp);rw[e2] at this;exact this
   rw[e3];simp only[zb,pW];rfl
theorem aC9 {u:List Ref1}{d:Dot1}{x:Ref1} (hx:x∈loU d u):x.1≠d:=by
 have h:=gX (c:=cmpD) (key:=fun y:Ref1=>y.1) (k:=d) (l:=u) x hx;exact wy (fun e=>by rw[e] at h; omega)
theorem oG {u:List Ref1}{d:Dot1} (hl:u.length<1000000) (hr:ld u):zev u d=some (getM u d):=by
 have e2:loU d u++hiU d u=u:=lohi;have hlo:∀ x∈loU d u,x.1≠d:=fun x hx=>aC9 hx;unfold zev ze0;rw[ael (d:=(d,0,())) hl hr];simp only[zb];have hg:getM u d=getM (hiU d u) d:=by
   conv=>lhs; rw[← e2]
   exact zc hlo
 rw[hg];cases hq:hiU d u with
 | nil=>rfl
 | cons x q =>
   have hab:=jk cd hr hq;unfold aDe;simp only[ah];by_cases h0:cmpD x.1 d=0
   · rw[zp h0,gF];have e3:u[(loU d u).length]? = some x:=by
       have:(loU d u++x::q)[(loU d u).length]? = some x:=(by simp);rw[← hq,e2] at this;exact this
     rw[e3];simp only[zb];unfold getM;rw[zp ((cd.zero _ _).1 h0)]
   · rw[zn h0,tD];intro y hy;rcases qAS.1 hy with e | hy
     · subst e; exact wy h0
     · exact wy (by have:=hab.2 y hy; omega)
theorem qh {u:List Ref1}{d:Dot1} (hl:u.length<1000000):zem u d=some (getM u d):=by
 have:=aS (S:=Unit) (R:=Int) (f:=rn u d) (l:=u) (fun i _=>((i:Int),())) (fun _ x _=>if x.1=d then .inr x.2.1 else .inl ()) (fun _=>(0:Int)) (fun _ _=>True) (fun i h s _=>by
   have turn:rn u d ((i:Int),())=if u[i].1=d then some (.inr u[i].2.1) else some (.inl (((i+1:Nat):Int),())):=by
     unfold rn;simp only[ah,gA];rw[zp (by omega),aI h];simp only[zb];rw[wrap64 (by omega) (by omega)]; rfl
   by_cases hc:u[i].1=d
   · exact .inr ⟨_,by rw[zp hc],by rw[turn,zp hc]⟩
   · exact .inl ⟨(),by rw[zn hc],by rw[turn,zn hc],trivial⟩) (fun s _=>by
   unfold rn;simp only[ah];rw[zn (by omega)]) () trivial
 have gen:∀ (l:List Ref1) (i:Nat),cO (S:=Unit) (R:=Int) (fun _ x _=>if x.1=d then .inr x.2.1 else .inl ()) (fun _=>(0:Int)) i l ()=getM l d:=by
   intro l
   induction l with
   | nil=>intro i; rfl
   | cons x l ih =>
     intro i;unfold cO getM;by_cases hc:x.1=d
     · rw[zp hc,zp hc]
     · rw[zn hc,zn hc]; exact ih (i+1)
 rw[gen] at this;exact this
def dD (u:List Ref1) (d:Dot1):Bool:=match remT (getM u d) 2 with
 | some x=>decide (x=0)
 | none=>false
theorem rem2 (a:Int):∃ x,remT a 2=some x:=⟨_,by unfold remT; rw[zn (by omega)]⟩
theorem iy {u:List Ref1}{d:Dot1} (hl:u.length<1000000) (hr:ld u):zd7 u d=some (dD u d):=by
 unfold zd7 dD;rw[oG hl hr];obtain ⟨x,hx⟩:=rem2 (getM u d);simp only[zb,hx]
theorem iW {u:List Ref1}{d:Dot1} (hl:u.length<1000000):zdv u d=some (dD u d):=by
 unfold zdv dD;rw[qh hl];obtain ⟨x,hx⟩:=rem2 (getM u d);simp only[zb,hx]
theorem zi {x y:Ref1}{v:Bool}:∀ {m:List (Ref1×Bool)},fj kZ x (putK kZ y v m)=if x=y then some v else fj kZ x m
 | []=>by
   unfold putK fj;rw[wq,ah];unfold fj;rfl
 | e::m=>by
   unfold putK;rw[wq];by_cases hy:y=e.1
   · rw[zt hy,cond_true]
     conv=>lhs; unfold fj
     conv=>rhs; rhs; unfold fj
     rw[wq,wq,ah,ah,← hy];by_cases hx:x=y
     · rw[zp hx,zp hx]
     · rw[zn hx,zn hx,zn hx]
   · rw[zf hy,cond_false]
     conv=>lhs; unfold fj
     conv=>rhs; rhs; unfold fj
     rw[wq,ah,ah,zi];by_cases hx:x=e.1
     · rw[zp hx,zn (fun e'=>hy (by rw[← e',hx])),zp hx]
     · rw[zn hx,zn hx]
def hasK (x:Ref1) (m:List (Ref1×Bool)):Bool:=(getK kZ false x m).1
theorem arR {x y:Ref1}{m:List (Ref1×Bool)}:hasK x (putK kZ y true m)=(decide (x=y)||hasK x m):=by
 unfold hasK getK;rw[zi];by_cases h:x=y
 · rw[zp h,zt h]; rfl
 · rw[zn h,zf h,qCW]
def kK (m:List (Ref1×Bool)) (l:List Ref1):List (Ref1×Bool):=l.foldl (fun m x=>putK kZ x true m) m
theorem wg {x:Ref1}:∀ {l:List Ref1}{m:List (Ref1×Bool)},hasK x (kK m l)=(l.any (fun y=>decide (x=y))||hasK x m)
 | [],m=>rfl
 | y::l,m=>by
   have:=wg (x:=x) (l:=l) (m:=putK kZ y true m);unfold kK at this ⊢;rw[qAX,this,arR,List.any_cons];cases decide (x=y)<;>cases l.any (fun y=>decide (x=y))<;>rfl
def jv (o:Op1) (x:Ref1):Bool:=o.2.2.2.2.1.any fun y=>decide (x=y)
def covT (m:List (Ref1×Bool)) (l:List Op1):List (Ref1×Bool):=l.foldl (fun m o=>kK m o.2.2.2.2.1) m
theorem yS {x:Ref1}:∀ {l:List Op1}{m:List (Ref1×Bool)},hasK x (covT m l)=(l.any (fun o=>jv o x)||hasK x m)
 | [],m=>rfl
 | o::l,m=>by
   have:=yS (x:=x) (l:=l) (m:=kK m o.2.2.2.2.1);unfold covT at this ⊢;rw[qAX,this,wg,List.any_cons];unfold jv
   cases o.2.2.2.2.1.any (fun y=>decide (x=y))<;>cases l.any (fun o=>o.2.2.2.2.1.any fun y=>decide (x=y))<;>rfl
def covL (u:List Ref1) (m:List (Ref1×Bool)) (l:List Txn1):List (Ref1×Bool):=l.foldl (fun m t=>if dD u t.1=true then covT m t.2.2.2.2.1 else m) m
def covM (l:List Txn1) (u:List Ref1) (x:Ref1):Bool:=l.any fun t=>dD u t.1&&t.2.2.2.2.1.any fun o=>jv o x
theorem yT {x:Ref1}{u:List Ref1}:∀ {l:List Txn1}{m:List (Ref1×Bool)},hasK x (covL u m l)=(covM l u x||hasK x m)
 | [],m=>rfl
 | t::l,m=>by
   have:=yT (x:=x) (u:=u) (l:=l) (m:=if dD u t.1=true then covT m t.2.2.2.2.1 else m);unfold covL at this ⊢;rw[qAX,this];unfold covM;rw[List.any_cons];by_cases hs:dD u t.1=true
   · rw[zp hs,yS,hs,qBK];cases t.2.2.2.2.1.any (fun o=>jv o x)<;>cases l.any (fun t=>dD u t.1&&t.2.2.2.2.1.any fun o=>jv o x)<;>rfl
   · rw[zn hs,eq_false_of_ne_true hs,qCS,qCW]
structure Low (l:List Txn1):Prop where
 len:l.length≤1000
 ops:∀ t∈l,t.2.2.2.2.1.length≤1000
 seen:∀ t∈l,∀ o∈t.2.2.2.2.1,o.2.2.2.2.1.length<1000000
structure LowU (u:List Ref1):Prop where
 len:u.length<1000000
 rise:ld u
theorem agf {l:List Txn1}{u:List Ref1} (hl:Low l) (hu:LowU u):zb9 l u=some (covL u [] l):=by
 have outer:=aS (S:=List (Ref1×Bool)) (f:=xQ l u) (l:=l) (fun i m=>((i:Int),m,())) (fun _ t m=>.inl (if dD u t.1=true then covT m t.2.2.2.2.1 else m)) (fun m=>m) (fun _ _=>True) (fun i h m _=>by
   refine .inl ⟨_,rfl,?_,trivial⟩;have hi:=hl.len;unfold xQ;simp only[ah];rw[zp (by omega),aI h];simp only[zb,iy hu.len hu.rise];have hops:=hl.ops _ (zm h);by_cases hs:dD u l[i].1=true
   · rw[hs,qAN,cond_false,zp rfl]
     have mid:=aS (S:=List (Ref1×Bool)) (f:=xP ((i:Int),m,()) l[i]) (l:=l[i].2.2.2.2.1) (fun k m=>((k:Int),m,())) (fun _ o m=>.inl (kK m o.2.2.2.2.1)) (fun m'=>(.inl (((i+1:Nat):Int),m',()):(Int×List (Ref1×Bool)×Unit)⊕List (Ref1×Bool))) (fun _ _=>True) (fun k hk m' _=>by
       refine .inl ⟨_,rfl,?_,trivial⟩;have hseen:=hl.seen _ (zm h) _ (zm hk);unfold xP;simp only[ah];rw[zp (by omega),aI hk];simp only[zb]
       have inner:=aS (S:=List (Ref1×Bool)) (f:=pQ ((k:Int),m',()) l[i].2.2.2.2.1[k]) (l:=l[i].2.2.2.2.1[k].2.2.2.2.1) (fun j m=>((j:Int),m,())) (fun _ x m=>.inl (putK kZ x true m)) (fun m''=>(.inl (((k+1:Nat):Int),m'',()):(Int×List (Ref1×Bool)×Unit)⊕((Int×List (Ref1×Bool)×Unit)⊕List (Ref1×Bool)))) (fun _ _=>True) (fun j hj m'' _=>by
         refine .inl ⟨_,rfl,?_,trivial⟩;unfold pQ;simp only[ah];rw[zp (by omega),aI hj];simp only[zb];rw[wrap64 (by omega) (by omega)]; rfl) (fun m'' _=>by
         unfold pQ;simp only[ah];rw[zn (by omega),wrap64 (by omega) (by omega)]; rfl) m' trivial
       rw[show ((0:Int),m',())=(((0:Nat):Int),m',()) from rfl,inner,bi];rfl) (fun m' _=>by
       unfold xP;simp only[ah];rw[zn (by omega),wrap64 (by omega) (by omega)]; rfl) m trivial
     rw[show ((0:Int),m,())=(((0:Nat):Int),m,()) from rfl,mid,bi];rfl
   · rw[zn hs,eq_false_of_ne_true hs,qAZ,cond_true,wrap64 (by omega) (by omega)]; rfl) (fun m _=>by
   unfold xQ;simp only[ah];rw[zn (by omega)]) [] trivial
 unfold zb9;rw[show ((0:Int),([]:List (Ref1×Bool)),())=(((0:Nat):Int),[],()) from rfl,outer,bi];rfl
def fg (k:Int):Bool:=decide (1≤k∧k≤3)
def ji (p:Ref1→Bool) (t:Txn1) (k:Nat) (o:Op1):List aQ:=if fg o.1=true∧p (t.1,(k:Int),())=false then [((t.1,(k:Int),()),o,t.2.2.1,())] else []
def gz (p:Ref1→Bool) (t:Txn1):Nat→List Op1→List aQ
 | _,[]=>[]
 | k,o::l=>ji p t k o++gz p t (k+1) l
def allM (l:List Txn1) (u:List Ref1):List aQ:=l.flatMap fun t=>if dD u t.1=true then gz (covM l u) t 0 t.2.2.2.2.1 else []
theorem kd {p:Ref1→Bool}{t:Txn1}{k:Nat}{o:Op1}:(ji p t k o).length≤1:=by
 unfold ji; split<;>simp
theorem jh {p:Ref1→Bool}{t:Txn1}:∀ {l:List Op1}{k:Nat},(gz p t k l).length≤l.length
 | [],_=>qAD _
 | o::l,k=>by
   have:=jh (p:=p) (t:=t) (l:=l) (k:=k+1);have:=kd (p:=p) (t:=t) (k:=k) (o:=o);unfold gz;rw[qAA,zl]; omega
theorem kc {R:Type}{p:Ref1→Bool}{t:Txn1}{fin:List aQ→R}:∀ (l:List Op1) (k:Nat) (o:List aQ),cO (fun k x o=>.inl (o++ji p t k x)) fin k l o=fin (o++gz p t k l)
 | [],k,o=>by simp[cO,gz]
 | x::l,k,o=>by
   unfold cO gz;simp only;rw[kc l (k+1),qAT]
theorem nf {A B R:Type}{g:A→List B}{fin:List B→R}:∀ (l:List A) (i:Nat) (o:List B),cO (fun _ x o=>.inl (o++g x)) fin i l o=fin (o++l.flatMap g)
 | [],i,o=>by simp[cO]
 | x::l,i,o=>by
   unfold cO;simp only;rw[nf l (i+1),qA5,qAT]
theorem ai7 {l:List Txn1}{u:List Ref1} (hl:Low l) (hu:LowU u):zez l u=some (allM l u):=by
 unfold zez;rw[agf hl hu,zb];have hp:(fun x=>hasK x (covL u [] l))=covM l u:=by
   funext x;rw[yT];exact Bool.or_false _
 generalize hm:covL u [] l=m at hp ⊢
 have outer:=aS (S:=List aQ) (f:=wU l u) (l:=l) (fun i o=>((i:Int),m,o,())) (fun _ t o=>.inl (o++if dD u t.1=true then gz (covM l u) t 0 t.2.2.2.2.1 else [])) (fun o=>o) (fun i o=>o.length≤i*1000) (fun i h o ho=>by
   have hi:=hl.len;have hops:=hl.ops _ (zm h);refine .inl ⟨_,rfl,?_,?_⟩
   · unfold wU;simp only[ah];rw[zp (by omega),aI h];simp only[zb,iy hu.len hu.rise];by_cases hs:dD u l[i].1=true
     · rw[hs,qAN,cond_false,zp rfl]
       have inner:=aS (S:=List aQ) (f:=wT ((i:Int),m,o,()) l[i]) (l:=l[i].2.2.2.2.1) (fun k o=>((k:Int),m,o,l[i],())) (fun k x o=>.inl (o++ji (covM l u) l[i] k x)) (fun o'=>(.inl (((i+1:Nat):Int),m,o',()):(Int×List (Ref1×Bool)×List aQ×Unit)⊕List aQ)) (fun k o'=>o'.length≤i*1000+k) (fun k hk o' ho'=>by
         refine .inl ⟨_,rfl,?_,?_⟩
         · have hget:(getK kZ false (l[i].1,(k:Int),()) m).1=covM l u (l[i].1,(k:Int),()):=(by rw[← hp]; rfl);unfold wT ji;simp only[ah];rw[zp (by omega),aI hk];simp only[zb]
           have hget:(getK (.agg (.cons (.agg (.cons (.int .i64) (.cons (.int .i64) .unit))) (.cons (.int .i64) .unit))) false (l[i].1,(k:Int),()) m).1=covM l u (l[i].1,(k:Int),()):=hget
           rw[hget,wrap64 (by omega) (by omega),aL (by simp; omega)];simp only[zb]
           have hk':fg l[i].2.2.2.2.1[k].1=true↔(l[i].2.2.2.2.1[k].1=1∨l[i].2.2.2.2.1[k].1=2∨l[i].2.2.2.2.1[k].1=3):=by unfold fg; simp only[decide_eq_true_eq]; omega
           by_cases hc:covM l u (l[i].1,(k:Int),())=true
           · rw[hc];simp only[qAN,cond_false,Bool.true_eq_false,and_false,if_false,qAR]
             split
             · rfl
             · split
               · rfl
               · split<;>rfl
           · rw[eq_false_of_ne_true hc];simp only[qAZ,cond_true,and_true];by_cases h1:l[i].2.2.2.2.1[k].1=1
             · rw[zp h1,zp (hk'.2 (.inl h1))]; rfl
             · by_cases h2:l[i].2.2.2.2.1[k].1=2
               · rw[zn h1,zp h2,zp (hk'.2 (.inr (.inl h2)))]; rfl
               · by_cases h3:l[i].2.2.2.2.1[k].1=3
                 · rw[zn h1,zn h2,zp h3,zp (hk'.2 (.inr (.inr h3)))]; rfl
                 · rw[zn h1,zn h2,zn h3,zn (fun e=>by rcases hk'.1 e with e | e | e; exact h1 e; exact h2 e; exact h3 e),qAR]; rfl
         · have:=kd (p:=covM l u) (t:=l[i]) (k:=k) (o:=l[i].2.2.2.2.1[k]);rw[qAA]; omega) (fun o' ho'=>by
         unfold wT;simp only[ah];rw[zn (by omega),wrap64 (by omega) (by omega)]; rfl) o (by omega)
       rw[show ((0:Int),m,o,l[i],())=(((0:Nat):Int),m,o,l[i],()) from rfl,inner,kc]
     · rw[zn hs,eq_false_of_ne_true hs,qAZ,cond_true,wrap64 (by omega) (by omega),qAR]; rfl
   · have:=jh (p:=covM l u) (t:=l[i]) (l:=l[i].2.2.2.2.1) (k:=0);rw[qAA,qB4]
     split
     · omega
     · simp; omega) (fun o _=>by
   unfold wU;simp only[ah];rw[zn (by omega)]) [] (by simp)
 rw[show ((0:Int),m,([]:List aQ),())=(((0:Nat):Int),m,[],()) from rfl,outer,nf];rfl
theorem afj {A:Type}{q:A→Bool}:∀ {l:List A}{R:Type}{yes no:R},(if l.all (fun x => !q x)=true then no else yes)=if l.any q=true then yes else no
 | [],_,_,_=>rfl
 | x::l,R,yes,no=>by
   rw[qDA,List.any_cons];cases q x with
   | true=>rfl
   | false =>
     rw[qAZ,qBK,qCW];exact afj (l:=l)
theorem fQ {A R X:Type}{f:A→Option (A⊕R)}{l:List X} (enc:Nat→A) (q:X→Bool) (yes no:R)
   (hturn:∀ (i:Nat) (h:i<l.length),f (enc i)=some (if q l[i]=true then .inr yes else .inl (enc (i+1)))) (hend:f (enc l.length)=some (.inr no)):aH f (enc 0)=some (if l.any q=true then yes else no):=by
 have:=eW (f:=f) (l:=l) enc (fun x => !q x) no yes (fun i h=>by
   rw[hturn i h];cases q l[i]<;>rfl) hend
 rw[this,afj]
theorem aiV {o:Op1}{x:Ref1} (ho:o.2.2.2.2.1.length<1000000):zb7 o x=some (jv o x):=by
 have:=fQ (f:=xS o x) (l:=o.2.2.2.2.1) (fun i=>((i:Int),())) (fun y=>decide (x=y)) true false (fun i h=>by
   unfold xS;simp only[ah];rw[zp (by omega),aI h];simp only[zb]
   have e:eqV (.agg (.cons (.agg (.cons (.int .i64) (.cons (.int .i64) .unit))) (.cons (.int .i64) .unit))) o.2.2.2.2.1[i] x=decide (o.2.2.2.2.1[i]=x):=wq _ _;rw[e,ah,wrap64 (by omega) (by omega)]
   by_cases hx:o.2.2.2.2.1[i]=x
   · rw[zp hx,zp (by rw[hx]; simp)]
   · rw[zn hx,zn (by simpa using fun e=>hx e.symm)]; rfl) (by
   unfold xS;simp only[ah];rw[zn (by omega)])
 rw[ite_bool] at this;exact this
theorem sC {l:List Txn1}{u:List Ref1}{x:Ref1} (hl:Low l) (hu:LowU u):zbr l u x=some (covM l u x):=by
 have outer:=fQ (f:=xI l u x) (l:=l) (fun i=>((i:Int),())) (fun t=>t.2.2.2.2.1.any fun o=>jv o x&&dD u t.1) true false (fun i h=>by
   have hi:=hl.len;have hops:=hl.ops _ (zm h)
   have inner:=fQ (f:=xH ((i:Int),()) l u x) (l:=l[i].2.2.2.2.1) (fun k=>((k:Int),())) (fun o=>jv o x&&dD u l[i].1) (.inr true:(Int×Unit)⊕Bool) (.inl (((i+1:Nat):Int),())) (fun k hk=>by
     have hseen:=hl.seen _ (zm h) _ (zm hk);unfold xH;simp only[ah];rw[aI h];simp only[zb];rw[zp (by omega),aI hk];simp only[zb,aiV hseen,iW hu.len];rw[wrap64 (by omega) (by omega)]
     by_cases hc:jv l[i].2.2.2.2.1[k] x=true
     · rw[hc,cond_true,qBK];by_cases hs:dD u l[i].1=true
       · rw[zp hs,hs]; rfl
       · rw[zn hs,eq_false_of_ne_true hs]; rfl
     · rw[eq_false_of_ne_true hc]; rfl) (by
     unfold xH;simp only[ah];rw[aI h];simp only[zb];rw[zn (by omega),wrap64 (by omega) (by omega)]; rfl)
   unfold xI;simp only[ah];rw[zp (by omega),show ((0:Int),())=(((0:Nat):Int),()) from rfl,inner]
   ) (by
   unfold xI;simp only[ah];rw[zn (by omega)])
 rw[ite_bool] at outer;unfold zbr covM;rw[show ((0:Int),())=(((0:Nat):Int),()) from rfl,outer];congr 2;funext t;cases dD u t.1 with
 | true=>simp
 | false=>simp
theorem yq {l:List Txn1}{u:List Ref1} (hl:Low l) (hu:LowU u):zeo l u=some (allM l u):=by
 have outer:=aS (S:=List aQ) (f:=wY l u) (l:=l) (fun i o=>((i:Int),o,())) (fun _ t o=>.inl (o++if dD u t.1=true then gz (covM l u) t 0 t.2.2.2.2.1 else [])) (fun o=>o) (fun i o=>o.length≤i*1000) (fun i h o ho=>by
   have hi:=hl.len;have hops:=hl.ops _ (zm h);refine .inl ⟨_,rfl,?_,?_⟩
   · unfold wY;simp only[ah];rw[zp (by omega)];have fin:∀ o':List aQ,lM ((i:Int),o,()) l u ((l[i].2.2.2.2.1.length:Int),o',())=some (.inr (.inl (((i+1:Nat):Int),o',()))):=fun o'=>by
       unfold lM;simp only[ah];rw[aI h];simp only[zb];rw[zn (by omega),wrap64 (by omega) (by omega)]; rfl
     by_cases hs:dD u l[i].1=true
     · rw[zp hs]
       have inner:=aS (S:=List aQ) (f:=lM ((i:Int),o,()) l u) (l:=l[i].2.2.2.2.1) (fun k o=>((k:Int),o,())) (fun k x o=>.inl (o++ji (covM l u) l[i] k x)) (fun o'=>(.inl (((i+1:Nat):Int),o',()):(Int×List aQ×Unit)⊕List aQ)) (fun k o'=>o'.length≤i*1000+k) (fun k hk o' ho'=>by
         refine .inl ⟨_,rfl,?_,?_⟩
         · unfold lM ji fg;simp only[ah];rw[aI h];simp only[zb];rw[zp (by omega),aI hk];simp only[zb,iW hu.len,hs,sC hl hu,cond_true];rw[wrap64 (by omega) (by omega)];by_cases h1:l[i].2.2.2.2.1[k].1≥1
           · rw[zp h1];simp only[zb,ah];rw[aL (by simp; omega)];by_cases h3:l[i].2.2.2.2.1[k].1≤3
             · rw[zp h3];by_cases hc:covM l u (l[i].1,(k:Int),())=true
               · rw[hc];simp only[qAN,cond_false,Bool.true_eq_false,and_false,if_false,qAR]; rfl
               · rw[eq_false_of_ne_true hc];simp only[qAZ,cond_true,and_true];rw[zp (by simp only[decide_eq_true_eq]; omega)]; rfl
             · rw[zn h3,zn (fun e=>h3 (by have:=e.1; simp only[decide_eq_true_eq] at this; omega)),qAR]; rfl
           · rw[zn h1,zn (fun e=>h1 (by have:=e.1; simp only[decide_eq_true_eq] at this; omega)),qAR]; rfl
         · have:=kd (p:=covM l u) (t:=l[i]) (k:=k) (o:=l[i].2.2.2.2.1[k]);rw[qAA]; omega) (fun o' ho'=>fin o') o (by omega)
       rw[show ((0:Int),o,())=(((0:Nat):Int),o,()) from rfl,inner,kc]
     · rw[zn hs,qAR]
       have inner:=aS (S:=List aQ) (f:=lM ((i:Int),o,()) l u) (l:=l[i].2.2.2.2.1) (fun k o=>((k:Int),o,())) (fun k x o=>.inl o) (fun o'=>(.inl (((i+1:Nat):Int),o',()):(Int×List aQ×Unit)⊕List aQ)) (fun k o'=>True) (fun k hk o' _=>by
         refine .inl ⟨_,rfl,?_,trivial⟩;unfold lM;simp only[ah];rw[aI h];simp only[zb];rw[zp (by omega),aI hk];simp only[zb,iW hu.len,eq_false_of_ne_true hs,cond_false]
         rw[wrap64 (by omega) (by omega)]
         split
         · simp only[zb,ah]
           split<;>rfl
         · rfl) (fun o' _=>fin o') o trivial
       rw[show ((0:Int),o,())=(((0:Nat):Int),o,()) from rfl,inner,bi];congr 2;have:∀ (l:List Op1) (s:List aQ),l.foldl (fun s _=>s) s=s:=by
         intro l
         induction l with
         | nil=>intro s; rfl
         | cons x l ih=>intro s; exact ih s
       rw[this]
   · have:=jh (p:=covM l u) (t:=l[i]) (l:=l[i].2.2.2.2.1) (k:=0);rw[qAA,qB4]
     split
     · omega
     · simp; omega) (fun o _=>by
   unfold wY;simp only[ah];rw[zn (by omega)]) [] (by simp)
 unfold zeo;rw[show ((0:Int),([]:List aQ),())=(((0:Nat):Int),[],()) from rfl,outer,nf];rfl
def jg (k:Int):Int:=if k=1 then 1 else if k=2∨k=4 then 2 else if k=3 then 3 else 0
theorem yE (k:Int):ze8 k=some (jg k):=by
 unfold ze8 jg;simp only[ah];by_cases h1:k=1
 · rw[zp h1,zp h1]
 · by_cases h2:k=2
   · subst h2; rfl
   · by_cases h4:k=4
     · subst h4; rfl
     · by_cases h3:k=3
       · subst h3; rfl
       · simp[h1,h2,h3,h4]
theorem mE (k:Int):zdx k=some (jg k):=by
 unfold zdx jg;simp only[ah];by_cases h1:k=1
 · rw[zp h1,zp h1]
 · by_cases h2:k=2
   · subst h2; rfl
   · by_cases h4:k=4
     · subst h4; rfl
     · by_cases h3:k=3
       · subst h3; rfl
       · simp[h1,h2,h3,h4]
def isAt (p:Path) (leaf:Int) (x:aQ):Bool:=decide (jg x.2.1.1=leaf)&&decide (x.2.1.2.1=p)
def atM (l:List aQ) (p:Path) (leaf:Int):List aQ:=l.filter (isAt p leaf)
theorem kj {A:Type}{q:A→Bool}:∀ {l:List A},(l.flatMap fun x=>if q x=true then [x] else [])=l.filter q
 | []=>rfl
 | x::l=>by
   rw[qA5,kj,List.filter_cons]
   split<;>rfl
structure LowI (l:List aQ):Prop where
 len:l.length<1000000
 path:∀ x∈l,x.2.1.2.1.length<1000000∧∀ s∈x.2.1.2.1,s.length<1000000
theorem age (a b:Path):cmpP a b=0↔a=b:=(Cmp.list zA).zero a b
theorem at_t {l:List aQ}{p:Path}{leaf:Int} (hl:LowI l):ze7 l p leaf=some (atM l p leaf):=by
 have hlen:=hl.len;have:=cM (f:=w9 l p leaf) (l:=l) (fun i o=>((i:Int),o,())) (fun x=>if isAt p leaf x=true then [x] else []) (fun o=>o) 1 (fun x _=>by split<;>simp) (fun i h o ho=>by
   have hp:=(hl.path _ (zm h)).1;unfold w9 isAt;simp only[ah];rw[zp (by omega),aI h];simp only[zb,yE,o0 hp];rw[wrap64 (by omega) (by omega),aL (by simp; omega)];simp only[zb,ah]
   by_cases h1:jg l[i].2.1.1=leaf
   · rw[zp h1,zt h1,qBK];by_cases h2:l[i].2.1.2.1=p
     · rw[zp h2,zt h2]; rfl
     · rw[zn h2,zf h2]; simp
   · rw[zn h1,zf h1]; simp) (fun o _=>by
   unfold w9;simp only[ah];rw[zn (by omega)])
 unfold ze7 atM;rw[show ((0:Int),([]:List aQ),())=(((0:Nat):Int),[],()) from rfl,this,kj]
theorem vC {l:List aQ}{p:Path}{leaf:Int} (hl:LowI l):ze2 l p leaf=some (atM l p leaf):=by
 have hlen:=hl.len;have:=cM (f:=xb l p leaf) (l:=l) (fun i o=>((i:Int),o,())) (fun x=>if isAt p leaf x=true then [x] else []) (fun o=>o) 1 (fun x _=>by split<;>simp) (fun i h o ho=>by
   have hp:=hl.path _ (zm h);unfold xb isAt;simp only[ah];rw[zp (by omega),aI h];simp only[zb,mE,d7 hp.1 hp.2];rw[wrap64 (by omega) (by omega),aL (by simp; omega)];simp only[zb,ah]
   by_cases h1:jg l[i].2.1.1=leaf
   · rw[zp h1,zt h1,qBK];by_cases h2:l[i].2.1.2.1=p
     · rw[zp ((age _ _).2 h2),zt h2]; rfl
     · rw[zn (fun e=>h2 ((age _ _).1 e)),zf h2]; simp
   · rw[zn h1,zf h1]; simp) (fun o _=>by
   unfold xb;simp only[ah];rw[zn (by omega)])
 unfold ze2 atM;rw[show ((0:Int),([]:List aQ),())=(((0:Nat):Int),[],()) from rfl,this,kj]
theorem ku {l:List aQ}{p:Path}{leaf:Int} (hl:LowI l):LowI (atM l p leaf):=⟨Nat.lt_of_le_of_lt (List.length_filter_le ..) hl.len,fun x hx=>hl.path x (qC9.1 hx).1⟩
theorem dZ {A:Type}{w:List A} (h:0<w.length):w.isEmpty=false:=by cases w with
 | nil=>cases h
 | cons _ _=>rfl
theorem fo {n a b:Nat} (h1:a≤b) (h2:b≤n):lZ n (a:Int) (b:Int)=some (a,b-a):=by
 unfold lZ;rw[zp ⟨by omega,by omega,by omega⟩]; simp
theorem iS {A:Type} [DecidableEq A] {l:List A}{i:Nat} (hi:i<l.length) (h0:0<i):sqz (l.take (i+1))=if l[i-1]'(by omega)=l[i] then sqz (l.take i) else sqz (l.take i)++[l[i]]:=by
 rw[qC1,zg hi,Option.toList_some,pZ];unfold sqzS;have e:(sqz (l.take i)).getLast? = some (l[i-1]'(by omega)):=by
   rw[ahT,List.getLast?_eq_getElem?,qAP,show min i l.length-1=i-1 by omega,qBP (by omega),zg (by omega)]
 rw[e];by_cases h:l[i-1]'(by omega)=l[i]
 · rw[zp (by rw[h]),zp h]
 · rw[zn (fun e=>h (qCJ e)),zn h]
structure Mid (l w:List Val) (i0 k i:Nat):Prop where
 len:w.length=l.length
 head:w.take i=sqz (l.take (i0+k))
 rest:∀ j,i0+k-1≤j→w[j]? = l[j]?
 low:i≤i0+k-1
theorem qT {l:List Val}{i0:Nat} (hl:l.length<1000000) (h0:0<i0) (hi0:i0<l.length):∀ (n k i:Nat) (w:List Val),l.length-i0-k≤n→1≤k→k≤l.length-i0→Mid l w i0 k i →
   ∃ w' i',Mid l w' i0 (l.length-i0) i'∧aH ox ((i:Int),(i0,l.length-i0),(k:Int),w,())=some (.inl ((i':Int),w',())):=by
 intro n
 induction n with
 | zero =>
   intro k i w hn hk1 hk hm;have e:k=l.length-i0:=by omega
   subst e;refine ⟨w,i,hm,aD ?_⟩;unfold ox;simp only[ah];rw[zn (by omega)]
 | succ n ih =>
   intro k i w hn hk1 hk hm;by_cases hlt:k<l.length-i0
   · have hwl:=hm.len;have hw:0<w.length:=(by omega);have hk0:i0+k<l.length:=(by omega);have ea:w[i0+k]? = some (l[i0+k]):=by rw[hm.rest _ (by omega),zg hk0]
     have eb:w[i0+(k-1)]? = some (l[i0+k-1]'(by omega)):=(by rw[show i0+(k-1)=i0+k-1 by omega,hm.rest _ (by omega),zg (by omega)]);have hlow:=hm.low;have hiw:i<w.length:=by omega
     have turn:ox ((i:Int),(i0,l.length-i0),(k:Int),w,())=if l[i0+k-1]'(by omega)=l[i0+k] then some (.inl ((i:Int),(i0,l.length-i0),((k+1:Nat):Int),w,())) else some (.inl (((i+1:Nat):Int),(i0,l.length-i0),((k+1:Nat):Int),w.set i l[i0+k],())):=by
       unfold ox;simp only[ah];rw[zp (by omega),dZ hw];simp only[cond_false]
       rw[bH hlt,wrap64 (n:=(k:Int)-1) (by omega) (by omega),show (k:Int)-1=((k-1:Nat):Int) by omega,bH (show k-1<l.length-i0 by omega)];simp only[zb];rw[ea,eb];simp only[zb,wo]
       rw[wrap64 (by omega) (by omega),wrap64 (by omega) (by omega)];by_cases hx:l[i0+k]=l[i0+k-1]'(by omega)
       · rw[zp hx.symm,zt hx]; rfl
       · rw[zn (fun e=>hx e.symm),zf hx,bH hiw];simp only[qAZ,cond_true,zb];rw[zg hiw];rfl
     have hsq:=iS (l:=l) (i:=i0+k) hk0 (by omega);by_cases hx:l[i0+k-1]'(by omega)=l[i0+k]
     · rw[zp hx] at turn hsq;rw[aG turn];exact ih (k+1) i w (by omega) (by omega) (by omega) ⟨hwl,by rw[hm.head,show i0+(k+1)=i0+k+1 by omega,hsq],fun j hj=>hm.rest j (by omega),by omega⟩
     · rw[zn hx] at turn hsq;rw[aG turn];refine ih (k+1) (i+1) _ (by omega) (by omega) (by omega) ⟨by rw[qDJ]; exact hwl,?_,fun j hj => ?_,by omega⟩
       · rw[show i0+(k+1)=i0+k+1 by omega,hsq,← hm.head,qC1,List.take_set_of_le (by omega),qAY hiw]; rfl
       · rw[qBH (by omega)];exact hm.rest j (by omega)
   · have e:k=l.length-i0:=(by omega);subst e;refine ⟨w,i,hm,aD ?_⟩;unfold ox;simp only[ah];rw[zn (by omega)]
theorem qS {l:List Val} (hl:l.length<1000000):∀ (n i:Nat),l.length-i≤n→1≤i→i≤l.length→sqz (l.take i)=l.take i →
   aH lS ((i:Int),l,())=some (sqz l):=by
 intro n
 induction n with
 | zero =>
   intro i hn h1 hi hs;have e:i=l.length:=by omega
   subst e;rw[qBI (qAD _)] at hs;refine aD ?_;unfold lS;simp only[ah];rw[zn (by omega),hs]
 | succ n ih =>
   intro i hn h1 hi hs;by_cases hlt:i<l.length
   · have hsq:=iS (l:=l) (i:=i) hlt (by omega);have he:l.isEmpty=false:=dZ (by omega);by_cases hx:l[i-1]'(by omega)=l[i]
     · refine aD ?_;unfold lS;simp only[ah];rw[zp (by omega),bH hlt,wrap64 (by omega) (by omega),show (i:Int)-1=((i-1:Nat):Int) by omega,bH (show i-1<l.length by omega)]
       simp only[zb,zg hlt,zg (show i-1<l.length by omega),wo];rw[zt hx.symm,cond_true,he,cond_false,fo (by omega) (qAD _)];simp only[zb];rw[zp hx] at hsq
       obtain ⟨w',i',hm,hrun⟩:=qT hl (by omega) hlt (l.length-i) 1 i l (by omega) (qAD _) (by omega) ⟨rfl,by rw[hsq,hs],fun j _=>rfl,by omega⟩;rw[show ((1:Int))=((1:Nat):Int) from rfl,hrun,ay]
       have hwl:=hm.len;have hlow:=hm.low;have hle:i'≤w'.length:=(by omega);have hw:0<w'.length:=(by omega);have e2:i+(l.length-i)=l.length:=by omega
       have hhead:w'.take i'=sqz l:=(by rw[hm.head,e2,qBI (qAD _)]);simp only;rw[dZ hw,cond_false,fo hle (qAD _)];simp only[zb,cond_false];rw[zp (by omega)]
       simp only[zb];have hlen2:(List.take i' w'++List.replicate (w'.length-i') ((0,0,[],()):Val)++List.drop (i'+(w'.length-i')) w').length=w'.length:=by
         rw[qAA,qAA,qAP,qCI,qA2]; omega
       rw[dZ (by rw[hlen2]; exact hw),cond_false,hlen2,show ((0:Int))=((0:Nat):Int) from rfl,fo (qBW _) hle];simp only[zb,cond_false];rw[zp (by omega)]
       simp only[qAF,qB3,qCO];rw[qAT,qB7 (by rw[qAP]; omega),List.take_take,Nat.min_self,hhead]
     · have turn : lS ((i : Int), l, ()) = some (.inl (((i + 1 : Nat) : Int), l, ())) := by
         unfold lS;simp only[ah];rw[zp (by omega),bH hlt,wrap64 (by omega) (by omega),show (i:Int)-1=((i-1:Nat):Int) by omega,bH (show i-1<l.length by omega)]
         simp only[zb,zg hlt,zg (show i-1<l.length by omega),wo];rw[zf (fun e=>hx e.symm),cond_false,wrap64 (by omega) (by omega)]; rfl
       rw[aG turn];rw[zn hx,hs] at hsq;refine ih (i+1) (by omega) (by omega) (by omega) ?_;rw[hsq,qC1,zg hlt]; rfl
   · have e:i=l.length:=(by omega);subst e;rw[qBI (qAD _)] at hs;refine aD ?_;unfold lS;simp only[ah];rw[zn (by omega),hs]
theorem agi {l:List Val} (hl:l.length<1000000):zan l=some (sqz l,()):=by
 unfold zan ap9;simp only[ah]
 match l,hl with
 | [],_=>rfl
 | [x],_=>rfl
 | x::y::l,hl =>
   rw[zn (by simp only[zl]; omega)];have:=qS hl (x::y::l).length 1 (by omega) (qAD _) (by simp) rfl;rw[show ((1:Int))=((1:Nat):Int) from rfl,this];rfl
def insV (o:List Val) (v:Val):List Val:=match o with
 | []=>[v]
 | x::l=>if cmpV v x=0 then x::l else if cmpV v x<0 then v::x::l else x::insV l v
abbrev qf (o:List Val):Prop:=ep cmpV (fun v=>v) o
theorem qE {v x:Val}:∀ {o:List Val},x∈insV o v↔x=v∨x∈o
 | []=>by simp[insV]
 | y::l=>by
   unfold insV
   split
   · rename_i h;have e:=(e7.zero _ _).1 h;subst e;simp
   · split
     · simp
     · rw[qAS,qE,qAS];constructor
       · rintro (h | h | h)
         · exact .inr (.inl h)
         · exact .inl h
         · exact .inr (.inr h)
       · rintro (h | h | h)
         · exact .inr (.inl h)
         · exact .inl h
         · exact .inr (.inr h)
theorem gY {v:Val}:∀ {o:List Val},qf o→qf (insV o v)
 | [],_=>qCC ..
 | y::l,h=>by
   have h':=qA9.1 h;unfold insV
   split
   · exact h
   · rename_i h0
     split
     · rename_i h1;refine qA9.2 ⟨fun z hz => ?_,h⟩;rcases qAS.1 hz with e | hz
       · subst e; exact h1
       · exact e7.trans _ _ _ h1 (h'.1 z hz)
     · rename_i h1;refine qA9.2 ⟨fun z hz => ?_,gY h'.2⟩;rcases qE.1 hz with e | hz
       · subst e;have h2:=e7.neg z y;show cmpV y z<0;omega
       · exact h'.1 z hz
def gr (l:List Val):List Val:=l.foldl insV []
theorem mf:∀ (l o:List Val),qf o→qf (l.foldl insV o)∧∀ x,x∈l.foldl insV o↔x∈o∨x∈l
 | [],o,h=>⟨h,fun x=>by simp⟩
 | v::l,o,h=>by
   obtain ⟨h1,h2⟩:=mf l (insV o v) (gY h);refine ⟨h1,fun x => ?_⟩;rw[qAX,h2,qE,qAS];constructor
   · rintro ((h | h) | h)
     · exact .inr (.inl h)
     · exact .inl h
     · exact .inr (.inr h)
   · rintro (h | h | h)
     · exact .inl (.inr h)
     · exact .inl (.inl h)
     · exact .inr h
theorem md (l:List Val):qf (gr l):=(mf l [] List.Pairwise.nil).1
theorem me (l:List Val) (x:Val):x∈gr l↔x∈l:=by
 have:=(mf l [] List.Pairwise.nil).2 x;simpa [gr] using this
theorem lD {v:Val}:∀ {o:List Val},(insV o v).length≤o.length+1
 | []=>qAD _
 | y::l=>by
   unfold insV
   split
   · omega
   · split
     · simp
     · have:=lD (v:=v) (o:=l);simp only[zl]; omega
theorem rS:∀ (l o:List Val),(l.foldl insV o).length≤o.length+l.length
 | [],o=>qAD _
 | v::l,o=>by
   have:=rS l (insV o v);have:=lD (v:=v) (o:=o);rw[qAX,zl]; omega
theorem se {l:List Val} (hl:l.length<1000000):∃ s,zak l=some ((),s,())∧zan s=some (gr l,()):=by
 obtain ⟨s,h1,h2,h3⟩:=sf (c:=cmpV) (key:=fun v:Val=>v) (cmp:=fun x y=>zbs x y) (xs:=l) e7 (fun x _ y _=>fb x y) (by omega);refine ⟨s,by unfold zak; rw[h1]; rfl,?_⟩
 rw[agi (by rw[h2.length_eq]; exact hl)];have:sqz s=gr l:=by
   refine dX e7 (key:=fun v:Val=>v) (sd e7 (fun a b=>(e7.zero a b).1) _ s rfl h3) (md l) fun x => ?_;rw[pY _ s rfl,me];exact h2.mem_iff
 rw[this]
def oE (l:List aQ) (p:Path):List Val:=(atM l p 1).map fun x=>x.2.1.2.2.1
theorem vv {l:List aQ}{p:Path} (hl:LowI l):zd0 l p=some (gr (oE l p)):=by
 unfold zd0 oE;rw[at_t hl];have hlow:=(ku (p:=p) (leaf:=1) hl).len;generalize atM l p 1=q at hlow;simp only[zb]
 have:=cM (f:=xp q) (l:=q) (fun i o=>((i:Int),o,())) (fun x=>[x.2.1.2.2.1]) (fun o=>(.inl (o,()):(List Val×Unit)⊕List Val)) 1 (fun x _=>qAD _) (fun i h o ho=>by
   unfold xp;simp only[ah];rw[zp (by omega),aI h];simp only[zb];rw[wrap64 (by omega) (by omega),aL (by simp; omega)]; rfl) (fun o _=>by
   unfold xp;simp only[ah];rw[zn (by omega)])
 rw[show ((0:Int),([]:List Val),())=(((0:Nat):Int),[],()) from rfl,this,ay];have e:(q.flatMap fun x=>[x.2.1.2.2.1])=q.map fun x=>x.2.1.2.2.1:=by
   clear this hlow
   induction q with
   | nil=>rfl
   | cons x q ih=>rw[qA5,qBE,ih]; rfl
 obtain ⟨s,h1,h2⟩:=se (l:=q.map fun x=>x.2.1.2.2.1) (by rw[qBU]; exact hlow);simp only[e];rw[h1];simp only[zb,h2]
theorem mF {o:List Val}{v:Val} (ho:o.length<1000000) (hv:v.2.2.1.length<1000000) (hr:qf o):zcc o v=some (insV o v):=by
 unfold zcc
 have loop:=aS (S:=Bool×List Val) (f:=rz o v) (l:=o) (fun i s=>(s.1,(i:Int),s.2,())) (fun _ x s=>if cmpV v x=0 then .inr (.inr o) else .inl (s.1||decide (cmpV v x<0),(if cmpV v x<0∧s.1=false then s.2++[v] else s.2)++[x])) (fun s=>(.inl (s.1,s.2,()):(Bool×List Val×Unit)⊕List Val)) (fun i s=>s.2.length≤2*i) (fun i h s hs=>by
   have turn:rz o v (s.1,(i:Int),s.2,())=if cmpV v o[i]=0 then some (.inr (.inr o)) else some (.inl (s.1||decide (cmpV v o[i]<0),((i+1:Nat):Int),(if cmpV v o[i]<0∧s.1=false then s.2++[v] else s.2)++[o[i]],())):=by
     unfold rz;simp only[ah];rw[zp (by omega),aI h];simp only[zb,qi hv];by_cases h0:cmpV v o[i]=0
     · rw[zp h0,zp h0]
     · rw[zn h0,zn h0,wrap64 (by omega) (by omega)];by_cases h1:cmpV v o[i]<0
       · rw[zp h1,zt h1,Bool.or_true];cases hs1:s.1 with
         | true =>
           simp only[qAN,cond_false,zb,eG];rw[aL (by simp; omega),zn (fun e=>by cases e.2)]; rfl
         | false =>
           simp only[qAZ,cond_true,zb];rw[aL (by simp; omega)];simp only[zb,eG];rw[aL (by simp; omega),zp ⟨h1,trivial⟩]; rfl
       · rw[zn h1,zf h1,Bool.or_false];simp only[zb,eG];rw[aL (by simp; omega),zn (fun e=>h1 e.1)]; rfl
   by_cases h0:cmpV v o[i]=0
   · exact .inr ⟨_,by rw[zp h0],by rw[turn,zp h0]⟩
   · refine .inl ⟨_,by rw[zn h0],by rw[turn,zn h0],?_⟩
     split<;>simp<;>omega) (fun s _=>by
   unfold rz;simp only[ah];rw[zn (by omega)]) (false,[]) (by simp)
 rw[show (false,(0:Int),([]:List Val),())=((false,([]:List Val)).1,((0:Nat):Int),(false,([]:List Val)).2,()) from rfl,loop]
 have gen1:∀ (l:List Val) (i:Nat) (q:List Val),(∀ x∈l,cmpV v x<0)→cO (S:=Bool×List Val) (fun _ x s=>if cmpV v x=0 then .inr (.inr o) else .inl (s.1||decide (cmpV v x<0),(if cmpV v x<0∧s.1=false then s.2++[v] else s.2)++[x])) (fun s=>(.inl (s.1,s.2,()):(Bool×List Val×Unit)⊕List Val)) i l (true,q) = .inl (true,q++l,()):=by
   intro l
   induction l with
   | nil=>intro i q _; simp[cO]
   | cons x l ih =>
     intro i q h;unfold cO;have hx:=h x (qAL ..);rw[zn (by omega)];simp only[Bool.true_or];rw[zn (fun e=>by cases e.2),ih (i+1) (q++[x]) (fun y hy=>h y (qAK _ hy))]
     simp
 have gen2:∀ (l:List Val) (i:Nat) (q:List Val),q++l=o→qf l→(∃ b r,cO (S:=Bool×List Val) (fun _ x s=>if cmpV v x=0 then .inr (.inr o) else .inl (s.1||decide (cmpV v x<0),(if cmpV v x<0∧s.1=false then s.2++[v] else s.2)++[x])) (fun s=>(.inl (s.1,s.2,()):(Bool×List Val×Unit)⊕List Val)) i l (false,q) = .inl (b,r,())∧(if b=true then r else r++[v])=q++insV l v∧r.length≤o.length+1)∨(cO (S:=Bool×List Val) (fun _ x s=>if cmpV v x=0 then .inr (.inr o) else .inl (s.1||decide (cmpV v x<0),(if cmpV v x<0∧s.1=false then s.2++[v] else s.2)++[x])) (fun s=>(.inl (s.1,s.2,()):(Bool×List Val×Unit)⊕List Val)) i l (false,q) = .inr o∧o=q++insV l v):=by
   intro l
   induction l with
   | nil =>
     intro i q hq _;refine .inl ⟨false,q,rfl,rfl,?_⟩;rw[← hq]; simp
   | cons x l ih =>
     intro i q hq hr;have hr':=qA9.1 hr;by_cases h0:cmpV v x=0
     · refine .inr ⟨?_,?_⟩
       · unfold cO; rw[zp h0]
       · unfold insV; rw[zp h0,hq]
     · by_cases h1:cmpV v x<0
       · refine .inl ⟨true,q++[v]++[x]++l,?_,?_,?_⟩
         · unfold cO;rw[zn h0,zp ⟨h1,rfl⟩,zt h1,Bool.or_true];exact gen1 l (i+1) _ fun y hy=>e7.trans _ _ _ h1 (hr'.1 y hy)
         · unfold insV; rw[zn h0,zp h1]; simp
         · rw[← hq]; simp; omega
       · have e : cO (S := Bool × List Val) (fun _ x s => if cmpV v x = 0 then .inr (.inr o) else .inl (s.1 || decide (cmpV v x < 0), (if cmpV v x < 0 ∧ s.1 = false then s.2 ++ [v] else s.2) ++ [x])) (fun s => (.inl (s.1, s.2, ()) : (Bool × List Val × Unit) ⊕ List Val)) i (x :: l) (false, q) = cO (S := Bool × List Val) (fun _ x s => if cmpV v x = 0 then .inr (.inr o) else .inl (s.1 || decide (cmpV v x < 0), (if cmpV v x < 0 ∧ s.1 = false then s.2 ++ [v] else s.2) ++ [x])) (fun s => (.inl (s.1, s.2, ()) : (Bool × List Val × Unit) ⊕ List Val)) (i + 1) l (false, q ++ [x]) := by
           conv=>lhs; unfold cO
           rw[zn h0,zn (fun e=>h1 e.1),zf h1]; rfl
         have:=ih (i+1) (q++[x]) (by rw[← hq]; simp) hr'.2;rw[e];have e2:q++insV (x::l) v=q++[x]++insV l v:=by
           conv=>lhs; unfold insV
           rw[zn h0,zn h1]; simp
         rw[e2];exact this
 rcases gen2 o 0 [] rfl hr with ⟨b,r,h1,h2,h3⟩ | ⟨h1,h2⟩
 · rw[h1,ay];rw[qBB] at h2;cases b with
   | true=>rw[zp rfl] at h2; rw[← h2]; rfl
   | false =>
     rw[zn (by simp)] at h2;simp only[qAZ,cond_true];rw[aL (by simp; omega),← h2]; rfl
 · rw[h1,bj];rw[qBB] at h2;rw[← h2]
theorem vx {l:List aQ}{p:Path} (hl:LowI l) (hv:∀ x∈l,x.2.1.2.2.1.2.2.1.length<1000000):zb1 l p=some (gr (oE l p)):=by
 unfold zb1 oE;rw[vC hl];have hlow:=(ku (p:=p) (leaf:=1) hl).len;have hq:∀ x∈atM l p 1,x.2.1.2.2.1.2.2.1.length<1000000:=fun x hx=>hv x (qC9.1 hx).1;generalize atM l p 1=q at hlow hq
 simp only[zb];have loop:=aS (S:=List Val) (f:=xU q) (l:=q) (fun i o=>(o,(i:Int),())) (fun _ x o=>.inl (insV o x.2.1.2.2.1)) (fun o=>o) (fun i o=>qf o∧o.length≤i) (fun i h o ho=>by
   refine .inl ⟨_,rfl,?_,gY ho.1,by have:=lD (v:=q[i].2.1.2.2.1) (o:=o); have:=ho.2; omega⟩;unfold xU;simp only[ah];rw[zp (by omega),aI h];have:=ho.2
   simp only[zb,mF (show o.length<1000000 by omega) (hq _ (zm h)) ho.1];rw[wrap64 (by omega) (by omega)]; rfl) (fun o _=>by
   unfold xU;simp only[ah];rw[zn (by omega)]) [] ⟨List.Pairwise.nil,by simp⟩
 rw[show (([]:List Val),(0:Int),())=(([]:List Val),((0:Nat):Int),()) from rfl,loop,bi,gr,List.foldl_map]
structure LowP (l:List Txn1):Prop where
 low:Low l
 ops:∀ t∈l,∀ o∈t.2.2.2.2.1,(o.2.1.length<1000000∧∀ s∈o.2.1,s.length<1000000)∧o.2.2.1.2.2.1.length<1000000
theorem th {p:Ref1→Bool}{t:Txn1}:∀ {l:List Op1}{k:Nat}{x:aQ},x∈gz p t k l→∃ (j:Nat) (o:Op1),o∈l∧fg o.1=true∧p (t.1,(j:Int),())=false∧x=((t.1,(j:Int),()),o,t.2.2.1,())
 | [],_,x,h=>by cases h
 | o::l,k,x,h=>by
   unfold gz at h;rcases qBF.1 h with h | h
   · unfold ji at h
     split at h
     · rename_i hc;rw[qA3] at h;exact ⟨k,o,qAL ..,hc.1,hc.2,h⟩
     · cases h
   · obtain ⟨j,o',h1,h2⟩:=th h;exact ⟨j,o',qAK _ h1,h2⟩
theorem ai8 {l:List Txn1}{u:List Ref1}{x:aQ} (h:x∈allM l u):∃ t∈l,∃ (j:Nat) (o:Op1),o∈t.2.2.2.2.1∧fg o.1=true∧dD u t.1=true∧covM l u (t.1,(j:Int),())=false∧x=((t.1,(j:Int),()),o,t.2.2.1,()):=by
 unfold allM at h;obtain ⟨t,ht,hx⟩:=List.mem_flatMap.1 h
 split at hx
 · rename_i hs;obtain ⟨j,o,h1,h2,h3,h4⟩:=th hx;exact ⟨t,ht,j,o,h1,h2,hs,h3,h4⟩
 · cases hx
theorem zh {A B:Type}{g:A→List B}{n:Nat}:∀ {l:List A},(∀ x∈l,(g x).length≤n)→(l.flatMap g).length≤l.length*n
 | [],_=>qBW _
 | x::l,h=>by
   have:=zh (l:=l) fun y hy=>h y (qAK _ hy);have:=h x (qAL ..);rw[qA5,qAA,zl,qB4]; omega
theorem lw {l:List Txn1}{n:Nat} (h:TxnsOk l n) (hn:n≤900):LowP l:=by
 refine ⟨⟨by have:=h.len; omega,fun t ht=>by have:=(h.all t ht).len; omega,fun t ht o ho => ?_⟩,fun t ht o ho => ?_⟩
 · have:=((h.all t ht).ops o ho).1.2.2.2; omega
 · have:=((h.all t ht).ops o ho).1;exact ⟨⟨by have:=this.1; omega,fun s hs=>by have:=this.2.1 s hs; omega⟩,by have:=this.2.2.1; omega⟩
abbrev b8:=Path×Int×Unit
def bD (a b:b8):Int:=orI (cmpP a.1 b.1) (cmpI a.2.1 b.2.1)
theorem aDp:Cmp cmpP:=Cmp.list zA
theorem e8:Cmp bD:=by
 have:bD=fun a b=>cmpB cmpP cmpI ((fun x:b8=>(x.1,x.2.1)) a) ((fun x:b8=>(x.1,x.2.1)) b):=rfl;rw[this];exact wS (aDp.pair nv) _ fun a b h=>by
   obtain ⟨a1,a2,⟨⟩⟩:=a; obtain ⟨b1,b2,⟨⟩⟩:=b;simp only[qA4] at h;rw[h.1,h.2]
theorem aem {a b:b8} (ha:a.1.length<1000000):zb6 a b=some (bD a b):=by
 unfold zb6;simp only[iZ ha,jw,or_t,zb];rfl
theorem afA {a b:b8} (ha:a.1.length<1000000):zbo a b=some (decide (a=b)):=by
 unfold zbo;rw[aem ha];simp only[zb];by_cases h:a=b
 · rw[zt h,zt ((e8.zero _ _).2 h)]
 · rw[zf h,zf (fun e=>h ((e8.zero _ _).1 e))]
structure MidS (l w:List (List UInt8)) (i0 k i:Nat):Prop where
 len:w.length=l.length
 head:w.take i=sqz (l.take (i0+k))
 rest:∀ j,i0+k-1≤j→w[j]? = l[j]?
 low:i≤i0+k-1
structure MidL (l w:List b8) (i0 k i:Nat):Prop where
 len:w.length=l.length
 head:w.take i=sqz (l.take (i0+k))
 rest:∀ j,i0+k-1≤j→w[j]? = l[j]?
 low:i≤i0+k-1
theorem oh {l:List b8}{i0:Nat} (hl:l.length<1000000) (hE:∀ a b,a∈l→zbo a b=some (decide (a=b))) (h0:0<i0) (hi0:i0<l.length):∀ (n k i:Nat) (w:List b8),l.length-i0-k≤n→1≤k→k≤l.length-i0→MidL l w i0 k i →
   ∃ w' i',MidL l w' i0 (l.length-i0) i'∧aH oy ((i:Int),(i0,l.length-i0),(k:Int),w,())=some (.inl ((i':Int),w',())):=by
 intro n
 induction n with
 | zero =>
   intro k i w hn hk1 hk hm;have e:k=l.length-i0:=by omega
   subst e;refine ⟨w,i,hm,aD ?_⟩;unfold oy;simp only[ah];rw[zn (by omega)]
 | succ n ih =>
   intro k i w hn hk1 hk hm;by_cases hlt:k<l.length-i0
   · have hwl:=hm.len;have hw:0<w.length:=(by omega);have hk0:i0+k<l.length:=(by omega);have ea:w[i0+k]? = some (l[i0+k]):=by rw[hm.rest _ (by omega),zg hk0]
     have eb:w[i0+(k-1)]? = some (l[i0+k-1]'(by omega)):=(by rw[show i0+(k-1)=i0+k-1 by omega,hm.rest _ (by omega),zg (by omega)]);have hlow:=hm.low;have hiw:i<w.length:=by omega
     have turn:oy ((i:Int),(i0,l.length-i0),(k:Int),w,())=if l[i0+k-1]'(by omega)=l[i0+k] then some (.inl ((i:Int),(i0,l.length-i0),((k+1:Nat):Int),w,())) else some (.inl (((i+1:Nat):Int),(i0,l.length-i0),((k+1:Nat):Int),w.set i l[i0+k],())):=by
       unfold oy;simp only[ah];rw[zp (by omega),dZ hw];simp only[cond_false]
       rw[bH hlt,wrap64 (n:=(k:Int)-1) (by omega) (by omega),show (k:Int)-1=((k-1:Nat):Int) by omega,bH (show k-1<l.length-i0 by omega)];simp only[zb];rw[ea,eb];simp only[zb,hE,zm]
       rw[wrap64 (by omega) (by omega),wrap64 (by omega) (by omega)];by_cases hx:l[i0+k]=l[i0+k-1]'(by omega)
       · rw[zp hx.symm]
         first | (rw[zt hx]; rfl) | (rw[zp hx])
       · rw[zn (fun e=>hx e.symm),zf hx,bH hiw];simp only[qAZ,cond_true,zb];rw[zg hiw];rfl
     have hsq:=iS (l:=l) (i:=i0+k) hk0 (by omega);by_cases hx:l[i0+k-1]'(by omega)=l[i0+k]
     · rw[zp hx] at turn hsq;rw[aG turn];exact ih (k+1) i w (by omega) (by omega) (by omega) ⟨hwl,by rw[hm.head,show i0+(k+1)=i0+k+1 by omega,hsq],fun j hj=>hm.rest j (by omega),by omega⟩
     · rw[zn hx] at turn hsq;rw[aG turn];refine ih (k+1) (i+1) _ (by omega) (by omega) (by omega) ⟨by rw[qDJ]; exact hwl,?_,fun j hj => ?_,by omega⟩
       · rw[show i0+(k+1)=i0+k+1 by omega,hsq,← hm.head,qC1,List.take_set_of_le (by omega),qAY hiw]; rfl
       · rw[qBH (by omega)];exact hm.rest j (by omega)
   · have e:k=l.length-i0:=(by omega);subst e;refine ⟨w,i,hm,aD ?_⟩;unfold oy;simp only[ah];rw[zn (by omega)]
theorem og {l:List b8} (hl:l.length<1000000) (hE:∀ a b,a∈l→zbo a b=some (decide (a=b))):∀ (n i:Nat),l.length-i≤n→1≤i→i≤l.length→sqz (l.take i)=l.take i →
   aH lT ((i:Int),l,())=some (sqz l):=by
 intro n
 induction n with
 | zero =>
   intro i hn h1 hi hs;have e:i=l.length:=by omega
   subst e;rw[qBI (qAD _)] at hs;refine aD ?_;unfold lT;simp only[ah];rw[zn (by omega),hs]
 | succ n ih =>
   intro i hn h1 hi hs;by_cases hlt:i<l.length
   · have hsq:=iS (l:=l) (i:=i) hlt (by omega);have he:l.isEmpty=false:=dZ (by omega);by_cases hx:l[i-1]'(by omega)=l[i]
     · refine aD ?_;unfold lT;simp only[ah];rw[zp (by omega),bH hlt,wrap64 (by omega) (by omega),show (i:Int)-1=((i-1:Nat):Int) by omega,bH (show i-1<l.length by omega)]
       simp only[zb,zg hlt,zg (show i-1<l.length by omega),hE,zm]
       first | rw[zt hx.symm,cond_true] | rw[zp hx.symm]
       rw[he,cond_false,fo (by omega) (qAD _)];simp only[zb];rw[zp hx] at hsq
       obtain ⟨w',i',hm,hrun⟩:=oh hl hE (by omega) hlt (l.length-i) 1 i l (by omega) (qAD _) (by omega) ⟨rfl,by rw[hsq,hs],fun j _=>rfl,by omega⟩
       rw[show ((1:Int))=((1:Nat):Int) from rfl,hrun,ay];have hwl:=hm.len;have hlow:=hm.low;have hle:i'≤w'.length:=(by omega);have hw:0<w'.length:=(by omega);have e2:i+(l.length-i)=l.length:=by omega
       have hhead:w'.take i'=sqz l:=(by rw[hm.head,e2,qBI (qAD _)]);simp only;rw[dZ hw,cond_false,fo hle (qAD _)];simp only[zb,cond_false];rw[zp (by omega)]
       simp only[zb];have hlen2:(List.take i' w'++List.replicate (w'.length-i') (([],0,()):b8)++List.drop (i'+(w'.length-i')) w').length=w'.length:=by
         rw[qAA,qAA,qAP,qCI,qA2]; omega
       rw[dZ (by rw[hlen2]; exact hw),cond_false,hlen2,show ((0:Int))=((0:Nat):Int) from rfl,fo (qBW _) hle];simp only[zb,cond_false];rw[zp (by omega)]
       simp only[qAF,qB3,qCO];rw[qAT,qB7 (by rw[qAP]; omega),List.take_take,Nat.min_self,hhead]
     · have turn : lT ((i : Int), l, ()) = some (.inl (((i + 1 : Nat) : Int), l, ())) := by
         unfold lT;simp only[ah];rw[zp (by omega),bH hlt,wrap64 (by omega) (by omega),show (i:Int)-1=((i-1:Nat):Int) by omega,bH (show i-1<l.length by omega)]
         simp only[zb,zg hlt,zg (show i-1<l.length by omega),hE,zm]
         first | rw[zf (fun e=>hx e.symm),cond_false] | rw[zn (fun e=>hx e.symm)]
         rw[wrap64 (by omega) (by omega)]; rfl
       rw[aG turn];rw[zn hx,hs] at hsq;refine ih (i+1) (by omega) (by omega) (by omega) ?_;rw[hsq,qC1,zg hlt]; rfl
   · have e:i=l.length:=(by omega);subst e;rw[qBI (qAD _)] at hs;refine aD ?_;unfold lT;simp only[ah];rw[zn (by omega),hs]
theorem abi {l:List b8} (hl:l.length<1000000) (hE:∀ a b,a∈l→zbo a b=some (decide (a=b))):zah l=some (sqz l,()):=by
 unfold zah aqs;simp only[ah]
 match l,hl,hE with
 | [],_,_=>rfl
 | [x],_,_=>rfl
 | x::y::l,hl,hE =>
   rw[zn (by simp only[zl]; omega)];have:=og hl hE (x::y::l).length 1 (by omega) (qAD _) (by simp) rfl;rw[show ((1:Int))=((1:Nat):Int) from rfl,this];rfl
def cC (x:aQ):b8:=(x.2.1.2.1,jg x.2.1.1,())
def ci (l:List aQ):List b8:=uniq bD (l.map cC)
theorem yK {l:List aQ} (hl:LowI l):zc5 l=some (ci l):=by
 have hlen:=hl.len;have:=cM (f:=xD l) (l:=l) (fun i o=>((i:Int),o,())) (fun x=>[cC x]) (fun o=>(.inl (o,()):(List b8×Unit)⊕List b8)) 1 (fun x _=>qAD _) (fun i h o ho=>by
   have hp:=(hl.path _ (zm h)).1;unfold xD;simp only[ah];rw[zp (by omega),aI h];have hc:za0 l[i].2.1.2.1=some l[i].2.1.2.1:=by
     unfold za0 fE;rw[zp (by simp only[most]; omega)]
   simp only[zb,hc,yE];rw[wrap64 (by omega) (by omega),aL (by simp; omega)]; rfl) (fun o _=>by
   unfold xD;simp only[ah];rw[zn (by omega)])
 unfold zc5;rw[show ((0:Int),([]:List b8),())=(((0:Nat):Int),[],()) from rfl,this,ay];have e:(l.flatMap fun x=>[cC x])=l.map cC:=by
   clear this hlen hl
   induction l with
   | nil=>rfl
   | cons x l ih=>rw[qA5,qBE,ih]; rfl
 have hp:∀ x∈l.map cC,x.1.length<1000000:=fun x hx=>by
   obtain ⟨y,hy,rfl⟩:=qC6.1 hx;exact (hl.path y hy).1
 obtain ⟨s,h1,h2,h3⟩:=sf (c:=bD) (key:=fun v:b8=>v) (cmp:=fun x y=>zb6 x y) (xs:=l.map cC) e8 (fun x hx y _=>aem (hp x hx)) (by rw[qBU]; omega)
 have hs:zal (l.map cC)=some ((),s,()):=by unfold zal; rw[h1]; rfl
 simp only[e];rw[hs];simp only[zb];rw[abi (by rw[h2.length_eq,qBU]; omega) (fun a b ha=>afA (hp a (h2.mem_iff.1 ha)))];simp only[zb];congr 1;unfold ci
 refine dX e8 (key:=fun v:b8=>v) (sd e8 (fun a b=>(e8.zero a b).1) _ s rfl h3) (gO e8 _) fun x => ?_;rw[pY _ s rfl,lu e8];exact h2.mem_iff
def sO (y:b8):Prop:=y.1.length<1000000∧(∀ s∈y.1,s.length<1000000)∧0≤y.2.1∧y.2.1≤3
theorem air (k:Int):0≤jg k∧jg k≤3:=by unfold jg; split<;>(try split)<;>(try split)<;>omega
theorem j8 {l:List aQ} (hl:LowI l) {x:aQ} (hx:x∈l):sO (cC x):=⟨(hl.path x hx).1,(hl.path x hx).2,air _⟩
theorem yp {y x:b8} (hy:sO y) (hx:sO x):∃ r,zbp y x=some r∧(r<0↔bD y x<0)∧(r=0↔bD y x=0):=by
 unfold zbp bD orI;rw[d7 hy.1 hy.2.1];simp only[zb,aW];by_cases h:cmpP y.1 x.1=0
 · rw[zp h,zp h];have:=hy.2.2; have:=hx.2.2;refine ⟨_,rfl,?_,?_⟩<;>rw[wrap64 (by omega) (by omega)]<;>unfold cmpI<;>split<;>(try split)<;>omega
 · rw[zn h,zn h];exact ⟨_,rfl,Iff.rfl,Iff.rfl⟩
theorem vX {o:List b8}{x:b8} (ho:o.length<1000000) (hr:eg bD o) (hlo:∀ y∈o,sO y) (hx:sO x):∀ (n i:Nat),(loA bD x o).length-i≤n→i≤(loA bD x o).length →
   aH ov ((i:Int),o,x,())=some (.inl (((loA bD x o).length:Int),o,x,())):=by
 have e:loA bD x o++hiA bD x o=o:=sQ;have el:(loA bD x o).length+(hiA bD x o).length=o.length:=by rw[← qAA,e]
 have turn:∀ i:Nat,i<o.length→ov ((i:Int),o,x,())=if i<(loA bD x o).length then some (.inl (((i+1:Nat):Int),o,x,())) else some (.inr (.inl ((i:Int),o,x,()))):=fun i hi=>by
   unfold ov;simp only[ah];rw[zp (by omega),bH hi];simp only[zb,zg hi];obtain ⟨r,h1,h2,h3⟩:=yp (hlo _ (zm hi)) hx;simp only[h1,zb];rw[wrap64 (by omega) (by omega)];by_cases hlt:i<(loA bD x o).length
   · rw[zp (h2.2 (ai3 hi hlt)),zp hlt]; rfl
   · have:=ai4 e8 (key:=fun v:b8=>v) hr hi (k:=x) (Nat.le_of_not_lt hlt);rw[zn (fun e=>by have:=h2.1 e; omega),zn hlt]
 intro n
 induction n with
 | zero =>
   intro i hn hi;have e:i=(loA bD x o).length:=by omega
   refine aD ?_;by_cases hlt:i<o.length
   · rw[turn i hlt,zn (by omega),e]
   · unfold ov;simp only[ah];rw[zn (by omega),e]
 | succ n ih =>
   intro i hn hi;by_cases hlt:i<(loA bD x o).length
   · rw[aG (a:=((i:Int),o,x,())) (b:=(((i+1:Nat):Int),o,x,())) (by rw[turn i (by omega),zp hlt])];exact ih (i+1) (by omega) (by omega)
   · have e:i=(loA bD x o).length:=(by omega);refine aD ?_;by_cases hlt:i<o.length
     · rw[turn i hlt,zn (by omega),e]
     · unfold ov;simp only[ah];rw[zn (by omega),e]
theorem oa {o:List b8}{x:b8}{v7:Int×List b8×b8×Unit}{at':Nat} (hv:v7.1=(at':Int)) (ho:o.length<1000000):∀ (k:Nat),at'≤k→k≤o.length →
   aH (iw v7) ((k:Int),cE o x k,x,())=some (.inl (cE o x at',x,())):=by
 intro k
 induction k with
 | zero =>
   intro h1 h2;have e:at'=0:=by omega
   subst e;refine aD ?_;unfold iw;simp only[ah,hv];rw[zn (by omega)]
 | succ k ih =>
   intro h1 h2;by_cases hlt:at'<k+1
   · have hl:(cE o x (k+1)).length=o.length+1:=mj h2;have turn:iw v7 (((k+1:Nat):Int),cE o x (k+1),x,())=some (.inl ((k:Int),cE o x k,x,())):=by
       unfold iw;simp only[ah,hv];rw[zp (by omega),wrap64 (by omega) (by omega),show ((k+1:Nat):Int)-1=(k:Int) by omega,bH (show k<(cE o x (k+1)).length by omega)];simp only[zb]
       rw[ahX (show k<o.length by omega)];simp only[zb];rw[bH (show k+1<(cE o x (k+1)).length by omega)];simp only[zb];rw[zg (show k+1<(cE o x (k+1)).length by omega)];simp only[zb]
       rw[aay (show k<o.length by omega)]
     rw[aG turn];exact ih (by omega) (by omega)
   · have e:at'=k+1:=(by omega);subst e;refine aD ?_;unfold iw;simp only[ah,hv];rw[zn (by omega)]
theorem afx {l:List aQ}{i:Nat}{o:List b8} (hl:LowI l) (h:i<l.length) (ho:o.length<1000000) (hr:eg bD o) (hlo:∀ y∈o,sO y) :
   rA l ((i:Int),o,())=some (.inl (((i+1:Nat):Int),putU bD o (cC l[i]),())):=by
 have hlen:=hl.len;have hx:=j8 hl (zm h);have e:loA bD (cC l[i]) o++hiA bD (cC l[i]) o=o:=sQ;have el:(loA bD (cC l[i]) o).length+(hiA bD (cC l[i]) o).length=o.length:=by rw[← qAA,e]
 have hat:=vX ho hr hlo hx _ 0 (qAD _) (qBW _);unfold rA;simp only[ah];rw[zp (by omega),aI h];simp only[zb,mE];have e1:((l[i].2.1.2.1,jg l[i].2.1.1,()):b8)=cC l[i]:=rfl
 rw[e1,show ((0:Int),o,cC l[i],())=(((0:Nat):Int),o,cC l[i],()) from rfl,hat,ay];generalize hx1:cC l[i]=x at *;simp only;rw[wrap64 (n:=(i:Int)+1) (by omega) (by omega)]
 have go : (∀ y q, hiA bD x o = y :: q → bD y x ≠ 0) → ((bh (o.length + ([x] : List b8).length)).bind fun u12 =>
     (aH (iw (((loA bD x o).length:Int),o,x,())) ((IntKind.wrap .i64 (((o++([x]:List b8)).length:Int)-1)),(o++([x]:List b8)),x,()):Option ((List b8×b8×Unit)⊕((Int×List b8×Unit)⊕List b8))).bind (aT fun v17 =>
     (inI v17.1.length ((loA bD x o).length:Int)).bind fun i18 =>
     (v17.1[i18]?).bind fun x19 =>
     some (.inl ((i:Int)+1,(v17.1.set i18 v17.2.1),()))))=some (.inl (((i+1:Nat):Int),putU bD o x,())):=fun hne=>by
   rw[aL (by simp; omega)];simp only[zb]
   rw[wrap64 (by rw[qAA,qBA]; omega) (by rw[qAA,qBA]; omega),show ((o++[x]).length:Int)-1=(o.length:Int) by simp,← vo,oa (at':=(loA bD x o).length) rfl ho o.length (by omega) (qAD _),ay]
   have hsl:(cE o x (loA bD x o).length).length=o.length+1:=mj (by omega);simp only;rw[bH (by omega)];simp only[zb];rw[zg (show (loA bD x o).length<(cE o x (loA bD x o).length).length by omega)]
   simp only[zb];rw[aeD (by omega),aCY hne]; rfl
 by_cases hlt:(loA bD x o).length<o.length
 · rw[zp (by omega),bH hlt];simp only[zb,zg hlt];cases hq:hiA bD x o with
   | nil=>rw[hq] at el; simp only[qAQ] at el; omega
   | cons y q =>
     have ey:o[(loA bD x o).length]=y:=by
       have:(loA bD x o++y::q)[(loA bD x o).length]? = some y:=(by simp);rw[← hq,e,zg hlt] at this;exact qCJ this
     rw[ey];have hy:y∈o:=(by rw[← ey]; exact zm hlt);obtain ⟨r,h1,h2,h3⟩:=yp (hlo y hy) hx;simp only[h1,zb];by_cases h0:r=0
     · rw[zp h0,bj];have hp:putU bD o x=o:=by
         unfold putU;rw[hq];exact zp (h3.1 h0)
       rw[hp]; rfl
     · rw[zn h0,ay];exact go (fun y' q' e'=>by rw[hq] at e'; cases e'; exact fun e=>h0 (h3.2 e))
 · rw[zn (by omega),ay];exact go (fun y' q' e'=>by rw[e'] at el; simp only[zl] at el; omega)
theorem mD {l:List aQ} (hl:LowI l):zbz l=some (ci l):=by
 have hlen:=hl.len;have loop:=aS (S:=List b8) (f:=rA l) (l:=l) (fun i o=>((i:Int),o,())) (fun _ x o=>.inl (putU bD o (cC x))) (fun o=>o) (fun i o=>eg bD o∧o.length≤i∧∀ y∈o,sO y) (fun i h o ho=>by
   refine .inl ⟨_,rfl,afx hl h (by omega) ho.1 ho.2.2,jW e8 ho.1,?_,fun y hy => ?_⟩
   · have:=yw (c:=bD) (o:=o) (v:=cC l[i]); omega
   · rcases (yu e8).1 hy with e | hy
     · rw[e]; exact j8 hl (zm h)
     · exact ho.2.2 y hy) (fun o _=>by
   unfold rA;simp only[ah];rw[zn (by omega)]) [] ⟨List.Pairwise.nil,qAD _,fun y hy=>by cases hy⟩
 unfold zbz;rw[show ((0:Int),([]:List b8),())=(((0:Nat):Int),[],()) from rfl,loop,bi];congr 1;have:l.foldl (fun o x=>putU bD o (cC x)) []=(l.map cC).foldl (putU bD) []:=by rw[List.foldl_map]
 rw[this,yr e8]
 try rfl
theorem vW {l:List aQ} (hl:LowI l):(ci l).length<1000000:=by
 have h1:=yd (c:=bD) (l.map cC);rw[qBU] at h1;have:=hl.len;unfold ci; omega
theorem mY {l:List aQ}{y:b8}:y∈ci l↔∃ x∈l,cC x=y:=by
 unfold ci;rw[lu e8,qC6]
structure OpOk (o:Op1):Prop where
 kind:1≤o.1∧o.1≤5
 path:fF o.2.1=0
 val:o.1≠3→o.1≠5→df o.2.2.1=true
 noval:o.1=3∨o.1=5→o.2.2.1=zeroV
 num:o.1=3→o.2.2.2.1≠0∧o.2.2.2.1≤2147483647 ∧ -2147483647≤o.2.2.2.1
 nonum:o.1≠3→o.2.2.2.1=0
 noseen:o.1=2∨o.1=3→o.2.2.2.2.1=[]
 seen:o.2.2.2.2.1.length≤256∧lf o.2.2.2.2.1=true
theorem aC0 {o:Op1} (h:opM o=0):OpOk o:=by
 unfold opM at h;by_cases a1:o.1<1∨5<o.1
 · rw[zp a1] at h; omega
 rw[zn a1] at h;by_cases a2:fF o.2.1≠0
 · rw[zp a2] at h; exact absurd h a2
 rw[zn a2] at h;by_cases a3:(o.1=3∨o.1=5)∧o.2.2.1≠zeroV
 · rw[zp a3] at h; omega
 rw[zn a3] at h;by_cases a4:¬ (o.1=3∨o.1=5)∧df o.2.2.1=false
 · rw[zp a4] at h; omega
 rw[zn a4] at h;by_cases a5:o.1≠3∧o.2.2.2.1≠0
 · rw[zp a5] at h; omega
 rw[zn a5] at h;by_cases a6:o.1=3∧(o.2.2.2.1=0∨o.2.2.2.1>2147483647∨o.2.2.2.1 < -2147483647)
 · rw[zp a6] at h; omega
 rw[zn a6] at h;by_cases a7:(o.1=2∨o.1=3)∧0<o.2.2.2.2.1.length
 · rw[zp a7] at h; omega
 rw[zn a7] at h;by_cases a8:256<o.2.2.2.2.1.length
 · rw[zp a8] at h; omega
 rw[zn a8] at h;by_cases a9:lf o.2.2.2.2.1=true
 · refine ⟨by omega,qDL.1 a2,fun h1 h2 => ?_,fun h1 => ?_,fun h1 => ?_,fun h1 => ?_,fun h1 => ?_,by omega,a9⟩
   · cases hr:df o.2.2.1 with
     | true=>rfl
     | false=>exact absurd ⟨by omega,hr⟩ a4
   · exact qDL.1 fun h2=>a3 ⟨h1,h2⟩
   · exact ⟨fun h2=>a6 ⟨h1,.inl h2⟩,Int.not_lt.1 fun h2=>a6 ⟨h1,.inr (.inl h2)⟩,Int.not_lt.1 fun h2=>a6 ⟨h1,.inr (.inr h2)⟩⟩
   · exact qDL.1 fun h2=>a5 ⟨h1,h2⟩
   · exact qCK.1 (by omega)
 · rw[zn a9] at h; omega
structure ItemsOk (l:List aQ):Prop where
 len:l.length≤320
 op:∀ x∈l,OpOk x.2.1∧si x.2.1∧fg x.2.1.1=true
theorem dS {l:List Txn1}{u:List Ref1} (h:TxnsOk l 20):ItemsOk (allM l u):=by
 constructor
 · have : (allM l u).length ≤ l.length * 16 := by
     unfold allM;refine zh fun t ht => ?_
     split
     · exact qB9 jh (h.all t ht).len
     · simp
   have:=h.len; omega
 · intro x hx;obtain ⟨t,ht,j,o,ho,hk,_,_,rfl⟩:=ai8 hx;obtain ⟨h1,h2⟩:=(h.all t ht).ops o ho;refine ⟨?_,h1,hk⟩;rcases h2 with h2 | ⟨_,h2⟩
   · exact aC0 h2
   · unfold ki at h2;unfold fg at hk;simp only[decide_eq_true_eq] at h2 hk;omega
theorem dH {l:List aQ} (h:ItemsOk l):LowI l:=⟨by have:=h.len; omega,fun x hx=>by
 have:=(h.op x hx).2.1;exact ⟨by have:=this.1; omega,fun s hs=>by have:=this.2.1 s hs; omega⟩⟩
theorem ti {l:List aQ} (h:ItemsOk l):∀ x∈l,x.2.1.2.2.1.2.2.1.length<1000000:=fun x hx=>by
 have:=(h.op x hx).2.1.2.2.1; omega
theorem atOk {l:List aQ}{p:Path}{k:Int} (h:ItemsOk l):ItemsOk (atM l p k):=⟨qB9 (List.length_filter_le ..) h.len,fun x hx=>h.op x (qC9.1 hx).1⟩
theorem afy {k:Int} (h:fg k=true):jg k=k:=by
 unfold fg at h;simp only[decide_eq_true_eq] at h;unfold jg
 split
 · omega
 · split
   · omega
   · split<;>omega
theorem agw {l:List aQ}{p:Path}{k:Int} (h:ItemsOk l):∀ x∈atM l p k,x.2.1.1=k∧x.2.1.2.1=p:=fun x hx=>by
 obtain ⟨h1,h2⟩:=qC9.1 hx;unfold isAt at h2;simp only[k9,decide_eq_true_eq] at h2;exact ⟨by rw[← afy (h.op x h1).2.2]; exact h2.1,h2.2⟩
theorem arO {A:Type}{p q:List A}{y:A} (h:(p++q).length<1000000):insT (p++q) (p.length:Int) [y]=some (p++y::q):=by
 simp only[qAA] at h;unfold insT;rw[zp ⟨by omega,by simp only[qAA]; omega,by simp,by simp only[qAA,zl,qAQ]; unfold most; omega⟩];simp
theorem aas (l:List Val):gr l=uniq cmpV l:=by
 refine dX e7 (key:=fun v:Val=>v) (md l) (gO e7 l) fun x => ?_;rw[me,lu e7]
theorem rK {u:List Val}{d:Val} (hl:u.length<1000000) (hr:eg cmpV u):∀ (k i j:Nat),j-i≤k→i≤(loA cmpV d u).length→(loA cmpV d u).length≤j→j≤u.length →
   aH (oA u d) ((i:Int),(j:Int),())=some (.inl (((loA cmpV d u).length:Int),())):=by
 intro k
 induction k with
 | zero =>
   intro i j hk h1 h2 h3;refine aD ?_;unfold oA;simp only[ah];rw[zn (by omega),show (loA cmpV d u).length=i by omega]
 | succ k ih =>
   intro i j hk h1 h2 h3;by_cases hij:i<j
   · have hh:(i+j)/2<u.length:=by omega
     have turn:oA u d ((i:Int),(j:Int),())=if cmpV u[(i+j)/2] d<0 then some (.inl ((((i+j)/2+1:Nat):Int),(j:Int),())) else some (.inl ((i:Int),(((i+j)/2:Nat):Int),())):=by
       unfold oA;simp only[ah];rw[zp (by omega),show (i:Int)+(j:Int)=((i+j:Nat):Int) by omega,pg (by omega)];simp only[zb];rw[wrap64 (n:=(((i+j)/2:Nat):Int)) (by omega) (by omega),aI hh]
       simp only[zb,fb];rw[wrap64 (by omega) (by omega)]; rfl
     by_cases hn:(i+j)/2<(loA cmpV d u).length
     · rw[zp (ai3 (c:=cmpV) (key:=fun v:Val=>v) hh hn)] at turn;rw[aG turn];exact ih _ _ (by omega) (by omega) h2 h3
     · have:=ai4 e7 (key:=fun v:Val=>v) hr hh (k:=d) (Nat.le_of_not_lt hn);rw[zn (by omega)] at turn;rw[aG turn];exact ih _ _ (by omega) h1 (by omega) (by omega)
   · refine aD ?_;unfold oA;simp only[ah];rw[zn (by omega),show (loA cmpV d u).length=i by omega]
def arQ (q:List Val) (d:Val):Bool:=match q with
 | []=>false
 | x::_=>decide (cmpV x d=0)
theorem aei {u:List Val}{d:Val} (hl:u.length<1000000) (hr:eg cmpV u) :
   zab u d ()=some (((loA cmpV d u).length:Int),arQ (hiA cmpV d u) d,()):=by
 have e2:loA cmpV d u++hiA cmpV d u=u:=sQ;have hlen:(loA cmpV d u).length+(hiA cmpV d u).length=u.length:=by rw[← qAA,e2]
 unfold zab;have:=rK (d:=d) hl hr u.length 0 u.length (by omega) (by omega) (by omega) (by omega);rw[show ((0:Int),(u.length:Int),())=(((0:Nat):Int),(u.length:Int),()) from rfl,this,ay];simp only[ah]
 cases hq:hiA cmpV d u with
 | nil =>
   rw[hq] at hlen;simp only[qAQ] at hlen;rw[zn (by omega)]; rfl
 | cons x q =>
   rw[hq] at hlen e2;simp only[zl] at hlen;rw[zp (by omega),gF];have e3:u[(loA cmpV d u).length]? = some x:=by
     have:(loA cmpV d u++x::q)[(loA cmpV d u).length]? = some x:=(by simp);rw[e2] at this;exact this
   rw[e3];simp only[zb,fb];rfl
def abn (l:List aQ) (p:Path):List Val:=(atM l p 2).map fun x=>x.2.1.2.2.1
theorem wJ {l:List aQ}{p:Path} (hl:LowI l):zdz l p=some (gr (abn l p)):=by
 unfold zdz abn;rw[at_t hl];have hlow:=(ku (p:=p) (leaf:=2) hl).len;generalize atM l p 2=q at hlow;simp only[zb]
 have loop:=aS (S:=List Val) (f:=xd q) (l:=q) (fun i o=>((i:Int),o,())) (fun _ x o=>.inl (putU cmpV o x.2.1.2.2.1)) (fun o=>o) (fun i o=>eg cmpV o∧o.length≤i) (fun i h o ho=>by
   refine .inl ⟨_,rfl,?_,jW e7 ho.1,by have:=yw (c:=cmpV) (o:=o) (v:=q[i].2.1.2.2.1); have:=ho.2; omega⟩;have ho2:=ho.2;unfold xd;simp only[ah];rw[zp (by omega),aI h]
   simp only[zb,aei (show o.length<1000000 by omega) ho.1];rw[wrap64 (by omega) (by omega)];generalize q[i].2.1.2.2.1=v;have e:loA cmpV v o++hiA cmpV v o=o:=sQ
   have ins:insT o ((loA cmpV v o).length:Int) [v]=some (loA cmpV v o++v::hiA cmpV v o):=by
     have:=arO (p:=loA cmpV v o) (q:=hiA cmpV v o) (y:=v) (by rw[e]; omega);rwa [e] at this
   unfold zap putU;cases hq:hiA cmpV v o with
   | nil =>
     rw[hq] at ins;simp only[arQ,qAZ,cond_true,ins,qAF,zb]; rfl
   | cons y r =>
     rw[hq] at ins;simp only[arQ];by_cases h0:cmpV y v=0
     · rw[zt h0,qAN,cond_false,zp h0]; rfl
     · rw[zf h0,qAZ,cond_true,zn h0,ins]; rfl) (fun o _=>by
   unfold xd;simp only[ah];rw[zn (by omega)]) [] ⟨List.Pairwise.nil,by simp⟩
 rw[show ((0:Int),([]:List Val),())=(((0:Nat):Int),[],()) from rfl,loop,bi,aas,← yr e7,List.foldl_map]
theorem ah9 {l:List aQ}{p:Path} (hl:LowI l) (hv:∀ x∈l,x.2.1.2.2.1.2.2.1.length<1000000):zb8 l p=some (gr (abn l p)):=by
 unfold zb8 abn;rw[vC hl];have hlow:=(ku (p:=p) (leaf:=2) hl).len;have hq:∀ x∈atM l p 2,x.2.1.2.2.1.2.2.1.length<1000000:=fun x hx=>hv x (qC9.1 hx).1;generalize atM l p 2=q at hlow hq
 simp only[zb];have loop:=aS (S:=List Val) (f:=xR q) (l:=q) (fun i o=>(o,(i:Int),())) (fun _ x o=>.inl (insV o x.2.1.2.2.1)) (fun o=>o) (fun i o=>qf o∧o.length≤i) (fun i h o ho=>by
   refine .inl ⟨_,rfl,?_,gY ho.1,by have:=lD (v:=q[i].2.1.2.2.1) (o:=o); have:=ho.2; omega⟩;unfold xR;simp only[ah];rw[zp (by omega),aI h];have:=ho.2
   simp only[zb,mF (show o.length<1000000 by omega) (hq _ (zm h)) ho.1];rw[wrap64 (by omega) (by omega)]; rfl) (fun o _=>by
   unfold xR;simp only[ah];rw[zn (by omega)]) [] ⟨List.Pairwise.nil,by simp⟩
 rw[show (([]:List Val),(0:Int),())=(([]:List Val),((0:Nat):Int),()) from rfl,loop,bi,gr,List.foldl_map]
def sumI (q:List aQ):Int:=q.foldl (fun n x=>n+x.2.1.2.2.2.1) 0
def sh (q:List aQ):Prop:=∀ x∈q,-2147483647≤x.2.1.2.2.2.1∧x.2.1.2.2.2.1≤2147483647
theorem aGm {l:List aQ}{p:Path} (hl:LowI l) (hn:sh (atM l p 3)):zeu l p=some (sumI (atM l p 3)):=by
 unfold zeu;rw[at_t hl];have hlow:=(ku (p:=p) (leaf:=3) hl).len;generalize atM l p 3=q at hlow hn;simp only[zb]
 have loop:=aS (S:=Int) (f:=wV q) (l:=q) (fun i n=>(n,(i:Int),())) (fun _ x n=>.inl (n+x.2.1.2.2.2.1)) (fun n=>n) (fun i n => -2147483648*(i:Int)≤n∧n≤2147483648*(i:Int)) (fun i h n hb=>by
   have hx:=hn _ (zm h);refine .inl ⟨_,rfl,?_,by constructor<;>omega⟩;unfold wV;simp only[ah];rw[zp (by omega),aI h];simp only[zb]
   rw[wrap64 (n:=(i:Int)+1) (by omega) (by omega),wrap64 (by omega) (by omega)]; rfl) (fun n _=>by
   unfold wV;simp only[ah];rw[zn (by omega)]) 0 (by omega)
 rw[bi] at loop;exact loop
def upI (q:List aQ) (s:Int×Int):Int×Int:=q.foldl (fun s x=>(if x.2.1.2.2.2.1>0 then s.1+x.2.1.2.2.2.1 else s.1,if x.2.1.2.2.2.1<0 then s.2-x.2.1.2.2.2.1 else s.2)) s
theorem ajL:∀ (q:List aQ) (a b n:Int),n=a-b→(upI q (a,b)).1-(upI q (a,b)).2=q.foldl (fun n x=>n+x.2.1.2.2.2.1) n
 | [],a,b,n,h=>by rw[h]; rfl
 | x::q,a,b,n,h=>by
   unfold upI;rw[qAX,qAX];refine ajL q _ _ _ ?_
   split<;>split<;>omega
theorem art {l:List aQ}{p:Path} (hl:LowI l) (hn:sh (atM l p 3)):∃ a b,zc1 l p=some (a,b,((atM l p 3).length:Int),())∧a-b=sumI (atM l p 3)∧0≤a∧a≤2147483648*1000000∧0≤b∧b≤2147483648*1000000:=by
 unfold zc1;rw[vC hl];have hlow:=(ku (p:=p) (leaf:=3) hl).len;generalize atM l p 3=q at hlow hn;simp only[zb]
 have loop:=aS (S:=Int×Int) (f:=xF q) (l:=q) (fun i s=>(s.1,s.2,(i:Int),())) (fun _ x s=>.inl (if x.2.1.2.2.2.1>0 then s.1+x.2.1.2.2.2.1 else s.1,if x.2.1.2.2.2.1<0 then s.2-x.2.1.2.2.2.1 else s.2)) (fun s=>(.inl (s.1,s.2,()):(Int×Int×Unit)⊕(Int×Int×Int×Unit))) (fun i s=>(0≤s.1∧s.1≤2147483648*(i:Int))∧0≤s.2∧s.2≤2147483648*(i:Int)) (fun i h s hb=>by
   have hx:=hn _ (zm h);refine .inl ⟨_,rfl,?_,by simp only; constructor<;>split<;>omega⟩;unfold xF;simp only[ah];rw[zp (by omega),aI h];simp only[zb];rw[wrap64 (n:=(i:Int)+1) (by omega) (by omega)]
   by_cases h1:q[i].2.1.2.2.2.1>0
   · rw[zp h1,ay,zn (by omega),zp h1,zn (by omega),wrap64 (by omega) (by omega)]; rfl
   · rw[zn h1,ay,zn h1];by_cases h2:q[i].2.1.2.2.2.1<0
     · rw[zp h2,zp h2,wrap64 (by omega) (by omega)]; rfl
     · rw[zn h2,zn h2]; rfl) (fun s _=>by
   unfold xF;simp only[ah];rw[zn (by omega)]) (0,0) (by simp)
 rw[bi] at loop
 have bound:∀ (q:List aQ) (s:Int×Int) (k:Nat),sh q→(0≤s.1∧s.1≤2147483648*(k:Int))→(0≤s.2∧s.2≤2147483648*(k:Int))→(0≤(upI q s).1∧(upI q s).1≤2147483648*((k+q.length:Nat):Int))∧(0≤(upI q s).2∧(upI q s).2≤2147483648*((k+q.length:Nat):Int)):=by
   intro q
   induction q with
   | nil=>intro s k _ h1 h2; exact ⟨h1,h2⟩
   | cons x q ih =>
     intro s k hn h1 h2;have hx:=hn x (qAL ..);unfold upI;rw[qAX,zl,show k+(q.length+1)=(k+1)+q.length by omega]
     exact ih _ (k+1) (fun y hy=>hn y (qAK _ hy)) (by simp only; split<;>omega) (by simp only; split<;>omega)
 have hb:=bound q (0,0) 0 hn (by simp) (by simp);refine ⟨(upI q (0,0)).1,(upI q (0,0)).2,?_,ajL q 0 0 0 rfl,hb.1.1,by omega,hb.2.1,by omega⟩
 rw[show ((0:Int),(0:Int),(0:Int),())=(((0,0):Int×Int).1,((0,0):Int×Int).2,((0:Nat):Int),()) from rfl,loop,ay];rfl
def entM (l:List aQ) (p:Path) (k:Int):Ent:=(p,k,if k=1 then gr (oE l p) else if k=2 then gr (abn l p) else [],if k=3 then sumI (atM l p 3) else 0,())
theorem vK {l:List aQ}{p:Path} (h:ItemsOk l):sh (atM l p 3):=fun x hx=>by
 have h1:=(agw h x hx).1;have h2:=((atOk h).op x hx).1.num h1;omega
theorem asb {p:Path} (hp:p.length<1000000):za0 p=some p:=by
 unfold za0 fE;rw[zp (by simp only[most]; omega)]
theorem ahK {l:List aQ}{p:Path}{k:Int} (h:ItemsOk l) (hp:p.length<1000000):ze9 l p k=some (entM l p k):=by
 have hl:=dH h;unfold ze9 entM;rw[asb hp];simp only[zb,ah,vv hl,wJ hl,aGm hl (vK h)];by_cases h1:k=1
 · rw[zp h1,zp h1,zn (by omega)]
 · rw[zn h1,zn h1];by_cases h2:k=2
   · rw[zp h2,zp h2,zn (by omega)]
   · rw[zn h2,zn h2];by_cases h3:k=3
     · rw[zp h3,zp h3]
     · rw[zn h3,zn h3]
theorem aia {l:List aQ}{p:Path}{k:Int} (h:ItemsOk l):zey l p k=some (entM l p k):=by
 have hl:=dH h;have hv:=ti h;obtain ⟨a,b,h1,h2,h3,h4,h5,h6⟩:=art (p:=p) hl (vK h);unfold zey entM;simp only[zb,ah,vx hl hv,ah9 hl hv,h1];by_cases k1:k=1
 · subst k1;simp
 · rw[zn k1,zn k1,ay];by_cases k2:k=2
   · subst k2;simp
   · rw[zn k2,zn k2,ay];by_cases k3:k=3
     · rw[zp k3,zp k3,wrap64 (by omega) (by omega),h2]
     · rw[zn k3,zn k3]
def gj (l:List aQ):List Ent:=(ci l).map fun y=>entM l y.1 y.2.1
theorem cV {A B:Type}{g:A→B}:∀ {l:List A},(l.flatMap fun x=>[g x])=l.map g
 | []=>rfl
 | x::l=>by rw[qA5,qBE,cV]; rfl
theorem o8 {l:List aQ} (h:ItemsOk l) {y:b8} (hy:y∈ci l):y.1.length≤12∧∀ s∈y.1,s.length≤120:=by
 obtain ⟨x,hx,rfl⟩:=mY.1 hy;have:=(h.op x hx).2.1;exact ⟨this.1,this.2.1⟩
theorem j7 {l:List aQ} (h:ItemsOk l):(ci l).length≤320:=by
 have h1:=yd (c:=bD) (l.map cC);rw[qBU] at h1;have:=h.len;unfold ci; omega
theorem oD {l:List aQ}{p:Path}{k:Int} (h:ItemsOk l) (hk:k=1∨k=2):∀ v∈(atM l p k).map (fun x=>x.2.1.2.2.1),df v=true:=fun v hv=>by
 obtain ⟨x,hx,rfl⟩:=qC6.1 hv;have h1:=(agw h x hx).1;exact ((atOk h).op x hx).1.val (by omega) (by omega)
theorem mb {q:List Val} (hq:q.length≤320) (hr:∀ v∈q,df v=true):(gr q).length≤400∧∀ v∈gr q,df v=true:=by
 constructor
 · have:=rS q [];simp only[qAQ,qAO] at this;unfold gr; omega
 · intro v hv;exact hr v ((me q v).1 hv)
theorem ajO:∀ (q:List aQ) (n:Int) (k:Nat),sh q→(-2147483647*(k:Int)≤n∧n≤2147483647*(k:Int)) → -2147483647*((k+q.length:Nat):Int)≤q.foldl (fun n x=>n+x.2.1.2.2.2.1) n∧q.foldl (fun n x=>n+x.2.1.2.2.2.1) n≤2147483647*((k+q.length:Nat):Int)
 | [],n,k,_,h=>h
 | x::q,n,k,hn,h=>by
   have hx:=hn x (qAL ..);rw[qAX,zl,show k+(q.length+1)=(k+1)+q.length by omega];exact ajO q _ (k+1) (fun y hy=>hn y (qAK _ hy)) (by omega)
theorem af5 {l:List aQ}{p:Path}{k:Int} (h:ItemsOk l) (hp:p.length≤12) (hs:∀ s∈p,s.length≤120):oM (entM l p k)∧inR (entM l p k).2.2.2.1:=by
 have hat:∀ k,(atM l p k).length≤320:=fun k=>(atOk h).len;refine ⟨⟨hp,hs,?_⟩,?_⟩
 · unfold entM;simp only;by_cases h1:k=1
   · rw[zp h1];exact mb (by simp only[oE,qBU]; exact hat 1) (oD h (.inl rfl))
   · rw[zn h1];by_cases h2:k=2
     · rw[zp h2];exact mb (by simp only[abn,qBU]; exact hat 2) (oD h (.inr rfl))
     · rw[zn h2];exact ⟨by simp,fun v hv=>by cases hv⟩
 · unfold entM inR;simp only;have h1:=ajO (atM l p 3) 0 0 (vK h) (by simp);have:=hat 3;unfold sumI
   split<;>omega
theorem arX {l:List aQ}{p:Path}{k:Int} (h:ItemsOk l) (hp:p.length≤12) (hs:∀ s∈p,s.length≤120):lowE (entM l p k):=by
 have:=(af5 (k:=k) h hp hs).1;exact ⟨by have:=this.1; omega,by have:=this.2.2.1; omega⟩
theorem ahI {l:List aQ}{e:Ent} (h:e∈gj l):∃ y∈ci l,e=entM l y.1 y.2.1:=by
 obtain ⟨y,hy,rfl⟩:=qC6.1 h;exact ⟨y,hy,rfl⟩
theorem ahJ {l:List aQ} (h:ItemsOk l):(gj l).length≤320:=by unfold gj; rw[qBU]; exact j7 h
def NS (G:Prop) {A:Type} (o:Option A) (b:A):Prop:=o=some b∨¬ G∧o=none
theorem NS.bind {G:Prop}{A B:Type}{o:Option A}{a:A}{f:A→Option B}{b:B} (h:NS G o a) (hf:NS G (f a) b):NS G (o.bind f) b:=by
 rcases h with h | ⟨h1,h2⟩
 · rw[h,zb]; exact hf
 · exact .inr ⟨h1,by rw[h2]; rfl⟩
abbrev aCU:List Ent→Prop:=ep cmpK keyE
def seen (q:List Ent) (k:Path×Int):Bool:=match q with
 | x::_=>decide (cmpK (keyE x) k=0)
 | []=>false
theorem aDm {a b:List Ent} (sa:∀ e∈a,lowE e) (sb:∀ e∈b,lowE e):∀ c∈dM a b,lowC c:=fun c hc=>by
 obtain ⟨h1,h2⟩:=aDl _ a b (qAD _) c hc;refine ⟨?_,?_⟩
 · rcases h1 with h1 | h1
   · exact sa _ h1
   · rw[h1]; exact rk.1
 · rcases h2 with h2 | h2
   · exact sb _ h2
   · rw[h2]; exact rk.1
structure VOk (v:List Ent):Prop where
 len:v.length≤320
 easy:∀ e∈v,kp e
 rise:aCU v
theorem VOk.low {v:List Ent} (h:VOk v):∀ e∈v,lowE e:=fun e he=>(h.easy e he).1
abbrev W1:=Path×List Ent×Int×Unit
theorem ar4 {a b:List Ent} (ha:VOk a) (hb:VOk b):zcq a b=some (dM a b):=aDi (by have:=ha.len; have:=hb.len; omega) ha.low hb.low
theorem ar3 {a b:List Ent} (ha:VOk a) (hb:VOk b):zdf a b=some (dM a b):=ar1 (by have:=ha.len; omega) (by have:=hb.len; omega) ha.easy hb.easy ha.rise hb.rise
theorem aDo {a b:List Ent} (ha:VOk a) (hb:VOk b):(dM a b).length≤640:=by
 have:=aDn _ a b (qAD _);have:=ha.len;have:=hb.len;omega
theorem aeN:lf []=true:=by
 unfold lf;rw[zp (by intro i h; simp at h)]
theorem aCT {a:UInt8} (h:a.toNat<128):cB [a]=some [(a.toNat:Int)]:=by
 have hc:aN [a]=((a.toNat:Int),1):=by simp only[aN]; rw[zp h]
 rw[fL (by simp) (by rw[hc]; simp),hc];show (cB []).map _=_;rw[gR]; rfl
theorem aGr {a:UInt8} (h:a.toNat<128) (hm:mayM (a.toNat:Int)=true):vR [a]=true:=by
 unfold vR;rw[aCT h];simp[hm]
theorem agm:fF [[97]]=0:=by
 unfold fF;simp[aGr (a:=97) (by decide) (by decide)]
theorem aCX {p:Path} (h:fF p=0):opM (1,p,(1,1,[],()),0,[],())=0:=by
 unfold opM;simp[h,df,aeN]
theorem sV {l:List aQ} (hl:LowI l):∀ y∈ci l,sO y:=fun y hy=>by
 obtain ⟨x,hx,e⟩:=mY.1 hy;rw[← e]; exact j8 hl hx
theorem yb {l:List aQ} (h:ItemsOk l):ze6 l=some (gj l):=by
 have hlen:=j7 h;unfold ze6;rw[yK (dH h)];simp only[zb]
 have this:=cM (f:=xa l (ci l)) (l:=ci l) (fun i o=>((i:Int),o,())) (fun y=>[entM l y.1 y.2.1]) (fun o=>o) 1 (fun x _=>qAD _) (fun i hi o ho=>by
   have hs:=o8 h (zm hi);unfold xa;simp only[ah];rw[zp (by omega),aI hi];simp only[zb,ahK h (show (ci l)[i].1.length<1000000 by omega)]
   rw[wrap64 (by omega) (by omega),aL (by simp; omega)]; rfl) (fun o _=>by
   unfold xa;simp only[ah];rw[zn (by omega)])
 rw[show ((0:Int),([]:List Ent),())=(((0:Nat):Int),[],()) from rfl,this,cV];rfl
theorem aeT {l:List aQ} (h:ItemsOk l):ze1 l=some (gj l):=by
 have hlen:=j7 h;unfold ze1;rw[mD (dH h)];simp only[zb]
 have this:=cM (f:=xc l (ci l)) (l:=ci l) (fun i o=>((i:Int),o,())) (fun y=>[entM l y.1 y.2.1]) (fun o=>o) 1 (fun x _=>qAD _) (fun i hi o ho=>by
   unfold xc;simp only[ah];rw[zp (by omega),aI hi];simp only[zb,aia h];rw[wrap64 (by omega) (by omega),aL (by simp; omega)]; rfl) (fun o _=>by
   unfold xc;simp only[ah];rw[zn (by omega)])
 rw[show ((0:Int),([]:List Ent),())=(((0:Nat):Int),[],()) from rfl,this,cV];rfl
abbrev kw:=List Int×List Dot1×Unit
abbrev St1:=List Txn1×List Ref1×kw×kw×List (List Dot1)×Unit
theorem cq {A R S:Type}{f:A→Option (A⊕R)} (n:Nat) (enc:Nat→S→A) (inv:Nat→S→Prop) (Q:R→Prop)
   (hturn:∀ i s,i<n→inv i s→(∃ s',f (enc i s)=some (.inl (enc (i+1) s'))∧inv (i+1) s')∨(∃ r,f (enc i s)=some (.inr r)∧Q r))
   (hend:∀ s,inv n s→∃ r,f (enc n s)=some (.inr r)∧Q r):∀ s,inv 0 s→∃ r,aH f (enc 0 s)=some r∧Q r:=by
 have key:∀ (k i:Nat) (s:S),n-i≤k→i≤n→inv i s→∃ r,aH f (enc i s)=some r∧Q r:=by
   intro k
   induction k with
   | zero =>
     intro i s hk hi hv;have:i=n:=(by omega);subst this;obtain ⟨r,h1,h2⟩:=hend s hv;exact ⟨r,aD h1,h2⟩
   | succ k ih =>
     intro i s hk hi hv;by_cases hlt:i<n
     · rcases hturn i s hlt hv with ⟨s',h1,h2⟩ | ⟨r,h1,h2⟩
       · obtain ⟨r,h3,h4⟩:=ih (i+1) s' (by omega) (by omega) h2;exact ⟨r,(aG h1).trans h3,h4⟩
       · exact ⟨r,aD h1,h2⟩
     · have:i=n:=(by omega);subst this;obtain ⟨r,h1,h2⟩:=hend s hv;exact ⟨r,aD h1,h2⟩
 exact fun s hv=>key n 0 s (by omega) (by omega) hv
theorem asd {R:Type}{f:Int×Int×Unit→Option ((Int×Int×Unit)⊕((Int×Unit)⊕R))} (c:Nat→Bool) (n:Nat)
   (hturn:∀ i j:Nat,i<j→j≤n→f ((i:Int),(j:Int),())=some (.inl (if c ((i+j)/2)=true then ((((i+j)/2+1:Nat):Int),(j:Int),()) else ((i:Int),(((i+j)/2:Nat):Int),()))))
   (hend:∀ i:Nat,f ((i:Int),(i:Int),())=some (.inr (.inl ((i:Int),())))) :
   ∃ k:Nat,k≤n∧aH f ((0:Int),(n:Int),())=some (.inl ((k:Int),())):=by
 have key:∀ (q i j:Nat),j-i≤q→i≤j→j≤n→∃ k:Nat,k≤n∧aH f ((i:Int),(j:Int),())=some (.inl ((k:Int),())):=by
   intro q
   induction q with
   | zero =>
     intro i j h1 h2 h3;have:i=j:=(by omega);subst this;exact ⟨i,h3,aD (hend i)⟩
   | succ q ih =>
     intro i j h1 h2 h3;by_cases hij:i<j
     · have ht:=hturn i j hij h3;by_cases hc:c ((i+j)/2)=true
       · rw[zp hc] at ht;obtain ⟨k,k1,k2⟩:=ih ((i+j)/2+1) j (by omega) (by omega) h3;exact ⟨k,k1,(aG ht).trans k2⟩
       · rw[zn hc] at ht;obtain ⟨k,k1,k2⟩:=ih i ((i+j)/2) (by omega) (by omega) (by omega);exact ⟨k,k1,(aG ht).trans k2⟩
     · have:i=j:=(by omega);subst this;exact ⟨i,h3,aD (hend i)⟩
 exact key n 0 n (by omega) (by omega) (qAD _)
theorem fD (d:Dot1):zei d=some (bd d):=by
 unfold zei bd;simp only[ah];by_cases h1:d.1≥0<;>by_cases h2:d.1<16<;>by_cases h3:d.2.1≥1<;>by_cases h4:d.2.1≤1048576<;>simp[h1,h2,h3,h4]<;>omega
theorem fM {d:Dot1} (h:bd d=true):∃ k:Nat,k<16∧d.1=(k:Int)∧inI 16 d.1=some k:=by
 unfold bd at h;simp only[decide_eq_true_eq] at h;refine ⟨d.1.toNat,by omega,by omega,?_⟩;unfold inI;rw[zp (by omega)]
theorem ahL {v:List Int}{d:Dot1} (hv:v.length=16):∃ b,zfb v d=some b:=by
 unfold zfb;rw[fD];simp only[zb];cases h:bd d with
 | false=>exact ⟨_,rfl⟩
 | true =>
   obtain ⟨k,h1,h2,h3⟩:=fM h;rw[cond_true,h3];simp only[zb];rw[zg (by omega)];exact ⟨_,rfl⟩
theorem nk {l:List Dot1}{d:Dot1} (hl:l.length<1000000) :
   ∃ k:Nat,k≤l.length∧∃ b,zad l d ()=some ((k:Int),b,())∧(b=true→∃ x∈l,x=d):=by
 obtain ⟨k,h1,h2⟩:=asd (f:=lU l d) (fun m=>match l[m]? with | some x=>decide (cmpD x d<0) | none=>false) l.length (fun i j hij hj=>by
   have hh:(i+j)/2<l.length:=by omega
   unfold lU;simp only[ah];rw[zp (by omega),show (i:Int)+(j:Int)=((i+j:Nat):Int) by omega,pg (by omega)];simp only[zb];rw[wrap64 (n:=(((i+j)/2:Nat):Int)) (by omega) (by omega),aI hh]
   simp only[zb,jt,zg hh,decide_eq_true_eq];rw[wrap64 (by omega) (by omega)];by_cases hc:cmpD l[(i+j)/2] d<0
   · rw[zp hc,zp hc]; rfl
   · rw[zn hc,zn hc]) (fun i=>by
   unfold lU;simp only[ah];rw[zn (by omega)])
 refine ⟨k,h1,?_⟩;unfold zad;rw[h2,ay];simp only[ah];by_cases hk:k<l.length
 · rw[zp (by omega),aI hk];simp only[zb,jt];exact ⟨_,rfl,fun h=>⟨_,zm hk,(cd.zero _ _).1 (of_decide_eq_true h)⟩⟩
 · rw[zn (by omega)];exact ⟨_,rfl,fun h=>by cases h⟩
theorem tP {s:kw}{d:Dot1} (hv:s.1.length=16) (hm:s.2.1.length<1000000):∃ b,ze4 s d=some b:=by
 obtain ⟨b,hb⟩:=ahL (d:=d) hv;obtain ⟨k,_,c,hc,_⟩:=nk (d:=d) hm;unfold ze4;rw[hb,hc];simp only[zb];cases b<;>exact ⟨_,rfl⟩
structure DOk (s:kw) (n:Nat):Prop where
 vec:s.1.length=16
 len:s.2.1.length≤n
 right:∀ d∈s.2.1,bd d=true
theorem aC8 {v:List Int}{l:List Dot1} (hv:v.length=16) (hl:l.length<1000000) (hr:∀ d∈l,bd d=true):∃ s,zee v l=some s∧DOk s l.length:=by
 unfold zee
 refine cq (S:=List Int×List Dot1) (f:=w7 l) l.length (fun i s=>((i:Int),([0,0,0,0,0,0,0,0,0,0,0,0,0,0,0,0],(),()),(s.1,(),()),s.2,())) (fun i s=>s.1.length=16∧s.2.length≤i∧∀ d∈s.2,bd d=true) (fun s=>DOk s l.length) (fun i s hi hs => ?_) (fun s hs => ?_) (v,[]) ⟨hv,by simp,fun d hd=>by cases hd⟩
 · obtain ⟨w,m⟩:=s;obtain ⟨s1,s2,s3⟩:=hs;have hx:=hr _ (zm hi);obtain ⟨k,k1,k2,k3⟩:=fM hx;have k4:k<w.length:=by simp only at s1; omega
   have push:(∀ d∈m++[l[i]],bd d=true):=fun d hd=>by
     rcases qBF.1 hd with h | h
     · exact s3 d h
     · rw[qA3.1 h]; exact hx
   simp only at s1 s2 s3;have room:bh (m.length+[l[i]].length)=some ():=aL (by simp; omega);refine .inl ?_;unfold w7;simp only[ah];rw[zp (by omega),aI hi];simp only[zb,k3];rw[zg k4];simp only[zb]
   rw[wrap64 (n:=(i:Int)+1) (by omega) (by omega)];by_cases c1:l[i].2.1≤w[k]
   · rw[zp c1]; exact ⟨(w,m),rfl,s1,by simp only; omega,s3⟩
   rw[zn c1];by_cases c2:l[i].2.1=IntKind.wrap .i64 (w[k]+1)
   · rw[zp c2]; exact ⟨(w.set k l[i].2.1,m),rfl,by simp only[qDJ]; exact s1,by simp only; omega,s3⟩
   rw[zn c2];by_cases c3:(m.length:Int)=0
   · rw[zp c3,room]; exact ⟨(w,m++[l[i]]),rfl,s1,by simp; omega,push⟩
   rw[zn c3,wrap64 (by omega) (by omega),show (m.length:Int)-1=((m.length-1:Nat):Int) by omega,bH (by omega)];simp only[zb];rw[zg (by omega)];simp only[zb,gA,aW]
   by_cases c4:m[m.length-1]'(by omega)=l[i]
   · rw[zp c4]; exact ⟨(w,m),rfl,s1,by simp only; omega,s3⟩
   · rw[zn c4,room]; exact ⟨(w,m++[l[i]]),rfl,s1,by simp; omega,push⟩
 · unfold w7;simp only[ah];rw[zn (by omega)];exact ⟨_,rfl,hs.1,hs.2.1,hs.2.2⟩
theorem af9 {s:kw}{d:Dot1}{n:Nat} (hs:DOk s n) (hn:n<100000):∃ t,ze3 s d=some t∧DOk t (n+1):=by
 unfold ze3;rw[fD];simp only[zb];have up:DOk s (n+1):=⟨hs.vec,qB9 hs.len (by omega),hs.right⟩;cases h:bd d with
 | false=>exact ⟨s,rfl,up⟩
 | true =>
   have hl:=hs.len;obtain ⟨b,hb⟩:=tP (d:=d) hs.vec (by omega);rw[qAN,cond_false,hb];simp only[zb];cases b with
   | true=>exact ⟨s,rfl,up⟩
   | false =>
     obtain ⟨k,k1,c,hc,_⟩:=nk (l:=s.2.1) (d:=d) (by omega);rw[cond_false,hc];simp only[zb];have e1:zaw s.2.1=some s.2.1:=by
       unfold zaw fE;rw[zp (by simp only[most]; omega)]
     have e2:zaq (k:Int) [d] s.2.1=some (s.2.1.take k++[d]++s.2.1.drop k,()):=by
       unfold zaq zau insT;rw[zp ⟨by omega,by omega,by simp,by simp only[most,qBA]; omega⟩];simp
     rw[e1];simp only[zb];rw[e2];simp only[zb];have hlen:(s.2.1.take k++[d]++s.2.1.drop k).length=s.2.1.length+1:=by simp; omega
     obtain ⟨t,t1,t2⟩:=aC8 (v:=s.1) (l:=s.2.1.take k++[d]++s.2.1.drop k) hs.vec (by omega) (fun x hx=>by
       rcases qBF.1 hx with hx | hx
       · rcases qBF.1 hx with hx | hx
         · exact hs.right x (List.mem_of_mem_take hx)
         · rw[qA3.1 hx]; exact h
       · exact hs.right x (List.mem_of_mem_drop hx))
     rw[t1];exact ⟨t,rfl,t2.vec,by have:=t2.len; omega,t2.right⟩
theorem zj {s:kw}{n:Nat} (hs:DOk s n) (hn:n<100000):∃ t,zca s=some t∧DOk t n:=by
 have hl:=hs.len;unfold zca
 refine cq (S:=List Int×List Dot1) (f:=xA s) s.2.1.length (fun i t=>((i:Int),([0,0,0,0,0,0,0,0,0,0,0,0,0,0,0,0],(),()),(t.1,(),()),t.2,())) (fun i t=>t.1.length=16∧t.2.length≤i∧∀ d∈t.2,bd d=true) (fun t=>DOk t n) (fun i t hi ht => ?_) (fun t ht => ?_) (s.1,[]) ⟨hs.vec,by simp,fun d hd=>by cases hd⟩
 · obtain ⟨w,m⟩:=t;obtain ⟨s1,s2,s3⟩:=ht;have hx:=hs.right _ (zm hi);obtain ⟨k,k1,k2,k3⟩:=fM hx;have k4:k<w.length:=by simp only at s1; omega
   have push:(∀ d∈m++[s.2.1[i]],bd d=true):=fun d hd=>by
     rcases qBF.1 hd with h | h
     · exact s3 d h
     · rw[qA3.1 h]; exact hx
   simp only at s1 s2 s3;have room:bh (m.length+[s.2.1[i]].length)=some ():=aL (by simp; omega);refine .inl ?_;unfold xA;simp only[ah];rw[zp (by omega),aI hi];simp only[zb,k3];rw[zg k4];simp only[zb]
   rw[wrap64 (n:=(i:Int)+1) (by omega) (by omega)];by_cases c2:s.2.1[i].2.1=IntKind.wrap .i64 (w[k]+1)
   · rw[zp c2]; exact ⟨(w.set k s.2.1[i].2.1,m),rfl,by simp only[qDJ]; exact s1,by simp only; omega,s3⟩
   rw[zn c2];by_cases c3:s.2.1[i].2.1>w[k]
   · rw[zp c3,room]; exact ⟨(w,m++[s.2.1[i]]),rfl,s1,by simp; omega,push⟩
   · rw[zn c3]; exact ⟨(w,m),rfl,s1,by simp only; omega,s3⟩
 · unfold xA;simp only[ah];rw[zn (by omega)];exact ⟨_,rfl,ht.1,by have:=ht.2.1; simp only; omega,ht.2.2⟩
theorem afP {v:List Int}{d:Dot1} (hv:v.length=16):∃ b,zed v d=some b:=by
 unfold zed;rw[cw];simp only[zb];cases h:bd d with
 | false=>exact ⟨_,rfl⟩
 | true =>
   obtain ⟨k,h1,h2,h3⟩:=fM h;rw[cond_true,h3];simp only[zb];rw[zg (by omega)];exact ⟨_,rfl⟩
theorem arS {s:kw}{d:Dot1} (hv:s.1.length=16) (hm:s.2.1.length<1000000):∃ b,zer s d=some b:=by
 obtain ⟨b,hb⟩:=afP (d:=d) hv;unfold zer;rw[hb];simp only[zb];cases b with
 | true=>exact ⟨_,rfl⟩
 | false =>
   obtain ⟨r,hr,_⟩:=cq (S:=Unit) (f:=lL s d) s.2.1.length (fun i _=>((i:Int),())) (fun _ _=>True) (fun _=>True) (fun i _ hi _=>by
     unfold lL;simp only[ah,gA];rw[zp (by omega),aI hi];simp only[zb];rw[wrap64 (by omega) (by omega)];by_cases c:s.2.1[i]=d
     · rw[zp c]; exact .inr ⟨_,rfl,trivial⟩
     · rw[zn c]; exact .inl ⟨(),rfl,trivial⟩) (fun _ _=>by
     unfold lL;simp only[ah];rw[zn (by omega)];exact ⟨_,rfl,trivial⟩) () trivial
   exact ⟨r,hr⟩
theorem arp {s:kw}{d:Dot1}{n:Nat} (hs:DOk s n) (hn:n<10000):∃ t,zej s d=some t∧DOk t (n+1):=by
 have hl:=hs.len;have up:DOk s (n+1):=⟨hs.vec,by omega,hs.right⟩;unfold zej;rw[cw];simp only[zb];cases h:bd d with
 | false=>exact ⟨s,rfl,up⟩
 | true =>
   obtain ⟨b,hb⟩:=arS (d:=d) hs.vec (show s.2.1.length<1000000 by omega);rw[qAN,cond_false,hb];simp only[zb];cases b with
   | true=>exact ⟨s,rfl,up⟩
   | false =>
     rw[cond_false]
     obtain ⟨r,h1,laid,l,rfl,h2,h3⟩:=cq (S:=Bool×List Dot1) (f:=wZ s d) s.2.1.length (fun i t=>(t.1,(i:Int),([0,0,0,0,0,0,0,0,0,0,0,0,0,0,0,0],(),()),t.2,())) (fun i t=>(t.2.length=i+(if t.1=true then 1 else 0))∧∀ x∈t.2,bd x=true) (fun r=>∃ laid l,r = .inl (laid,([0,0,0,0,0,0,0,0,0,0,0,0,0,0,0,0],(),()),l,())∧(l.length=s.2.1.length+(if laid=true then 1 else 0))∧∀ x∈l,bd x=true) (fun i t hi ht=>by
       obtain ⟨laid,l⟩:=t;obtain ⟨t1,t2⟩:=ht;have hx:=hs.right _ (zm hi);simp only at t1 t2;have bl:l.length≤i+1:=by cases laid<;>simp at t1<;>omega
       have room:∀ (m:List Dot1) (x:Dot1),m.length≤i+5→bh (m.length+[x].length)=some ():=fun m x hm=>aL (by simp; omega);refine .inl ?_;unfold wZ;simp only[ah]
       rw[zp (by omega),aI hi,wrap64 (n:=(i:Int)+1) (by omega) (by omega)];simp only[zb,fN];cases laid with
       | true =>
         rw[qAN,cond_false,ay];simp only;rw[room l _ (by omega)];refine ⟨(true,l++[s.2.1[i]]),rfl,by simp at t1 ⊢; omega,fun x hx2 => ?_⟩;rcases qBF.1 hx2 with q | q
         · exact t2 x q
         · rw[qA3.1 q]; exact hx
       | false =>
         rw[qAZ,cond_true];by_cases c:cmpD d s.2.1[i]<0
         · rw[zp c,room l _ (by omega)];simp only[zb];rw[eG];simp only;rw[room (l++[d]) _ (by simp; omega)];refine ⟨(true,l++[d]++[s.2.1[i]]),rfl,by simp at t1 ⊢; omega,fun x hx2 => ?_⟩
           rcases qBF.1 hx2 with q | q
           · rcases qBF.1 q with q | q
             · exact t2 x q
             · rw[qA3.1 q]; exact h
           · rw[qA3.1 q]; exact hx
         · rw[zn c,ay];simp only;rw[room l _ (by omega)];refine ⟨(false,l++[s.2.1[i]]),rfl,by simp at t1 ⊢; omega,fun x hx2 => ?_⟩;rcases qBF.1 hx2 with q | q
           · exact t2 x q
           · rw[qA3.1 q]; exact hx) (fun t ht=>by
       unfold wZ;simp only[ah];rw[zn (by omega)];exact ⟨_,rfl,_,_,rfl,ht.1,ht.2⟩) (false,[]) ⟨rfl,fun x hx=>by cases hx⟩
     rw[show ((false,(0:Int),(([0,0,0,0,0,0,0,0,0,0,0,0,0,0,0,0]:List Int),(),()),([]:List Dot1),()):Bool×Int×(List Int×Unit×Unit)×List Dot1×Unit)=(false,((0:Nat):Int),([0,0,0,0,0,0,0,0,0,0,0,0,0,0,0,0],(),()),[],()) from rfl,h1,ay]
     cases laid with
     | true =>
       simp only[qAN,cond_false];rw[ay];simp at h2;obtain ⟨t,t1,t2⟩:=zj (s:=(s.1,l,())) (n:=n+1) ⟨hs.vec,by simp only; omega,h3⟩ (by omega);simp only;rw[t1]; exact ⟨t,rfl,t2⟩
     | false =>
       simp only[qAZ,cond_true];simp at h2;rw[aL (by simp; omega)];simp only[zb];rw[eG];obtain ⟨t,t1,t2⟩:=zj (s:=(s.1,l++[d],())) (n:=n+1) ⟨hs.vec,by simp; omega,fun x hx=>by
         rcases qBF.1 hx with q | q
         · exact h3 x q
         · rw[qA3.1 q]; exact h⟩ (by omega)
       simp only;rw[t1]; exact ⟨t,rfl,t2⟩
structure Wide (s:St1):Prop where
 known:s.2.2.1.1.length=16
 fast:s.2.2.2.1.1.length=16
 redo:s.2.2.2.2.1.length=8
structure ShortS (s:St1):Prop where
 txns:s.1.length≤20
 undos:s.2.1.length≤100
 known:s.2.2.1.2.1.length≤100
 fast:s.2.2.2.1.2.1.length≤100
 all:∀ t∈s.1,ii t=true
 redo:∀ l∈s.2.2.2.2.1,l.length≤40
theorem fx {A R X:Type}{f:A→Option (A⊕R)}{l:List X} (enc:Nat→A) (P:X→Prop) (yes no:R)
   (hturn:∀ (i:Nat) (h:i<l.length),(f (enc i)=some (.inl (enc (i+1)))∧P l[i])∨f (enc i)=some (.inr no)) (hend:f (enc l.length)=some (.inr yes)) :
   (aH f (enc 0)=some yes∧∀ x∈l,P x)∨aH f (enc 0)=some no:=by
 obtain ⟨r,h1,h2⟩:=cq (S:=Unit) (f:=f) l.length (fun i _=>enc i) (fun i _=>∀ k (h:k<l.length),k<i→P l[k]) (fun r=>(r=yes∧∀ x∈l,P x)∨r=no) (fun i _ hi hv=>by
   rcases hturn i hi with ⟨h1,h2⟩ | h1
   · exact .inl ⟨(), h1, fun k hk hki => by
       by_cases e:k=i
       · subst e; exact h2
       · exact hv k hk (by omega)⟩
   · exact .inr ⟨no,h1,.inr rfl⟩) (fun _ hv=>⟨yes,hend,.inl ⟨rfl,fun x hx=>by
   obtain ⟨k,hk,rfl⟩:=qCZ.1 hx;exact hv k hk hk⟩⟩) () (fun k hk hki=>by omega)
 rcases h2 with ⟨rfl,h2⟩ | rfl
 · exact .inl ⟨h1,h2⟩
 · exact .inr h1
theorem aeC {s:St1} (hw:Wide s):∃ b,zc0 s=some b∧(b=true→ShortS s):=by
 have l1:s.1.length≤20→((aH (ou) (((0:Nat):Int),s,())=some (.inl (s,()))∧∀ t∈s.1,ii t=true)∨aH (ou) (((0:Nat):Int),s,())=some (.inr false)):=fun hl=>by
   refine fx (f:=ou) (l:=s.1) (fun i=>((i:Int),s,())) (fun t=>ii t=true) (.inl (s,())) (.inr false) (fun i h => ?_) ?_
   · unfold ou;simp only[ah];rw[zp (by omega),aI h];simp only[zb,aax];cases hs:ii s.1[i] with
     | false=>exact .inr rfl
     | true =>
       refine .inl ⟨?_,by trivial⟩;rw[qAN,cond_false,wrap64 (by omega) (by omega)]; rfl
   · unfold ou;simp only[ah];rw[zn (by omega)]
 have l2:(aH (ot) (((0:Nat):Int),s,())=some true∧∀ l∈s.2.2.2.2.1,l.length≤40)∨aH (ot) (((0:Nat):Int),s,())=some false:=by
   have hr:=hw.redo;refine fx (f:=ot) (l:=s.2.2.2.2.1) (fun i=>((i:Int),s,())) (fun l=>l.length≤40) true false (fun i h => ?_) ?_
   · unfold ot;simp only[ah];rw[zp (by omega),bH (by omega)];simp only[zb];rw[zg h];simp only[zb];by_cases c:((s.2.2.2.2.1[i].length:Int)>40)
     · rw[zp c]; exact .inr rfl
     · rw[zn c,wrap64 (by omega) (by omega)]; exact .inl ⟨rfl,by omega⟩
   · unfold ot;simp only[ah];rw[zn (by omega)]
 unfold zc0;simp only[ah];by_cases c1:(s.1.length:Int)>20
 · rw[zp c1]; exact ⟨false,rfl,fun h=>by cases h⟩
 rw[zn c1];simp only[zb,ah];by_cases c2:(s.2.1.length:Int)>100
 · rw[zp c2]; exact ⟨false,rfl,fun h=>by cases h⟩
 rw[zn c2];by_cases c3:(s.2.2.1.2.1.length:Int)>100
 · rw[zp c3]; exact ⟨false,rfl,fun h=>by cases h⟩
 rw[zn c3];by_cases c4:(s.2.2.2.1.2.1.length:Int)>100
 · rw[zp c4]; exact ⟨false,rfl,fun h=>by cases h⟩
 rw[zn c4];rcases l1 (by omega) with ⟨h1,h2⟩ | h1
 · rw[show ((0:Int),s,())=(((0:Nat):Int),s,()) from rfl,h1,ay];simp only;rcases l2 with ⟨h3,h4⟩ | h3
   · rw[show ((0:Int),s,())=(((0:Nat):Int),s,()) from rfl,h3];exact ⟨true,rfl,fun _=>⟨by omega,by omega,by omega,by omega,h2,h4⟩⟩
   · rw[show ((0:Int),s,())=(((0:Nat):Int),s,()) from rfl,h3];exact ⟨false,rfl,fun h=>by cases h⟩
 · rw[show ((0:Int),s,())=(((0:Nat):Int),s,()) from rfl,h1];exact ⟨false,rfl,fun h=>by cases h⟩
theorem sw {v:List Int} (hv:v.length=16):∃ b,zcn v=some b:=by
 unfold zcn;obtain ⟨r,h,_⟩:=cq (S:=Unit) (f:=xx) 16 (fun i _=>((i:Int),v,())) (fun _ _=>True) (fun _=>True) (fun i _ hi _=>by
   unfold xx;simp only[ah];rw[zp (by omega),bH (by omega)];simp only[zb];rw[zg (by omega),wrap64 (by omega) (by omega)];simp only[zb];by_cases c1:v[i]<0
   · rw[zp c1]; exact .inr ⟨_,rfl,trivial⟩
   rw[zn c1];by_cases c2:v[i]>1048576
   · rw[zp c2]; exact .inr ⟨_,rfl,trivial⟩
   · rw[zn c2]; exact .inl ⟨(),rfl,trivial⟩) (fun _ _=>by
   unfold xx;simp only[ah];rw[zn (by omega)];exact ⟨_,rfl,trivial⟩) () trivial
 exact ⟨r,h⟩
theorem su {s:kw} (hv:s.1.length=16) (hm:s.2.1.length≤100):∃ b,zco s=some b∧(b=true→DOk s 100):=by
 obtain ⟨b,hb⟩:=sw hv;unfold zco;rw[hb];simp only[zb];cases b with
 | false=>exact ⟨false,rfl,fun h=>by cases h⟩
 | true =>
   simp only[qAN,cond_false,ah];rw[zn (by omega)];have:=fx (f:=lP) (l:=s.2.1) (fun i=>((i:Int),s,())) (fun d=>bd d=true) true false (fun i h=>by
     unfold lP;simp only[ah];rw[zp (by omega),aI h];simp only[zb,cw];cases hs:bd s.2.1[i] with
     | false=>exact .inr rfl
     | true =>
       obtain ⟨k,k1,k2,k3⟩:=fM hs;simp only[qAN,cond_false];rw[k3];simp only[zb];rw[zg (by omega),wrap64 (n:=(i:Int)+1) (by omega) (by omega)];simp only[zb]
       by_cases c1:IntKind.wrap .i64 (s.2.1[i].2.1-1)≤s.1[k]'(by omega)
       · rw[zp c1]; exact .inr rfl
       rw[zn c1];by_cases c2:(i:Int)>0
       · rw[zp c2,wrap64 (by omega) (by omega),show (i:Int)-1=((i-1:Nat):Int) by omega,aI (by omega)];simp only[zb,fN,aW];by_cases c3:cmpD (s.2.1[i-1]'(by omega)) s.2.1[i] = -1
         · rw[zp c3]; exact .inl ⟨rfl,by trivial⟩
         · rw[zn c3]; exact .inr rfl
       · rw[zn c2]; exact .inl ⟨rfl,by trivial⟩) (by
     unfold lP;simp only[ah];rw[zn (by omega)])
   rcases this with ⟨h1,h2⟩ | h1
   · exact ⟨true,h1,fun _=>⟨hv,hm,h2⟩⟩
   · exact ⟨false,h1,fun h=>by cases h⟩
theorem arG {l:List Txn1} (hl:l.length≤1000):∃ s,zcr l=some s:=by
 unfold zcr;obtain ⟨r,h,_⟩:=cq (S:=kw) (f:=xw l) l.length (fun i s=>((i:Int),([0,0,0,0,0,0,0,0,0,0,0,0,0,0,0,0],(),()),s,())) (fun i s=>DOk s i) (fun _=>True) (fun i s hi hs=>by
   obtain ⟨t,t1,t2⟩:=arp (d:=l[i].1) hs (by omega);unfold xw;simp only[ah];rw[zp (by omega),aI hi];simp only[zb];rw[t1,wrap64 (by omega) (by omega)];exact .inl ⟨t,rfl,t2⟩) (fun s _=>by
   unfold xw;simp only[ah];rw[zn (by omega)];exact ⟨_,rfl,trivial⟩) ([0,0,0,0,0,0,0,0,0,0,0,0,0,0,0,0],[],()) ⟨rfl,by simp,fun d hd=>by cases hd⟩
 exact ⟨r,h⟩
theorem ahZ {a b:List Dot1} (ha:a.length<1000000):∃ c,zdw a b=some c:=by
 unfold zdw;simp only[aW];by_cases h:(a.length:Int)=b.length
 · rw[zp h];obtain ⟨r,h,_⟩:=cq (S:=Unit) (f:=lN a b) a.length (fun i _=>((i:Int),())) (fun _ _=>True) (fun _=>True) (fun i _ hi _=>by
     unfold lN;simp only[ah];rw[zp (by omega),aI hi,aI (by omega),wrap64 (by omega) (by omega)];simp only[zb,gA,aW];by_cases c:a[i]=b[i]'(by omega)
     · rw[zp c]; exact .inl ⟨(),rfl,trivial⟩
     · rw[zn c]; exact .inr ⟨_,rfl,trivial⟩) (fun _ _=>by
     unfold lN;simp only[ah];rw[zn (by omega)];exact ⟨_,rfl,trivial⟩) () trivial
   exact ⟨r,h⟩
 · rw[zn h]; exact ⟨_,rfl⟩
structure GoodS (s:St1):Prop where
 txns:TxnsOk s.1 20
 undos:CountsOk s.2.1
 known:DOk s.2.2.1 100
 fast:DOk s.2.2.2.1 100
 rlen:s.2.2.2.2.1.length=8
 redo:∀ l∈s.2.2.2.2.1,l.length≤40
theorem aeM {s:St1} (hw:Wide s) (hs:ShortS s):∃ b,zct s=some b∧(b=true→GoodS s):=by
 have n1:=hs.txns; have n2:=hs.undos; have n3:=hs.known; have n4:=hs.fast; have hr:=hw.redo;have no:∀ {Q:Prop},∃ b,some false=some b∧(b=true→Q):=fun {Q}=>⟨false,rfl,fun h=>by cases h⟩;unfold zct
 simp only[ah];rw[zn (by omega),aeL (by omega)];simp only[zb];by_cases r1:∀ i,i<s.1.length-1→oU (·.1) s.1 i=true
 rotate_left
 · rw[zn r1]; exact no
 rw[zp r1,qAN,cond_false,ah4 (by omega)];simp only[zb];by_cases r2:∀ i,i<s.2.1.length→iK s.2.1 i=true
 rotate_left
 · rw[zn r2]; exact no
 rw[zp r2,qAN,cond_false];obtain ⟨b3,r3,k3⟩:=su hw.fast n4;rw[r3];simp only[zb];cases b3 with
 | false=>exact no
 | true =>
 rw[qAN,cond_false];have l1:=fx (f:=xu) (l:=s.1) (fun i=>((i:Int),s,())) (fun t=>txnM t=0) (.inl (s,())) (.inr false) (fun i h=>by
   unfold xu;simp only[ah];rw[zp (by omega),aI h];simp only[zb];rw[aav (hs.all _ (zm h)),wrap64 (by omega) (by omega)];simp only[zb,aW];by_cases c:txnM s.1[i]=0
   · rw[zp c]; exact .inl ⟨rfl,c⟩
   · rw[zn c]; exact .inr rfl) (by
   unfold xu;simp only[ah];rw[zn (by omega)])
 rcases l1 with ⟨h1,h2⟩ | h1
 rotate_left
 · rw[show ((0:Int),s,())=(((0:Nat):Int),s,()) from rfl,h1]; exact no
 rw[show ((0:Int),s,())=(((0:Nat):Int),s,()) from rfl,h1,ay];simp only;have l2:(aH om (((0:Nat):Int),s,())=some (.inl (s,()))∧∀ l∈s.2.2.2.2.1,True)∨aH om (((0:Nat):Int),s,())=some (.inr false):=by
   refine fx (f:=om) (l:=s.2.2.2.2.1) (fun i=>((i:Int),s,())) (fun _=>True) (.inl (s,())) (.inr false) (fun i h => ?_) ?_
   · have hl:=hs.redo _ (zm h);have inner:=fx (f:=pN ((i:Int),s,())) (l:=s.2.2.2.2.1[i]) (fun k=>((k:Int),s,())) (fun _=>True) (.inl ((((i+1:Nat):Int),s,()))) (.inr (.inr false)) (fun k hk=>by
       unfold pN;simp only;rw[bH (show i<8 by omega)];simp only[zb];rw[zg h];simp only[zb,ah];rw[zp (by omega),aI hk,wrap64 (n:=(k:Int)+1) (by omega) (by omega)];simp only[zb,cw]
       cases bd s.2.2.2.2.1[i][k] with
       | false=>exact .inr rfl
       | true=>exact .inl ⟨rfl,trivial⟩) (by
       unfold pN;simp only;rw[bH (show i<8 by omega)];simp only[zb];rw[zg h];simp only[zb,ah];rw[zn (by omega),wrap64 (n:=(i:Int)+1) (by omega) (by omega)]; rfl)
     unfold om;simp only[ah];rw[zp (by omega),bH (by omega)];simp only[zb];rw[zg h];simp only[zb];rw[zn (by omega)];rcases inner with ⟨q,_⟩ | q
     · exact .inl ⟨q,trivial⟩
     · exact .inr q
   · unfold om;simp only[ah];rw[zn (by omega)]
 rcases l2 with ⟨h3,_⟩ | h3
 rotate_left
 · rw[show ((0:Int),s,())=(((0:Nat):Int),s,()) from rfl,h3]; exact no
 rw[show ((0:Int),s,())=(((0:Nat):Int),s,()) from rfl,h3,ay];simp only;obtain ⟨b5,r5,k5⟩:=su hw.known n3;rw[r5];simp only[zb];cases b5 with
 | false=>exact no
 | true =>
 rw[cond_true];obtain ⟨kn,hk⟩:=arG (l:=s.1) (by omega);rw[hk];simp only[zb];have fin:GoodS s:=⟨⟨n1,aaI r1,fun t ht=>aCQ (hs.all t ht) (h2 t ht)⟩,counts_of n2 r2,k5 rfl,k3 rfl,hr,hs.redo⟩;unfold zdo
 cases eqV (.arr 16 (.int .i64)) s.2.2.1.1 kn.1 with
 | false=>exact ⟨false,rfl,fun _=>fin⟩
 | true =>
   obtain ⟨c,hc⟩:=ahZ (a:=s.2.2.1.2.1) (b:=kn.2.1) (by omega);rw[cond_true,hc];exact ⟨c,rfl,fun _=>fin⟩
theorem aiG {s:St1} (hw:Wide s):∃ b,zd4 s=some b∧(b=true→GoodS s):=by
 obtain ⟨b,h1,h2⟩:=aeC hw;unfold zd4;rw[h1];simp only[zb];cases b with
 | false=>exact ⟨false,rfl,fun h=>by cases h⟩
 | true =>
   obtain ⟨c,h3,h4⟩:=aeM hw (h2 rfl);rw[cond_true,h3];exact ⟨c,rfl,h4⟩
def eH:List Ref1→Ref1→List Ref1
 | [],x=>[x]
 | y::l,x=>if cmpD y.1 x.1<0 then y::eH l x else if 0<cmpD y.1 x.1 then x::y::l else (y.1,max y.2.1 x.2.1,())::l
theorem td {x:Ref1}:∀ (l:List Ref1),(eH l x).length≤l.length+1
 | []=>by simp[eH]
 | y::l=>by
   have:=td (x:=x) l;unfold eH
   split
   · simp; omega
   · split<;>simp
theorem tc {x z:Ref1}:∀ {l:List Ref1},z∈eH l x→z.1=x.1∨∃ y∈l,z.1=y.1
 | [],h=>by
   rw[qA3.1 h]; exact .inl rfl
 | y::l,h=>by
   unfold eH at h
   split at h
   · rcases qAS.1 h with e | h
     · exact .inr ⟨y,qAL ..,by rw[e]⟩
     · rcases tc h with e | ⟨w,w1,w2⟩
       · exact .inl e
       · exact .inr ⟨w,qAK _ w1,w2⟩
   · split at h
     · rcases qAS.1 h with e | h
       · exact .inl (by rw[e])
       · exact .inr ⟨z,h,rfl⟩
     · rcases qAS.1 h with e | h
       · exact .inr ⟨y,qAL ..,by rw[e]⟩
       · exact .inr ⟨z,qAK _ h,rfl⟩
theorem tb {x:Ref1} (hx:oneM x=true):∀ {l:List Ref1},(∀ y∈l,oneM y=true)→∀ z∈eH l x,oneM z=true
 | [],_,z,h=>by rw[qA3.1 h]; exact hx
 | y::l,hl,z,h=>by
   unfold eH at h
   split at h
   · rcases qAS.1 h with e | h
     · rw[e]; exact hl y (qAL ..)
     · exact tb hx (fun w hw=>hl w (qAK _ hw)) z h
   · split at h
     · rcases qAS.1 h with e | h
       · rw[e]; exact hx
       · exact hl z h
     · rcases qAS.1 h with e | h
       · have hy:=hl y (qAL ..);rw[e];unfold oneM at hx hy ⊢;simp only[k9,decide_eq_true_eq] at hx hy ⊢;exact ⟨hy.1,by omega,by omega⟩
       · exact hl z (qAK _ h)
theorem o9 {x:Ref1}:∀ {l:List Ref1},ld l→ld (eH l x)
 | [],_=>qCC ..
 | y::l,h=>by
   have h1:=qA9.1 h;unfold eH
   split
   · rename_i c;refine qA9.2 ⟨fun z hz => ?_,o9 h1.2⟩;show cmpD y.1 z.1<0;rcases tc hz with e | ⟨w,w1,w2⟩
     · rw[e]; exact c
     · rw[w2]; exact h1.1 w w1
   · rename_i c
     split
     · rename_i d;have d':cmpD x.1 y.1<0:=(by have:=cd.neg x.1 y.1; omega);refine qA9.2 ⟨fun z hz => ?_,h⟩;rcases qAS.1 hz with e | hz
       · rw[e]; exact d'
       · exact cd.trans _ _ _ d' (h1.1 z hz)
     · exact qA9.2 ⟨h1.1,h1.2⟩
theorem nb:∀ (a out:List Ref1),a.length+out.length<1000000→aH f9 (a,[],out,())=some (out++a)
 | [],out,_=>by
   refine (aD ?_).trans (by rw[qAR]);unfold f9;simp
 | y::a,out,h=>by
   have turn:f9 (y::a,[],out,())=some (.inl (a,[],out++[y],())):=by
     unfold f9;simp only[ah,zl,qAQ];rw[zp (by omega),ay,zn (by omega),zn (by omega),ay];simp only;rw[zp (by omega),show atI (y::a) 0=some y from rfl];simp only[zb]
     rw[aL (by simp at h ⊢; omega)];simp only[zb];rw[show ((a.length+1:Nat):Int)=((y::a).length:Int) from rfl,show (1:Int)=((1:Nat):Int) from rfl,ev (by simp)];rfl
   rw[aG turn,nb a (out++[y]) (by simp at h ⊢; omega),qAT]; rfl
theorem pa:∀ (a out:List Ref1),a.length+out.length<1000000→aH f9 ([],a,out,())=some (out++a)
 | [],out,_=>by
   refine (aD ?_).trans (by rw[qAR]);unfold f9;simp
 | y::a,out,h=>by
   have turn:f9 ([],y::a,out,())=some (.inl ([],a,out++[y],())):=by
     unfold f9;simp only[ah,zl,qAQ];rw[zn (by omega),zp (by omega),ay,zp (by omega),ay];simp only;rw[zn (by omega),zp (by omega),show atI (y::a) 0=some y from rfl];simp only[zb]
     rw[aL (by simp at h ⊢; omega)];simp only[zb];rw[show ((a.length+1:Nat):Int)=((y::a).length:Int) from rfl,show (1:Int)=((1:Nat):Int) from rfl,ev (by simp)];rfl
   rw[aG turn,pa a (out++[y]) (by simp at h ⊢; omega),qAT]; rfl
theorem ta {x:Ref1}:∀ (a out:List Ref1),a.length+out.length<900000→aH f9 (a,[x],out,())=some (out++eH a x)
 | [],out,h=>by rw[pa [x] out (by simp at h ⊢; omega)]; rfl
 | y::a,out,h=>by
   simp only[zl] at h
   have head:f9 (y::a,[x],out,())=if cmpD y.1 x.1<0 then some (.inl (a,[x],out++[y],())) else if 0<cmpD y.1 x.1 then some (.inl (y::a,[],out++[x],())) else some (.inl (a,[],out++[(y.1,max y.2.1 x.2.1,())],())):=by
     unfold f9;simp only[ah,zl,qAQ];rw[zp (by omega),ay,zn (by omega),zp (by omega),show atI (y::a) 0=some y from rfl,show atI [x] 0=some x from rfl];simp only[zb,pW];rw[eG];simp only
     rw[aL (show out.length+1<4294967296 by omega),show ((a.length+1:Nat):Int)=((y::a).length:Int) from rfl,show ((0+1:Nat):Int)=(([x]:List Ref1).length:Int) from rfl,show (1:Int)=((1:Nat):Int) from rfl,ev (l:=y::a) (i:=1) (by simp),ev (l:=[x]) (i:=1) (by simp)]
     rfl
   unfold eH;by_cases c:cmpD y.1 x.1<0
   · rw[zp c] at head ⊢;rw[aG head,ta a (out++[y]) (by simp; omega),qAT]; rfl
   · rw[zn c] at head ⊢;by_cases c2:0<cmpD y.1 x.1
     · rw[zp c2] at head ⊢;rw[aG head,nb (y::a) (out++[x]) (by simp; omega),qAT]; rfl
     · rw[zn c2] at head ⊢;rw[aG head,nb a (out++[(y.1,max y.2.1 x.2.1,())]) (by simp; omega),qAT]; rfl
theorem arI {a:List Ref1}{x:Ref1} (h:a.length<800000):zdr a [x]=some (eH a x):=by
 unfold zdr;rw[ta a [] (by simp; omega)]; rfl
structure UOk (u:List Ref1) (n:Nat):Prop where
 len:u.length≤n
 rise:ld u
 one:∀ x∈u,oneM x=true
theorem UOk.low {u:List Ref1}{n:Nat} (h:UOk u n) (hn:n<100000):LowU u:=⟨by have:=h.len; omega,h.rise⟩
theorem UOk.join {u:List Ref1}{n:Nat}{x:Ref1} (h:UOk u n) (hx:oneM x=true):UOk (eH u x) (n+1):=⟨by have:=td (x:=x) u; have:=h.len; omega,o9 h.rise,tb hx h.one⟩
theorem tz {d:Dot1}:∀ {u:List Ref1},(∀ x∈u,oneM x=true)→0≤getM u d∧getM u d≤64
 | [],_=>by unfold getM; omega
 | x::u,h=>by
   unfold getM;by_cases e:x.1=d
   · rw[zp e];have:=h x (qAL ..);unfold oneM at this;simp only[k9,decide_eq_true_eq] at this;omega
   · rw[zn e]; exact tz fun y hy=>h y (qAK _ hy)
theorem fp {u:List Ref1}{d:Dot1}{n:Nat} (h:UOk u n) (hn:n<100000) :
   zc4 u d=some (if bd d=false then (((0,0,()),0,()),2,()) else if getM u d≥64 then (((0,0,()),0,()),14,()) else ((d,getM u d+1,()),0,())):=by
 have hg:=tz (d:=d) h.one;unfold zc4;rw[oG (h.low hn).len h.rise,fD];simp only[zb,ah];rw[wrap64 (by omega) (by omega)];cases bd d with
 | false=>rfl
 | true =>
   by_cases c:getM u d≥64<;>simp[c]
structure StOk (s:St1) (n:Nat):Prop where
 txns:s.1.length≤1000
 undos:UOk s.2.1 n
 vec:s.2.2.2.1.1.length=16
 more:s.2.2.2.1.2.1.length≤100000
 rlen:s.2.2.2.2.1.length=8
theorem GoodS.st {s:St1} (h:GoodS s):StOk s 100:=⟨by have:=h.txns.len; omega,⟨h.undos.len,h.undos.rise,h.undos.one⟩,h.fast.vec,by have:=h.fast.len; omega,h.rlen⟩
theorem ahS {s:St1}{n:Nat}{d:Dot1} (h:StOk s n) (hn:n<100000):∃ b,ze4 s.2.2.2.1 d=some b∧zek s d=some (if b=true then 13 else if bd d=false then 2 else if getM s.2.1 d≥64 then 14 else 0):=by
 obtain ⟨b,hb⟩:=tP (d:=d) h.vec (by have:=h.more; omega);refine ⟨b,hb,?_⟩;unfold zek;rw[hb,fp h.undos hn];simp only[zb];cases b with
 | true=>rfl
 | false =>
   by_cases c1:bd d=false<;>by_cases c2:getM s.2.1 d≥64<;>simp[c1,c2]
def keyT (t:Txn1):Int×Dot1:=(t.2.2.1,t.1)
def aGs:Int×Dot1→Int×Dot1→Int:=cmpB cmpI cmpD
def cmpT (a b:Txn1):Int:=aGs (keyT a) (keyT b)
def Cand (s:St1) (user:Int) (t:Txn1):Prop:=t∈s.1∧t.2.1=user∧dD s.2.1 t.1=true
structure Best (s:St1) (user:Int) (t:Txn1):Prop where
 cand:Cand s user t
 top:∀ x,Cand s user x→cmpT x t≤0
theorem tJ {l:List Txn1}{d:Dot1} (hl:l.length<1000000):∃ r,zdi l d=some r∧((r<0∧∀ t∈l,t.1≠d)∨∃ k:Nat,r=(k:Int)∧∃ h:k<l.length,l[k].1=d):=by
 unfold zdi;refine cq (S:=Unit) (f:=xi l d) l.length (fun i _=>((i:Int),())) (fun i _=>∀ k (h:k<l.length),k<i→l[k].1≠d) _ (fun i _ hi hv => ?_) (fun _ hv => ?_) () (fun k hk hki=>by omega)
 · unfold xi;simp only[ah,gA];rw[zp (by omega),aI hi,wrap64 (by omega) (by omega)];simp only[zb];by_cases c:l[i].1=d
   · rw[zp c]; exact .inr ⟨_,rfl,.inr ⟨i,rfl,hi,c⟩⟩
   · rw[zn c];exact .inl ⟨(),rfl,fun k hk hki=>by
       by_cases e:k=i
       · subst e; exact c
       · exact hv k hk (by omega)⟩
 · unfold xi;simp only[ah];rw[zn (by omega)];exact ⟨_,rfl,.inl ⟨by omega,fun t ht=>by
     obtain ⟨k,hk,rfl⟩:=qCZ.1 ht;exact hv k hk hk⟩⟩
theorem ah3 {l:List Txn1} (h:nT l) {a b:Txn1} (ha:a∈l) (hb:b∈l) (e:a.1=b.1):a=b:=by
 induction l with
 | nil=>cases ha
 | cons x l ih =>
   have h1:=qA9.1 h;rcases qAS.1 ha with ea | ha<;>rcases qAS.1 hb with eb | hb
   · rw[ea,eb]
   · have q:cmpD x.1 b.1<0:=h1.1 b hb;rw[← ea,e,(cd.zero _ _).2 rfl] at q; omega
   · have q:cmpD x.1 a.1<0:=h1.1 a ha;rw[← eb,e,(cd.zero _ _).2 rfl] at q; omega
   · exact ih h1.2 ha hb
structure Undone (s u:St1) (t:Txn1) (k:Nat) (l:List Dot1):Prop where
 txns:u.1=s.1
 get:∀ d,getM u.2.1 d=if d=t.1 then getM s.2.1 t.1+1 else getM s.2.1 d
 st:StOk u 101
 fast:u.2.2.2.1=s.2.2.2.1
 redo:u.2.2.2.2.1[k]? = some (l++[t.1])
theorem as3 {k:Nat} (h:k<16):([0,0,0,0,0,0,0,0,0,0,0,0,0,0,0,0]:List Int)[k]? = some 0:=by
 revert h; revert k; decide
theorem vm {d:Dot1} (h:bd d=true):ze4 ([0,0,0,0,0,0,0,0,0,0,0,0,0,0,0,0],[],()) d=some false:=by
 obtain ⟨k,k1,k2,k3⟩:=fM h;have hr:=h;unfold bd at hr;simp only[decide_eq_true_eq] at hr;obtain ⟨m,_,b,hb,hb2⟩:=nk (l:=[]) (d:=d) (by simp);have:b=false:=by
   cases b with
   | false=>rfl
   | true=>obtain ⟨x,h1,_⟩:=hb2 rfl; cases h1
 subst this;unfold ze4 zfb;rw[fD,h];simp only[zb,cond_true];rw[k3];simp only[zb];rw[as3 k1];simp only[zb,ah];rw[zn (by omega),hb];rfl
theorem ara {s:St1} (h:okV (.agg (.cons (.sl (.agg (.cons (.agg (.cons (.int .i64) (.cons (.int .i64) .unit))) (.cons (.int .i64) (.cons (.int .i64) (.cons .bool (.cons (.sl (.agg (.cons (.int .i64) (.cons (.sl .str) (.cons (.agg (.cons (.int .i64) (.cons (.int .i64) (.cons .str .unit)))) (.cons (.int .i64) (.cons (.sl (.agg (.cons (.agg (.cons (.int .i64) (.cons (.int .i64) .unit))) (.cons (.int .i64) .unit)))) .unit))))))) .unit))))))) (.cons (.sl (.agg (.cons (.agg (.cons (.int .i64) (.cons (.int .i64) .unit))) (.cons (.int .i64) .unit)))) (.cons (.agg (.cons (.arr 16 (.int .i64)) (.cons (.sl (.agg (.cons (.int .i64) (.cons (.int .i64) .unit)))) .unit))) (.cons (.agg (.cons (.arr 16 (.int .i64)) (.cons (.sl (.agg (.cons (.int .i64) (.cons (.int .i64) .unit)))) .unit))) (.cons (.arr 8 (.sl (.agg (.cons (.int .i64) (.cons (.int .i64) .unit))))) .unit)))))) s):Wide s:=by
 obtain ⟨_,_,h3,h4,h5,_⟩:=h;exact ⟨h3.1.1,h4.1.1,h5.1⟩
end Go.Proofs.YtnbgkhdcidbkaaaGreatDoor.Q
