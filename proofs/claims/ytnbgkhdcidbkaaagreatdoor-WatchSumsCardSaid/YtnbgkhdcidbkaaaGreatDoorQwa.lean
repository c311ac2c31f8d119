import Derived.Test.YtnbgkhdcidbkaaaGreatDoorW
import Derived.Test.YtnbgkhdcidbkaaaGreatDoorT14
import Derived.Test.YtnbgkhdcidbkaaaGreatDoorT32
set_option linter.unusedVariables false
set_option linter.unusedSimpArgs false
set_option maxRecDepth 100000
namespace Go.Proofs.YtnbgkhdcidbkaaaGreatDoor.Q
open Go.EM Go.TY Go.Proofs Go.Proofs.YtnbgkhdcidbkaaaGreatDoor.Y
def aO:List UInt8→Int×Nat
 | []=>(0,0)
 | a::t =>
   if a.toNat<128 then (a.toNat,1)
   else if 194≤a.toNat∧a.toNat<224 then (match t with
     | b::_=>if 128≤b.toNat∧b.toNat≤191 then (64*((a.toNat:Int)-192)+b.toNat-128,2) else (0,0)
     | _=>(0,0))
   else if 224≤a.toNat∧a.toNat<240 then (match t with
     | b :: c :: _ => if (128 ≤ b.toNat ∧ b.toNat ≤ 191) ∧ (128 ≤ c.toNat ∧ c.toNat ≤ 191) then
         let r:Int:=64*(64*((a.toNat:Int)-224)+b.toNat-128)+c.toNat-128
         if r<2048∨(55296≤r∧r≤57343) then (0,0) else (r,3)
       else (0,0)
     | _=>(0,0))
   else if 240≤a.toNat∧a.toNat<245 then (match t with
     | b :: c :: d :: _ => if (128 ≤ b.toNat ∧ b.toNat ≤ 191) ∧ (128 ≤ c.toNat ∧ c.toNat ≤ 191) ∧ (128 ≤ d.toNat ∧ d.toNat ≤ 191) then
         let r:Int:=64*(64*(64*((a.toNat:Int)-240)+b.toNat-128)+c.toNat-128)+d.toNat-128
         if r<65536∨1114111<r then (0,0) else (r,4)
       else (0,0)
     | _=>(0,0))
   else (0,0)
theorem nk {s:List UInt8}{q:Int×Int×Int×Unit}{x:Int}{i:Nat}{b:UInt8} (hi:(i:Int)<q.2.1) (hi4:i≤4) (h:s[i]? = some b) (hx:0≤x) (hx2:x≤100000000) :
   f9 s q (x,(i:Int),())=if 128≤b.toNat∧b.toNat≤191 then some (.inl (64*x+b.toNat-128,((i+1:Nat):Int),())) else some (.inr (.inr (0,0,()))):=by
 have hb:b.toNat<256:=b.toNat_lt
 simp only[f9,bN,h,zb,ac,zp hi]
 rw[wrap64 (n:=64*x) (by omega) (by omega),wrap64 (n:=(b.toNat:Int)) (by omega) (by omega),wrap64 (n:=64*x+b.toNat) (by omega) (by omega),wrap64 (n:=64*x+b.toNat-128) (by omega) (by omega),wrap64 (n:=(i:Int)+1) (by omega) (by omega)]
 by_cases h1:b.toNat<128
 · rw[zp (by omega),zn (by omega)]
 · rw[zn (by omega)]
   by_cases h2:b.toNat>191
   · rw[zp (by omega),zn (by omega)]
   · rw[zn (by omega),zp (by omega)]; rfl
theorem aaA {s:List UInt8}{q:Int×Int×Int×Unit}{x:Int}{i:Nat} (hi:¬ (i:Int)<q.2.1):f9 s q (x,(i:Int),())=some (.inr (.inl (x,()))):=by
 simp only[f9,ac,zn hi]
theorem ad6 {a b:UInt8}{t:List UInt8}{l:Int}{c x:Int} (hx:0≤x) (hx2:x≤1000) :
   aJ (f9 (a::b::t) (c,2,l,())) (x,1,())=if 128≤b.toNat∧b.toNat≤191 then some (.inl (64*x+b.toNat-128,())) else some (.inr (0,0,())):=by
 have h:=nk (s:=a::b::t) (q:=(c,2,l,())) (i:=1) (b:=b) (x:=x) (by simp) (by omega) rfl hx (by omega)
 by_cases hb:128≤b.toNat∧b.toNat≤191
 · rw[zp hb] at h ⊢
   exact (aD h).trans (aw (aaA (by simp)))
 · rw[zn hb] at h ⊢
   exact aw h
theorem ad5 {a b d:UInt8}{t:List UInt8}{l:Int}{c x:Int} (hx:0≤x) (hx2:x≤1000) :
   aJ (f9 (a::b::d::t) (c,3,l,())) (x,1,())=if (128≤b.toNat∧b.toNat≤191)∧(128≤d.toNat∧d.toNat≤191) then some (.inl (64*(64*x+b.toNat-128)+d.toNat-128,())) else some (.inr (0,0,())):=by
 have hb':=b.toNat_lt
 have h:=nk (s:=a::b::d::t) (q:=(c,3,l,())) (i:=1) (b:=b) (x:=x) (by simp) (by omega) rfl hx (by omega)
 by_cases hb:128≤b.toNat∧b.toNat≤191
 · rw[zp hb] at h
   have h2:=nk (s:=a::b::d::t) (q:=(c,3,l,())) (i:=2) (b:=d) (x:=64*x+b.toNat-128) (by simp) (by omega) rfl (by omega) (by omega)
   by_cases hd:128≤d.toNat∧d.toNat≤191
   · rw[zp hd] at h2
     rw[zp ⟨hb,hd⟩]
     exact ((aD h).trans (aD h2)).trans (aw (aaA (by simp)))
   · rw[zn hd] at h2
     rw[zn (fun e=>hd e.2)]
     exact (aD h).trans (aw h2)
 · rw[zn hb] at h
   rw[zn (fun e=>hb e.1)]
   exact aw h
theorem ad4 {a b d e:UInt8}{t:List UInt8}{l:Int}{c x:Int} (hx:0≤x) (hx2:x≤1000) :
   aJ (f9 (a::b::d::e::t) (c,4,l,())) (x,1,())=if (128≤b.toNat∧b.toNat≤191)∧(128≤d.toNat∧d.toNat≤191)∧(128≤e.toNat∧e.toNat≤191) then some (.inl (64*(64*(64*x+b.toNat-128)+d.toNat-128)+e.toNat-128,())) else some (.inr (0,0,())):=by
 have hb':=b.toNat_lt
 have hd':=d.toNat_lt
 have h:=nk (s:=a::b::d::e::t) (q:=(c,4,l,())) (i:=1) (b:=b) (x:=x) (by simp) (by omega) rfl hx (by omega)
 by_cases hb:128≤b.toNat∧b.toNat≤191
 · rw[zp hb] at h
   have h2:=nk (s:=a::b::d::e::t) (q:=(c,4,l,())) (i:=2) (b:=d) (x:=64*x+b.toNat-128) (by simp) (by omega) rfl (by omega) (by omega)
   by_cases hd:128≤d.toNat∧d.toNat≤191
   · rw[zp hd] at h2
     have h3:=nk (s:=a::b::d::e::t) (q:=(c,4,l,())) (i:=3) (b:=e) (x:=64*(64*x+b.toNat-128)+d.toNat-128) (by simp) (by omega) rfl (by omega) (by omega)
     by_cases he:128≤e.toNat∧e.toNat≤191
     · rw[zp he] at h3
       rw[zp ⟨hb,hd,he⟩]
       exact (((aD h).trans (aD h2)).trans (aD h3)).trans (aw (aaA (by simp)))
     · rw[zn he] at h3
       rw[zn (fun q=>he q.2.2)]
       exact ((aD h).trans (aD h2)).trans (aw h3)
   · rw[zn hd] at h2
     rw[zn (fun q=>hd q.2.1)]
     exact (aD h).trans (aw h2)
 · rw[zn hb] at h
   rw[zn (fun q=>hb q.1)]
   exact aw h
theorem afb (s:List UInt8):zcn s=some ((aO s).1,((aO s).2:Int),()):=by
 cases s with
 | nil=>simp[zcn,aO]
 | cons a t =>
   have ha:a.toNat<256:=a.toNat_lt
   have h0:¬ (((a::t).length:Int)=0):=by simp only[zl]; omega
   have hi:atI (a::t) 0=some a:=by simp[atI]
   unfold zcn
   simp only[ac,zn h0,hi,zb,aeC,aee,ajH]
   rw[wrap64 (n:=(a.toNat:Int)) (by omega) (by omega)]
   by_cases c1:a.toNat<128
   · rw[zp (by omega)]
     simp only[aY,aO,zp c1]; rfl
   rw[zn (by omega)]
   by_cases c2:194≤a.toNat∧a.toNat<224
   · rw[zp (by omega),wrap64 (by omega) (by omega)]
     simp only[aF]
     match t with
     | []=>simp[aO,c1,c2]
     | b::t =>
       rw[zn (by simp only[zl]; omega),ad6 (by omega) (by omega)]
       by_cases hb:128≤b.toNat∧b.toNat≤191
       · rw[zp hb]
         simp only[aF]
         rw[jM,zn (by omega)]
         simp only[aO,c1,c2,hb,if_true,if_false,and_self]; rfl
       · rw[zn hb]
         simp only[aY]
         simp[aO,c1,c2,hb]
   rw[zn (by omega)]
   by_cases c3:224≤a.toNat∧a.toNat<240
   · rw[zp (by omega),wrap64 (by omega) (by omega)]
     simp only[aF]
     match t with
     | []=>simp[aO,c1,c2,c3]
     | [b]=>simp[aO,c1,c2,c3]
     | b::c::t =>
       have hb:=b.toNat_lt
       have hc:=c.toNat_lt
       rw[zn (by simp only[zl]; omega),ad5 (by omega) (by omega)]
       by_cases hb':(128≤b.toNat∧b.toNat≤191)∧(128≤c.toNat∧c.toNat≤191)
       · rw[zp hb']
         simp only[aF]
         rw[jM]
         simp only[aO,c1,c2,c3,hb',if_true,if_false,and_self]
         by_cases hr:64*(64*((a.toNat:Int)-224)+b.toNat-128)+c.toNat-128<2048∨(55296≤64*(64*((a.toNat:Int)-224)+b.toNat-128)+c.toNat-128∧64*(64*((a.toNat:Int)-224)+b.toNat-128)+c.toNat-128≤57343)
         · rw[zp (by omega),zp hr]; rfl
         · rw[zn (by omega),zn hr]; rfl
       · rw[zn hb']
         simp only[aY]
         simp[aO,c1,c2,c3,hb']
   rw[zn (by omega)]
   by_cases c4:240≤a.toNat∧a.toNat<245
   · rw[zp (by omega),wrap64 (by omega) (by omega)]
     simp only[aF]
     match t with
     | []=>simp[aO,c1,c2,c3,c4]
     | [b]=>simp[aO,c1,c2,c3,c4]
     | [b,c]=>simp[aO,c1,c2,c3,c4]
     | b::c::d::t =>
       have hb:=b.toNat_lt
       have hc:=c.toNat_lt
       have hd:=d.toNat_lt
       rw[zn (by simp only[zl]; omega),ad4 (by omega) (by omega)]
       by_cases hb':(128≤b.toNat∧b.toNat≤191)∧(128≤c.toNat∧c.toNat≤191)∧(128≤d.toNat∧d.toNat≤191)
       · rw[zp hb']
         simp only[aF]
         rw[jM]
         simp only[aO,c1,c2,c3,c4,hb',if_true,if_false,and_self]
         by_cases hr:64*(64*(64*((a.toNat:Int)-240)+b.toNat-128)+c.toNat-128)+d.toNat-128<65536∨1114111<64*(64*(64*((a.toNat:Int)-240)+b.toNat-128)+c.toNat-128)+d.toNat-128
         · rw[zp (by omega),zp hr]; rfl
         · rw[zn (by omega),zn hr]; rfl
       · rw[zn hb']
         simp only[aY]
         simp[aO,c1,c2,c3,c4,hb']
   rw[zn (by omega)]
   simp only[aY]
   simp[aO,c1,c2,c3,c4]
theorem kD (s:List UInt8):(aO s).2≤s.length:=by
 unfold aO
 repeat' split
 all_goals (try simp only[])
 all_goals (try split)
 all_goals (try simp only[zl])
 all_goals omega
theorem sh (s:List UInt8):0≤(aO s).1∧(aO s).1≤1114111:=by
 unfold aO
 repeat' split
 all_goals (try simp only[])
 all_goals (try split)
 all_goals (try simp only[])
 all_goals omega
def bh (s:List UInt8):Option (List Int) :=
 if h:s=[] then some []
 else if h0:(aO s).2=0 then none
 else (bh (s.drop (aO s).2)).map fun l=>(aO s).1::l
termination_by s.length
decreasing_by
 have:s.length≠0:=fun e=>h (List.eq_nil_of_length_eq_zero e)
 simp only[List.length_drop]; omega
theorem bV:bh []=some []:=by rw[bh,dif_pos rfl]
theorem cR {s:List UInt8} (h:s≠[]) (h0:(aO s).2=0):bh s=none:=by rw[bh,dif_neg h,dif_pos h0]
theorem cw {s:List UInt8} (h:s≠[]) (h0:(aO s).2≠0):bh s=(bh (s.drop (aO s).2)).map fun l=>(aO s).1::l:=by rw[bh,dif_neg h,dif_neg h0]
def fc (s:List UInt8) (out:List Int):List Int×Bool×Unit :=
 match bh s with
 | some m=>(out++m,true,())
 | none=>([],false,())
theorem xe {s:List UInt8} (hs:s.length<4294967296):∀ (k i:Nat) (l:List Int),s.length-i≤k→i≤s.length→l.length≤i→aJ (mZ s) ((i:Int),l,())=some (fc (s.drop i) l):=by
 intro k
 have fin:∀ (i:Nat) (l:List Int),¬ i<s.length→aJ (mZ s) ((i:Int),l,())=some (fc (s.drop i) l):=by
   intro i l hi
   rw[List.drop_eq_nil_of_le (by omega),aw (x:=(l,true,())) (by simp only[mZ,ac]; rw[zn (by omega)])]
   simp[fc,bV]
 induction k with
 | zero=>intro i l hk hi hl; exact fin i l (by omega)
 | succ k ih =>
   intro i l hk hi hl
   by_cases hlt:i<s.length
   · have hne:s.drop i≠[]:=fun e=>by have:=congrArg List.length e; simp at this; omega
     have hle:=kD (s.drop i)
     simp only[List.length_drop] at hle
     by_cases h0:(aO (s.drop i)).2=0
     · rw[aw (x:=([],false,()))]
       · simp only[fc,cR hne h0]
       · simp only[mZ,ac]
         rw[zp (by omega),ga (by omega)]
         simp only[zb,afb]
         rw[zp (by omega)]
     · rw[aD (b:=(((i+(aO (s.drop i)).2:Nat):Int),l++[(aO (s.drop i)).1],()))]
       · rw[ih _ _ (by omega) (by omega) (by simp; omega)]
         simp only[fc,cw hne h0,List.drop_drop]
         cases bh (s.drop (i+(aO (s.drop i)).2))<;>simp
       · simp only[mZ,ac]
         rw[zp (by omega),ga (by omega)]
         simp only[zb,afb]
         rw[zn (by omega),cr (by simp; omega)]
         simp only[zb]
         rw[wrap64 (by omega) (by omega)]
         simp
   · exact fin i l hlt
theorem sY {s:List UInt8} (hs:s.length<4294967296):zb4 s=some (fc s []):=by
 have:=xe hs s.length 0 [] (by omega) (by omega) (by simp)
 simpa [zb4] using this
theorem wrapN {n:Nat} (h:n<18446744073709551616):IntKind.wrap .u64 (n:Int)=n:=ajd (by omega) (by omega)
theorem or64 {a b:Nat} (ha:a<18446744073709551616) (hb:b<18446744073709551616):IntKind.wrap .u64 ((BitVec.ofInt (IntKind.bits .u64) (a:Int) ||| BitVec.ofInt (IntKind.bits .u64) (b:Int)).toNat:Nat)=((a ||| b:Nat):Int):=by
 have h1:(BitVec.ofInt 64 (a:Int) ||| BitVec.ofInt 64 (b:Int)).toNat=a ||| b:=by
   rw[BitVec.toNat_or,BitVec.ofInt_natCast,BitVec.ofInt_natCast,BitVec.toNat_ofNat,BitVec.toNat_ofNat,Nat.mod_eq_of_lt (by omega),Nat.mod_eq_of_lt (by omega)]
 have h2:a ||| b<2 ^ 64:=Nat.or_lt_two_pow (by omega) (by omega)
 have e:IntKind.bits .u64=64:=rfl
 rw[e,h1,wrapN (by omega)]
theorem akj {a b:Nat} (ha:a<18446744073709551616) (hb:b<18446744073709551616):IntKind.wrap .u64 ((BitVec.ofInt (IntKind.bits .u64) (a:Int) &&& BitVec.ofInt (IntKind.bits .u64) (b:Int)).toNat:Nat)=((a &&& b:Nat):Int):=by
 have h1:(BitVec.ofInt 64 (a:Int) &&& BitVec.ofInt 64 (b:Int)).toNat=a &&& b:=by
   rw[BitVec.toNat_and,BitVec.ofInt_natCast,BitVec.ofInt_natCast,BitVec.toNat_ofNat,BitVec.toNat_ofNat,Nat.mod_eq_of_lt (by omega),Nat.mod_eq_of_lt (by omega)]
 have h2:a &&& b<2 ^ 64:=Nat.and_lt_two_pow _ (by omega)
 have e:IntKind.bits .u64=64:=rfl
 rw[e,h1,wrapN (by omega)]
theorem aqm {k:Nat} (hk:k≤56):2 ^ k≤2 ^ 56:=Nat.pow_le_pow_right (by omega) hk
theorem p9 {a k:Nat} (ha:a<256) (hk:k≤56):a*2 ^ k<18446744073709551616:=by
 calc a*2 ^ k≤255*2 ^ 56:=Nat.mul_le_mul (by omega) (aqm hk)
   _<18446744073709551616:=by decide
theorem sW {a:Nat} (k:Nat) {n:Int} (hn:n=(k:Int)) (ha:a<256) (hk:k≤56):shlT .u64 (IntKind.wrap .u64 (a:Int)) n=some ((a*2 ^ k:Nat):Int):=by
 subst hn
 rw[wrapN (by omega)]
 have hmin:min ((k:Int).toNat) (IntKind.bits .u64)=k:=by simp[IntKind.bits]; omega
 unfold shlT
 rw[zn (by omega),hmin]
 have:((a:Int)*2 ^ k)=((a*2 ^ k:Nat):Int):=by push_cast; rfl
 rw[this,wrapN (p9 ha hk)]
def wV (a b c d e f g h:Nat):Nat:=a ||| b*2 ^ 8 ||| c*2 ^ 16 ||| d*2 ^ 24 ||| e*2 ^ 32 ||| f*2 ^ 40 ||| g*2 ^ 48 ||| h*2 ^ 56
theorem orlt {a b:Nat} (ha:a<18446744073709551616) (hb:b<18446744073709551616):a ||| b<18446744073709551616:=Nat.or_lt_two_pow (n:=64) ha hb
theorem aqc (a b c d e f g h:UInt8) (t:List UInt8):za0 (a::b::c::d::e::f::g::h::t)=some ((wV a.toNat b.toNat c.toNat d.toNat e.toNat f.toNat g.toNat h.toNat:Nat):Int):=by
 have ha:=a.toNat_lt; have hb:=b.toNat_lt; have hc:=c.toNat_lt; have hd:=d.toNat_lt; have he:=e.toNat_lt; have hf:=f.toNat_lt; have hg:=g.toNat_lt; have hh:=h.toNat_lt
 have z:∀ {x:UInt8}{k:Nat},k≤56→x.toNat*2 ^ k<18446744073709551616:=fun hk=>p9 (UInt8.toNat_lt _) hk
 have w0:a.toNat<18446744073709551616:=by omega
 have w1:=orlt w0 (z (x:=b) (k:=8) (by omega))
 have w2:=orlt w1 (z (x:=c) (k:=16) (by omega))
 have w3:=orlt w2 (z (x:=d) (k:=24) (by omega))
 have w4:=orlt w3 (z (x:=e) (k:=32) (by omega))
 have w5:=orlt w4 (z (x:=f) (k:=40) (by omega))
 have w6:=orlt w5 (z (x:=g) (k:=48) (by omega))
 unfold za0
 have i:∀ (n:Nat) (x:UInt8),(a::b::c::d::e::f::g::h::t)[n]? = some x→atI (a::b::c::d::e::f::g::h::t) (n:Int)=some x:=fun n x hx=>by rw[bN]; exact hx
 have i0:=i 0 a rfl; have i1:=i 1 b rfl; have i2:=i 2 c rfl; have i3:=i 3 d rfl; have i4:=i 4 e rfl; have i5:=i 5 f rfl; have i6:=i 6 g rfl; have i7:=i 7 h rfl
 simp only[Int.natCast_zero,Int.natCast_one,Int.cast_ofNat_Int] at i0 i1 i2 i3 i4 i5 i6 i7
 simp only[i0,i1,i2,i3,i4,i5,i6,i7,zb,sW (n:=8) 8 rfl (UInt8.toNat_lt b) (by omega),sW (n:=16) 16 rfl (UInt8.toNat_lt c) (by omega),sW (n:=24) 24 rfl (UInt8.toNat_lt d) (by omega),sW (n:=32) 32 rfl (UInt8.toNat_lt e) (by omega),sW (n:=40) 40 rfl (UInt8.toNat_lt f) (by omega),sW (n:=48) 48 rfl (UInt8.toNat_lt g) (by omega),sW (n:=56) 56 rfl (UInt8.toNat_lt h) (by omega)]
 rw[wrapN w0,or64 w0 (z (by omega)),or64 w1 (z (by omega)),or64 w2 (z (by omega)),or64 w3 (z (by omega)),or64 w4 (z (by omega)),or64 w5 (z (by omega)),or64 w6 (z (by omega))]
 rfl
def mQ:Nat:=9259542123273814144
theorem aez {x k:Nat} (h:128≤x) (h2:x<256):Nat.testBit (x*2 ^ k) (k+7)=true:=by
 rw[Nat.testBit_mul_two_pow]
 have:x.testBit 7=true:=by
   rw[Nat.testBit_eq_decide_div_mod_eq]
   simp; omega
 simp[this]
theorem sq {a b i:Nat} (h:a &&& b=0) (hb:Nat.testBit b i=true):Nat.testBit a i=false:=by
 have:Nat.testBit (a &&& b) i=false:=by rw[h]; simp
 rw[Nat.testBit_and,hb,Bool.and_true] at this
 exact this
theorem wU {a b c d e f g h:Nat} (ha:a<256) (hb:b<256) (hc:c<256) (hd:d<256) (he:e<256) (hf:f<256) (hg:g<256) (hh:h<256)
   (hz:wV a b c d e f g h &&& mQ=0):a<128∧b<128∧c<128∧d<128∧e<128∧f<128∧g<128∧h<128:=by
 have key:∀ k,Nat.testBit mQ (k+7)=true→Nat.testBit (wV a b c d e f g h) (k+7)=false:=fun k hk=>sq hz hk
 have k0:=key 0 (by decide)
 have k1:=key 8 (by decide)
 have k2:=key 16 (by decide)
 have k3:=key 24 (by decide)
 have k4:=key 32 (by decide)
 have k5:=key 40 (by decide)
 have k6:=key 48 (by decide)
 have k7:=key 56 (by decide)
 simp only[wV,Nat.testBit_or,Bool.or_eq_false_iff] at k0 k1 k2 k3 k4 k5 k6 k7
 have no:∀ x k,x<256→Nat.testBit (x*2 ^ k) (k+7)=false→x<128:=by
   intro x k hx hk
   rcases Nat.lt_or_ge x 128 with h | h
   · exact h
   · rw[aez h hx] at hk; cases hk
 have n0:a<128:=no a 0 ha (by simpa using k0.1.1.1.1.1.1.1)
 exact ⟨n0,no b 8 hb k1.1.1.1.1.1.1.2,no c 16 hc k2.1.1.1.1.1.2,no d 24 hd k3.1.1.1.1.2,no e 32 he k4.1.1.1.2,no f 40 hf k5.1.1.2,no g 48 hg k6.1.2,no h 56 hh k7.2⟩
theorem kP {s:List UInt8} (hs:8≤s.length):∃ W:Nat,W<18446744073709551616∧za0 s=some (W:Int)∧(W &&& mQ=0→∀ b∈s.take 8,b.toNat<128):=by
 match s,hs with
 | a::b::c::d::e::f::g::h::t,_ =>
   have ha:=a.toNat_lt; have hb:=b.toNat_lt; have hc:=c.toNat_lt; have hd:=d.toNat_lt; have he:=e.toNat_lt; have hf:=f.toNat_lt; have hg:=g.toNat_lt; have hh:=h.toNat_lt
   have z:∀ {x:UInt8}{k:Nat},k≤56→x.toNat*2 ^ k<18446744073709551616:=fun hk=>p9 (UInt8.toNat_lt _) hk
   refine ⟨wV a.toNat b.toNat c.toNat d.toNat e.toNat f.toNat g.toNat h.toNat,?_,aqc a b c d e f g h t,fun hz x hx => ?_⟩
   · unfold wV
     exact orlt (orlt (orlt (orlt (orlt (orlt (orlt (by omega) (z (by omega))) (z (by omega))) (z (by omega))) (z (by omega))) (z (by omega))) (z (by omega))) (z (by omega))
   · have:=wU (by omega) (by omega) (by omega) (by omega) (by omega) (by omega) (by omega) (by omega) hz
     simp only[List.take_succ_cons,List.take_zero,List.mem_cons,List.mem_nil_iff,or_false] at hx
     rcases hx with rfl | rfl | rfl | rfl | rfl | rfl | rfl | rfl<;>omega
def cI (s:List UInt8):Bool:=(bh s).isSome
theorem qx:cI []=true:=by unfold cI; rw[bV]; rfl
theorem nj {s:List UInt8} (hne:s≠[]):cI s=(if (aO s).2=0 then false else cI (s.drop (aO s).2)):=by
 unfold cI
 split
 · rename_i h; rw[cR hne h]; rfl
 · rename_i h; rw[cw hne h]; cases bh (s.drop (aO s).2)<;>rfl
theorem eg:∀ (n:Nat) (s:List UInt8),n≤s.length→(∀ b∈s.take n,b.toNat<128)→cI s=cI (s.drop n)
 | 0,s,_,_=>rfl
 | n+1,[],h,_=>by simp at h
 | n+1,a::t,h,hb=>by
   have h1:a.toNat<128:=hb a (by simp)
   have hc:aO (a::t)=((a.toNat:Int),1):=by simp only[aO,zp h1]
   rw[nj (by simp),hc]
   simp only[Nat.one_ne_zero,if_false,List.drop_succ_cons,List.drop_zero]
   exact eg n t (by simpa using h) (fun b hm=>hb b (by simp[hm]))
theorem lL:(9259542123273814144:Int)=((mQ:Nat):Int):=rfl
theorem pm:mQ<18446744073709551616:=by unfold mQ; omega
theorem pc {a b m:Nat} (h:(a ||| b) &&& m=0):a &&& m=0∧b &&& m=0:=by
 rw[Nat.and_or_distrib_right] at h
 exact Nat.or_eq_zero_iff.1 h
theorem iz {s:List UInt8}{n m:Nat} (h1:∀ b∈s.take n,b.toNat<128) (h2:∀ b∈(s.drop n).take m,b.toNat<128):∀ b∈s.take (n+m),b.toNat<128:=by
 intro b hb
 rw[List.take_add,List.mem_append] at hb
 exact hb.elim (h1 b) (h2 b)
theorem cY {s:List UInt8} (n:Nat) {i:Int} (hi:i=(n:Int)) (h:n≤s.length):subI s i (s.length:Int)=some (s.drop n):=by subst hi; exact ga h
theorem aqg (s:List UInt8):(32<s.length∧cI s=cI (s.drop 32)∧iv (s,())=some (.inl (s.drop 32,())))∨iv (s,())=some (.inr (.inr (.inl (s,())))):=by
 by_cases h:32<s.length
 · obtain ⟨W1,a1,b1,c1⟩:=kP (s:=s) (by omega)
   obtain ⟨W2,a2,b2,c2⟩:=kP (s:=s.drop 8) (by simp; omega)
   obtain ⟨W3,a3,b3,c3⟩:=kP (s:=s.drop 16) (by simp; omega)
   obtain ⟨W4,a4,b4,c4⟩:=kP (s:=s.drop 24) (by simp; omega)
   have run:iv (s,())=if ((((W1 ||| W2) ||| (W3 ||| W4)) &&& mQ:Nat):Int)=0 then some (.inl (s.drop 32,())) else some (.inr (.inr (.inl (s,())))):=by
     unfold iv
     simp only[ac,b1,zb,cY (i:=8) 8 rfl (show 8≤s.length by omega),b2,cY (i:=16) 16 rfl (show 16≤s.length by omega),b3,cY (i:=24) 24 rfl (show 24≤s.length by omega),b4,cY (i:=32) 32 rfl (show 32≤s.length by omega)]
     rw[zp (by omega),or64 a1 a2,or64 a3 a4,or64 (orlt a1 a2) (orlt a3 a4),lL,akj (orlt (orlt a1 a2) (orlt a3 a4)) pm]
   by_cases hz:((W1 ||| W2) ||| (W3 ||| W4)) &&& mQ=0
   · left
     rw[zp (by rw[hz]; rfl)] at run
     refine ⟨h,?_,run⟩
     obtain ⟨y1,y2⟩:=pc hz
     obtain ⟨z1,z2⟩:=pc y1
     obtain ⟨z3,z4⟩:=pc y2
     have t2:=iz (c1 z1) (c2 z2)
     have t3:=iz t2 (c3 z3)
     have t4:=iz t3 (c4 z4)
     exact eg 32 s (by omega) t4
   · right
     rw[zn (fun e=>hz (by exact_mod_cast e))] at run
     exact run
 · right
   unfold iv
   simp only[ac]
   rw[zn (by omega)]
theorem asB:∀ (k:Nat) (s:List UInt8),s.length≤k→∃ s',s'.length≤s.length∧cI s=cI s'∧aJ iv (s,())=some (.inr (.inl (s',()))):=by
 intro k
 induction k with
 | zero =>
   intro s hk
   rcases aqg s with ⟨h,_⟩ | h
   · omega
   · exact ⟨s,Nat.le_refl _,rfl,aw h⟩
 | succ k ih =>
   intro s hk
   rcases aqg s with ⟨h,hv,hr⟩ | h
   · obtain ⟨s',h1,h2,h3⟩:=ih (s.drop 32) (by simp; omega)
     refine ⟨s',?_,hv.trans h2,(aD hr).trans h3⟩
     simp only[List.length_drop] at h1; omega
   · exact ⟨s,Nat.le_refl _,rfl,aw h⟩
def fm (a:Nat):Int :=
 if a<128 then 240 else if a<194 then 241 else if a<224 then 2 else if a=224 then 19 else if a<237 then 3 else if a=237 then 35 else if a<240 then 3 else if a=240 then 52 else if a<244 then 4 else if a=244 then 68 else 241
theorem abZ:(List.range 256).all (fun a=>decide (gC[a]? = some (fm a)))=true:=by kernel_rfl
theorem aeo {a:Nat} (h:a<256):atI gC (a:Int)=some (fm a):=by
 rw[bN]
 have:=abZ
 rw[List.all_eq_true] at this
 exact of_decide_eq_true (this a (List.mem_range.2 h))
theorem cls2 {x:Int} (hx:x=2∨x=3∨x=19∨x=35∨x=4∨x=52∨x=68∨x=241):∃ n lo hi k,IntKind.wrap .i64 (IntKind.wrap .u8 ((BitVec.ofInt (IntKind.bits .u8) x &&& BitVec.ofInt (IntKind.bits .u8) 7).toNat))=n∧shrT .u8 x 4=some k∧atI e9 k=some (lo,hi,()) ∧
   ((x=2∧n=2∧lo=128∧hi=191)∨(x=3∧n=3∧lo=128∧hi=191)∨(x=19∧n=3∧lo=160∧hi=191)∨(x=35∧n=3∧lo=128∧hi=159)∨(x=4∧n=4∧lo=128∧hi=191)∨(x=52∧n=4∧lo=144∧hi=191)∨(x=68∧n=4∧lo=128∧hi=143)∨(x=241∧n=1)):=by
 rcases hx with rfl | rfl | rfl | rfl | rfl | rfl | rfl | rfl
 · exact ⟨2,128,191,0,by decide,by decide,by decide,.inl ⟨rfl,rfl,rfl,rfl⟩⟩
 · exact ⟨3,128,191,0,by decide,by decide,by decide,.inr (.inl ⟨rfl,rfl,rfl,rfl⟩)⟩
 · exact ⟨3,160,191,1,by decide,by decide,by decide,.inr (.inr (.inl ⟨rfl,rfl,rfl,rfl⟩))⟩
 · exact ⟨3,128,159,2,by decide,by decide,by decide,.inr (.inr (.inr (.inl ⟨rfl,rfl,rfl,rfl⟩)))⟩
 · exact ⟨4,128,191,0,by decide,by decide,by decide,.inr (.inr (.inr (.inr (.inl ⟨rfl,rfl,rfl,rfl⟩))))⟩
 · exact ⟨4,144,191,3,by decide,by decide,by decide,.inr (.inr (.inr (.inr (.inr (.inl ⟨rfl,rfl,rfl,rfl⟩)))))⟩
 · exact ⟨4,128,143,4,by decide,by decide,by decide,.inr (.inr (.inr (.inr (.inr (.inr (.inl ⟨rfl,rfl,rfl,rfl⟩))))))⟩
 · exact ⟨1,0,0,15,by decide,by decide,by decide,.inr (.inr (.inr (.inr (.inr (.inr (.inr ⟨rfl,rfl⟩))))))⟩
abbrev VR:=(List UInt8×Unit)⊕Bool
theorem at1 {a b:UInt8}{t:List UInt8}:atI (a::b::t) 1=some b:=by simp[atI]
theorem at2 {a b c:UInt8}{t:List UInt8}:atI (a::b::c::t) 2=some c:=by simp[atI]
theorem at3 {a b c d:UInt8}{t:List UInt8}:atI (a::b::c::d::t) 3=some d:=by simp[atI]
theorem sub2 {a b:UInt8}{t:List UInt8}:subI (a::b::t) 2 ((a::b::t).length:Int)=some t:=cY (i:=2) 2 rfl (by simp)
theorem sub3 {a b c:UInt8}{t:List UInt8}:subI (a::b::c::t) 3 ((a::b::c::t).length:Int)=some t:=cY (i:=3) 3 rfl (by simp)
theorem sub4 {a b c d:UInt8}{t:List UInt8}:subI (a::b::c::d::t) 4 ((a::b::c::d::t).length:Int)=some t:=cY (i:=4) 4 rfl (by simp)
def iC (n lo hi:Int) (s:List UInt8):VR :=
 if n=2 then (match s with
   | _::b::t=>if lo≤(b.toNat:Int)∧(b.toNat:Int)≤hi then .inl (t,()) else .inr false
   | _=>.inr false)
 else if n=3 then (match s with
   | _::b::c::t=>if (lo≤(b.toNat:Int)∧(b.toNat:Int)≤hi)∧(128≤c.toNat∧c.toNat≤191) then .inl (t,()) else .inr false
   | _=>.inr false)
 else if n=4 then (match s with
   | _::b::c::d::t=>if (lo≤(b.toNat:Int)∧(b.toNat:Int)≤hi)∧(128≤c.toNat∧c.toNat≤191)∧(128≤d.toNat∧d.toNat≤191) then .inl (t,()) else .inr false
   | _=>.inr false)
 else .inr false
set_option maxHeartbeats 1000000 in
theorem w7 {a:UInt8}{t:List UInt8}{x n lo hi k:Int} (ha:128≤a.toNat) (hx:fm a.toNat=x)
   (hn:IntKind.wrap .i64 (IntKind.wrap .u8 ((BitVec.ofInt (IntKind.bits .u8) x &&& BitVec.ofInt (IntKind.bits .u8) 7).toNat))=n) (hk:shrT .u8 x 4=some k) (hr:atI e9 k=some (lo,hi,())) :
   iw (a::t,())=some (iC n lo hi (a::t)):=by
 have hl:((a::t).length:Int)>0:=by simp only[zl]; omega
 have hi0:atI (a::t) 0=some a:=by simp[atI]
 have h128:¬ (a.toNat:Int)<128:=by omega
 have hf:=aeo (a:=a.toNat) a.toNat_lt
 rw[hx] at hf
 unfold iw
 generalize gC=T at hf ⊢
 generalize e9=TA at hr ⊢
 simp only[ac,zp hl,hi0,zb,zn h128,aF,aW]
 rw[hf,zb,hk,zb,hr,zb,hn]
 clear hn hk hf hr hx
 unfold iC
 by_cases h2:n=2
 · simp only[zp h2]
   match t with
   | []=>simp
   | b::t =>
     rw[zn (by simp only[zl]; omega)]
     simp only[at1,zb,sub2]
     by_cases c1:(b.toNat:Int)<lo
     · rw[zp c1,zn (by omega)]
     · rw[zn c1]
       by_cases c2:hi<(b.toNat:Int)
       · rw[zp c2,zn (by omega)]
       · rw[zn c2,zp (by omega)]
 simp only[zn h2]
 by_cases h3:n=3
 · simp only[zp h3]
   match t with
   | []=>simp
   | [b]=>simp
   | b::c::t =>
     rw[zn (by simp only[zl]; omega)]
     simp only[at1,at2,zb,sub3,ac]
     by_cases c1:(b.toNat:Int)<lo
     · rw[zp c1,zn (by omega)]
     · rw[zn c1]
       by_cases c2:hi<(b.toNat:Int)
       · rw[zp c2,zn (by omega)]
       · rw[zn c2]
         by_cases c3:(c.toNat:Int)<128
         · rw[zp c3,zn (by omega)]
         · rw[zn c3]
           by_cases c4:191<(c.toNat:Int)
           · rw[zp c4,zn (by omega)]
           · rw[zn c4,zp (by omega)]
 simp only[zn h3]
 by_cases h4:n=4
 · simp only[zp h4]
   match t with
   | []=>simp
   | [b]=>simp
   | [b,c]=>simp
   | b::c::d::t =>
     rw[zn (by simp only[zl]; omega)]
     simp only[at1,at2,at3,zb,sub4,ac]
     by_cases c1:(b.toNat:Int)<lo
     · simp only[zp c1,zb,cond_true]
       rw[zn (by omega)]
     · simp only[zn c1,zb,ac]
       by_cases c2:hi<(b.toNat:Int)
       · simp only[zp c2,zb,cond_true]
         rw[zn (by omega)]
       · simp only[zn c2,zb,ac]
         by_cases c3:(c.toNat:Int)<128
         · simp only[zp c3]
           rw[zn (by omega)]
         · simp only[zn c3]
           by_cases c4:191<(c.toNat:Int)
           · rw[zp c4,zn (by omega)]
           · rw[zn c4]
             by_cases c5:(d.toNat:Int)<128
             · rw[zp c5,zn (by omega)]
             · rw[zn c5]
               by_cases c6:191<(d.toNat:Int)
               · rw[zp c6,zn (by omega)]
               · rw[zn c6,zp (by omega)]
 simp only[zn h4]
theorem xR {a:Nat} (h:128≤a) (h2:a<256):(fm a=2∧194≤a∧a<224)∨(fm a=3∧225≤a∧a<240∧a≠237)∨(fm a=19∧a=224)∨(fm a=35∧a=237)∨(fm a=4∧241≤a∧a<244)∨(fm a=52∧a=240)∨(fm a=68∧a=244)∨(fm a=241∧(a<194∨245≤a)):=by
 unfold fm
 repeat' split
 all_goals omega
theorem three {a:UInt8}{t:List UInt8}{n lo hi:Int} (c1:¬ a.toNat<128) (k:n=3) (h:224≤a.toNat∧a.toNat<240)
   (hr:∀ b c:Int,128≤b∧b≤191→128≤c∧c≤191→((lo≤b∧b≤hi)↔¬ (64*(64*((a.toNat:Int)-224)+b-128)+c-128<2048∨(55296≤64*(64*((a.toNat:Int)-224)+b-128)+c-128∧64*(64*((a.toNat:Int)-224)+b-128)+c-128≤57343)))) (hlo:128≤lo:=by omega) (hhi:hi≤191:=by omega) :
   iC n lo hi (a::t)=if (aO (a::t)).2=0 then .inr false else .inl ((a::t).drop (aO (a::t)).2,()):=by
 subst k
 have d2:¬ (194≤a.toNat∧a.toNat<224):=by omega
 match t with
 | []=>simp[iC,aO,c1,d2,h]
 | [b]=>simp[iC,aO,c1,d2,h]
 | b::c::t =>
   simp only[iC,aO,zn c1,zn d2,zp h,if_true,show ¬ (3:Int)=2 by omega,if_false]
   by_cases hb:(128≤b.toNat∧b.toNat≤191)∧(128≤c.toNat∧c.toNat≤191)
   · have:=hr b.toNat c.toNat (by omega) (by omega)
     rw[zp hb]
     by_cases hq:lo≤(b.toNat:Int)∧(b.toNat:Int)≤hi
     · rw[zp ⟨hq,hb.2⟩,zn (this.1 hq)]; rfl
     · rw[zn (fun e=>hq e.1),zp (Classical.not_not.1 (fun e=>hq (this.2 e)))]; rfl
   · rw[zn hb,zn (by omega)]; rfl
theorem four {a:UInt8}{t:List UInt8}{n lo hi:Int} (c1:¬ a.toNat<128) (k:n=4) (h:240≤a.toNat∧a.toNat<245)
   (hr:∀ b c d:Int,128≤b∧b≤191→128≤c∧c≤191∧128≤d∧d≤191→((lo≤b∧b≤hi)↔¬ (64*(64*(64*((a.toNat:Int)-240)+b-128)+c-128)+d-128<65536∨1114111<64*(64*(64*((a.toNat:Int)-240)+b-128)+c-128)+d-128))) (hlo:128≤lo:=by omega) (hhi:hi≤191:=by omega) :
   iC n lo hi (a::t)=if (aO (a::t)).2=0 then .inr false else .inl ((a::t).drop (aO (a::t)).2,()):=by
 subst k
 have d2:¬ (194≤a.toNat∧a.toNat<224):=by omega
 have d3:¬ (224≤a.toNat∧a.toNat<240):=by omega
 match t with
 | []=>simp[iC,aO,c1,d2,d3,h]
 | [b]=>simp[iC,aO,c1,d2,d3,h]
 | [b,c]=>simp[iC,aO,c1,d2,d3,h]
 | b::c::d::t =>
   simp only[iC,aO,zn c1,zn d2,zn d3,zp h,if_true,show ¬ (4:Int)=2 by omega,show ¬ (4:Int)=3 by omega,if_false]
   by_cases hb:(128≤b.toNat∧b.toNat≤191)∧(128≤c.toNat∧c.toNat≤191)∧(128≤d.toNat∧d.toNat≤191)
   · have:=hr b.toNat c.toNat d.toNat (by omega) (by omega)
     rw[zp hb]
     by_cases hq:lo≤(b.toNat:Int)∧(b.toNat:Int)≤hi
     · rw[zp ⟨hq,hb.2⟩,zn (this.1 hq)]; rfl
     · rw[zn (fun e=>hq e.1),zp (Classical.not_not.1 (fun e=>hq (this.2 e)))]; rfl
   · rw[zn hb,zn (by omega)]; rfl
theorem adw {a:UInt8}{t:List UInt8} (ha:128≤a.toNat):iw (a::t,())=some (if (aO (a::t)).2=0 then .inr false else .inl ((a::t).drop (aO (a::t)).2,())):=by
 have hlt:=a.toNat_lt
 have hc:=xR ha hlt
 obtain ⟨n,lo,hi,k,g1,g2,g2',g3⟩:=cls2 (x:=fm a.toNat) (by omega)
 rw[w7 ha rfl g1 g2 g2']
 congr 1
 have c1:¬ a.toNat<128:=by omega
 rcases hc with ⟨e,k1,k2⟩ | ⟨e,k1,k2,k3⟩ | ⟨e,k1⟩ | ⟨e,k1⟩ | ⟨e,k1,k2⟩ | ⟨e,k1⟩ | ⟨e,k1⟩ | ⟨e,k1⟩
 · have:n=2∧lo=128∧hi=191:=by omega
   obtain ⟨rfl,rfl,rfl⟩:=this
   match t with
   | []=>simp[iC,aO,c1,k1,k2]
   | b::t =>
     simp only[iC,aO,zn c1,zp (And.intro k1 k2),if_true]
     by_cases hb:128≤b.toNat∧b.toNat≤191
     · rw[zp (by omega),zp hb]; rfl
     · rw[zn (by omega),zn hb]; rfl
 · exact three (lo:=lo) (hi:=hi) (n:=n) c1 (by omega) (by omega) (by intro b c h1 h2; omega)
 · exact three (lo:=lo) (hi:=hi) (n:=n) c1 (by omega) (by omega) (by intro b c h1 h2; omega)
 · exact three (lo:=lo) (hi:=hi) (n:=n) c1 (by omega) (by omega) (by intro b c h1 h2; omega)
 · exact four (lo:=lo) (hi:=hi) (n:=n) c1 (by omega) (by omega) (by intro b c d h1 h2; omega)
 · exact four (lo:=lo) (hi:=hi) (n:=n) c1 (by omega) (by omega) (by intro b c d h1 h2; omega)
 · exact four (lo:=lo) (hi:=hi) (n:=n) c1 (by omega) (by omega) (by intro b c d h1 h2; omega)
 · have hn:n=1:=by omega
   subst hn
   have d2:¬ (194≤a.toNat∧a.toNat<224):=by omega
   have d3:¬ (224≤a.toNat∧a.toNat<240):=by omega
   have d4:¬ (240≤a.toNat∧a.toNat<245):=by omega
   simp[iC,aO,c1,d2,d3,d4]
def decN (l:List UInt8):Nat×Nat:=if (aO l).2=0 then (65533,1) else ((aO l).1.toNat,(aO l).2)
theorem get_at {s:List UInt8}{i:Nat}{b:UInt8} (h:s[i]? = some b):(⟨s.toArray⟩:ByteArray).get! i=b:=by
 have:(⟨s.toArray⟩:ByteArray).get! i=s.toArray[i]! := rfl
 rw[this]
 simp[h]
theorem aj5 {s:List UInt8}{i:Nat} (h:s.length≤i):decide (i<(⟨s.toArray⟩:ByteArray).size)=false:=by
 have:(⟨s.toArray⟩:ByteArray).size=s.length:=by simp[ByteArray.size]
 rw[this]; simp; omega
theorem aex {s:List UInt8}{i:Nat} (h:i<s.length):decide (i<(⟨s.toArray⟩:ByteArray).size)=true:=by
 have:(⟨s.toArray⟩:ByteArray).size=s.length:=by simp[ByteArray.size]
 rw[this]; simp; omega
theorem drop_at {s t:List UInt8}{i k:Nat}{b:UInt8} (h:s.drop i=t) (hb:t[k]? = some b):s[i+k]? = some b:=by
 rw[← h,List.getElem?_drop] at hb; exact hb
theorem aes {s t:List UInt8}{i:Nat} (h:s.drop i=t) (hi:i≤s.length):s.length=i+t.length:=by
 rw[← h,List.length_drop]; omega
def decV (b0:Nat) (b1 b2 b3:Option Nat):Nat×Nat :=
 let cont (b:Option Nat):Bool:=match b with
   | some b=>b/64==2
   | none=>false
 if b0<0x80 then (b0,1)
 else if b0/32==6&&cont b1 then
   let c:=(b0%32)*64+b1.getD 0%64
   if c≥0x80 then (c,2) else (65533,1)
 else if b0/16==14&&cont b1&&cont b2 then
   let c:=(b0%16)*4096+(b1.getD 0%64)*64+b2.getD 0%64
   if c≥0x800&&Utf8.valid c then (c,3) else (65533,1)
 else if b0/8==30&&cont b1&&cont b2&&cont b3 then
   let c:=(b0%8)*262144+(b1.getD 0%64)*4096+(b2.getD 0%64)*64+b3.getD 0%64
   if c≥0x10000&&Utf8.valid c then (c,4) else (65533,1)
 else (65533,1)
theorem aeu {s t:List UInt8}{i:Nat}{a:UInt8} (h:s.drop i=a::t) (hi:i≤s.length):Utf8.decode ⟨s.toArray⟩ i=decV a.toNat (t[0]?.map (·.toNat)) (t[1]?.map (·.toNat)) (t[2]?.map (·.toNat)):=by
 have hlen:=aes h hi
 have g0:(⟨s.toArray⟩:ByteArray).get! (i+0)=a:=get_at (drop_at h rfl)
 have gk:∀ k b,t[k]? = some b→(⟨s.toArray⟩:ByteArray).get! (i+(k+1))=b:=fun k b hb=>get_at (drop_at h (by simpa using hb))
 have cy:∀ k b,t[k]? = some b→decide (i+(k+1)<(⟨s.toArray⟩:ByteArray).size)=true:=fun k b hb=>aex (by
   rcases Nat.lt_or_ge k t.length with h' | h'
   · simp only[zl] at hlen; omega
   · rw[List.getElem?_eq_none h'] at hb; cases hb)
 have cn:∀ k,t[k]? = none→decide (i+(k+1)<(⟨s.toArray⟩:ByteArray).size)=false:=fun k hb=>aj5 (by
   rw[List.getElem?_eq_none_iff] at hb
   simp only[zl] at hlen; omega)
 unfold Utf8.decode decV
 simp only[g0]
 have e:Utf8.runeError=65533:=rfl
 cases h1:t[0]? with
 | none =>
   have c1:=cn 0 h1
   have h2:t[1]? = none:=by rw[List.getElem?_eq_none_iff] at h1 ⊢; omega
   have h3:t[2]? = none:=by rw[List.getElem?_eq_none_iff] at h1 ⊢; omega
   simp only[Nat.zero_add] at c1
   simp[c1,h2,h3,e]
 | some b =>
   have c1:=cy 0 b h1
   have d1:=gk 0 b h1
   simp only[Nat.zero_add] at c1 d1
   cases h2:t[1]? with
   | none =>
     have c2:=cn 1 h2
     have h3:t[2]? = none:=by rw[List.getElem?_eq_none_iff] at h2 ⊢; omega
     simp only[Nat.reduceAdd] at c2
     simp[c1,c2,d1,h3,e]
   | some c =>
     have c2:=cy 1 c h2
     have d2:=gk 1 c h2
     simp only[Nat.reduceAdd] at c2 d2
     cases h3:t[2]? with
     | none =>
       have c3:=cn 2 h3
       simp only[Nat.reduceAdd] at c3
       simp[c1,c2,c3,d1,d2,e]
     | some d =>
       have c3:=cy 2 d h3
       have d3:=gk 2 d h3
       simp only[Nat.reduceAdd] at c3 d3
       simp[c1,c2,c3,d1,d2,d3,e]
theorem ajZ {b:Nat}:(b/64==2)=decide (128≤b∧b≤191):=by
 rw[Bool.eq_iff_iff]; simp; omega
theorem aqK (a:UInt8) (t:List UInt8):decV a.toNat (t[0]?.map (·.toNat)) (t[1]?.map (·.toNat)) (t[2]?.map (·.toNat))=decN (a::t):=by
 have ha:=a.toNat_lt
 unfold decV decN
 by_cases c1:a.toNat<128
 · simp[aO,c1]
 have c1':¬ a.toNat<0x80:=c1
 simp only[zn c1']
 by_cases c2:a.toNat/32=6
 · have e2:(a.toNat/32==6)=true:=by simp[c2]
   match t with
   | [] =>
     have e3:¬ a.toNat/16=14:=by omega
     have e4:¬ a.toNat/8=30:=by omega
     have d3:¬ (224≤a.toNat∧a.toNat<240):=by omega
     have d4:¬ (240≤a.toNat∧a.toNat<245):=by omega
     simp[aO,c1,e3,e4,d3,d4]
   | b::t =>
     have hb:=b.toNat_lt
     have e3:¬ a.toNat/16=14:=by omega
     have e4:¬ a.toNat/8=30:=by omega
     have d3:¬ (224≤a.toNat∧a.toNat<240):=by omega
     have d4:¬ (240≤a.toNat∧a.toNat<245):=by omega
     simp only[List.getElem?_cons_zero,Option.map_some,e2,ajZ,Bool.true_and,Option.getD_some]
     by_cases hb':128≤b.toNat∧b.toNat≤191
     · rw[zp (by simpa using hb')]
       by_cases c3:194≤a.toNat
       · rw[zp (by omega)]
         have q:194≤a.toNat∧a.toNat<224:=by omega
         simp only[aO,zn c1,zp q,zp hb']
         rw[zn (by omega)]
         congr 1
         omega
       · rw[zn (by omega)]
         have q:¬ (194≤a.toNat∧a.toNat<224):=by omega
         simp[aO,c1,q,d3,d4]
     · rw[zn (by simpa using hb')]
       have x3:(a.toNat/16==14)=false:=by simp[e3]
       have x4:(a.toNat/8==30)=false:=by simp[e4]
       simp only[x3,x4,Bool.false_and,Bool.false_eq_true,if_false]
       by_cases c3:194≤a.toNat∧a.toNat<224
       · simp[aO,c1,c3,hb']
       · simp[aO,c1,c3,d3,d4]
 have e2:(a.toNat/32==6)=false:=by simp[c2]
 simp only[e2,Bool.false_and,Bool.false_eq_true,if_false]
 have d2:¬ (194≤a.toNat∧a.toNat<224):=by omega
 by_cases c3:a.toNat/16=14
 · have e3:(a.toNat/16==14)=true:=by simp[c3]
   have d3:(224≤a.toNat∧a.toNat<240):=by omega
   have x4:(a.toNat/8==30)=false:=by simp; omega
   simp only[e3,x4,Bool.true_and,Bool.false_and,Bool.false_eq_true,if_false]
   match t with
   | []=>simp[aO,c1,d2,d3]
   | [b]=>simp[aO,c1,d2,d3]
   | b::c::t =>
     have hb:=b.toNat_lt
     have hc:=c.toNat_lt
     simp only[List.getElem?_cons_zero,List.getElem?_cons_succ,Option.map_some,ajZ,Option.getD_some]
     by_cases hb':(128≤b.toNat∧b.toNat≤191)∧(128≤c.toNat∧c.toNat≤191)
     · rw[zp (by simp only[Bool.and_eq_true,decide_eq_true_eq]; exact hb')]
       simp only[aO,zn c1,zn d2,zp d3,zp hb']
       by_cases hr:64*(64*((a.toNat:Int)-224)+b.toNat-128)+c.toNat-128<2048∨(55296≤64*(64*((a.toNat:Int)-224)+b.toNat-128)+c.toNat-128∧64*(64*((a.toNat:Int)-224)+b.toNat-128)+c.toNat-128≤57343)
       · rw [zp hr, zn (by
           simp only[Utf8.valid,Bool.and_eq_true,Bool.or_eq_true,decide_eq_true_eq]; omega)]
         rfl
       · rw [zn hr, zp (by
           simp only[Utf8.valid,Bool.and_eq_true,Bool.or_eq_true,decide_eq_true_eq]; omega),zn (by simp)]
         congr 1
         omega
     · rw[zn (by simp only[Bool.and_eq_true,decide_eq_true_eq]; exact hb')]
       simp only[aO,zn c1,zn d2,zp d3,zn hb']
       rfl
 have e3:(a.toNat/16==14)=false:=by simp[c3]
 have d3:¬ (224≤a.toNat∧a.toNat<240):=by omega
 simp only[e3,Bool.false_and,Bool.false_eq_true,if_false]
 by_cases c4:a.toNat/8=30
 · have e4:(a.toNat/8==30)=true:=by simp[c4]
   simp only[e4,Bool.true_and]
   match t with
   | []=>simp[aO,c1,d2,d3]
   | [b]=>simp[aO,c1,d2,d3]
   | [b,c]=>simp[aO,c1,d2,d3]
   | b::c::d::t =>
     have hb:=b.toNat_lt
     have hc:=c.toNat_lt
     have hd:=d.toNat_lt
     simp only[List.getElem?_cons_zero,List.getElem?_cons_succ,Option.map_some,ajZ,Option.getD_some]
     by_cases hb':(128≤b.toNat∧b.toNat≤191)∧(128≤c.toNat∧c.toNat≤191)∧(128≤d.toNat∧d.toNat≤191)
     · rw[zp (by simp only[Bool.and_eq_true,decide_eq_true_eq]; exact ⟨⟨hb'.1,hb'.2.1⟩,hb'.2.2⟩)]
       by_cases d4:(240≤a.toNat∧a.toNat<245)
       · simp only[aO,zn c1,zn d2,zn d3,zp d4,zp hb']
         by_cases hr:64*(64*(64*((a.toNat:Int)-240)+b.toNat-128)+c.toNat-128)+d.toNat-128<65536∨1114111<64*(64*(64*((a.toNat:Int)-240)+b.toNat-128)+c.toNat-128)+d.toNat-128
         · rw [zp hr, zn (by
             simp only[Utf8.valid,Bool.and_eq_true,Bool.or_eq_true,decide_eq_true_eq]; omega)]
           rfl
         · rw [zn hr, zp (by
             simp only[Utf8.valid,Bool.and_eq_true,Bool.or_eq_true,decide_eq_true_eq]; omega),zn (by simp)]
           congr 1
           omega
       · rw [zn (by
           simp only[Utf8.valid,Bool.and_eq_true,Bool.or_eq_true,decide_eq_true_eq]; omega)]
         simp only[aO,zn c1,zn d2,zn d3,zn d4]
         rfl
     · rw[zn (by simp only[Bool.and_eq_true,decide_eq_true_eq]; exact fun e=>hb' ⟨e.1.1,e.1.2,e.2⟩)]
       by_cases d4:(240≤a.toNat∧a.toNat<245)
       · simp only[aO,zn c1,zn d2,zn d3,zp d4,zn hb']
         rfl
       · simp only[aO,zn c1,zn d2,zn d3,zn d4]
         rfl
 · have e4:(a.toNat/8==30)=false:=by simp[c4]
   have d4:¬ (240≤a.toNat∧a.toNat<245):=by omega
   simp[e4,aO,c1,d2,d3,d4]
theorem decode_N {s:List UInt8}{i:Nat} (hi:i<s.length):Utf8.decode ⟨s.toArray⟩ i=decN (s.drop i):=by
 cases h:s.drop i with
 | nil=>have:=congrArg List.length h; simp at this; omega
 | cons a t=>rw[aeu h (by omega),aqK]
noncomputable def acG (s2:List UInt8):Option ((List UInt8×Int×Unit)⊕((List UInt8×Unit)⊕Bool)) :=
 cond (decide ((s2.length:Int)>8)) ((za0 s2).bind fun r3 =>
 cond (decide ((IntKind.wrap .u64 ((BitVec.ofInt (IntKind.bits .u64) r3 &&& BitVec.ofInt (IntKind.bits .u64) 9259542123273814144).toNat))=0)) (
(subI s2 8 (s2.length:Int)).bind fun s4 =>
 cond (decide ((s4.length:Int)>16)) ((za0 s4).bind fun r5 =>
(subI s4 8 (s4.length:Int)).bind fun s6 =>
(za0 s6).bind fun r7 =>
 cond (decide ((IntKind.wrap .u64 ((BitVec.ofInt (IntKind.bits .u64) (IntKind.wrap .u64 ((BitVec.ofInt (IntKind.bits .u64) r5 ||| BitVec.ofInt (IntKind.bits .u64) r7).toNat)) &&& BitVec.ofInt (IntKind.bits .u64) 9259542123273814144).toNat))=0)) (
(subI s4 16 (s4.length:Int)).bind fun s8 =>
 aJ (iv) (s8,())) (
 some (.inr (.inl (s4,()))))) (some (.inr (.inl (s4,()))))) (
 some (.inr (.inl (s2,()))))) (some (.inr (.inl (s2,()))))
theorem akl (s4:List UInt8):∃ s',s'.length≤s4.length∧cI s4=cI s' ∧
   (cond (decide ((s4.length:Int)>16)) ((za0 s4).bind fun r5 =>
(subI s4 8 (s4.length:Int)).bind fun s6 =>
(za0 s6).bind fun r7 =>
 cond (decide ((IntKind.wrap .u64 ((BitVec.ofInt (IntKind.bits .u64) (IntKind.wrap .u64 ((BitVec.ofInt (IntKind.bits .u64) r5 ||| BitVec.ofInt (IntKind.bits .u64) r7).toNat)) &&& BitVec.ofInt (IntKind.bits .u64) 9259542123273814144).toNat))=0)) (
(subI s4 16 (s4.length:Int)).bind fun s8 =>
 aJ (iv) (s8,())) (
 some (.inr (.inl (s4,()))))) (some (.inr (.inl (s4,())))):Option ((List UInt8×Int×Unit)⊕((List UInt8×Unit)⊕Bool)))=some (.inr (.inl (s',()))):=by
 by_cases h:16<s4.length
 · obtain ⟨W1,a1,b1,c1⟩:=kP (s:=s4) (by omega)
   obtain ⟨W2,a2,b2,c2⟩:=kP (s:=s4.drop 8) (by simp; omega)
   rw[ac,zp (by omega),b1,zb,cY (i:=8) 8 rfl (show 8≤s4.length by omega),zb,b2,zb,ac,or64 a1 a2,lL,akj (orlt a1 a2) pm]
   by_cases hz:(W1 ||| W2) &&& mQ=0
   · rw[zp (by rw[hz]; rfl),cY (i:=16) 16 rfl (show 16≤s4.length by omega),zb]
     obtain ⟨s',h1,h2,h3⟩:=asB (s4.drop 16).length (s4.drop 16) (Nat.le_refl _)
     obtain ⟨y1,y2⟩:=pc hz
     have t2:=iz (c1 y1) (c2 y2)
     refine ⟨s',by simp only[List.length_drop] at h1; omega,(eg 16 s4 (by omega) t2).trans h2,h3⟩
   · rw[zn (fun e=>hz (by exact_mod_cast e))]
     exact ⟨s4,Nat.le_refl _,rfl,rfl⟩
 · rw[ac,zn (by omega)]
   exact ⟨s4,Nat.le_refl _,rfl,rfl⟩
theorem akk (s2:List UInt8):∃ s',s'.length≤s2.length∧cI s2=cI s'∧acG s2=some (.inr (.inl (s',()))):=by
 unfold acG
 by_cases h:8<s2.length
 · obtain ⟨W1,a1,b1,c1⟩:=kP (s:=s2) (by omega)
   rw[ac,zp (by omega),b1,zb,ac,lL,akj a1 pm]
   by_cases hz:W1 &&& mQ=0
   · rw[zp (by rw[hz]; rfl),cY (i:=8) 8 rfl (show 8≤s2.length by omega),zb]
     obtain ⟨s',h1,h2,h3⟩:=akl (s2.drop 8)
     refine ⟨s',by simp only[List.length_drop] at h1; omega,(eg 8 s2 (by omega) (c1 hz)).trans h2,h3⟩
   · rw[zn (fun e=>hz (by exact_mod_cast e))]
     exact ⟨s2,Nat.le_refl _,rfl,rfl⟩
 · rw[ac,zn (by omega)]
   exact ⟨s2,Nat.le_refl _,rfl,rfl⟩
theorem w8 {a:UInt8}{t:List UInt8} (ha:a.toNat<128):∃ F,iw (a::t,())=(acG t).bind (be F):=by
 have hl:((a::t).length:Int)>0:=by simp only[zl]; omega
 have hi0:atI (a::t) 0=some a:=by simp[atI]
 have h128:(a.toNat:Int)<128:=by omega
 have hs:subI (a::t) 1 ((a::t).length:Int)=some t:=cY (i:=1) 1 rfl (by simp)
 refine ⟨?F,?h⟩
 case h =>
   unfold iw
   rw[ac,zp hl,hi0,zb,ac,zp h128,hs,zb]
   exact rfl
theorem aje:∀ (k:Nat) (s:List UInt8),s.length≤k→aJ iw (s,())=some (cI s):=by
 intro k
 induction k with
 | zero =>
   intro s hk
   have:s=[]:=List.eq_nil_of_length_eq_zero (by omega)
   subst this
   rw[qx]
   refine aw ?_
   unfold iw
   rw[ac,zn (by simp)]
 | succ k ih =>
   intro s hk
   cases s with
   | nil =>
     rw[qx]
     refine aw ?_
     unfold iw
     rw[ac,zn (by simp)]
   | cons a t =>
     simp only[zl] at hk
     by_cases ha:a.toNat<128
     · obtain ⟨F,hF⟩:=w8 (t:=t) ha
       obtain ⟨s',h1,h2,h3⟩:=akk t
       rw[h3] at hF
       have hv:cI (a::t)=cI t:=by
         have:=eg 1 (a::t) (by simp) (by simp; exact ha)
         simpa using this
       rw[aD (b:=(s',())) hF,ih s' (by omega),hv,h2]
     · have h:=adw (a:=a) (t:=t) (by omega)
       rw[nj (by simp)]
       by_cases h0:(aO (a::t)).2=0
       · rw[zp h0] at h ⊢
         exact aw h
       · rw[zn h0] at h ⊢
         rw[aD h]
         exact ih _ (by simp only[List.length_drop,zl]; omega)
theorem ix (s:List UInt8):za3 s=some (cI s):=aje s.length s (Nat.le_refl _)
theorem yc {s:List UInt8}:∀ (k i n:Nat) (l:List Int),s.length-i≤k→i≤s.length→n≤i→s.length<4294967296→bh (s.drop i)=some l→aJ (qq s) ((n:Int),i,())=some (((n+l.length:Nat)):Int):=by
 intro k
 induction k with
 | zero =>
   intro i n l hk hi hn hs hl
   rw[List.drop_eq_nil_of_le (by omega),bV] at hl
   cases hl
   refine aw ?_
   unfold qq
   rw[ac,zn (by simp only[]; omega)]
   simp
 | succ k ih =>
   intro i n l hk hi hn hs hl
   by_cases hlt:i<s.length
   · have hne:s.drop i≠[]:=fun e=>by have:=congrArg List.length e; simp at this; omega
     have hle:=kD (s.drop i)
     simp only[List.length_drop] at hle
     by_cases h0:(aO (s.drop i)).2=0
     · rw[cR hne h0] at hl; cases hl
     · rw[cw hne h0,List.drop_drop,Option.map_eq_some_iff] at hl
       obtain ⟨l',hl',rfl⟩:=hl
       rw[aD (b:=(((n+1:Nat):Int),i+(aO (s.drop i)).2,()))]
       · rw[ih _ (n+1) l' (by omega) (by omega) (by omega) hs hl']
         simp only[zl]; congr 2; omega
       · unfold qq
         rw[ac,zp (by simp only[]; exact hlt),decode_N hlt]
         simp only[decN,zn h0]
         rw[wrap64 (by omega) (by omega)]; rfl
   · rw[List.drop_eq_nil_of_le (by omega),bV] at hl
     cases hl
     refine aw ?_
     unfold qq
     rw[ac,zn (by simp only[]; omega)]
     simp
theorem aj2 {s:List UInt8}{l:List Int} (hs:s.length<4294967296) (hl:bh s=some l):zau s=some (l.length:Int):=by
 have:=yc (s:=s) s.length 0 0 l (by omega) (by omega) (by omega) hs (by simpa using hl)
 simpa [zau] using this
theorem sZ {s:List UInt8}:∀ (k i:Nat) (l:List Int),s.length-i≤k→i≤s.length→bh (s.drop i)=some l→cW s k i=l:=by
 intro k
 induction k with
 | zero =>
   intro i l hk hi hl
   rw[List.drop_eq_nil_of_le (by omega),bV] at hl
   cases hl; rfl
 | succ k ih =>
   intro i l hk hi hl
   by_cases hlt:i<s.length
   · have hne:s.drop i≠[]:=fun e=>by have:=congrArg List.length e; simp at this; omega
     have hle:=kD (s.drop i)
     have hin:=sh (s.drop i)
     simp only[List.length_drop] at hle
     by_cases h0:(aO (s.drop i)).2=0
     · rw[cR hne h0] at hl; cases hl
     · rw[cw hne h0,List.drop_drop,Option.map_eq_some_iff] at hl
       obtain ⟨l',hl',rfl⟩:=hl
       unfold cW
       rw[zp hlt,decode_N hlt]
       simp only[decN,zn h0]
       rw[ih _ l' (by omega) (by omega) hl']
       congr 1; omega
   · rw[List.drop_eq_nil_of_le (by omega),bV] at hl
     cases hl
     unfold cW
     rw[zn hlt]
theorem adG {s:List UInt8}{l:List Int} (hl:bh s=some l):qM s=l:=sZ s.length 0 l (by omega) (by omega) (by simpa using hl)
def fb (c:Int):Bool:=decide (c=42)||decide (c=63)||decide (c=92)
theorem fa (c:Int):zbf c=some (fb c):=by
 unfold zbf fb
 by_cases h1:c=42<;>by_cases h2:c=63<;>by_cases h3:c=92<;>simp[h1,h2,h3]
def bo:List Int→Option (List Int)
 | []=>some []
 | c::t =>
   if c=42 then (bo t).map fun o => -2::o
   else if c=63 then (bo t).map fun o => -1::o
   else if c=92 then (match t with
     | []=>none
     | d::t'=>if fb d then (bo t').map fun o=>d::o else none)
   else (bo t).map fun o=>c::o
def partOf (c:Int):Int×Int×Unit:=if c = -2 then (2,0,()) else if c = -1 then (1,0,()) else (0,c,())
def pat (p:List UInt8):Option (List Int):=(bh p).bind fun l=>if l.length>64 then none else bo l
theorem er {c:Int}{t:List Int}:bo (c::t)=if c=42 then (bo t).map fun o => -2::o
   else if c=63 then (bo t).map fun o => -1::o
   else if c=92 then (match t with
     | []=>none
     | d::t'=>if fb d then (bo t').map fun o=>d::o else none)
   else (bo t).map fun o=>c::o:=by rw[bo.eq_def]
theorem jD {d:Int}{t:List Int}:bo (92::d::t)=if fb d then (bo t).map fun o=>d::o else none:=by
 rw[er,zn (by omega),zn (by omega),zp rfl]
theorem gm {c:Int}{t:List Int} (h:fb c=false):bo (c::t)=(bo t).map fun o=>c::o:=by
 simp only[fb,Bool.or_eq_false_iff,decide_eq_false_iff_not] at h
 rw[er,zn h.1.1,zn h.1.2,zn h.2]
theorem lF {t:List Int}:bo (42::t)=(bo t).map fun o => -2::o:=by rw[er,zp rfl]
theorem nK {t:List Int}:bo (63::t)=(bo t).map fun o => -1::o:=by rw[er,zn (by omega),zp rfl]
theorem sV {c:Int} (h:fb c=true):c=42∨c=63∨c=92:=by
 simp only[fb,Bool.or_eq_true,decide_eq_true_eq] at h; omega
def gX (esc:Bool) (l:List Int):Option (List Int):=if esc then bo (92::l) else bo l
def eq (out:List (Int×Int×Unit)):Option (List Int)→List (Int×Int×Unit)×Bool×Unit
 | some o=>(out++o.map partOf,true,())
 | none=>([],false,())
theorem gI {out:List (Int×Int×Unit)}{c:Int}{x:Option (List Int)}:eq out (x.map fun o=>c::o)=eq (out++[partOf c]) x:=by
 cases x<;>simp[eq]
theorem xC {s:List UInt8} (hs:s.length<4294967296):∀ (k i:Nat) (esc:Bool) (out:List (Int×Int×Unit)) (l:List Int),s.length-i≤k→i≤s.length→out.length≤i→bh (s.drop i)=some l →
   (aJ (fS s) (esc,i,out,())).bind (be fun v10 =>
     cond v10.1 (some ([],false,())) (some (v10.2.1,true,())))=some (eq out (gX esc l)):=by
 intro k
 have fin : ∀ (i : Nat) (esc : Bool) (out : List (Int × Int × Unit)) (l : List Int), ¬ i < s.length → bh (s.drop i) = some l → (aJ (fS s) (esc, i, out, ())).bind (be fun v10 =>
     cond v10.1 (some ([],false,())) (some (v10.2.1,true,())))=some (eq out (gX esc l)):=by
   intro i esc out l hi hl
   rw[List.drop_eq_nil_of_le (by omega),bV] at hl
   cases hl
   rw[aw (x:=.inl (esc,out,())) (by unfold fS; rw[ac,zn hi])]
   cases esc<;>simp[gX,bo,eq]
 induction k with
 | zero=>intro i esc out l hk hi ho hl; exact fin i esc out l (by omega) hl
 | succ k ih =>
   intro i esc out l hk hi ho hl
   by_cases hlt:i<s.length
   · have hne:s.drop i≠[]:=fun e=>by have:=congrArg List.length e; simp at this; omega
     have hle:=kD (s.drop i)
     have hin:=sh (s.drop i)
     simp only[List.length_drop] at hle
     by_cases h0:(aO (s.drop i)).2=0
     · rw[cR hne h0] at hl; cases hl
     · rw[cw hne h0,List.drop_drop,Option.map_eq_some_iff] at hl
       obtain ⟨l',hl',rfl⟩:=hl
       have hd:=decode_N hlt
       simp only[decN,zn h0] at hd
       have hc:(((aO (s.drop i)).1.toNat:Nat):Int)=(aO (s.drop i)).1:=by omega
       generalize hcc:(aO (s.drop i)).1=c at hl' hd hc hin ⊢
       generalize hnn:(aO (s.drop i)).2=n at hl' hd hle h0 ⊢
       have hroom:dN (out.length+1)=some ():=cr (by omega)
       have next:∀ (e':Bool) (out':List (Int×Int×Unit)),out'.length≤out.length+1→fS s (esc,i,out,())=some (.inl (e',i+n,out',()))→(aJ (fS s) (esc,i,out,())).bind (be fun v10 =>
     cond v10.1 (some ([], false, ())) (some (v10.2.1, true, ()))) = some (eq out' (gX e' l')) := by
         intro e' out' ho' h
         rw[aD h]
         exact ih _ _ _ _ (by omega) (by omega) (by omega) hl'
       cases esc with
       | true =>
         by_cases hsp:fb c=true
         · rw[next false (out++[partOf c]) (by simp) ?_]
           · simp only[gX,jD,hsp,if_true,gI]; simp
           · unfold fS
             rw[ac,zp hlt,hd]
             simp only[hc,fa,zb,hsp,cond_true,aW,Bool.not_true,cond_false,zl,List.length_nil,hroom]
             have:partOf c=(0,c,()):=by
               have:=sV hsp
               unfold partOf; rw[zn (by omega),zn (by omega)]
             rw[this]
         · have hsp':fb c=false:=by simpa using hsp
           rw[aw (x:=.inr ([],false,()))]
           · simp[gX,jD,hsp',eq]
           · unfold fS
             rw[ac,zp hlt,hd]
             simp only[hc,fa,zb,hsp',cond_true,aW,Bool.not_false]
       | false =>
         by_cases hsp:fb c=true
         · have hs3:=sV hsp
           by_cases h92:c=92
           · rw[next true out (by omega) ?_]
             · simp only[gX,h92]; simp
             · unfold fS
               rw[ac,zp hlt,hd]
               simp only[hc,fa,zb,hsp,cond_false,aW,Bool.not_true,ac,zp h92]
           · by_cases h63:c=63
             · rw[next false (out++[partOf (-1)]) (by simp) ?_]
               · simp only[gX,h63,nK]; rw[zn (by simp),zn (by simp),gI]
               · unfold fS
                 rw[ac,zp hlt,hd]
                 simp only[hc,fa,zb,hsp,cond_false,aW,Bool.not_true,ac,zn h92,zp h63,zl,List.length_nil,hroom]
                 rfl
             · have h42:c=42:=by omega
               rw[next false (out++[partOf (-2)]) (by simp) ?_]
               · simp only[gX,h42,lF]; rw[zn (by simp),zn (by simp),gI]
               · unfold fS
                 rw[ac,zp hlt,hd]
                 simp only[hc,fa,zb,hsp,cond_false,aW,Bool.not_true,ac,zn h92,zn h63,zl,List.length_nil,hroom]
                 rfl
         · have hsp':fb c=false:=by simpa using hsp
           rw[next false (out++[partOf c]) (by simp) ?_]
           · simp only[gX,gm hsp']; rw[zn (by simp),zn (by simp),gI]
           · unfold fS
             rw[ac,zp hlt,hd]
             simp only[hc,fa,zb,hsp',cond_false,aW,Bool.not_false,cond_true,zl,List.length_nil,hroom]
             have:partOf c=(0,c,()):=by
               unfold partOf; rw[zn (by omega),zn (by omega)]
             rw[this]
   · exact fin i esc out l hlt hl
theorem lW {p:List UInt8} (hp:p.length<4294967296):zci p=some (eq [] (pat p)):=by
 unfold zci
 rw[ix,zb]
 unfold cI pat
 cases hl:bh p with
 | none=>simp[eq]
 | some l =>
   simp only[Option.isSome_some,Bool.not_true,cond_false,zb,aj2 hp hl,ac]
   by_cases h:l.length>64
   · rw[zp (by omega),zp h]; simp[eq]
   · rw[zn (by omega),zn h]
     exact xC hp p.length 0 false [] l (by omega) (by omega) (by simp) (by simpa using hl)
theorem o4 {r:List Int×Bool×Unit} (hr:r.1.length<4294967296):∀ (k i:Nat) (out:List Int),r.1.length-i≤k→i≤r.1.length→out.length≤i →
   aJ (fU r) ((i:Int),out,())=some (match bo (r.1.drop i) with | some o=>(out++o,true,()) | none=>([],false,())):=by
 intro k
 have fin:∀ (i:Nat) (out:List Int),¬ i<r.1.length→aJ (fU r) ((i:Int),out,())=some (match bo (r.1.drop i) with | some o=>(out++o,true,()) | none=>([],false,())):=by
   intro i out hi
   rw[List.drop_eq_nil_of_le (by omega),aw (x:=(out,true,())) (by unfold fU; rw[ac,zn (by omega)])]
   simp[bo]
 induction k using Nat.strongRecOn with
 | _ k ih =>
   intro i out hk hi ho
   by_cases hlt:i<r.1.length
   · obtain ⟨c,hc⟩:∃ c,r.1[i]? = some c:=⟨_,zg hlt⟩
     have hdr:r.1.drop i=c::r.1.drop (i+1):=by
       rw[List.drop_eq_getElem_cons hlt]; rw[zg hlt] at hc; cases hc; rfl
     have w1:IntKind.wrap .i64 ((i:Int)+1)=((i+1:Nat):Int):=by rw[wrap64 (by omega) (by omega)]; rfl
     have hroom:dN (out.length+1)=some ():=cr (by omega)
     have next : ∀ (x : Int), fU r ((i : Int), out, ()) = some (.inl (((i + 1 : Nat) : Int), out ++ [x], ())) →
         aJ (fU r) ((i:Int),out,())=some (match (bo (r.1.drop (i+1))).map (fun o=>x::o) with | some o=>(out++o,true,()) | none=>([],false,())):=by
       intro x h
       rw[aD h,ih (k-1) (by omega) (i+1) _ (by omega) (by omega) (by simp; omega)]
       cases bo (r.1.drop (i+1))<;>simp
     rw[hdr]
     by_cases h42:c=42
     · rw[h42,lF]
       refine next (-2) ?_
       unfold fU
       simp only[ac,bN,hc,zb,zp (show (i:Int)<(r.1.length:Int) by omega),zp h42,zl,List.length_nil,hroom,w1]
     by_cases h63:c=63
     · rw[h63,nK]
       refine next (-1) ?_
       unfold fU
       simp only[ac,bN,hc,zb,zp (show (i:Int)<(r.1.length:Int) by omega),zn h42,zp h63,zl,List.length_nil,hroom,w1]
     by_cases h92:c=92
     · subst h92
       by_cases hl:i+1=r.1.length
       · rw[List.drop_eq_nil_of_le (by omega)]
         rw[aw (x:=([],false,()))]
         · simp[bo]
         · unfold fU
           simp only[ac,bN,hc,zb,zp (show (i:Int)<(r.1.length:Int) by omega),w1,zp (show ((i+1:Nat):Int)=(r.1.length:Int) by omega),db,zn h42,zn h63,if_true]
       · obtain ⟨d,hd⟩:∃ d,r.1[i+1]? = some d:=⟨_,zg (by omega)⟩
         have hdr2:r.1.drop (i+1)=d::r.1.drop (i+2):=by
           rw[List.drop_eq_getElem_cons (by omega)]; rw[zg (by omega)] at hd; cases hd; rfl
         have w2:IntKind.wrap .i64 (((i+1:Nat):Int)+1)=((i+2:Nat):Int):=by rw[wrap64 (by omega) (by omega)]; omega
         rw[hdr2,jD]
         by_cases hsp:fb d=true
         · rw[zp hsp,aD (b:=(((i+2:Nat):Int),out++[d],()))]
           · rw[ih (k-2) (by omega) (i+2) _ (by omega) (by omega) (by simp; omega)]
             cases bo (r.1.drop (i+2))<;>simp
           · have hs3:=sV hsp
             unfold fU
             simp only[ac,bT,bN,hc,hd,zb,zp (show (i:Int)<(r.1.length:Int) by omega),w1,zn (show ¬ ((i+1:Nat):Int)=(r.1.length:Int) by omega),zn h42,zn h63,if_true,zl,List.length_nil]
             rcases hs3 with h | h | h<;>subst h<;>simp only[if_true,aW,zb,hroom,w2,ite_self]<;>simp[hroom,w2]
         · have hsp':fb d=false:=by simpa using hsp
           rw[zn hsp,aw (x:=([],false,()))]
           simp only[fb,Bool.or_eq_false_iff,decide_eq_false_iff_not] at hsp'
           unfold fU
           simp only[ac,bT,bN,hc,hd,zb,zp (show (i:Int)<(r.1.length:Int) by omega),w1,zn (show ¬ ((i+1:Nat):Int)=(r.1.length:Int) by omega),zn h42,zn h63,if_true,zn hsp'.1.1,zn hsp'.1.2,zn hsp'.2,db]
     · rw[gm (by simp[fb,h42,h63,h92])]
       refine next c ?_
       unfold fU
       simp only[ac,bN,hc,zb,zp (show (i:Int)<(r.1.length:Int) by omega),zn h42,zn h63,zn h92,aW,zl,List.length_nil,hroom,w1]
   · exact fin i out hlt
theorem xr {p:List UInt8} (hp:p.length<4294967296):zb2 p=some (match pat p with | some o=>(o,true,()) | none=>([],false,())):=by
 unfold zb2
 rw[sY hp,zb]
 unfold fc pat
 cases hl:bh p with
 | none=>simp
 | some l =>
   simp only[Bool.not_true,cond_false,zb,ac,List.nil_append]
   by_cases h:l.length>64
   · rw[zp (by omega),zp h]
   · rw[zn (by omega),zn h]
     have:=o4 (r:=(l,true,())) (by simp only[]; omega) l.length 0 [] (by simp) (by simp) (by simp)
     simpa using this
theorem aaO:∀ {s:List UInt8}{l:List Int},bh s=some l→l.length≤s.length:=by
 intro s
 induction s using (measure List.length).wf.induction with
 | _ s ih =>
   intro l h
   by_cases hn:s=[]
   · subst hn; rw[bV] at h; cases h; simp
   · by_cases h0:(aO s).2=0
     · rw[cR hn h0] at h; cases h
     · rw[cw hn h0,Option.map_eq_some_iff] at h
       obtain ⟨l',hl',rfl⟩:=h
       have hp:s.length≠0:=fun e=>hn (List.eq_nil_of_length_eq_zero e)
       have:=ih (s.drop (aO s).2) (by show (s.drop _).length<s.length; simp only[List.length_drop]; omega) hl'
       simp only[List.length_drop] at this
       simp only[zl]; omega
theorem xD:∀ (n:Nat) {l o:List Int},l.length≤n→bo l=some o→o.length≤l.length:=by
 intro n
 induction n with
 | zero =>
   intro l o hn h
   have:l=[]:=List.eq_nil_of_length_eq_zero (by omega)
   subst this
   simp[bo] at h; subst h; simp
 | succ n ih =>
   intro l o hn h
   cases l with
   | nil=>simp[bo] at h; subst h; simp
   | cons c t =>
     simp only[zl] at hn
     have key:∀ {x:Int}{t':List Int},t'.length≤t.length→((bo t').map fun o=>x::o)=some o→o.length≤(c::t).length:=by
       intro x t' ht' e
       rw[Option.map_eq_some_iff] at e
       obtain ⟨o',h1,rfl⟩:=e
       have:=ih (by omega) h1
       simp only[zl]; omega
     rw[er] at h
     split at h
     · exact key (Nat.le_refl _) h
     · split at h
       · exact key (Nat.le_refl _) h
       · split at h
         · cases t with
           | nil=>cases h
           | cons d t' =>
             simp only[] at h
             split at h
             · exact key (by simp) h
             · cases h
         · exact key (Nat.le_refl _) h
theorem aba {l o:List Int} (h:bo l=some o):o.length≤l.length:=xD l.length (Nat.le_refl _) h
theorem aqo {p:List UInt8}{o:List Int} (h:pat p=some o):o.length≤64:=by
 unfold pat at h
 rw[Option.bind_eq_some_iff] at h
 obtain ⟨l,h1,h2⟩:=h
 split at h2
 · cases h2
 · have:=aba h2; omega
def one (c:Int) (a:List Int):Prop:=c = -2∨∃ x,a=[x]∧(c = -1∨c=x)
def Mt:List Int→List Int→Prop
 | [],t=>t=[]
 | c::o,t=>∃ a b,t=a++b∧one c a∧Mt o b
theorem oH:∀ {o o' t:List Int},Mt (o++o') t↔∃ a b,t=a++b∧Mt o a∧Mt o' b
 | [],o',t=>by
   constructor
   · intro h; exact ⟨[],t,rfl,rfl,h⟩
   · rintro ⟨a,b,rfl,rfl,h⟩; exact h
 | c::o,o',t=>by
   constructor
   · rintro ⟨a,b,rfl,h1,h2⟩
     obtain ⟨a',b',rfl,h3,h4⟩:=oH.1 h2
     exact ⟨a++a',b',by simp,⟨a,a',rfl,h1,h3⟩,h4⟩
   · rintro ⟨a,b,rfl,⟨a',b',rfl,h1,h2⟩,h3⟩
     exact ⟨a',b'++b,by simp,h1,oH.2 ⟨b',b,rfl,h2,h3⟩⟩
theorem pg {a:List Int}:one (-2) a:=Or.inl rfl
theorem eM {o t:List Int}:Mt (-2::o) t↔∃ j,Mt o (t.drop j):=by
 constructor
 · rintro ⟨a,b,rfl,h1,h2⟩; exact ⟨a.length,by simpa using h2⟩
 · rintro ⟨j,h⟩; exact ⟨t.take j,t.drop j,by simp,pg,h⟩
theorem ki {c:Int}{o t:List Int} (hc:c ≠ -2):Mt (c::o) t↔∃ x b,t=x::b∧(c = -1∨c=x)∧Mt o b:=by
 constructor
 · rintro ⟨a,b,rfl,h1,h2⟩
   rcases h1 with h1 | ⟨x,rfl,h1⟩
   · exact absurd h1 hc
   · exact ⟨x,b,rfl,h1,h2⟩
 · rintro ⟨x,b,rfl,h1,h2⟩
   exact ⟨[x],b,rfl,Or.inr ⟨x,rfl,h1⟩,h2⟩
theorem wF {t:List Int}:Mt [] t↔t=[]:=Iff.rfl
theorem fo {A:Type}{l:List A}{i:Nat} (h:i<l.length):l.drop i=l[i]::l.drop (i+1):=List.drop_eq_getElem_cons h
structure Inv (o t:List Int) (k:Nat) (star:Int) (mark i:Nat):Prop where
 k_le:k≤o.length
 i_le:i≤t.length
 no:star<0→(Mt o t↔Mt (o.drop k) (t.drop i))
 is:∀ st:Nat,star=(st:Int)→st<k∧mark≤i∧(Mt o t↔Mt (-2::o.drop (st+1)) (t.drop mark))∧(Mt (o.drop k) (t.drop i)→Mt (o.drop (st+1)) (t.drop mark))∧(∀ u,Mt (o.drop (st+1)) u→Mt (o.drop k) (u.drop (i-mark)))
 le : -1≤star
theorem aef {o t:List Int}{k mark i:Nat}{star:Int} (h:Inv o t k star mark i) (hk:k<o.length) (hs:o[k] = -2):Inv o t (k+1) k i i:=by
 have hd:o.drop k = -2::o.drop (k+1):=by rw[fo hk,hs]
 refine ⟨hk,h.i_le,fun e=>by omega,?_,by omega⟩
 intro st hst
 have:st=k:=by omega
 subst this
 refine ⟨by omega,by omega,?_,fun x=>x,fun u hu=>by simpa using hu⟩
 by_cases hneg:star<0
 · rw[h.no hneg,hd]
 · obtain ⟨st,hst⟩:∃ st:Nat,star=(st:Int):=⟨star.toNat,by omega⟩
   obtain ⟨h0,h1,h2,h3,h4⟩:=h.is st hst
   rw[h2,← hd]
   constructor
   · intro hm
     obtain ⟨j,hj⟩:=eM.1 hm
     have:=h4 _ hj
     rw[hd] at this ⊢
     obtain ⟨j',hj'⟩:=eM.1 this
     refine eM.2 ⟨j+j',?_⟩
     rw[List.drop_drop,List.drop_drop] at hj'
     rw[List.drop_drop]
     have e:i+(j+j')=mark+j+(i-mark)+j':=by omega
     rw[e]
     simpa [Nat.add_assoc,Nat.add_comm,Nat.add_left_comm] using hj'
   · intro hm
     exact eM.2 ⟨0,by simpa using h3 hm⟩
theorem ajI {o t:List Int}{k mark i:Nat}{star:Int} (h:Inv o t k star mark i) (hk:k<o.length) (hi:i<t.length) (hs:o[k] ≠ -2) (ho:o[k] = -1∨o[k]=t[i]):Inv o t (k+1) star mark (i+1):=by
 have hd:o.drop k=o[k]::o.drop (k+1):=fo hk
 have ht:t.drop i=t[i]::t.drop (i+1):=fo hi
 have hstep:Mt (o.drop k) (t.drop i)↔Mt (o.drop (k+1)) (t.drop (i+1)):=by
   rw[hd,ht,ki hs]
   constructor
   · rintro ⟨x,b,h1,h2,h3⟩; cases h1; exact h3
   · intro h1; exact ⟨_,_,rfl,ho,h1⟩
 refine ⟨hk,hi,fun e=>(h.no e).trans hstep,?_,h.le⟩
 intro st hst
 obtain ⟨h0,h1,h2,h3,h4⟩:=h.is st hst
 refine ⟨by omega,by omega,h2,fun x=>h3 (hstep.2 x),?_⟩
 intro u hu
 have:=h4 u hu
 rw[hd,ki hs] at this
 obtain ⟨x,b,h5,h6,h7⟩:=this
 have:u.drop (i+1-mark)=b:=by
   have e:i+1-mark=(i-mark)+1:=by omega
   rw[e,← List.drop_drop,h5]; rfl
 rw[this]; exact h7
theorem mis {o t:List Int}{k i:Nat} (hi:i<t.length) (hm:∀ hk:k<o.length,o[k] ≠ -2∧¬ (o[k] = -1∨o[k]=t[i])):¬ Mt (o.drop k) (t.drop i):=by
 rw[fo hi]
 by_cases hk:k<o.length
 · rw[fo hk,ki (hm hk).1]
   rintro ⟨x,b,h1,h2,h3⟩
   cases h1
   exact (hm hk).2 h2
 · rw[List.drop_eq_nil_of_le (by omega),wF]
   intro e; cases e
theorem ajJ {o t:List Int}{k mark i st:Nat} (h:Inv o t k st mark i) (hi:i<t.length) (hm:¬ Mt (o.drop k) (t.drop i)):Inv o t (st+1) st (mark+1) (mark+1):=by
 obtain ⟨h0,h1,h2,h3,h4⟩:=h.is st rfl
 have hk:=h.k_le
 refine ⟨by omega,by omega,fun e=>by omega,?_,by omega⟩
 intro st' hst
 have:st'=st:=by omega
 subst this
 refine ⟨by omega,by omega,?_,fun x=>x,fun u hu=>by simpa using hu⟩
 rw[h2]
 constructor
 · intro hx
   obtain ⟨j,hj⟩:=eM.1 hx
   cases j with
   | zero =>
     have:=h4 _ hj
     rw[List.drop_zero,List.drop_drop] at this
     exact absurd (by have e : mark + (i - mark) = i := by omega
                      rw[e] at this; exact this) hm
   | succ j =>
     refine eM.2 ⟨j,?_⟩
     rw[List.drop_drop] at hj ⊢
     have e:mark+1+j=mark+(j+1):=by omega
     rw[e]; exact hj
 · intro hx
   obtain ⟨j,hj⟩:=eM.1 hx
   refine eM.2 ⟨j+1,?_⟩
   rw[List.drop_drop] at hj ⊢
   have e:mark+(j+1)=mark+1+j:=by omega
   rw[e]; exact hj
theorem ajK {o t:List Int}{k mark i:Nat}{star:Int} (h:Inv o t k star mark i) (hi:i=t.length):Mt o t↔Mt (o.drop k) []:=by
 have hn:t.drop i=[]:=List.drop_eq_nil_of_le (by omega)
 by_cases hneg:star<0
 · rw[h.no hneg,hn]
 · obtain ⟨st,hst⟩:∃ st:Nat,star=(st:Int):=⟨star.toNat,by have:=h.le; omega⟩
   obtain ⟨h0,h1,h2,h3,h4⟩:=h.is st hst
   rw[h2,← hn]
   constructor
   · intro hm
     obtain ⟨j,hj⟩:=eM.1 hm
     have:=h4 _ hj
     have e:(((t.drop mark).drop j).drop (i-mark))=[]:=by
       rw[List.drop_drop,List.drop_drop]; exact List.drop_eq_nil_of_le (by omega)
     rw[e] at this
     rw[hn]; exact this
   · intro hm; exact eM.2 ⟨0,by simpa using h3 hm⟩
theorem kx {c:Int}:(partOf c).1=2↔c = -2:=by
 unfold partOf; split
 · simp[*]
 · split<;>simp[*]
theorem o9 {c:Int}:(partOf c).1=1↔c = -1:=by
 unfold partOf; split
 · subst_vars; simp
 · split<;>simp[*]
theorem abb {c:Int} (h:c ≠ -2) (h1:c ≠ -1):(partOf c).2.1=c:=by
 unfold partOf; rw[zn h,zn h1]
theorem jU {o:List Int}{k:Nat} (hk:k<o.length):atI (o.map partOf) (k:Int)=some (partOf o[k]):=by
 rw[bN,List.getElem?_map,zg hk]; rfl
theorem aaw {o:List Int} (ho:o.length<4294967296):∀ (n k:Nat),o.length-k≤n→k≤o.length →
   ∃ k':Nat,aJ (jq (o.map partOf)) ((k:Int),())=some (.inl ((k':Int),()))∧k'≤o.length∧(Mt (o.drop k) []↔k'=o.length):=by
 intro n
 induction n with
 | zero =>
   intro k hn hk
   refine ⟨k,aw ?_,hk,?_⟩
   · unfold jq
     rw[ac,zn (by simp only[List.length_map]; omega)]
   · rw[List.drop_eq_nil_of_le (by omega),wF]; simp; omega
 | succ n ih =>
   intro k hn hk
   by_cases hlt:k<o.length
   · have hd:o.drop k=o[k]::o.drop (k+1):=fo hlt
     by_cases h2:o[k] = -2
     · obtain ⟨k',h3,h4,h5⟩:=ih (k+1) (by omega) (by omega)
       refine ⟨k',?_,h4,?_⟩
       · rw[aD (b:=(((k+1:Nat):Int),())),h3]
         unfold jq
         rw[ac,zp (by simp only[List.length_map]; omega),jU hlt,zb,ac,zp (kx.2 h2)]
         simp only[]
         rw[wrap64 (by omega) (by omega)]; rfl
       · rw[← h5,hd,h2,eM]; simp
     · refine ⟨k,aw ?_,hk,?_⟩
       · unfold jq
         rw[ac,zp (by simp only[List.length_map]; omega),jU hlt,zb,ac,zn (fun e=>h2 (kx.1 e))]
       · rw[hd,ki h2]
         constructor
         · rintro ⟨x,b,h,_⟩; cases h
         · intro e; omega
   · refine ⟨k,aw ?_,hk,?_⟩
     · unfold jq
       rw[ac,zn (by simp only[List.length_map]; omega)]
     · rw[List.drop_eq_nil_of_le (by omega),wF]; simp; omega
open Classical in
theorem abX {o t:List Int} (ho:o.length<4294967296) (ht:t.length<4294967296):∀ (n m k mark i:Nat) (star:Int),t.length-mark≤n→o.length-k≤m→mark≤i→(star<0→t.length-i+(o.length-k)≤m)→Inv o t k star mark i →
   ((∃ k':Nat,k'≤o.length∧aJ (dY (o.map partOf) t) ((k:Int),star,(mark:Int),(i:Int),())=some (.inl ((k':Int),()))∧(Mt o t↔Mt (o.drop k') [])) ∨
   (¬ Mt o t∧aJ (dY (o.map partOf) t) ((k:Int),star,(mark:Int),(i:Int),())=some (.inr false))):=by
 intro n
 induction n using Nat.strongRecOn with
 | _ n ihn =>
 intro m
 induction m using Nat.strongRecOn with
 | _ m ihm =>
 intro k mark i star hn hm hmi hsm hI
 by_cases hi:i<t.length
 · have hti:t[i]? = some t[i]:=zg hi
   -- what is left when nothing goes on
   have miss : ∀ F : (Int × Int × Unit) → Option ((Int × Int × Int × Int × Unit) ⊕ ((Int × Unit) ⊕ Bool)), ¬ Mt (o.drop k) (t.drop i) →
       (star<0→dY (o.map partOf) t ((k:Int),star,(mark:Int),(i:Int),())=some (.inr (.inr false))) →
       (¬ star<0→dY (o.map partOf) t ((k:Int),star,(mark:Int),(i:Int),())=some (.inl (IntKind.wrap .i64 (star+1),star,IntKind.wrap .i64 ((mark:Int)+1),IntKind.wrap .i64 ((mark:Int)+1),()))) →
       ((∃ k':Nat,k'≤o.length∧aJ (dY (o.map partOf) t) ((k:Int),star,(mark:Int),(i:Int),())=some (.inl ((k':Int),()))∧(Mt o t↔Mt (o.drop k') [])) ∨
   (¬ Mt o t∧aJ (dY (o.map partOf) t) ((k:Int),star,(mark:Int),(i:Int),())=some (.inr false))):=by
     intro F hmm h1 h2
     by_cases hs:star<0
     · exact Or.inr ⟨fun e=>hmm ((hI.no hs).1 e),aw (h1 hs)⟩
     · have hs':=h2 hs
       obtain ⟨st,hst⟩:∃ st:Nat,star=(st:Int):=⟨star.toNat,by omega⟩
       subst hst
       have hk:=hI.k_le
       have hst:=(hI.is st rfl).1
       rw[wrap64 (by omega) (by omega),wrap64 (by omega) (by omega)] at hs'
       rw[aD (b:=(((st+1:Nat):Int),(st:Int),((mark+1:Nat):Int),((mark+1:Nat):Int),())) hs']
       exact ihn (n-1) (by omega) _ (st+1) (mark+1) (mark+1) st (by omega) (Nat.le_refl _) (Nat.le_refl _) (fun e=>by omega) (ajJ hI hi hmm)
   by_cases hk:k<o.length
   · by_cases h2:o[k] = -2
     · rw[aD (b:=(((k+1:Nat):Int),(k:Int),(i:Int),(i:Int),()))]
       · by_cases hmk:m=0
         · omega
         · exact ihm (m-1) (by omega) (k+1) i i k (by omega) (by omega) (Nat.le_refl _) (fun e=>by omega) (aef hI hk h2)
       · unfold dY
         simp only[ac,zp (show (i:Int)<(t.length:Int) by omega),List.length_map,zp (show (k:Int)<(o.length:Int) by omega),jU hk,zb,aW,db,kx,h2,decide_true,cond_true]
         rw[wrap64 (by omega) (by omega)]; rfl
     · have h3:¬ (partOf o[k]).1=2:=fun e=>h2 (kx.1 e)
       by_cases h1:o[k] = -1∨o[k]=t[i]
       · rw[aD (b:=(((k+1:Nat):Int),star,(mark:Int),((i+1:Nat):Int),()))]
         · exact ihm (m-1) (by omega) (k+1) mark (i+1) star (by omega) (by omega) (by omega) (fun e=>by have:=hsm e; omega) (ajI hI hk hi h2 h1)
         · unfold dY
           simp only[ac,zp (show (i:Int)<(t.length:Int) by omega),List.length_map,zp (show (k:Int)<(o.length:Int) by omega),jU hk,zb,aW,db,h3,decide_false,cond_false,o9,bN,hti]
           rw[wrap64 (n:=(k:Int)+1) (by omega) (by omega),wrap64 (n:=(i:Int)+1) (by omega) (by omega)]
           by_cases h4:o[k] = -1
           · rw[zp h4]; rfl
           · rw[zn h4,abb h2 h4,zp (by rcases h1 with h | h; exact absurd h h4; exact h)]; rfl
       · have h4:¬ o[k] = -1:=fun e=>h1 (Or.inl e)
         have h5:¬ o[k]=t[i]:=fun e=>h1 (Or.inr e)
         refine miss (fun _=>none) (mis hi (fun hk'=>⟨h2,h1⟩)) ?_ ?_
         · intro hs
           unfold dY
           simp only[ac,zp (show (i:Int)<(t.length:Int) by omega),List.length_map,zp (show (k:Int)<(o.length:Int) by omega),jU hk,zb,aW,db,h3,decide_false,cond_false,o9,bN,hti,zn h4,abb h2 h4,zn h5,zp hs]
         · intro hs
           unfold dY
           simp only[ac,zp (show (i:Int)<(t.length:Int) by omega),List.length_map,zp (show (k:Int)<(o.length:Int) by omega),jU hk,zb,aW,db,h3,decide_false,cond_false,o9,bN,hti,zn h4,abb h2 h4,zn h5,zn hs]
   · refine miss (fun _=>none) (mis hi (fun hk'=>absurd hk' hk)) ?_ ?_
     · intro hs
       unfold dY
       simp only[ac,zp (show (i:Int)<(t.length:Int) by omega),List.length_map,zn (show ¬ (k:Int)<(o.length:Int) by omega),zb,aW,db,cond_false,zp hs]
     · intro hs
       unfold dY
       simp only[ac,zp (show (i:Int)<(t.length:Int) by omega),List.length_map,zn (show ¬ (k:Int)<(o.length:Int) by omega),zb,aW,db,cond_false,zn hs]
 · refine Or.inl ⟨k,hI.k_le,aw ?_,ajK hI (by have:=hI.i_le; omega)⟩
   unfold dY
   rw[ac,zn (by simp only[]; omega)]
open Classical in
theorem aqE {o t:List Int} (ho:o.length<4294967296) (ht:t.length<4294967296):zcv (o.map partOf) t=some (decide (Mt o t)):=by
 have hI:Inv o t 0 (-1) 0 0:=⟨by omega,by omega,fun _=>by simp,fun st h=>by omega,by omega⟩
 unfold zcv
 rcases abX ho ht t.length (t.length+o.length) 0 0 0 (-1) (by omega) (by omega) (by omega) (fun _=>by omega) hI with ⟨k',h1,h2,h3⟩ | ⟨h1,h2⟩
 · obtain ⟨k'',h4,h5,h6⟩:=aaw ho (o.length-k') k' (Nat.le_refl _) h1
   have h2':aJ (dY (o.map partOf) t) (0,-1,0,0,())=some (.inl ((k':Int),())):=h2
   rw[h2',zb,aW,h4,zb,aW]
   simp only[List.length_map]
   congr 1
   rw[decide_eq_decide,h3,h6]
   omega
 · have h2':aJ (dY (o.map partOf) t) (0,-1,0,0,())=some (.inr false):=h2
   rw[h2',zb,db]
   simp[h1]
theorem sw {P t:List Int}{i:Nat}:Mt (P++[-2]) (t.take (i+1))↔Mt P (t.take (i+1))∨Mt (P++[-2]) (t.take i):=by
 have key:∀ i:Nat,Mt (P++[-2]) (t.take i)↔∃ j,j≤i∧Mt P (t.take j):=by
   intro i
   rw[oH]
   constructor
   · rintro ⟨a,b,h1,h2,h3⟩
     by_cases hl:a.length≤i
     · refine ⟨a.length,hl,?_⟩
       have:t.take a.length=a:=by
         have:=congrArg (List.take a.length) h1
         rw[List.take_take,Nat.min_eq_left hl,List.take_left] at this
         exact this
       rw[this]; exact h2
     · exfalso
       have:=congrArg List.length h1
       simp only[List.length_append,List.length_take] at this
       omega
   · rintro ⟨j,hj,h⟩
     refine ⟨t.take j,(t.take i).drop j,?_,h,⟨(t.take i).drop j,[],by simp,pg,rfl⟩⟩
     have:=List.take_append_drop j (t.take i)
     rw[List.take_take,Nat.min_eq_left hj] at this
     exact this.symm
 rw[key,key]
 constructor
 · rintro ⟨j,hj,h⟩
   by_cases e:j=i+1
   · subst e; exact Or.inl h
   · exact Or.inr ⟨j,by omega,h⟩
 · rintro (h | ⟨j,hj,h⟩)
   · exact ⟨i+1,Nat.le_refl _,h⟩
   · exact ⟨j,by omega,h⟩
theorem qf {P:List Int}:Mt (P++[-2]) []↔Mt P []:=by
 rw[oH]
 constructor
 · rintro ⟨a,b,h1,h2,h3⟩
   have:=List.append_eq_nil_iff.1 h1.symm
   rw[this.1] at h2; exact h2
 · intro h; exact ⟨[],[],rfl,h,[],[],rfl,pg,rfl⟩
theorem uE {P t:List Int}{i:Nat}{c:Int} (hc:c ≠ -2) (hi:i<t.length):Mt (P++[c]) (t.take (i+1))↔Mt P (t.take i)∧(c = -1∨c=t[i]):=by
 have e:t.take (i+1)=t.take i++[t[i]]:=by rw[List.take_add_one,zg hi]; rfl
 rw[oH,e]
 constructor
 · rintro ⟨a,b,h1,h2,h3⟩
   rw[ki hc] at h3
   obtain ⟨x,b',rfl,h4,h5⟩:=h3
   cases (wF.1 h5)
   obtain ⟨h6,h7⟩:=List.append_inj' h1 rfl
   cases h7
   rw[h6]; exact ⟨h2,h4⟩
 · rintro ⟨h1,h2⟩
   exact ⟨_,_,rfl,h1,(ki hc).2 ⟨_,[],rfl,h2,rfl⟩⟩
theorem sx {P:List Int}{c:Int} (hc:c ≠ -2):¬ Mt (P++[c]) []:=by
 rw[oH]
 rintro ⟨a,b,h1,h2,h3⟩
 rw[ki hc] at h3
 obtain ⟨x,b',rfl,h4,h5⟩:=h3
 have:=List.append_eq_nil_iff.1 h1.symm
 cases this.2
open Classical in
noncomputable def gM (P t:List Int) (i:Nat):Bool:=decide (Mt P (t.take i))
open Classical in
theorem ajT {P t:List Int}{i:Nat}:gM (P++[-2]) t (i+1)=(gM P t (i+1)||gM (P++[-2]) t i):=by
 unfold gM
 rw[← Bool.decide_or,decide_eq_decide]; exact sw
theorem ael {P t:List Int}:gM (P++[-2]) t 0=gM P t 0:=by
 unfold gM
 rw[decide_eq_decide,List.take_zero]; exact qf
open Classical in
theorem aqC {P t:List Int}{i:Nat}{c:Int} (hc:c ≠ -2) (hi:i<t.length):gM (P++[c]) t (i+1)=(gM P t i&&(decide (c = -1)||decide (c=t[i]))):=by
 unfold gM
 rw[← Bool.decide_or,← Bool.decide_and,decide_eq_decide]; exact uE hc hi
theorem ajU {P t:List Int}{c:Int} (hc:c ≠ -2):gM (P++[c]) t 0=false:=by
 unfold gM
 rw[decide_eq_false_iff_not,List.take_zero]; exact sx hc
def RowM (n:Nat) (f:Nat→Bool) (row:List Bool):Prop:=row.length=n+1∧∀ j,j≤n→row[j]? = some (f j)
theorem ajh {n i:Nat}{f:Nat→Bool}{nx:List Bool} (h1:nx.length=n+1) (h2:∀ j,j<i→nx[j]? = some (f j)) (hi:i≤n):(nx.set i (f i)).length=n+1∧∀ j,j<i+1→(nx.set i (f i))[j]? = some (f j):=by
 refine ⟨by simpa using h1,?_⟩
 intro j hj
 by_cases e:i=j
 · subst e; rw[List.getElem?_set_self (by omega)]
 · rw[List.getElem?_set_ne e]; exact h2 j (by omega)
theorem abK {o t:List Int}{r1 r2:List Int×Bool×Unit} (h1:r1.1=o) (h2:r2.1=t) (ho:o.length<4294967296) (ht:t.length<4294967295) {k:Nat} (hk:k<o.length) {y8:Int×List Bool×Unit} (hy:y8.1=k) {row:List Bool} (hr:RowM t.length (gM (o.take k) t) row) :
   ∀ (m i:Nat) (nx:List Bool),t.length+1-i≤m→i≤t.length+1→nx.length=t.length+1→(∀ j,j<i→nx[j]? = some (gM (o.take (k+1)) t j)) →
     ∃ nx',RowM t.length (gM (o.take (k+1)) t) nx'∧aJ (bW y8 r1 r2) ((i:Int),row,nx,())=some (.inl (((k+1:Nat):Int),nx',())):=by
 have hok:o[k]? = some o[k]:=zg hk
 have htk:o.take (k+1)=o.take k++[o[k]]:=by rw[List.take_add_one,hok]; rfl
 have fin : ∀ (i : Nat) (nx : List Bool), ¬ i ≤ t.length → nx.length = t.length + 1 → (∀ j, j < i → nx[j]? = some (gM (o.take (k + 1)) t j)) →
     ∃ nx',RowM t.length (gM (o.take (k+1)) t) nx'∧aJ (bW y8 r1 r2) ((i:Int),row,nx,())=some (.inl (((k+1:Nat):Int),nx',())):=by
   intro i nx hi hl hn
   refine ⟨nx,⟨hl,fun j hj=>hn j (by omega)⟩,aw ?_⟩
   unfold bW
   rw[ac,zn (by rw[h2]; simp only[]; omega),hy,wrap64 (by omega) (by omega)]; rfl
 intro m
 induction m with
 | zero=>intro i nx hm hi hl hn; exact fin i nx (by omega) hl hn
 | succ m ih =>
   intro i nx hm hi hl hn
   by_cases hlt:i≤t.length
   · have go : bW y8 r1 r2 ((i : Int), row, nx, ()) = some (.inl (((i + 1 : Nat) : Int), row, nx.set i (gM (o.take (k + 1)) t i), ())) := by
       have w1:IntKind.wrap .i64 ((i:Int)+1)=((i+1:Nat):Int):=by rw[wrap64 (by omega) (by omega)]; rfl
       have hri:=hr.2 i hlt
       obtain ⟨b0,hb0⟩:∃ b0,nx[i]? = some b0:=⟨_,zg (by omega)⟩
       have hin:inI nx.length (i:Int)=some i:=cg (by omega)
       have hir:inI row.length (i:Int)=some i:=cg (by have:=hr.1; omega)
       unfold bW
       rw[ac,zp (by rw[h2]; simp only[]; omega)]
       simp only[hy,h1,h2,bN,hok,zb,ac,w1,hri,hin,hir,hb0]
       cases i with
       | zero =>
         simp only[Int.natCast_zero,gt_iff_lt,Int.lt_irrefl,if_false,zb,cond_false,htk]
         by_cases hc:o[k] = -2
         · rw[zp hc,hc,ael]
           cases gM (o.take k) t 0<;>rfl
         · rw[zn hc,ajU hc]
           have hin0:inI nx.length 0=some 0:=hin
           rw[hin0,zb,hb0,zb]
       | succ i =>
         have hg:((i+1:Nat):Int)>0:=by omega
         have w2:IntKind.wrap .i64 (((i+1:Nat):Int)-1)=(i:Int):=by rw[wrap64 (by omega) (by omega)]; omega
         have hri':=hr.2 i (by omega)
         have hni:=hn i (by omega)
         have hin':inI nx.length (i:Int)=some i:=cg (by omega)
         have hir':inI row.length (i:Int)=some i:=cg (by have:=hr.1; omega)
         have hti:t[i]? = some t[i]:=zg (by omega)
         simp only[zp hg,w2,hin',hir',zb,hni,hri',bN,hti,hin,hb0]
         by_cases hc:o[k] = -2
         · have hgs:gM (o.take (k+1)) t (i+1)=(gM (o.take k) t (i+1)||gM (o.take (k+1)) t i):=by rw[htk,hc]; exact ajT
           rw[zp hc,hgs]
           cases gM (o.take k) t (i+1)<;>rfl
         · have hgs:gM (o.take (k+1)) t (i+1)=(gM (o.take k) t i&&(decide (o[k] = -1)||decide (o[k]=t[i]))):=by rw[htk]; exact aqC hc (by omega)
           rw[zn hc,hgs]
           cases gM (o.take k) t i
           · rfl
           · by_cases h5:o[k] = -1
             · simp[h5]
             · simp[h5]
     obtain ⟨a1,a2⟩:=ajh hl hn hlt
     rw[aD go]
     exact ih (i+1) _ (by omega) (by omega) a1 a2
   · exact fin i nx hlt hl hn
theorem adX {o t:List Int}{r1 r2:List Int×Bool×Unit} (h1:r1.1=o) (h2:r2.1=t) (ho:o.length<4294967296) (ht:t.length<4294967295) :
   ∀ (m k:Nat) (row:List Bool),o.length-k≤m→k≤o.length→RowM t.length (gM (o.take k) t) row →
     ∃ row',RowM t.length (gM o t) row'∧aJ (dJ r1 r2) ((k:Int),row,())=some (.inl (row',())):=by
 have fin : ∀ (k : Nat) (row : List Bool), ¬ k < o.length → RowM t.length (gM (o.take k) t) row →
     ∃ row',RowM t.length (gM o t) row'∧aJ (dJ r1 r2) ((k:Int),row,())=some (.inl (row',())):=by
   intro k row hk hr
   refine ⟨row,by rw[List.take_of_length_le (by omega)] at hr; exact hr,aw ?_⟩
   unfold dJ
   rw[ac,zn (by rw[h1]; simp only[]; omega)]
 intro m
 induction m with
 | zero=>intro k row hm hk hr; exact fin k row (by omega) hr
 | succ m ih =>
   intro k row hm hk hr
   by_cases hlt:k<o.length
   · have w:IntKind.wrap .i64 ((t.length:Int)+1)=((t.length+1:Nat):Int):=by rw[wrap64 (by omega) (by omega)]; rfl
     obtain ⟨nx',a1,a2⟩:=abK h1 h2 ho ht hlt (y8:=((k:Int),row,())) rfl hr (t.length+1) 0 (List.replicate (t.length+1) false) (by omega) (by omega) (by simp) (by intro j hj; omega)
     obtain ⟨row',b1,b2⟩:=ih (k+1) nx' (by omega) (by omega) a1
     refine ⟨row',b1,?_⟩
     rw[aD (b:=(((k+1:Nat):Int),nx',())),b2]
     unfold dJ
     rw[ac,zp (by rw[h1]; simp only[]; omega),h2,w,ajz (by omega),zb,Int.toNat_natCast]
     exact a2
   · exact fin k row hlt hr
open Classical in
theorem ajA {p s:List UInt8} (hp:p.length<4294967295) (hs:s.length<4294967295):zcf p s=some (match pat p,bh s with | some o,some t=>decide (Mt o t) | _,_=>false):=by
 unfold zcf
 rw[lW (by omega),zb,ix,zb]
 cases hpa:pat p with
 | none=>simp[eq]
 | some o =>
   cases hra:bh s with
   | none=>simp[eq,cI,hra]
   | some t =>
     have h1:=aqo hpa
     have h2:=aaO hra
     simp only[eq,cI,hra,Option.isSome_some,cond_true,List.nil_append]
     rw[adG hra,aqE (by omega) (by omega),zb]
theorem ajm {p:List UInt8} (hp:p.length<4294967295):zcd p=some (pat p).isSome:=by
 unfold zcd
 rw[lW (by omega),zb]
 cases pat p<;>simp[eq]
theorem qN {a:UInt8}{t:List UInt8} (h:a.toNat<128):bh (a::t)=(bh t).map fun l=>(a.toNat:Int)::l:=by
 have hc:aO (a::t)=((a.toNat:Int),1):=by simp only[aO,zp h]
 rw[cw (by simp) (by rw[hc]; simp),hc]; rfl
def cmpI (a b:Int):Int:=if a<b then -1 else if a>b then 1 else 0
theorem jb (a b:Int):za4 a b=some (cmpI a b):=by
 unfold za4 zbc cmpI
 simp only[zb,decide_true,Bool.not_true,cond_false,ac]
 by_cases h1:a<b
 · simp[h1]
 · by_cases h2:a>b<;>simp[h1,h2]
def orI (a b:Int):Int:=if a=0 then b else a
theorem or_t (a b:Int):zb9 [a,b]=some (orI a b):=by
 unfold zb9 orI
 by_cases h1:a=0
 · rw[zp h1]
   have t0:fT [a,b] (0,())=some (.inl (1,())):=by
     unfold fT
     simp only[ac,zl,List.length_nil]
     rw[zp (by decide)]
     simp[atI,h1,wrap64]
   rw[aD t0]
   by_cases h2:b=0
   · have t1 : fT [a, b] (1, ()) = some (.inl (2, ())) := by
       unfold fT
       simp only[ac,zl,List.length_nil]
       rw[zp (by decide)]
       simp[atI,h2,wrap64]
     rw[aD t1,h2]
     refine aw ?_
     unfold fT
     simp only[ac,zl,List.length_nil]
     rw[zn (by decide)]
   · refine aw ?_
     unfold fT
     simp only[ac,zl,List.length_nil]
     rw[zp (by decide)]
     simp[atI,h2]
 · rw[zn h1]
   refine aw ?_
   unfold fT
   simp only[ac,zl,List.length_nil]
   rw[zp (by decide)]
   simp[atI,h1]
def cmpD (a b:Int×Int×Unit):Int:=orI (cmpI a.1 b.1) (cmpI a.2.1 b.2.1)
def inR (n:Int):Prop := -9223372036854775808≤n∧n≤9223372036854775807
def eN (d:Int×Int×Unit):Bool:=decide (0≤d.1∧d.1≤15∧1≤d.2.1∧d.2.1≤1048576)
def Good (c:Int):Prop:=∃ s,(aO s).2≠0∧(aO s).1=c
abbrev Val:=Int×Int×List UInt8×Unit
theorem tx {l:List Int}{i:Nat}{x:Int} (h:l[i]? = some x) (hl:l.length<1000000):fT l ((i:Int),())=if x=0 then some (.inl (((i+1:Nat):Int),())) else some (.inr x):=by
 have hi:i<l.length:=by
   rcases Nat.lt_or_ge i l.length with h' | h'
   · exact h'
   · rw[List.getElem?_eq_none h'] at h; cases h
 unfold fT
 simp only[ac]
 rw[zp (by omega),bN,h]
 simp only[zb]
 by_cases hx:x=0
 · rw[zp hx]
   simp only[hx,decide_true,Bool.not_true,cond_false]
   rw[wrap64 (by omega) (by omega)]; rfl
 · rw[zn hx]
   simp only[hx,decide_false,Bool.not_false,cond_true]
theorem asx (a b c:Int):zb9 [a,b,c]=some (orI a (orI b c)):=by
 unfold zb9
 have t0:=tx (l:=[a,b,c]) (i:=0) (x:=a) rfl (by simp)
 have t1:=tx (l:=[a,b,c]) (i:=1) (x:=b) rfl (by simp)
 have t2:=tx (l:=[a,b,c]) (i:=2) (x:=c) rfl (by simp)
 have t3:fT [a,b,c] (((3:Nat):Int),())=some (.inr 0):=by
   unfold fT
   simp only[ac,zl,List.length_nil]
   rw[zn (by decide)]
 unfold orI
 by_cases h0:a=0
 · rw[zp h0] at t0 ⊢
   rw[show ((0:Int),())=(((0:Nat):Int),()) from rfl,aD t0]
   by_cases h1:b=0
   · rw[zp h1] at t1 ⊢
     rw[aD t1]
     by_cases h2:c=0
     · rw[zp h2] at t2
       rw[aD t2,aw t3,h2]
     · rw[zn h2] at t2
       rw[aw t2]
   · rw[zn h1] at t1 ⊢
     rw[aw t1]
 · rw[zn h0] at t0 ⊢
   exact aw t0
theorem acr:∀ a b:List UInt8,Lib.compareBytes b a = - Lib.compareBytes a b
 | [],[]=>rfl
 | [],_::_=>rfl
 | _::_,[]=>rfl
 | x::a,y::b=>by
   simp only[Lib.compareBytes,UInt8.lt_iff_toNat_lt]
   by_cases h1:x.toNat<y.toNat
   · have h2:¬ y.toNat<x.toNat:=by omega
     simp only[zp h1,zn h2]
     rfl
   · by_cases h2:y.toNat<x.toNat
     · simp only[zp h2,zn h1]
     · simp only[zn h2,zn h1]; exact acr a b
theorem pY:∀ a b:List UInt8,Lib.compareBytes a b=0↔a=b
 | [],[]=>by simp[Lib.compareBytes]
 | [],_::_=>by simp[Lib.compareBytes]
 | _::_,[]=>by simp[Lib.compareBytes]
 | x::a,y::b=>by
   simp only[Lib.compareBytes,UInt8.lt_iff_toNat_lt]
   by_cases h1:x.toNat<y.toNat
   · rw[zp h1]
     constructor
     · intro h; cases h
     · intro h; cases h; omega
   · rw[zn h1]
     by_cases h2:y.toNat<x.toNat
     · rw[zp h2]
       constructor
       · intro h; cases h
       · intro h; cases h; omega
     · rw[zn h2,pY a b]
       have:x=y:=UInt8.toNat_inj.1 (by omega)
       subst this
       simp
theorem acq:∀ a b:List UInt8,Lib.compareBytes a b = -1∨Lib.compareBytes a b=0∨Lib.compareBytes a b=1
 | [],[]=>.inr (.inl rfl)
 | [],_::_=>.inl rfl
 | _::_,[]=>.inr (.inr rfl)
 | x::a,y::b=>by
   simp only[Lib.compareBytes]
   split
   · exact .inl rfl
   · split
     · exact .inr (.inr rfl)
     · exact acq a b
theorem wl:∀ a b c:List UInt8,Lib.compareBytes a b≤0→Lib.compareBytes b c≤0→Lib.compareBytes a c≤0
 | [],b,[],_,_=>by simp[Lib.compareBytes]
 | [],b,_::_,_,_=>by simp[Lib.compareBytes]
 | _::_,[],_,h,_=>by simp[Lib.compareBytes] at h
 | x::a,y::b,[],_,h=>by simp[Lib.compareBytes] at h
 | x::a,y::b,z::c,h,k=>by
   simp only[Lib.compareBytes,UInt8.lt_iff_toNat_lt] at h k ⊢
   by_cases h1:x.toNat<y.toNat
   · by_cases k1:y.toNat<z.toNat
     · rw[zp (by omega)]; omega
     · rw[zn k1] at k
       by_cases k2:z.toNat<y.toNat
       · rw[zp k2] at k; omega
       · rw[zp (by omega)]; omega
   · rw[zn h1] at h
     by_cases h2:y.toNat<x.toNat
     · rw[zp h2] at h; omega
     · rw[zn h2] at h
       by_cases k1:y.toNat<z.toNat
       · rw[zp (by omega)]; omega
       · rw[zn k1] at k
         by_cases k2:z.toNat<y.toNat
         · rw[zp k2] at k; omega
         · rw[zn k2] at k
           rw[zn (by omega),zn (by omega)]
           exact wl a b c h k
def cmpV (a b:Val):Int:=orI (cmpI a.1 b.1) (orI (cmpI a.2.1 b.2.1) (Lib.compareBytes a.2.2.1 b.2.2.1))
theorem xS (a b:Val):eqV (.agg (.cons (.int .i64) (.cons (.int .i64) (.cons .str .unit)))) a b=decide (a=b):=by
 obtain ⟨k,n,s,⟨⟩⟩:=a
 obtain ⟨k',n',s',⟨⟩⟩:=b
 simp only[eqV,Bool.and_true]
 rw[Bool.eq_iff_iff]
 simp
theorem aaN {s:List UInt8}:(fc s []).2.1=(bh s).isSome:=by
 unfold fc; cases bh s<;>rfl
def gf (v:Val):Bool:=decide ((v.1=1∧v.2.2.1=[] ∧ -2147483647≤v.2.1∧v.2.1≤2147483647)∨(v.1=2∧v.2.1=0∧(bh v.2.2.1).isSome=true∧v.2.2.1.length≤64)∨(v.1=3∧v.2.2.1=[]∧0≤v.2.1∧v.2.1≤1))
theorem ti {v:Val} (hv:v.2.2.1.length<4294967296):zby v=some (gf v):=by
 unfold zby gf
 simp only[sY (s:=v.2.2.1) (by omega),zb,aaN,ac]
 by_cases h1:v.1=1
 · rw[zp h1]
   by_cases h2:v.2.2.1=[]
   · by_cases h3:v.2.1 ≥ -2147483647
     · simp only[h1,h2,h3]; simp<;>omega
     · simp only[h1,h2]; simp[h3]<;>omega
   · simp[h1,h2]
 rw[zn h1]
 by_cases h2:v.1=2
 · rw[zp h2]
   cases hr:(bh v.2.2.1).isSome with
   | true =>
     by_cases h3:v.2.1=0
     · simp only[h2,h3]; simp<;>omega
     · simp[h2,h3]
   | false=>by_cases h3:v.2.1=0<;>simp[h2,h3]
 rw[zn h2]
 by_cases h3:v.1=3
 · rw[zp h3]
   by_cases h4:v.2.2.1=[]
   · by_cases h5:v.2.1≥0
     · simp only[h3,h4]; simp[h5]<;>omega
     · simp only[h3,h4]; simp[h5]<;>omega
   · simp[h3,h4]
 rw[zn h3]
 simp[h1,h2,h3]
abbrev Path:=List (List UInt8)
abbrev Ent:=Path×Int×List Val×Int×Unit
theorem acs:Cmp Lib.compareBytes where
 one a b:=by have:=acq a b; omega
 neg a b:=acr a b
 zero a b:=pY a b
 trans a b d h1 h2:=by
   have h3:=wl a b d (by omega) (by omega)
   rcases Int.lt_or_eq_of_le h3 with h | h
   · exact h
   · have e:=(pY a d).1 h
     subst e
     have:=acr a b
     omega
theorem mn:Cmp cmpI where
 one a b:=by
   unfold cmpI
   split
   · omega
   · split<;>omega
 neg a b:=by
   unfold cmpI
   by_cases h1:a<b
   · rw[zn (by omega),zp (by omega),zp h1]; rfl
   · by_cases h2:a>b
     · rw[zp (by omega),zn h1,zp h2]
     · rw[zn (by omega),zn (by omega),zn h1,zn h2]; rfl
 zero a b:=by
   unfold cmpI
   by_cases h1:a<b
   · rw[zp h1]; constructor<;>intro h<;>omega
   · by_cases h2:a>b
     · rw[zn h1,zp h2]; constructor<;>intro h<;>omega
     · rw[zn h1,zn h2]; constructor<;>intro h<;>omega
 trans a b d h1 h2:=by
   unfold cmpI at h1 h2 ⊢
   have e1:a<b:=by
     by_cases h:a<b
     · exact h
     · rw[zn h] at h1; split at h1<;>omega
   have e2:b<d:=by
     by_cases h:b<d
     · exact h
     · rw[zn h] at h2; split at h2<;>omega
   rw[zp (by omega)]; omega
theorem abx:∀ a b:List UInt8,Op.bytesLess a b=decide (Lib.compareBytes a b<0)
 | [],[]=>rfl
 | _::_,[]=>rfl
 | [],_::_=>rfl
 | x::a,y::b=>by
   simp only[Op.bytesLess,Lib.compareBytes]
   by_cases h1:x<y
   · simp[h1]
   · by_cases h2:y<x
     · have h3:x≠y:=fun e=>by subst e; exact h1 h2
       simp[h1,h2,h3]
     · have h3:x=y:=UInt8.toNat_inj.1 (by rw[UInt8.lt_iff_toNat_lt] at h1 h2; omega)
       subst h3
       simp[h1,abx a b]
theorem qB (a b:List UInt8):zaw a b=some (Lib.compareBytes a b):=by
 unfold zaw zaz
 simp only[decide_true,Bool.not_true,zb,cond_false,abx]
 have h1:=acq a b
 have h0:=pY a b
 by_cases h2:Lib.compareBytes a b<0
 · rw[zt h2]
   simp only[cond_true]
   congr 1; omega
 · rw[zf h2]
   simp only[cond_false,Bool.false_or]
   by_cases h3:a=b
   · rw[zt h3]
     simp only[Bool.not_true,cond_false]
     rw[h0.2 h3]
   · rw[zf h3]
     simp only[Bool.not_false,cond_true]
     congr 1
     have:Lib.compareBytes a b≠0:=fun e=>h3 (h0.1 e)
     omega
def cmpP:Path→Path→Int:=cmpL Lib.compareBytes
theorem ack {x y:List UInt8}{a b:Path}:cmpP (x::a) (y::b)=if Lib.compareBytes x y=0 then cmpP a b else Lib.compareBytes x y:=by unfold cmpP; rw[cmpL]
theorem rc {a b:Path} (ha:a.length<1000000):∀ (k i:Nat),a.length-i≤k→i≤a.length→i≤b.length →
   ((aJ (iu a b) ((i:Int),()):Option (Unit⊕Int)).bind (be fun _=>cond (decide ((a.length:Int)<(b.length:Int))) (some (-1)) (some 0)))=some (cmpP (a.drop i) (b.drop i)):=by
 intro k
 have fin:∀ i:Nat,i=a.length→i≤b.length→((aJ (iu a b) ((i:Int),()):Option (Unit⊕Int)).bind (be fun _=>cond (decide ((a.length:Int)<(b.length:Int))) (some (-1)) (some 0)))=some (cmpP (a.drop i) (b.drop i)):=by
   intro i hi h2
   have hl:aJ (iu a b) ((i:Int),())=some (.inl ()):=by
     refine aw ?_
     unfold iu
     simp only[ac]
     rw[zn (by omega)]
   rw[hl,aF,List.drop_eq_nil_of_le (by omega:a.length≤i)]
   rw[ac]
   by_cases h5:i<b.length
   · rw[List.drop_eq_getElem_cons h5,zp (by omega)]; rfl
   · rw[List.drop_eq_nil_of_le (by omega),zn (by omega)]; rfl
 induction k with
 | zero=>intro i hk h1 h2; exact fin i (by omega) h2
 | succ k ih =>
   intro i hk h1 h2
   by_cases h3:i<a.length
   · rw[List.drop_eq_getElem_cons h3]
     by_cases h4:i<b.length
     · rw[List.drop_eq_getElem_cons h4,ack]
       have turn:iu a b ((i:Int),())=if Lib.compareBytes a[i] b[i]=0 then some (.inl (((i+1:Nat):Int),())) else some (.inr (.inr (Lib.compareBytes a[i] b[i]))):=by
         unfold iu
         simp only[ac]
         rw[zp (by omega),aX h3]
         simp only[zb]
         rw[zn (by omega),aX h4]
         simp only[zb,qB]
         by_cases hz:Lib.compareBytes a[i] b[i]=0
         · rw[zt hz,zp hz]
           simp only[Bool.not_true,cond_false]
           rw[wrap64 (by omega) (by omega)]; rfl
         · rw[zf hz,zn hz]
           simp only[Bool.not_false,cond_true]
       by_cases hz:Lib.compareBytes a[i] b[i]=0
       · rw[zp hz] at turn ⊢
         rw[aD turn]
         exact ih (i+1) (by omega) (by omega) (by omega)
       · rw[zn hz] at turn ⊢
         rw[aw turn,aY]
     · have hl : aJ (iu a b) ((i : Int), ()) = some (.inr 1) := by
         refine aw ?_
         unfold iu
         simp only[ac]
         rw[zp (by omega),aX h3]
         simp only[zb]
         rw[zp (by omega)]
       rw[hl,aY,List.drop_eq_nil_of_le (by omega:b.length≤i)]; rfl
   · exact fin i (by omega) h2
theorem iJ {a b:Path} (ha:a.length<1000000):zbh a b=some (cmpP a b):=by
 have:=rc (b:=b) ha a.length 0 (by omega) (by omega) (by omega)
 simp only[List.drop_zero] at this
 rw[show (((0:Nat):Int))=0 from rfl] at this
 unfold zbh zar
 rw[this]; rfl
def keyE (e:Ent):Path×Int:=(e.1,e.2.1)
def cmpK:Path×Int→Path×Int→Int:=cmpB cmpP cmpI
theorem oi:Cmp cmpK:=(Cmp.list acs).pair mn
def mayM (c:Int):Bool:=decide (32≤c∧(c<127∨159<c)∧c≠65533)
theorem adN (c:Int):zcr c=some (mayM c):=by
 unfold zcr mayM
 simp only[ac]
 by_cases h1:c≥32
 · rw[zp h1]
   by_cases h2:c<127
   · rw[zp h2,zf (by omega:¬ c=65533),zt (by omega)]; rfl
   · rw[zn h2]
     by_cases h3:c>159
     · rw[zp h3]
       by_cases h4:c=65533
       · rw[zt h4,zf (by omega)]; rfl
       · rw[zf h4,zt (by omega)]; rfl
     · rw[zn h3,zf (by omega)]
 · rw[zn h1,zf (by omega)]
theorem aaM:∀ {s:List UInt8}{l:List Int},bh s=some l→l.length≤s.length:=by
 have key:∀ (n:Nat) (s:List UInt8) (l:List Int),s.length≤n→bh s=some l→l.length≤s.length:=by
   intro n
   induction n with
   | zero =>
     intro s l hn h
     have:s=[]:=List.eq_nil_of_length_eq_zero (by omega)
     subst this
     rw[bV] at h; cases h; simp
   | succ n ih =>
     intro s l hn h
     by_cases hs:s=[]
     · subst hs
       rw[bV] at h; cases h; simp
     · have hl:s.length≠0:=fun e=>hs (List.eq_nil_of_length_eq_zero e)
       by_cases h0:(aO s).2=0
       · rw[cR hs h0] at h; cases h
       · rw[cw hs h0,Option.map_eq_some_iff] at h
         obtain ⟨l',hl',rfl⟩:=h
         have:=ih _ l' (by rw[List.length_drop]; omega) hl'
         rw[List.length_drop] at this
         simp only[zl]; omega
 intro s l h
 exact key s.length s l (Nat.le_refl _) h
def tE (s:List UInt8):Bool:=match bh s with
 | some l=>decide (1≤l.length∧l.length≤24)&&l.all mayM
 | none=>false
theorem mN {s:List UInt8} (hs:s.length<1000000):zbv s=some (tE s):=by
 unfold zbv tE
 rw[sY (by omega)]
 simp only[zb]
 have gen:∀ (l:List Int) (ok:Bool),l.length<1000000→aJ (ql (l,ok,())) ((0:Int),())=some (if l.all mayM=true then .inl () else .inr false):=by
   intro l ok hl
   have:=gK (f:=ql (l,ok,())) (l:=l) (fun i=>((i:Int),())) mayM (.inl ()) (.inr false) (fun i h=>by
     unfold ql
     simp only[ac]
     rw[zp (by omega),aX h]
     simp only[zb,adN]
     cases mayM l[i] with
     | true=>simp only[Bool.not_true,cond_false,if_true]; rw[wrap64 (by omega) (by omega)]; rfl
     | false=>rfl) (by
     unfold ql
     simp only[ac]
     rw[zn (by omega)])
   exact this
 cases hr:bh s with
 | none =>
   have e:fc s []=([],false,()):=by unfold fc; rw[hr]
   rw[e,gen [] false (by simp)]
   rfl
 | some l =>
   have e:fc s []=(l,true,()):=by unfold fc; rw[hr]; rfl
   have hl:l.length≤s.length:=aaM hr
   rw[e,gen l true (by omega)]
   cases hm:l.all mayM with
   | false =>
     simp only[Bool.false_eq_true,if_false,aY,hm,Bool.and_false]
   | true =>
     simp only[if_true,aF,cond_true,hm,Bool.and_true,ac]
     by_cases h1:(l.length:Int)≥1
     · rw[zp h1]
       congr 1
       rw[decide_eq_decide]; omega
     · rw[zn h1,zf (by omega)]
def fX (p:Path):Int:=if p.length=0 then 8 else if p.length>8 then 9 else if p.all tE=true then 0 else 8
theorem xu {p:Path} (hs:∀ x∈p,x.length<1000000):zb1 p=some (fX p):=by
 unfold zb1 fX
 simp only[ac]
 by_cases h1:(p.length:Int)=0
 · rw[zp h1,zp (show p.length=0 by omega)]
 rw[zn h1,zn (show ¬ p.length=0 by omega)]
 by_cases h2:(p.length:Int)>8
 · rw[zp h2,zp (show p.length>8 by omega)]
 rw[zn h2,zn (show ¬ p.length>8 by omega)]
 have:=gK (f:=vd p) (l:=p) (fun i=>((i:Int),())) tE (0:Int) 8 (fun i h=>by
   unfold vd
   simp only[ac]
   rw[zp (by omega),aX h]
   simp only[zb,mN (hs _ (zm h))]
   cases tE p[i] with
   | true=>simp only[Bool.not_true,cond_false,if_true]; rw[wrap64 (by omega) (by omega)]; rfl
   | false=>rfl) (by
   unfold vd
   simp only[ac]
   rw[zn (by omega)])
 exact this
instance decE1:DecidableEq (List Val×Int×Unit):=fun a b => @instDecidableEqProd (List Val) (Int×Unit) inferInstance inferInstance a b
instance decE2:DecidableEq (Int×List Val×Int×Unit):=fun a b => @instDecidableEqProd Int (List Val×Int×Unit) inferInstance decE1 a b
instance decE:DecidableEq Ent:=fun a b => @instDecidableEqProd Path (Int×List Val×Int×Unit) inferInstance decE2 a b
instance decC1:DecidableEq (Ent×Unit):=fun a b => @instDecidableEqProd Ent Unit decE inferInstance a b
instance decC2:DecidableEq (Ent×Ent×Unit):=fun a b => @instDecidableEqProd Ent (Ent×Unit) decE decC1 a b
theorem ite_bool {b:Bool}:(if b=true then true else false)=b:=by cases b<;>rfl
theorem ady {a b:Path} (ha:a.length<1000000):zas a b=some (decide (a=b)):=by
 unfold zas
 by_cases hl:a.length=b.length
 · rw[zt (by omega)]
   simp only[Bool.not_true,cond_false]
   have:=iP (f:=vf a b) (l:=a) (m:=b) (fun i=>((i:Int),())) (fun x y=>decide (x=y)) true false hl (fun i h h'=>by
     unfold vf
     simp only[ac]
     rw[zp (by omega),aX h,aX h']
     simp only[zb]
     cases decide (a[i]=b[i]) with
     | true=>simp only[Bool.not_true,cond_false,if_true]; rw[wrap64 (by omega) (by omega)]; rfl
     | false=>rfl) (by
     unfold vf
     simp only[ac]
     rw[zn (by omega)])
   rw[jh,ite_bool] at this
   exact this
 · rw[zf (by omega)]
   have:a≠b:=fun e=>hl (by rw[e])
   rw[zf this]; rfl
theorem adt {a b:List Val} (ha:a.length<1000000):zaq a b=some (decide (a=b)):=by
 unfold zaq
 by_cases hl:a.length=b.length
 · rw[zt (by omega)]
   simp only[Bool.not_true,cond_false]
   have:=iP (f:=vg a b) (l:=a) (m:=b) (fun i=>((i:Int),())) (fun x y=>decide (x=y)) true false hl (fun i h h'=>by
     unfold vg
     simp only[ac]
     rw[zp (by omega),aX h,aX h']
     simp only[zb,xS]
     cases decide (a[i]=b[i]) with
     | true=>simp only[Bool.not_true,cond_false,if_true]; rw[wrap64 (by omega) (by omega)]; rfl
     | false=>rfl) (by
     unfold vg
     simp only[ac]
     rw[zn (by omega)])
   rw[jh,ite_bool] at this
   exact this
 · rw[zf (by omega)]
   have:a≠b:=fun e=>hl (by rw[e])
   rw[zf this]; rfl
def lowE (e:Ent):Prop:=e.1.length<1000000∧e.2.2.1.length<1000000
theorem nI {a b:Path} (ha:a.length<1000000):zcq a b=some (decide (a=b)):=by
 unfold zcq
 rw[ady ha]; rfl
theorem ng {a b:Ent} (ha:lowE a):zcw a b=some (decide (a=b)):=by
 obtain ⟨p,k,l,n,⟨⟩⟩:=a
 obtain ⟨p',k',l',n',⟨⟩⟩:=b
 unfold zcw
 simp only[nI ha.1,adt ha.2,zb,ac]
 by_cases h1:k=k'
 · rw[zp h1]
   simp only[zb]
   by_cases h2:n=n'
   · by_cases h3:p=p'
     · by_cases h4:l=l'
       · simp[h1,h2,h3,h4]
       · simp[h1,h2,h3,h4]
     · simp[h1,h2,h3]
   · simp[h1,h2]
 · rw[zn h1]
   simp[h1]
def aqi (e:Ent):Prop:=e.1.length≤12∧(∀ x∈e.1,x.length≤120)∧e.2.2.1.length≤400∧∀ v∈e.2.2.1,gf v=true
theorem vq {p:Path}:zbq p=some (decide (p.length≤12)&&p.all fun x=>decide (x.length≤120)):=by
 unfold zbq
 simp only[ac]
 by_cases h1:(p.length:Int)>12
 · rw[zp h1,zf (by omega)]; rfl
 rw[zn h1,zt (by omega),Bool.true_and]
 have:=gK (f:=uS p) (l:=p) (fun i=>((i:Int),())) (fun x=>decide (x.length≤120)) true false (fun i h=>by
   unfold uS
   simp only[ac]
   rw[zp (by omega),aX h]
   simp only[zb]
   by_cases h2:(p[i].length:Int)>120
   · rw[zp h2,zn (by simp; omega)]
   · rw[zn h2,zp (by simp; omega),wrap64 (by omega) (by omega)]; rfl) (by
   unfold uS
   simp only[ac]
   rw[zn (by omega)])
 rw[ite_bool] at this
 exact this
def oI:Ent:=([],0,[],0,())
def xd (x y:Ent):Bool:=decide (x=y)
theorem sub1 {A:Type}{x:A}{l:List A}:subI (x::l) 1 ((x::l).length:Int)=some l:=by
 have:=ga (l:=x::l) (i:=1) (by simp)
 simpa using this
theorem at0 {A:Type}{x:A}{l:List A}:atI (x::l) 0=some x:=by
 have:=bN (l:=x::l) (i:=0)
 simpa using this
def aqG (e:Ent):Prop:=lowE e∧∀ x∈e.1,x.length<1000000
theorem qj:aqG oI:=⟨⟨by decide,by decide⟩,fun x hx=>by cases hx⟩
theorem eC {R X S:Type}{g:S→X→S}{fin:S→R}:∀ (l:List X) (i:Nat) (s:S),dp (fun _ x s=>.inl (g s x)) fin i l s=fin (l.foldl g s)
 | [],_,s=>rfl
 | x::l,i,s=>by simp only[dp,List.foldl_cons]; exact eC l (i+1) (g s x)
theorem abP {n:Nat} (h:n<9000000):shrT .u64 (IntKind.wrap .u64 (IntKind.wrap .i64 (n:Int))) 1=some ((n/2:Nat):Int):=by
 rw[wrap64 (by omega) (by omega)]
 have w:IntKind.wrap .u64 (n:Int)=(n:Int):=by simp[IntKind.wrap,IntKind.bits,IntKind.signed]; omega
 rw[w]
 unfold shrT
 rw[zn (by omega)]
 have e:(2:Int) ^ min (Int.toNat 1) (IntKind.bits .u64)=2:=by decide
 rw[e,Int.fdiv_eq_ediv_of_nonneg _ (by omega)]
 congr 1
theorem eU (a b:Val):za8 a b=some (cmpV a b):=by
 unfold za8 cmpV za6 cmpT
 simp only[jb,asx,zb]
abbrev Dot1:=Int×Int×Unit
abbrev Ref1:=Dot1×Int×Unit
abbrev Op1:=Int×Path×Val×Int×List Ref1×Unit
abbrev Txn1:=Dot1×Int×Int×Bool×List Op1×Unit
abbrev bk:=Ref1×Op1×Int×Unit
abbrev mK:Ty:=.agg (.cons (.agg (.cons (.int .i64) (.cons (.int .i64) .unit))) (.cons (.int .i64) .unit))
theorem uF {K L:Type}{c:K→K→Int} (h:Cmp c) (f:L→K) (hf:∀ a b,f a=f b→a=b):Cmp fun a b=>c (f a) (f b) where
 one a b:=h.one _ _
 neg a b:=h.neg _ _
 zero a b:=⟨fun e=>hf _ _ ((h.zero _ _).1 e),fun e=>(h.zero _ _).2 (by rw[e])⟩
 trans a b d:=h.trans _ _ _
theorem om:Cmp cmpD:=by
 have:cmpD=fun a b=>cmpB cmpI cmpI ((fun x:Dot1=>(x.1,x.2.1)) a) ((fun x:Dot1=>(x.1,x.2.1)) b):=rfl
 rw[this]
 exact uF (mn.pair mn) _ fun a b h=>by
   obtain ⟨a1,a2,⟨⟩⟩:=a; obtain ⟨b1,b2,⟨⟩⟩:=b
   simp only[Prod.mk.injEq] at h
   rw[h.1,h.2]
def cmpR (a b:Ref1):Int:=orI (cmpD a.1 b.1) (cmpI a.2.1 b.2.1)
theorem fp:Cmp cmpV:=by
 have:cmpV=fun a b=>cmpB cmpI (cmpB cmpI Lib.compareBytes) ((fun x:Val=>(x.1,x.2.1,x.2.2.1)) a) ((fun x:Val=>(x.1,x.2.1,x.2.2.1)) b):=rfl
 rw[this]
 exact uF (mn.pair (mn.pair acs)) _ fun a b h=>by
   obtain ⟨a1,a2,a3,⟨⟩⟩:=a; obtain ⟨b1,b2,b3,⟨⟩⟩:=b
   simp only[Prod.mk.injEq] at h
   rw[h.1,h.2.1,h.2.2]
theorem abH (a b:Int):zb7 a b=some (cmpI a b):=by
 unfold zb7 cmpI
 simp only[ac]
 by_cases h1:a<b
 · rw[zp h1,zp h1]
 · by_cases h2:a>b
   · rw[zn h1,zp h2,zn h1,zp h2]
   · rw[zn h1,zn h2,zn h1,zn h2]
theorem rZ (a b:Int):cmpI a b=0↔a=b:=mn.zero a b
theorem o5 (a b:Dot1):zba a b=some (cmpD a b):=by
 unfold zba cmpD orI
 simp only[abH,zb,bT]
 by_cases h:a.1=b.1
 · rw[zp h,zp ((rZ _ _).2 h)]
 · rw[zn h,zn (fun e=>h ((rZ _ _).1 e))]
theorem adM (a b:Ref1):zcm a b=some (cmpR a b):=by
 unfold zcm cmpR orI
 simp only[o5,abH,zb,bT]
 by_cases h:cmpD a.1 b.1=0
 · rw[zp h,zp h]
 · rw[zn h,zn h]
theorem aqH (a b:Dot1):zbu a b=some (cmpD a b):=by
 unfold zbu
 simp only[jb,or_t,zb]
 rfl
theorem jz (d:Dot1):zbx d=some (eN d):=by
 unfold zbx eN
 simp only[ac]
 by_cases h1:d.1≥0<;>by_cases h2:d.1≤15<;>by_cases h3:d.2.1≥1<;>by_cases h4:d.2.1≤1048576<;>simp[h1,h2,h3,h4]<;>omega
theorem lm {A K:Type}{c:K→K→Int}{key:A→K} (hc:Cmp c):∀ {l:List A},(∀ i,(h:i+1<l.length)→c (key l[i]) (key l[i+1])<0)→dF c key l
 | [],_=>List.Pairwise.nil
 | [x],_=>List.pairwise_singleton ..
 | x::y::l,h=>by
   have ih:=lm hc (l:=y::l) (fun i hi=>h (i+1) (by simpa using hi))
   have h0:=h 0 (by simp)
   refine List.pairwise_cons.2 ⟨fun z hz => ?_,ih⟩
   rcases List.mem_cons.1 hz with e | hz'
   · subst e; exact h0
   · exact hc.trans _ _ _ h0 ((List.pairwise_cons.1 ih).1 z hz')
theorem ab4 (a b:Ref1):eqV mK a b=decide (a=b):=by
 obtain ⟨⟨a1,a2,⟨⟩⟩,a3,⟨⟩⟩:=a
 obtain ⟨⟨b1,b2,⟨⟩⟩,b3,⟨⟩⟩:=b
 simp only[eqV,Prod.mk.injEq,and_true]
 by_cases h1:a1=b1<;>by_cases h2:a2=b2<;>by_cases h3:a3=b3<;>simp[h1,h2,h3]
def aqk (x:Ref1):Bool:=eN x.1&&decide (0≤x.2.1∧x.2.1≤15)
def aaU (l:List Ref1) (i:Nat):Bool :=
 match l[i]? with
 | some x=>aqk x&&(decide (i=0)||match l[i-1]? with
   | some y=>decide (cmpR y x = -1)
   | none=>false)
 | none=>false
open Classical in
noncomputable def mM (l:List Ref1):Bool:=if (∀ i,i<l.length→aaU l i=true) then true else false
theorem aaV {l:List Ref1} (hl:l.length<1000000):zb8 l=some (mM l):=by
 have:=lM (f:=uZ l) l.length (fun i=>((i:Int),())) (aaU l) true false (fun i h=>by
   unfold uZ aaU aqk
   rw[zg h]
   simp only[ac]
   rw[zp (by omega),aX h]
   simp only[zb,jz]
   by_cases h0:eN l[i].1=true
   · simp only[h0,Bool.not_true,cond_false,Bool.true_and]
     by_cases h1:l[i].2.1<0
     · rw[zp h1,zf (by omega)]; rfl
     rw[zn h1]
     by_cases h2:l[i].2.1>15
     · rw[zp h2,zf (by omega)]; rfl
     rw[zn h2,zt (by omega),Bool.true_and]
     by_cases h3:i=0
     · subst h3
       rw[zn (by omega),wrap64 (by omega) (by omega)]; rfl
     · rw[zp (by omega),wrap64 (by omega) (by omega),show (i:Int)-1=((i-1:Nat):Int) by omega,aX (by omega),zg (show i-1<l.length by omega)]
       simp only[zb,adM,bT]
       by_cases h4:cmpR l[i-1] l[i] = -1
       · rw[zp h4,wrap64 (by omega) (by omega)]; simp[h3,h4]
       · rw[zn h4]; simp[h3,h4]
   · have h0:eN l[i].1=false:=by simpa using h0
     simp only[h0,Bool.not_false,cond_true,Bool.false_and]; rfl) (by
   unfold uZ
   simp only[ac]
   rw[zn (by omega)])
 unfold zb8 mM
 rw[show ((0:Int),())=(((0:Nat):Int),()) from rfl,this]
def zeroV:Val:=(0,0,[],())
noncomputable def opM (o:Op1):Int :=
 if o.1<1∨5<o.1 then 18 else if fX o.2.1≠0 then fX o.2.1
 else if (o.1=3∨o.1=5)∧o.2.2.1≠zeroV then 2
 else if ¬ (o.1=3∨o.1=5)∧gf o.2.2.1=false then 2
 else if o.1≠3∧o.2.2.2.1≠0 then 2
 else if o.1=3∧(o.2.2.2.1=0∨o.2.2.2.1>2147483647∨o.2.2.2.1 < -2147483647) then 2
 else if (o.1=2∨o.1=3)∧0<o.2.2.2.2.1.length then 2
 else if 256<o.2.2.2.2.1.length then 7
 else if mM o.2.2.2.2.1=true then 0 else 2
def qJ (o:Op1):Prop:=o.2.1.length≤12∧(∀ x∈o.2.1,x.length≤120)∧o.2.2.1.2.2.1.length≤200∧o.2.2.2.2.1.length≤300
theorem ajn {o:Op1} (h:qJ o):zbp o=some (opM o):=by
 obtain ⟨s1,s2,s3,s4⟩:=h
 obtain ⟨k,p,v,n,sn,⟨⟩⟩:=o
 simp only at s1 s2 s3 s4
 unfold zbp opM
 simp only[ac,bT,xS,xu (p:=p) (fun x hx=>by have:=s2 x hx; omega),ti (v:=v) (by omega),aaV (l:=sn) (by omega),zb]
 have ez:((0,0,[],()):Val)=zeroV:=rfl
 simp only[ez]
 by_cases a1:k<1
 · rw[zp a1,zp (.inl a1)]
 rw[zn a1]
 by_cases a2:k>5
 · rw[zp a2,zp (.inr a2)]
 rw[zn a2]
 rw[zn (show ¬ (k<1∨5<k) by omega)]
 by_cases a3:¬ fX p=0
 · rw[zn a3,zp (show fX p≠0 from a3)]
 have a3:fX p=0:=Classical.not_not.1 a3
 rw[zp a3,zn (show ¬ fX p≠0 from fun e=>e a3)]
 have hlen:((sn.length:Int)>0)↔0<sn.length:=by omega
 have hlen2:((sn.length:Int)>256)↔256<sn.length:=by omega
 simp only[hlen,hlen2]
 have last:(cond (!mM sn) (some (2:Int)) (some 0))=some (if mM sn=true then 0 else 2):=by cases mM sn<;>rfl
 by_cases k3:k=3
 · subst k3
   by_cases hz:v=zeroV
   · by_cases n0:n=0
     · simp[hz,n0]
     · by_cases n1:n>2147483647
       · simp[hz,n0,n1]
       · by_cases n2:n < -2147483647
         · simp[hz,n0,n1,n2]
         · by_cases l0:0<sn.length
           · simp[hz,n0,n1,n2,l0]
           · by_cases l2:256<sn.length
             · omega
             · simp[hz,n0,n1,n2,l0,l2,last]
   · simp[hz]
 · by_cases k5:k=5
   · subst k5
     by_cases hz:v=zeroV
     · by_cases n0:n=0
       · by_cases l2:256<sn.length
         · simp[hz,n0,l2]
         · simp[hz,n0,l2,last]
       · simp[hz,n0]
     · simp[hz]
   · cases hr:gf v with
     | false=>simp[k3,k5,hr]
     | true =>
       by_cases n0:n=0
       · by_cases k2:k=2
         · subst k2
           by_cases l0:0<sn.length
           · simp[n0,l0]
           · by_cases l2:256<sn.length
             · omega
             · simp[n0,l0,l2,last]
         · by_cases l2:256<sn.length
           · simp[k2,k3,k5,n0,l2]
           · simp[k2,k3,k5,n0,l2,last]
       · simp[k3,k5,n0]
def jN (o:Op1):Bool:=decide (o.1=0∧o.2.1=[]∧o.2.2.1=zeroV∧o.2.2.2.1=0∧o.2.2.2.2.1=[])
theorem aqB (o:Op1):zcc o=some (jN o):=by
 obtain ⟨k,p,v,n,sn,⟨⟩⟩:=o
 unfold zcc jN
 simp only[ac,xS]
 have ez:((0,0,[],()):Val)=zeroV:=rfl
 simp only[ez]
 have e1:((p.length:Int)=0)↔p=[]:=by rw[show ((p.length:Int)=0)↔p.length=0 by omega,List.length_eq_zero_iff]
 have e2:((sn.length:Int)=0)↔sn=[]:=by rw[show ((sn.length:Int)=0)↔sn.length=0 by omega,List.length_eq_zero_iff]
 simp only[e1,e2]
 by_cases h1:k=0<;>by_cases h2:p=[]<;>by_cases h3:v=zeroV<;>by_cases h4:n=0<;>by_cases h5:sn=[]<;>simp[h1,h2,h3,h4,h5]
def kZ (o:Op1):Bool:=decide (o.2.1.length≤12)&&(o.2.1.all fun x=>decide (x.length≤120))&&decide (o.2.2.1.2.2.1.length≤200)&&decide (o.2.2.2.2.1.length≤300)
theorem aaI (o:Op1):zbn o=some (kZ o):=by
 unfold zbn kZ
 simp only[vq,zb,ac]
 cases (decide (o.2.1.length≤12)&&o.2.1.all fun x=>decide (x.length≤120)) with
 | false=>rfl
 | true =>
   rw[cond_true,Bool.true_and]
   by_cases h3:((o.2.2.1.2.2.1.length:Int)≤200)
   · rw[zp h3,zt (show o.2.2.1.2.2.1.length≤200 by omega),Bool.true_and]
     congr 1
     by_cases h4:((o.2.2.2.2.1.length:Int)≤300)
     · rw[zt h4,zt (by omega)]
     · rw[zf h4,zf (by omega)]
   · rw[zn h3,zf (show ¬ o.2.2.1.2.2.1.length≤200 by omega)]; rfl
theorem nv {o:Op1}:kZ o=true↔qJ o:=by
 unfold kZ qJ
 simp only[Bool.and_eq_true,decide_eq_true_eq,List.all_eq_true]
 exact ⟨fun h=>⟨h.1.1.1,h.1.1.2,h.1.2,h.2⟩,fun h=>⟨⟨⟨h.1,h.2.1⟩,h.2.2.1⟩,h.2.2.2⟩⟩
noncomputable def iD (t:Txn1):Bool:=decide (t.2.2.2.2.1.length≤20)&&t.2.2.2.2.1.all kZ
theorem xb (t:Txn1):zbw t=some (iD t):=by
 unfold zbw iD
 simp only[ac]
 by_cases h1:(t.2.2.2.2.1.length:Int)>20
 · rw[zp h1,zf (by omega)]; rfl
 rw[zn h1,zt (by omega),Bool.true_and]
 have:=gK (f:=uQ t) (l:=t.2.2.2.2.1) (fun i=>((i:Int),())) kZ true false (fun i h=>by
   unfold uQ
   simp only[ac]
   rw[zp (by omega),aX h]
   simp only[zb,aaI]
   by_cases hs:kZ t.2.2.2.2.1[i]=true
   · rw[hs,Bool.not_true,cond_false,zp rfl,wrap64 (by omega) (by omega)]; rfl
   · rw[zn hs,eq_false_of_ne_true hs]; rfl) (by
   unfold uQ
   simp only[ac]
   rw[zn (by omega)])
 rw[ite_bool] at this
 exact this
noncomputable def opsM (thin:Bool):List Op1→Int
 | []=>0
 | o::l=>if opM o≠0∧¬ (thin=true∧jN o=true) then opM o else opsM thin l
noncomputable def txnM (t:Txn1):Int :=
 if eN t.1=false∨t.2.1<0∨7<t.2.1∨t.2.2.1<1∨1099511627776<t.2.2.1 then 2
 else if t.2.2.2.2.1.length=0 then 11 else if 16<t.2.2.2.2.1.length then 7 else opsM t.2.2.2.1 t.2.2.2.2.1
theorem rd {thin:Bool}:∀ (l:List Op1) (i:Nat),dp (S:=Unit) (fun _ o _=>if opM o≠0∧¬ (thin=true∧jN o=true) then .inr (opM o) else .inl ()) (fun _=>(0:Int)) i l ()=opsM thin l
 | [],_=>rfl
 | o::l,i=>by
   unfold dp opsM
   by_cases h:opM o≠0∧¬ (thin=true∧jN o=true)
   · rw[zp h,zp h]
   · rw[zn h,zn h]; exact rd l (i+1)
theorem wZ {t:Txn1} (h:iD t=true):zbt t=some (txnM t):=by
 unfold iD at h
 simp only[Bool.and_eq_true,decide_eq_true_eq,List.all_eq_true] at h
 obtain ⟨h1,h2⟩:=h
 have loop:=bS (S:=Unit) (R:=Int) (f:=qm t) (l:=t.2.2.2.2.1) (fun i _=>((i:Int),())) (fun _ o _=>if opM o≠0∧¬ (t.2.2.2.1=true∧jN o=true) then .inr (opM o) else .inl ()) (fun _=>(0:Int)) (fun _ _=>True) (fun i h s _=>by
   have turn:qm t ((i:Int),())=if opM t.2.2.2.2.1[i]≠0∧¬ (t.2.2.2.1=true∧jN t.2.2.2.2.1[i]=true) then some (.inr (opM t.2.2.2.2.1[i])) else some (.inl (((i+1:Nat):Int),())):=by
     unfold qm
     simp only[ac,bT]
     rw[zp (by omega),aX h]
     simp only[zb,ajn (nv.1 (h2 _ (zm h))),aqB]
     rw[wrap64 (by omega) (by omega),show (i:Int)+1=((i+1:Nat):Int) by omega]
     by_cases a:opM t.2.2.2.2.1[i]=0
     · rw[zp a,zn (fun e=>e.1 a)]
     · rw[zn a]
       cases ht:t.2.2.2.1 with
       | false=>rw[cond_false,zp ⟨a,by simp⟩]
       | true =>
         rw[cond_true]
         by_cases hg:jN t.2.2.2.2.1[i]=true
         · rw[hg,Bool.not_true,cond_false,zn (by simp)]
         · rw[eq_false_of_ne_true hg,Bool.not_false,cond_true,zp ⟨a,by simp⟩]
   by_cases hc:opM t.2.2.2.2.1[i]≠0∧¬ (t.2.2.2.1=true∧jN t.2.2.2.2.1[i]=true)
   · exact .inr ⟨_,by rw[zp hc],by rw[turn,zp hc]⟩
   · exact .inl ⟨(),by rw[zn hc],by rw[turn,zn hc],trivial⟩) (fun s _=>by
   unfold qm
   simp only[ac]
   rw[zn (by omega)]) () trivial
 rw[rd] at loop
 rw[show (((0:Nat):Int),())=((0:Int),()) from rfl] at loop
 unfold zbt txnM
 simp only[ac,jz,zb]
 by_cases a1:eN t.1=true
 · rw[a1,Bool.not_true,cond_false]
   simp only[zb]
   by_cases a2:t.2.1<0
   · rw[zt a2,cond_true,zp (.inr (.inl a2))]
   rw[zf a2,cond_false]
   by_cases a3:t.2.1>7
   · rw[zp a3,zp (.inr (.inr (.inl a3)))]
   rw[zn a3]
   by_cases a4:t.2.2.1<1
   · rw[zp a4,zp (.inr (.inr (.inr (.inl a4))))]
   rw[zn a4]
   by_cases a5:t.2.2.1>1099511627776
   · rw[zp a5,zp (.inr (.inr (.inr (.inr a5))))]
   have nn:¬ (true=false∨t.2.1<0∨7<t.2.1∨t.2.2.1<1∨1099511627776<t.2.2.1):=by
     rintro (h | h | h | h | h)
     · cases h
     · exact a2 h
     · exact a3 h
     · exact a4 h
     · exact a5 h
   rw[zn a5,zn nn]
   by_cases a6:t.2.2.2.2.1.length=0
   · rw[zp (show (t.2.2.2.2.1.length:Int)=0 by omega),zp a6]
   rw[zn (show ¬ (t.2.2.2.2.1.length:Int)=0 by omega),zn a6]
   by_cases a7:16<t.2.2.2.2.1.length
   · rw[zp (show (t.2.2.2.2.1.length:Int)>16 by omega),zp a7]
   rw[zn (show ¬ (t.2.2.2.2.1.length:Int)>16 by omega),zn a7]
   exact loop
 · have a1:eN t.1=false:=by simpa using a1
   rw[zp (show eN t.1=false∨t.2.1<0∨7<t.2.1∨t.2.2.1<1∨1099511627776<t.2.2.1 from .inl a1),a1]
   rfl
noncomputable def nD {A:Type} (key:A→Dot1) (l:List A) (i:Nat):Bool:=match l[i]?,l[i+1]? with
 | some x,some y=>decide (cmpD (key x) (key y) = -1)
 | _,_=>true
theorem xn {A:Type}{key:A→Dot1}{l:List A} (h:∀ i,i<l.length-1→nD key l i=true):dF cmpD key l:=by
 refine lm om fun i hi => ?_
 have:=h i (by omega)
 unfold nD at this
 rw[zg hi,zg (show i<l.length by omega)] at this
 simp only[decide_eq_true_eq] at this
 omega
open Classical in
theorem aaR {l:List Txn1} (hl:l.length<1000000):zbo l=some (if (∀ i,i<l.length-1→nD (·.1) l i=true) then true else false):=by
 have:=lM (f:=uT l) (l.length-1) (fun i=>(((i+1:Nat):Int),())) (nD (·.1) l) true false (fun i h=>by
   unfold uT nD
   rw[zg (show i<l.length by omega),zg (show i+1<l.length by omega)]
   simp only[ac,bT]
   rw[zp (by omega),wrap64 (by omega) (by omega),show ((i+1:Nat):Int)-1=(i:Int) by omega,aX (show i<l.length by omega),aX (show i+1<l.length by omega)]
   simp only[zb,o5,decide_eq_true_eq]
   rw[wrap64 (by omega) (by omega)]
   by_cases h4:cmpD l[i].1 l[i+1].1 = -1
   · rw[zp h4,zp h4]; rfl
   · rw[zn h4,zn h4]) (by
   unfold uT
   simp only[ac]
   rw[zn (by omega)])
 exact this
def oneM (x:Ref1):Bool:=eN x.1&&decide (1≤x.2.1∧x.2.1≤64)
theorem asy (x:Ref1):zct x=some (oneM x):=by
 unfold zct oneM
 simp only[jz,zb,ac]
 cases eN x.1 with
 | false=>rfl
 | true =>
   rw[cond_true,Bool.true_and]
   by_cases h1:x.2.1≥1<;>by_cases h2:x.2.1≤64<;>simp[h1,h2]<;>omega
def ik (l:List Ref1) (i:Nat):Bool:=match l[i]? with
 | some x=>oneM x&&(decide (i=0)||match l[i-1]? with
   | some y=>decide (cmpD y.1 x.1 = -1)
   | none=>false)
 | none=>false
open Classical in
theorem adK {l:List Ref1} (hl:l.length<1000000):zbz l=some (if (∀ i,i<l.length→ik l i=true) then true else false):=by
 have:=lM (f:=uP l) l.length (fun i=>((i:Int),())) (ik l) true false (fun i h=>by
   unfold uP ik
   rw[zg h]
   simp only[ac]
   rw[zp (by omega),aX h]
   simp only[zb,asy]
   by_cases h0:oneM l[i]=true
   · simp only[h0,Bool.not_true,cond_false,Bool.true_and]
     by_cases h3:i=0
     · subst h3
       rw[zn (by omega),wrap64 (by omega) (by omega)]; rfl
     · rw[zp (by omega),wrap64 (by omega) (by omega),show (i:Int)-1=((i-1:Nat):Int) by omega,aX (by omega),zg (show i-1<l.length by omega)]
       simp only[zb,o5,bT]
       by_cases h4:cmpD l[i-1].1 l[i].1 = -1
       · rw[zp h4,wrap64 (by omega) (by omega)]; simp[h3,h4]
       · rw[zn h4]; simp[h3,h4]
   · have h0:oneM l[i]=false:=by simpa using h0
     simp only[h0,Bool.not_false,cond_true,Bool.false_and]; rfl) (by
   unfold uP
   simp only[ac]
   rw[zn (by omega)])
 exact this
abbrev xp (u:List Ref1):Prop:=dF cmpD (·.1) u
structure CountsOk (u:List Ref1):Prop where
 len:u.length≤100
 rise:xp u
 one:∀ x∈u,oneM x=true
theorem counts_of {l:List Ref1} (hl:l.length≤100) (h:∀ i,i<l.length→ik l i=true):CountsOk l where
 len:=hl
 rise:=lm om fun i hi=>by
   have:=h (i+1) hi
   unfold ik at this
   rw[zg hi,Nat.add_sub_cancel,zg (show i<l.length by omega)] at this
   simp only[Bool.and_eq_true,Bool.or_eq_true,decide_eq_true_eq] at this
   omega
 one x hx:=by
   obtain ⟨i,hi,rfl⟩:=List.mem_iff_getElem.1 hx
   have:=h i hi
   unfold ik at this
   rw[zg hi] at this
   simp only[Bool.and_eq_true] at this
   exact this.1
structure TxnOk (t:Txn1):Prop where
 len:t.2.2.2.2.1.length≤16
 pos:0<t.2.2.2.2.1.length
 ops:∀ o∈t.2.2.2.2.1,qJ o∧(opM o=0∨t.2.2.2.1=true∧jN o=true)
 dot:eN t.1=true
 user:0≤t.2.1∧t.2.1≤7
 time:1≤t.2.2.1∧t.2.2.1≤1099511627776
theorem vC {thin:Bool}:∀ {l:List Op1},opsM thin l=0→∀ o∈l,opM o=0∨thin=true∧jN o=true
 | [],_,o,h=>by cases h
 | p::l,h,o,ho=>by
   unfold opsM at h
   by_cases hc:opM p≠0∧¬ (thin=true∧jN p=true)
   · rw[zp hc] at h; exact absurd h hc.1
   · rw[zn hc] at h
     rcases List.mem_cons.1 ho with e | ho
     · subst e
       by_cases h1:opM o=0
       · exact .inl h1
       · exact .inr (Classical.not_not.1 fun h2=>hc ⟨h1,h2⟩)
     · exact vC h o ho
theorem aqf {t:Txn1} (h1:iD t=true) (h2:txnM t=0):TxnOk t:=by
 unfold iD at h1
 simp only[Bool.and_eq_true,decide_eq_true_eq,List.all_eq_true] at h1
 unfold txnM at h2
 by_cases a:eN t.1=false∨t.2.1<0∨7<t.2.1∨t.2.2.1<1∨1099511627776<t.2.2.1
 · rw[zp a] at h2; omega
 rw[zn a] at h2
 by_cases b:t.2.2.2.2.1.length=0
 · rw[zp b] at h2; omega
 rw[zn b] at h2
 by_cases c:16<t.2.2.2.2.1.length
 · rw[zp c] at h2; omega
 rw[zn c] at h2
 refine ⟨by omega,by omega,fun o ho=>⟨nv.1 (h1.2 o ho),vC h2 o ho⟩,?_,?_,?_⟩
 · cases hr:eN t.1 with
   | true=>rfl
   | false=>exact absurd (.inl hr) a
 · constructor
   · exact Int.not_lt.1 fun h=>a (.inr (.inl h))
   · exact Int.not_lt.1 fun h=>a (.inr (.inr (.inl h)))
 · constructor
   · exact Int.not_lt.1 fun h=>a (.inr (.inr (.inr (.inl h))))
   · exact Int.not_lt.1 fun h=>a (.inr (.inr (.inr (.inr h))))
abbrev asw (l:List Txn1):Prop:=dF cmpD (·.1) l
structure TxnsOk (l:List Txn1) (n:Nat):Prop where
 len:l.length≤n
 rise:asw l
 all:∀ t∈l,TxnOk t
open Classical in
theorem wY {l:List Txn1}{n:Nat} (hn:n<1000000):∃ b,zcl l (n:Int)=some b∧(b=true→TxnsOk l n):=by
 unfold zcl
 simp only[ac]
 by_cases h1:(l.length:Int)>(n:Int)
 · exact ⟨false,by rw[zp h1],fun h=>by cases h⟩
 rw[zn h1,aaR (by omega)]
 simp only[zb]
 by_cases h2:∀ i,i<l.length-1→nD (·.1) l i=true
 · rw[zp h2,Bool.not_true,cond_false]
   have:=gK (f:=uJ l) (l:=l) (fun i=>((i:Int),())) (fun t=>iD t&&decide (txnM t=0)) true false (fun i h=>by
     unfold uJ
     simp only[ac]
     rw[zp (by omega),aX h]
     simp only[zb,xb]
     by_cases hs:iD l[i]=true
     · simp only[hs,Bool.not_true,cond_false,wZ hs,zb,Bool.true_and,bT,decide_eq_true_eq]
       by_cases hz:txnM l[i]=0
       · rw[zp hz,zp hz,wrap64 (by omega) (by omega)]; rfl
       · rw[zn hz,zn hz]
     · have hs:iD l[i]=false:=by simpa using hs
       simp only[hs,Bool.not_false,cond_true,Bool.false_and]; rfl) (by
     unfold uJ
     simp only[ac]
     rw[zn (by omega)])
   rw[ite_bool] at this
   refine ⟨_,this,fun h=>⟨by omega,xn h2,fun t ht => ?_⟩⟩
   have:=List.all_eq_true.1 h t ht
   simp only[Bool.and_eq_true,decide_eq_true_eq] at this
   exact aqf this.1 this.2
 · rw[zn h2]
   exact ⟨false,rfl,fun h=>by cases h⟩
theorem rU (u:List Ref1):∃ b,zce u=some b∧(b=true→CountsOk u):=by
 unfold zce
 simp only[ac]
 by_cases h1:(u.length:Int)≤100
 · rw[zp h1,adK (by omega)]
   simp only[zb]
   refine ⟨_,rfl,fun h=>counts_of (by omega) ?_⟩
   by_cases h2:∀ i,i<u.length→ik u i=true
   · exact h2
   · rw[zn h2] at h; cases h
 · exact ⟨false,by rw[zn h1],fun h=>by cases h⟩
theorem aeh (l:List Txn1) (u:List Ref1):∃ b,zca l u=some b∧(b=true→TxnsOk l 20∧CountsOk u):=by
 unfold zca
 obtain ⟨b,h1,h2⟩:=wY (l:=l) (n:=20) (by omega)
 rw[show ((20:Nat):Int)=20 from rfl] at h1
 rw[h1]
 simp only[zb]
 cases b with
 | false=>exact ⟨false,rfl,fun h=>by cases h⟩
 | true =>
   obtain ⟨c,h3,h4⟩:=rU u
   rw[cond_true,h3]
   exact ⟨c,rfl,fun h=>⟨h2 rfl,h4 h⟩⟩
def getM (u:List Ref1) (d:Dot1):Int:=match u with
 | []=>0
 | x::u=>if x.1=d then x.2.1 else getM u d
abbrev loU (d:Dot1) (u:List Ref1):List Ref1:=lo cmpD (·.1) d u
abbrev hiU (d:Dot1) (u:List Ref1):List Ref1:=hi cmpD (·.1) d u
theorem rH {d:Dot1}:∀ {u:List Ref1},(∀ x∈u,x.1≠d)→getM u d=0
 | [],_=>rfl
 | x::u,h=>by
   unfold getM
   rw[zn (h x (List.mem_cons_self ..))]
   exact rH fun y hy=>h y (List.mem_cons_of_mem _ hy)
theorem vW {d:Dot1}:∀ {p q:List Ref1},(∀ x∈p,x.1≠d)→getM (p++q) d=getM q d
 | [],_,_=>rfl
 | x::p,q,h=>by
   rw[List.cons_append]
   conv=>lhs; unfold getM
   rw[zn (h x (List.mem_cons_self ..))]
   exact vW fun y hy=>h y (List.mem_cons_of_mem _ hy)
theorem vn (a b:Ref1):zbb a b=some (cmpD a.1 b.1):=by
 unfold zbb
 rw[aqH]; rfl
theorem qy {u:List Ref1}{d:Ref1} (hl:u.length<1000000) (hr:xp u):∀ (k i j:Nat),j-i≤k→i≤(loU d.1 u).length→(loU d.1 u).length≤j→j≤u.length →
   aJ (nc u d) ((i:Int),(j:Int),())=some (.inl (((loU d.1 u).length:Int),())):=by
 intro k
 induction k with
 | zero =>
   intro i j hk h1 h2 h3
   refine aw ?_
   unfold nc
   simp only[ac]
   rw[zn (by omega),show (loU d.1 u).length=i by omega]
 | succ k ih =>
   intro i j hk h1 h2 h3
   by_cases hij:i<j
   · have hh:(i+j)/2<u.length:=by omega
     have turn:nc u d ((i:Int),(j:Int),())=if cmpD u[(i+j)/2].1 d.1<0 then some (.inl ((((i+j)/2+1:Nat):Int),(j:Int),())) else some (.inl ((i:Int),(((i+j)/2:Nat):Int),())):=by
       unfold nc
       simp only[ac]
       rw[zp (by omega),show (i:Int)+(j:Int)=((i+j:Nat):Int) by omega,abP (by omega)]
       simp only[zb]
       rw[wrap64 (n:=(((i+j)/2:Nat):Int)) (by omega) (by omega),aX hh]
       simp only[zb,vn]
       rw[wrap64 (by omega) (by omega)]; rfl
     by_cases hn:(i+j)/2<(loU d.1 u).length
     · rw[zp (akf hh hn)] at turn
       rw[aD turn]
       exact ih _ _ (by omega) (by omega) h2 h3
     · have:=akg om hr hh (k:=d.1) (Nat.le_of_not_lt hn)
       rw[zn (by omega)] at turn
       rw[aD turn]
       exact ih _ _ (by omega) h1 (by omega) (by omega)
   · refine aw ?_
     unfold nc
     simp only[ac]
     rw[zn (by omega),show (loU d.1 u).length=i by omega]
theorem t8 {a b:Dot1} (h:cmpD a b≠0):a≠b:=fun e=>h ((om.zero _ _).2 e)
def aqA (q:List Ref1) (d:Dot1):Bool:=match q with
 | []=>false
 | x::_=>decide (cmpD x.1 d=0)
theorem aat {u:List Ref1}{d:Ref1} (hl:u.length<1000000) (hr:xp u) :
   zad u d ()=some (((loU d.1 u).length:Int),aqA (hiU d.1 u) d.1,()):=by
 have e2:loU d.1 u++hiU d.1 u=u:=lohi
 have hlen:(loU d.1 u).length+(hiU d.1 u).length=u.length:=by rw[← List.length_append,e2]
 unfold zad
 have:=qy (d:=d) hl hr u.length 0 u.length (by omega) (by omega) (by omega) (by omega)
 rw[show ((0:Int),(u.length:Int),())=(((0:Nat):Int),(u.length:Int),()) from rfl,this,aF]
 simp only[ac]
 cases hq:hiU d.1 u with
 | nil =>
   rw[hq] at hlen
   simp only[List.length_nil] at hlen
   rw[zn (by omega)]; rfl
 | cons x q =>
   rw[hq] at hlen e2
   simp only[zl] at hlen
   rw[zp (by omega),bN]
   have e3:u[(loU d.1 u).length]? = some x:=by
     have:(loU d.1 u++x::q)[(loU d.1 u).length]? = some x:=by simp
     rw[e2] at this
     exact this
   rw[e3]
   simp only[zb,vn]
   rfl
theorem aqv {u:List Ref1}{d:Dot1}{x:Ref1} (hx:x∈loU d u):x.1≠d:=by
 have h:=iQ (c:=cmpD) (key:=fun y:Ref1=>y.1) (k:=d) (l:=u) x hx
 exact t8 (fun e=>by rw[e] at h; omega)
theorem w9 {u:List Ref1}{d:Dot1} (hl:u.length<1000000) (hr:xp u):zcs u d=some (getM u d):=by
 have e2:loU d u++hiU d u=u:=lohi
 have hlo:∀ x∈loU d u,x.1≠d:=fun x hx=>aqv hx
 unfold zcs zcx
 rw[aat (d:=(d,0,())) hl hr]
 simp only[zb]
 have hg:getM u d=getM (hiU d u) d:=by
   conv=>lhs; rw[← e2]
   exact vW hlo
 rw[hg]
 cases hq:hiU d u with
 | nil=>rfl
 | cons x q =>
   have hab:=ky om hr hq
   unfold aqA
   simp only[ac]
   by_cases h0:cmpD x.1 d=0
   · rw[zp h0,bN]
     have e3:u[(loU d u).length]? = some x:=by
       have:(loU d u++x::q)[(loU d u).length]? = some x:=by simp
       rw[← hq,e2] at this
       exact this
     rw[e3]
     simp only[zb]
     unfold getM
     rw[zp ((om.zero _ _).1 h0)]
   · rw[zn h0,rH]
     intro y hy
     rcases List.mem_cons.1 hy with e | hy
     · subst e; exact t8 h0
     · exact t8 (by have:=hab.2 y hy; omega)
def jv (u:List Ref1) (d:Dot1):Bool:=match remT (getM u d) 2 with
 | some x=>decide (x=0)
 | none=>false
theorem rem2 (a:Int):∃ x,remT a 2=some x:=⟨_,by unfold remT; rw[zn (by omega)]⟩
theorem kX {u:List Ref1}{d:Dot1} (hl:u.length<1000000) (hr:xp u):zch u d=some (jv u d):=by
 unfold zch jv
 rw[w9 hl hr]
 obtain ⟨x,hx⟩:=rem2 (getM u d)
 simp only[zb,hx]
theorem wb {x y:Ref1}{v:Bool}:∀ {m:List (Ref1×Bool)},jP mK x (putK mK y v m)=if x=y then some v else jP mK x m
 | []=>by
   unfold putK jP
   rw[ab4,ac]
   unfold jP
   rfl
 | e::m=>by
   unfold putK
   rw[ab4]
   by_cases hy:y=e.1
   · rw[zt hy,cond_true]
     conv=>lhs; unfold jP
     conv=>rhs; rhs; unfold jP
     rw[ab4,ab4,ac,ac,← hy]
     by_cases hx:x=y
     · rw[zp hx,zp hx]
     · rw[zn hx,zn hx,zn hx]
   · rw[zf hy,cond_false]
     conv=>lhs; unfold jP
     conv=>rhs; rhs; unfold jP
     rw[ab4,ac,ac,wb]
     by_cases hx:x=e.1
     · rw[zp hx,zn (fun e'=>hy (by rw[← e',hx])),zp hx]
     · rw[zn hx,zn hx]
def hasK (x:Ref1) (m:List (Ref1×Bool)):Bool:=(getK mK false x m).1
theorem ajR {x y:Ref1}{m:List (Ref1×Bool)}:hasK x (putK mK y true m)=(decide (x=y)||hasK x m):=by
 unfold hasK getK
 rw[wb]
 by_cases h:x=y
 · rw[zp h,zt h]; rfl
 · rw[zn h,zf h,Bool.false_or]
def qX (m:List (Ref1×Bool)) (l:List Ref1):List (Ref1×Bool):=l.foldl (fun m x=>putK mK x true m) m
theorem abO {x:Ref1}:∀ {l:List Ref1}{m:List (Ref1×Bool)},hasK x (qX m l)=(l.any (fun y=>decide (x=y))||hasK x m)
 | [],m=>rfl
 | y::l,m=>by
   have:=abO (x:=x) (l:=l) (m:=putK mK y true m)
   unfold qX at this ⊢
   rw[List.foldl_cons,this,ajR,List.any_cons]
   cases decide (x=y)<;>cases l.any (fun y=>decide (x=y))<;>rfl
def rT (o:Op1) (x:Ref1):Bool:=o.2.2.2.2.1.any fun y=>decide (x=y)
def covT (m:List (Ref1×Bool)) (l:List Op1):List (Ref1×Bool):=l.foldl (fun m o=>qX m o.2.2.2.2.1) m
theorem vR {x:Ref1}:∀ {l:List Op1}{m:List (Ref1×Bool)},hasK x (covT m l)=(l.any (fun o=>rT o x)||hasK x m)
 | [],m=>rfl
 | o::l,m=>by
   have:=vR (x:=x) (l:=l) (m:=qX m o.2.2.2.2.1)
   unfold covT at this ⊢
   rw[List.foldl_cons,this,abO,List.any_cons]
   unfold rT
   cases o.2.2.2.2.1.any (fun y=>decide (x=y))<;>cases l.any (fun o=>o.2.2.2.2.1.any fun y=>decide (x=y))<;>rfl
def covL (u:List Ref1) (m:List (Ref1×Bool)) (l:List Txn1):List (Ref1×Bool):=l.foldl (fun m t=>if jv u t.1=true then covT m t.2.2.2.2.1 else m) m
def covM (l:List Txn1) (u:List Ref1) (x:Ref1):Bool:=l.any fun t=>jv u t.1&&t.2.2.2.2.1.any fun o=>rT o x
theorem vS {x:Ref1}{u:List Ref1}:∀ {l:List Txn1}{m:List (Ref1×Bool)},hasK x (covL u m l)=(covM l u x||hasK x m)
 | [],m=>rfl
 | t::l,m=>by
   have:=vS (x:=x) (u:=u) (l:=l) (m:=if jv u t.1=true then covT m t.2.2.2.2.1 else m)
   unfold covL at this ⊢
   rw[List.foldl_cons,this]
   unfold covM
   rw[List.any_cons]
   by_cases hs:jv u t.1=true
   · rw[zp hs,vR,hs,Bool.true_and]
     cases t.2.2.2.2.1.any (fun o=>rT o x)<;>cases l.any (fun t=>jv u t.1&&t.2.2.2.2.1.any fun o=>rT o x)<;>rfl
   · rw[zn hs,eq_false_of_ne_true hs,Bool.false_and,Bool.false_or]
structure Low (l:List Txn1):Prop where
 len:l.length≤1000
 ops:∀ t∈l,t.2.2.2.2.1.length≤1000
 seen:∀ t∈l,∀ o∈t.2.2.2.2.1,o.2.2.2.2.1.length<1000000
structure LowU (u:List Ref1):Prop where
 len:u.length<1000000
 rise:xp u
theorem acg {l:List Txn1}{u:List Ref1} (hl:Low l) (hu:LowU u):zbe l u=some (covL u [] l):=by
 have adX:=bS (S:=List (Ref1×Bool)) (f:=uW l u) (l:=l) (fun i m=>((i:Int),m,())) (fun _ t m=>.inl (if jv u t.1=true then covT m t.2.2.2.2.1 else m)) (fun m=>m) (fun _ _=>True) (fun i h m _=>by
   refine .inl ⟨_,rfl,?_,trivial⟩
   have hi:=hl.len
   unfold uW
   simp only[ac]
   rw[zp (by omega),aX h]
   simp only[zb,kX hu.len hu.rise]
   have hops:=hl.ops _ (zm h)
   by_cases hs:jv u l[i].1=true
   · rw[hs,Bool.not_true,cond_false,zp rfl]
     have mid:=bS (S:=List (Ref1×Bool)) (f:=uV ((i:Int),m,()) l[i]) (l:=l[i].2.2.2.2.1) (fun k m=>((k:Int),m,())) (fun _ o m=>.inl (qX m o.2.2.2.2.1)) (fun m'=>(.inl (((i+1:Nat):Int),m',()):(Int×List (Ref1×Bool)×Unit)⊕List (Ref1×Bool))) (fun _ _=>True) (fun k hk m' _=>by
       refine .inl ⟨_,rfl,?_,trivial⟩
       have hseen:=hl.seen _ (zm h) _ (zm hk)
       unfold uV
       simp only[ac]
       rw[zp (by omega),aX hk]
       simp only[zb]
       have abK:=bS (S:=List (Ref1×Bool)) (f:=oJ ((k:Int),m',()) l[i].2.2.2.2.1[k]) (l:=l[i].2.2.2.2.1[k].2.2.2.2.1) (fun j m=>((j:Int),m,())) (fun _ x m=>.inl (putK mK x true m)) (fun m''=>(.inl (((k+1:Nat):Int),m'',()):(Int×List (Ref1×Bool)×Unit)⊕((Int×List (Ref1×Bool)×Unit)⊕List (Ref1×Bool)))) (fun _ _=>True) (fun j hj m'' _=>by
         refine .inl ⟨_,rfl,?_,trivial⟩
         unfold oJ
         simp only[ac]
         rw[zp (by omega),aX hj]
         simp only[zb]
         rw[wrap64 (by omega) (by omega)]; rfl) (fun m'' _=>by
         unfold oJ
         simp only[ac]
         rw[zn (by omega),wrap64 (by omega) (by omega)]; rfl) m' trivial
       rw[show ((0:Int),m',())=(((0:Nat):Int),m',()) from rfl,abK,eC]
       rfl) (fun m' _=>by
       unfold uV
       simp only[ac]
       rw[zn (by omega),wrap64 (by omega) (by omega)]; rfl) m trivial
     rw[show ((0:Int),m,())=(((0:Nat):Int),m,()) from rfl,mid,eC]
     rfl
   · rw[zn hs,eq_false_of_ne_true hs,Bool.not_false,cond_true,wrap64 (by omega) (by omega)]; rfl) (fun m _=>by
   unfold uW
   simp only[ac]
   rw[zn (by omega)]) [] trivial
 unfold zbe
 rw[show ((0:Int),([]:List (Ref1×Bool)),())=(((0:Nat):Int),[],()) from rfl,adX,eC]
 rfl
def fC (k:Int):Bool:=decide (1≤k∧k≤3)
def lU (p:Ref1→Bool) (t:Txn1) (k:Nat) (o:Op1):List bk:=if fC o.1=true∧p (t.1,(k:Int),())=false then [((t.1,(k:Int),()),o,t.2.2.1,())] else []
def gZ (p:Ref1→Bool) (t:Txn1):Nat→List Op1→List bk
 | _,[]=>[]
 | k,o::l=>lU p t k o++gZ p t (k+1) l
def allM (l:List Txn1) (u:List Ref1):List bk:=l.flatMap fun t=>if jv u t.1=true then gZ (covM l u) t 0 t.2.2.2.2.1 else []
theorem nV {p:Ref1→Bool}{t:Txn1}{k:Nat}{o:Op1}:(lU p t k o).length≤1:=by
 unfold lU; split<;>simp
theorem lS {p:Ref1→Bool}{t:Txn1}:∀ {l:List Op1}{k:Nat},(gZ p t k l).length≤l.length
 | [],_=>Nat.le_refl _
 | o::l,k=>by
   have:=lS (p:=p) (t:=t) (l:=l) (k:=k+1)
   have:=nV (p:=p) (t:=t) (k:=k) (o:=o)
   unfold gZ
   rw[List.length_append,zl]; omega
theorem nU {R:Type}{p:Ref1→Bool}{t:Txn1}{fin:List bk→R}:∀ (l:List Op1) (k:Nat) (o:List bk),dp (fun k x o=>.inl (o++lU p t k x)) fin k l o=fin (o++gZ p t k l)
 | [],k,o=>by simp[dp,gZ]
 | x::l,k,o=>by
   unfold dp gZ
   simp only
   rw[nU l (k+1),List.append_assoc]
theorem rK {A B R:Type}{g:A→List B}{fin:List B→R}:∀ (l:List A) (i:Nat) (o:List B),dp (fun _ x o=>.inl (o++g x)) fin i l o=fin (o++l.flatMap g)
 | [],i,o=>by simp[dp]
 | x::l,i,o=>by
   unfold dp
   simp only
   rw[rK l (i+1),List.flatMap_cons,List.append_assoc]
theorem aqQ {l:List Txn1}{u:List Ref1} (hl:Low l) (hu:LowU u):zcy l u=some (allM l u):=by
 unfold zcy
 rw[acg hl hu,zb]
 have hp:(fun x=>hasK x (covL u [] l))=covM l u:=by
   funext x
   rw[vS]
   exact Bool.or_false _
 generalize hm:covL u [] l=m at hp ⊢
 have adX:=bS (S:=List bk) (f:=uH l u) (l:=l) (fun i o=>((i:Int),m,o,())) (fun _ t o=>.inl (o++if jv u t.1=true then gZ (covM l u) t 0 t.2.2.2.2.1 else [])) (fun o=>o) (fun i o=>o.length≤i*1000) (fun i h o ho=>by
   have hi:=hl.len
   have hops:=hl.ops _ (zm h)
   refine .inl ⟨_,rfl,?_,?_⟩
   · unfold uH
     simp only[ac]
     rw[zp (by omega),aX h]
     simp only[zb,kX hu.len hu.rise]
     by_cases hs:jv u l[i].1=true
     · rw[hs,Bool.not_true,cond_false,zp rfl]
       have abK:=bS (S:=List bk) (f:=uG ((i:Int),m,o,()) l[i]) (l:=l[i].2.2.2.2.1) (fun k o=>((k:Int),m,o,l[i],())) (fun k x o=>.inl (o++lU (covM l u) l[i] k x)) (fun o'=>(.inl (((i+1:Nat):Int),m,o',()):(Int×List (Ref1×Bool)×List bk×Unit)⊕List bk)) (fun k o'=>o'.length≤i*1000+k) (fun k hk o' ho'=>by
         refine .inl ⟨_,rfl,?_,?_⟩
         · have hget:(getK mK false (l[i].1,(k:Int),()) m).1=covM l u (l[i].1,(k:Int),()):=by rw[← hp]; rfl
           unfold uG lU
           simp only[ac]
           rw[zp (by omega),aX hk]
           simp only[zb]
           have hget:(getK (.agg (.cons (.agg (.cons (.int .i64) (.cons (.int .i64) .unit))) (.cons (.int .i64) .unit))) false (l[i].1,(k:Int),()) m).1=covM l u (l[i].1,(k:Int),()):=hget
           rw[hget,wrap64 (by omega) (by omega),cr (by simp; omega)]
           simp only[zb]
           have hk':fC l[i].2.2.2.2.1[k].1=true↔(l[i].2.2.2.2.1[k].1=1∨l[i].2.2.2.2.1[k].1=2∨l[i].2.2.2.2.1[k].1=3):=by unfold fC; simp only[decide_eq_true_eq]; omega
           by_cases hc:covM l u (l[i].1,(k:Int),())=true
           · rw[hc]
             simp only[Bool.not_true,cond_false,Bool.true_eq_false,and_false,if_false,List.append_nil]
             split
             · rfl
             · split
               · rfl
               · split<;>rfl
           · rw[eq_false_of_ne_true hc]
             simp only[Bool.not_false,cond_true,and_true]
             by_cases h1:l[i].2.2.2.2.1[k].1=1
             · rw[zp h1,zp (hk'.2 (.inl h1))]; rfl
             · by_cases h2:l[i].2.2.2.2.1[k].1=2
               · rw[zn h1,zp h2,zp (hk'.2 (.inr (.inl h2)))]; rfl
               · by_cases h3:l[i].2.2.2.2.1[k].1=3
                 · rw[zn h1,zn h2,zp h3,zp (hk'.2 (.inr (.inr h3)))]; rfl
                 · rw[zn h1,zn h2,zn h3,zn (fun e=>by rcases hk'.1 e with e | e | e; exact h1 e; exact h2 e; exact h3 e),List.append_nil]; rfl
         · have:=nV (p:=covM l u) (t:=l[i]) (k:=k) (o:=l[i].2.2.2.2.1[k])
           rw[List.length_append]; omega) (fun o' ho'=>by
         unfold uG
         simp only[ac]
         rw[zn (by omega),wrap64 (by omega) (by omega)]; rfl) o (by omega)
       rw[show ((0:Int),m,o,l[i],())=(((0:Nat):Int),m,o,l[i],()) from rfl,abK,nU]
     · rw[zn hs,eq_false_of_ne_true hs,Bool.not_false,cond_true,wrap64 (by omega) (by omega),List.append_nil]; rfl
   · have:=lS (p:=covM l u) (t:=l[i]) (l:=l[i].2.2.2.2.1) (k:=0)
     rw[List.length_append,Nat.succ_mul]
     split
     · omega
     · simp; omega) (fun o _=>by
   unfold uH
   simp only[ac]
   rw[zn (by omega)]) [] (by simp)
 rw[show ((0:Int),m,([]:List bk),())=(((0:Nat):Int),m,[],()) from rfl,adX,rK]
 rfl
def tM (k:Int):Int:=if k=1 then 1 else if k=2∨k=4 then 2 else if k=3 then 3 else 0
theorem vD (k:Int):zc0 k=some (tM k):=by
 unfold zc0 tM
 simp only[ac]
 by_cases h1:k=1
 · rw[zp h1,zp h1]
 · by_cases h2:k=2
   · subst h2; rfl
   · by_cases h4:k=4
     · subst h4; rfl
     · by_cases h3:k=3
       · subst h3; rfl
       · simp[h1,h2,h3,h4]
def isAt (p:Path) (leaf:Int) (x:bk):Bool:=decide (tM x.2.1.1=leaf)&&decide (x.2.1.2.1=p)
def atM (l:List bk) (p:Path) (leaf:Int):List bk:=l.filter (isAt p leaf)
theorem jO {A:Type}{q:A→Bool}:∀ {l:List A},(l.flatMap fun x=>if q x=true then [x] else [])=l.filter q
 | []=>rfl
 | x::l=>by
   rw[List.flatMap_cons,jO,List.filter_cons]
   split<;>rfl
structure LowI (l:List bk):Prop where
 len:l.length<1000000
 path:∀ x∈l,x.2.1.2.1.length<1000000∧∀ s∈x.2.1.2.1,s.length<1000000
theorem at_t {l:List bk}{p:Path}{leaf:Int} (hl:LowI l):zc1 l p leaf=some (atM l p leaf):=by
 have hlen:=hl.len
 have:=iO (f:=uO l p leaf) (l:=l) (fun i o=>((i:Int),o,())) (fun x=>if isAt p leaf x=true then [x] else []) (fun o=>o) 1 (fun x _=>by split<;>simp) (fun i h o ho=>by
   have hp:=(hl.path _ (zm h)).1
   unfold uO isAt
   simp only[ac]
   rw[zp (by omega),aX h]
   simp only[zb,vD,nI hp]
   rw[wrap64 (by omega) (by omega),cr (by simp; omega)]
   simp only[zb,ac]
   by_cases h1:tM l[i].2.1.1=leaf
   · rw[zp h1,zt h1,Bool.true_and]
     by_cases h2:l[i].2.1.2.1=p
     · rw[zp h2,zt h2]; rfl
     · rw[zn h2,zf h2]; simp
   · rw[zn h1,zf h1]; simp) (fun o _=>by
   unfold uO
   simp only[ac]
   rw[zn (by omega)])
 unfold zc1 atM
 rw[show ((0:Int),([]:List bk),())=(((0:Nat):Int),[],()) from rfl,this,jO]
theorem ut {l:List bk}{p:Path}{leaf:Int} (hl:LowI l):LowI (atM l p leaf):=⟨Nat.lt_of_le_of_lt (List.length_filter_le ..) hl.len,fun x hx=>hl.path x (List.mem_filter.1 hx).1⟩
theorem dQ {A:Type}{w:List A} (h:0<w.length):w.isEmpty=false:=by cases w with
 | nil=>cases h
 | cons _ _=>rfl
theorem e8 {n a b:Nat} (h1:a≤b) (h2:b≤n):kR n (a:Int) (b:Int)=some (a,b-a):=by
 unfold kR
 rw[zp ⟨by omega,by omega,by omega⟩]; simp
theorem iB {A:Type} [DecidableEq A] {l:List A}{i:Nat} (hi:i<l.length) (h0:0<i):sqz (l.take (i+1))=if l[i-1]'(by omega)=l[i] then sqz (l.take i) else sqz (l.take i)++[l[i]]:=by
 rw[List.take_add_one,zg hi,Option.toList_some,oS]
 unfold sqzS
 have e:(sqz (l.take i)).getLast? = some (l[i-1]'(by omega)):=by
   rw[adA,List.getLast?_eq_getElem?,List.length_take,show min i l.length-1=i-1 by omega,List.getElem?_take_of_lt (by omega),zg (by omega)]
 rw[e]
 by_cases h:l[i-1]'(by omega)=l[i]
 · rw[zp (by rw[h]),zp h]
 · rw[zn (fun e=>h (Option.some.inj e)),zn h]
structure Mid (l w:List Val) (i0 k i:Nat):Prop where
 len:w.length=l.length
 head:w.take i=sqz (l.take (i0+k))
 rest:∀ j,i0+k-1≤j→w[j]? = l[j]?
 low:i≤i0+k-1
theorem pU {l:List Val}{i0:Nat} (hl:l.length<1000000) (h0:0<i0) (hi0:i0<l.length):∀ (n k i:Nat) (w:List Val),l.length-i0-k≤n→1≤k→k≤l.length-i0→Mid l w i0 k i →
   ∃ w' i',Mid l w' i0 (l.length-i0) i'∧aJ na ((i:Int),(i0,l.length-i0),(k:Int),w,())=some (.inl ((i':Int),w',())):=by
 intro n
 induction n with
 | zero =>
   intro k i w hn hk1 hk hm
   have e:k=l.length-i0:=by omega
   subst e
   refine ⟨w,i,hm,aw ?_⟩
   unfold na
   simp only[ac]
   rw[zn (by omega)]
 | succ n ih =>
   intro k i w hn hk1 hk hm
   by_cases hlt:k<l.length-i0
   · have hwl:=hm.len
     have hw:0<w.length:=by omega
     have hk0:i0+k<l.length:=by omega
     have ea:w[i0+k]? = some (l[i0+k]):=by rw[hm.rest _ (by omega),zg hk0]
     have eb:w[i0+(k-1)]? = some (l[i0+k-1]'(by omega)):=by rw[show i0+(k-1)=i0+k-1 by omega,hm.rest _ (by omega),zg (by omega)]
     have hlow:=hm.low
     have hiw:i<w.length:=by omega
     have turn:na ((i:Int),(i0,l.length-i0),(k:Int),w,())=if l[i0+k-1]'(by omega)=l[i0+k] then some (.inl ((i:Int),(i0,l.length-i0),((k+1:Nat):Int),w,())) else some (.inl (((i+1:Nat):Int),(i0,l.length-i0),((k+1:Nat):Int),w.set i l[i0+k],())):=by
       unfold na
       simp only[ac]
       rw[zp (by omega),dQ hw]
       simp only[cond_false]
       rw[cg hlt,wrap64 (n:=(k:Int)-1) (by omega) (by omega),show (k:Int)-1=((k-1:Nat):Int) by omega,cg (show k-1<l.length-i0 by omega)]
       simp only[zb]
       rw[ea,eb]
       simp only[zb,xS]
       rw[wrap64 (by omega) (by omega),wrap64 (by omega) (by omega)]
       by_cases hx:l[i0+k]=l[i0+k-1]'(by omega)
       · rw[zp hx.symm,zt hx]; rfl
       · rw[zn (fun e=>hx e.symm),zf hx,cg hiw]
         simp only[Bool.not_false,cond_true,zb]
         rw[zg hiw]
         rfl
     have hsq:=iB (l:=l) (i:=i0+k) hk0 (by omega)
     by_cases hx:l[i0+k-1]'(by omega)=l[i0+k]
     · rw[zp hx] at turn hsq
       rw[aD turn]
       exact ih (k+1) i w (by omega) (by omega) (by omega) ⟨hwl,by rw[hm.head,show i0+(k+1)=i0+k+1 by omega,hsq],fun j hj=>hm.rest j (by omega),by omega⟩
     · rw[zn hx] at turn hsq
       rw[aD turn]
       refine ih (k+1) (i+1) _ (by omega) (by omega) (by omega) ⟨by rw[List.length_set]; exact hwl,?_,fun j hj => ?_,by omega⟩
       · rw[show i0+(k+1)=i0+k+1 by omega,hsq,← hm.head,List.take_add_one,List.take_set_of_le (by omega),List.getElem?_set_self hiw]; rfl
       · rw[List.getElem?_set_ne (by omega)]
         exact hm.rest j (by omega)
   · have e:k=l.length-i0:=by omega
     subst e
     refine ⟨w,i,hm,aw ?_⟩
     unfold na
     simp only[ac]
     rw[zn (by omega)]
theorem pT {l:List Val} (hl:l.length<1000000):∀ (n i:Nat),l.length-i≤n→1≤i→i≤l.length→sqz (l.take i)=l.take i →
   aJ kK ((i:Int),l,())=some (sqz l):=by
 intro n
 induction n with
 | zero =>
   intro i hn h1 hi hs
   have e:i=l.length:=by omega
   subst e
   rw[List.take_of_length_le (Nat.le_refl _)] at hs
   refine aw ?_
   unfold kK
   simp only[ac]
   rw[zn (by omega),hs]
 | succ n ih =>
   intro i hn h1 hi hs
   by_cases hlt:i<l.length
   · have hsq:=iB (l:=l) (i:=i) hlt (by omega)
     have he:l.isEmpty=false:=dQ (by omega)
     by_cases hx:l[i-1]'(by omega)=l[i]
     · refine aw ?_
       unfold kK
       simp only[ac]
       rw[zp (by omega),cg hlt,wrap64 (by omega) (by omega),show (i:Int)-1=((i-1:Nat):Int) by omega,cg (show i-1<l.length by omega)]
       simp only[zb,zg hlt,zg (show i-1<l.length by omega),xS]
       rw[zt hx.symm,cond_true,he,cond_false,e8 (by omega) (Nat.le_refl _)]
       simp only[zb]
       rw[zp hx] at hsq
       obtain ⟨w',i',hm,hrun⟩:=pU hl (by omega) hlt (l.length-i) 1 i l (by omega) (Nat.le_refl _) (by omega) ⟨rfl,by rw[hsq,hs],fun j _=>rfl,by omega⟩
       rw[show ((1:Int))=((1:Nat):Int) from rfl,hrun,aF]
       have hwl:=hm.len
       have hlow:=hm.low
       have hle:i'≤w'.length:=by omega
       have hw:0<w'.length:=by omega
       have e2:i+(l.length-i)=l.length:=by omega
       have hhead:w'.take i'=sqz l:=by rw[hm.head,e2,List.take_of_length_le (Nat.le_refl _)]
       simp only
       rw[dQ hw,cond_false,e8 hle (Nat.le_refl _)]
       simp only[zb,cond_false]
       rw[zp (by omega)]
       simp only[zb]
       have hlen2:(List.take i' w'++List.replicate (w'.length-i') ((0,0,[],()):Val)++List.drop (i'+(w'.length-i')) w').length=w'.length:=by
         rw[List.length_append,List.length_append,List.length_take,List.length_replicate,List.length_drop]; omega
       rw[dQ (by rw[hlen2]; exact hw),cond_false,hlen2,show ((0:Int))=((0:Nat):Int) from rfl,e8 (Nat.zero_le _) hle]
       simp only[zb,cond_false]
       rw[zp (by omega)]
       simp only[Option.map_some,List.drop_zero,Nat.sub_zero]
       rw[List.append_assoc,List.take_append_of_le_length (by rw[List.length_take]; omega),List.take_take,Nat.min_self,hhead]
     · have turn : kK ((i : Int), l, ()) = some (.inl (((i + 1 : Nat) : Int), l, ())) := by
         unfold kK
         simp only[ac]
         rw[zp (by omega),cg hlt,wrap64 (by omega) (by omega),show (i:Int)-1=((i-1:Nat):Int) by omega,cg (show i-1<l.length by omega)]
         simp only[zb,zg hlt,zg (show i-1<l.length by omega),xS]
         rw[zf (fun e=>hx e.symm),cond_false,wrap64 (by omega) (by omega)]; rfl
       rw[aD turn]
       rw[zn hx,hs] at hsq
       refine ih (i+1) (by omega) (by omega) (by omega) ?_
       rw[hsq,List.take_add_one,zg hlt]; rfl
   · have e:i=l.length:=by omega
     subst e
     rw[List.take_of_length_le (Nat.le_refl _)] at hs
     refine aw ?_
     unfold kK
     simp only[ac]
     rw[zn (by omega),hs]
theorem aci {l:List Val} (hl:l.length<1000000):zan l=some (sqz l,()):=by
 unfold zan aif
 simp only[ac]
 match l,hl with
 | [],_=>rfl
 | [x],_=>rfl
 | x::y::l,hl =>
   rw[zn (by simp only[zl]; omega)]
   have:=pT hl (x::y::l).length 1 (by omega) (Nat.le_refl _) (by simp) rfl
   rw[show ((1:Int))=((1:Nat):Int) from rfl,this]
   rfl
def insV (o:List Val) (v:Val):List Val:=match o with
 | []=>[v]
 | x::l=>if cmpV v x=0 then x::l else if cmpV v x<0 then v::x::l else x::insV l v
abbrev aaS (o:List Val):Prop:=dF cmpV (fun v=>v) o
theorem pC {v x:Val}:∀ {o:List Val},x∈insV o v↔x=v∨x∈o
 | []=>by simp[insV]
 | y::l=>by
   unfold insV
   split
   · rename_i h
     have e:=(fp.zero _ _).1 h
     subst e
     simp
   · split
     · simp
     · rw[List.mem_cons,pC,List.mem_cons]
       constructor
       · rintro (h | h | h)
         · exact .inr (.inl h)
         · exact .inl h
         · exact .inr (.inr h)
       · rintro (h | h | h)
         · exact .inr (.inl h)
         · exact .inl h
         · exact .inr (.inr h)
theorem nY {v:Val}:∀ {o:List Val},aaS o→aaS (insV o v)
 | [],_=>List.pairwise_singleton ..
 | y::l,h=>by
   have h':=List.pairwise_cons.1 h
   unfold insV
   split
   · exact h
   · rename_i h0
     split
     · rename_i h1
       refine List.pairwise_cons.2 ⟨fun z hz => ?_,h⟩
       rcases List.mem_cons.1 hz with e | hz
       · subst e; exact h1
       · exact fp.trans _ _ _ h1 (h'.1 z hz)
     · rename_i h1
       refine List.pairwise_cons.2 ⟨fun z hz => ?_,nY h'.2⟩
       rcases pC.1 hz with e | hz
       · subst e
         have h2:=fp.neg z y
         show cmpV y z<0
         omega
       · exact h'.1 z hz
def jr (l:List Val):List Val:=l.foldl insV []
theorem kV:∀ (l o:List Val),aaS o→aaS (l.foldl insV o)∧∀ x,x∈l.foldl insV o↔x∈o∨x∈l
 | [],o,h=>⟨h,fun x=>by simp⟩
 | v::l,o,h=>by
   obtain ⟨h1,h2⟩:=kV l (insV o v) (nY h)
   refine ⟨h1,fun x => ?_⟩
   rw[List.foldl_cons,h2,pC,List.mem_cons]
   constructor
   · rintro ((h | h) | h)
     · exact .inr (.inl h)
     · exact .inl h
     · exact .inr (.inr h)
   · rintro (h | h | h)
     · exact .inl (.inr h)
     · exact .inl (.inl h)
     · exact .inr h
theorem kT (l:List Val):aaS (jr l):=(kV l [] List.Pairwise.nil).1
theorem kU (l:List Val) (x:Val):x∈jr l↔x∈l:=by
 have:=(kV l [] List.Pairwise.nil).2 x
 simpa [jr] using this
theorem vO {v:Val}:∀ {o:List Val},(insV o v).length≤o.length+1
 | []=>Nat.le_refl _
 | y::l=>by
   unfold insV
   split
   · omega
   · split
     · simp
     · have:=vO (v:=v) (o:=l)
       simp only[zl]; omega
theorem qw:∀ (l o:List Val),(l.foldl insV o).length≤o.length+l.length
 | [],o=>Nat.le_refl _
 | v::l,o=>by
   have:=qw l (insV o v)
   have:=vO (v:=v) (o:=o)
   rw[List.foldl_cons,zl]; omega
theorem qG {l:List Val} (hl:l.length<1000000):∃ s,zaf l=some ((),s,())∧zan s=some (jr l,()):=by
 obtain ⟨s,h1,h2,h3⟩:=qH (c:=cmpV) (key:=fun v:Val=>v) (cmp:=fun x y=>za8 x y) (xs:=l) fp (fun x _ y _=>eU x y) (by omega)
 refine ⟨s,by unfold zaf; rw[h1]; rfl,?_⟩
 rw[aci (by rw[h2.length_eq]; exact hl)]
 have:sqz s=jr l:=by
   refine dO fp (key:=fun v:Val=>v) (qF fp (fun a b=>(fp.zero a b).1) _ s rfl h3) (kT l) fun x => ?_
   rw[oR _ s rfl,kU]
   exact h2.mem_iff
 rw[this]
def vj (l:List bk) (p:Path):List Val:=(atM l p 1).map fun x=>x.2.1.2.2.1
theorem th {l:List bk}{p:Path} (hl:LowI l):zcj l p=some (jr (vj l p)):=by
 unfold zcj vj
 rw[at_t hl]
 have hlow:=(ut (p:=p) (leaf:=1) hl).len
 generalize atM l p 1=q at hlow
 simp only[zb]
 have:=iO (f:=uL q) (l:=q) (fun i o=>((i:Int),o,())) (fun x=>[x.2.1.2.2.1]) (fun o=>(.inl (o,()):(List Val×Unit)⊕List Val)) 1 (fun x _=>Nat.le_refl _) (fun i h o ho=>by
   unfold uL
   simp only[ac]
   rw[zp (by omega),aX h]
   simp only[zb]
   rw[wrap64 (by omega) (by omega),cr (by simp; omega)]; rfl) (fun o _=>by
   unfold uL
   simp only[ac]
   rw[zn (by omega)])
 rw[show ((0:Int),([]:List Val),())=(((0:Nat):Int),[],()) from rfl,this,aF]
 have e:(q.flatMap fun x=>[x.2.1.2.2.1])=q.map fun x=>x.2.1.2.2.1:=by
   clear this hlow
   induction q with
   | nil=>rfl
   | cons x q ih=>rw[List.flatMap_cons,List.map_cons,ih]; rfl
 obtain ⟨s,h1,h2⟩:=qG (l:=q.map fun x=>x.2.1.2.2.1) (by rw[List.length_map]; exact hlow)
 simp only[e]
 rw[h1]
 simp only[zb,h2]
structure LowP (l:List Txn1):Prop where
 low:Low l
 ops:∀ t∈l,∀ o∈t.2.2.2.2.1,(o.2.1.length<1000000∧∀ s∈o.2.1,s.length<1000000)∧o.2.2.1.2.2.1.length<1000000
theorem ry {p:Ref1→Bool}{t:Txn1}:∀ {l:List Op1}{k:Nat}{x:bk},x∈gZ p t k l→∃ (j:Nat) (o:Op1),o∈l∧fC o.1=true∧p (t.1,(j:Int),())=false∧x=((t.1,(j:Int),()),o,t.2.2.1,())
 | [],_,x,h=>by cases h
 | o::l,k,x,h=>by
   unfold gZ at h
   rcases List.mem_append.1 h with h | h
   · unfold lU at h
     split at h
     · rename_i hc
       rw[List.mem_singleton] at h
       exact ⟨k,o,List.mem_cons_self ..,hc.1,hc.2,h⟩
     · cases h
   · obtain ⟨j,o',h1,h2⟩:=ry h
     exact ⟨j,o',List.mem_cons_of_mem _ h1,h2⟩
theorem aeD {l:List Txn1}{u:List Ref1}{x:bk} (h:x∈allM l u):∃ t∈l,∃ (j:Nat) (o:Op1),o∈t.2.2.2.2.1∧fC o.1=true∧jv u t.1=true∧covM l u (t.1,(j:Int),())=false∧x=((t.1,(j:Int),()),o,t.2.2.1,()):=by
 unfold allM at h
 obtain ⟨t,ht,hx⟩:=List.mem_flatMap.1 h
 split at hx
 · rename_i hs
   obtain ⟨j,o,h1,h2,h3,h4⟩:=ry hx
   exact ⟨t,ht,j,o,h1,h2,hs,h3,h4⟩
 · cases hx
theorem wa {A B:Type}{g:A→List B}{n:Nat}:∀ {l:List A},(∀ x∈l,(g x).length≤n)→(l.flatMap g).length≤l.length*n
 | [],_=>Nat.zero_le _
 | x::l,h=>by
   have:=wa (l:=l) fun y hy=>h y (List.mem_cons_of_mem _ hy)
   have:=h x (List.mem_cons_self ..)
   rw[List.flatMap_cons,List.length_append,zl,Nat.succ_mul]; omega
theorem vl {l:List Txn1}{n:Nat} (h:TxnsOk l n) (hn:n≤900):LowP l:=by
 refine ⟨⟨by have:=h.len; omega,fun t ht=>by have:=(h.all t ht).len; omega,fun t ht o ho => ?_⟩,fun t ht o ho => ?_⟩
 · have:=((h.all t ht).ops o ho).1.2.2.2; omega
 · have:=((h.all t ht).ops o ho).1
   exact ⟨⟨by have:=this.1; omega,fun s hs=>by have:=this.2.1 s hs; omega⟩,by have:=this.2.2.1; omega⟩
theorem yb {u:List Ref1} (h:CountsOk u):LowU u:=⟨by have:=h.len; omega,h.rise⟩
abbrev dX:=Path×Int×Unit
def pV (a b:dX):Int:=orI (cmpP a.1 b.1) (cmpI a.2.1 b.2.1)
theorem aqO:Cmp cmpP:=Cmp.list acs
theorem hP:Cmp pV:=by
 have:pV=fun a b=>cmpB cmpP cmpI ((fun x:dX=>(x.1,x.2.1)) a) ((fun x:dX=>(x.1,x.2.1)) b):=rfl
 rw[this]
 exact uF (aqO.pair mn) _ fun a b h=>by
   obtain ⟨a1,a2,⟨⟩⟩:=a; obtain ⟨b1,b2,⟨⟩⟩:=b
   simp only[Prod.mk.injEq] at h
   rw[h.1,h.2]
theorem aau {a b:dX} (ha:a.1.length<1000000):zbi a b=some (pV a b):=by
 unfold zbi
 simp only[iJ ha,jb,or_t,zb]
 rfl
theorem abA {a b:dX} (ha:a.1.length<1000000):za9 a b=some (decide (a=b)):=by
 unfold za9
 rw[aau ha]
 simp only[zb]
 by_cases h:a=b
 · rw[zt h,zt ((hP.zero _ _).2 h)]
 · rw[zf h,zf (fun e=>h ((hP.zero _ _).1 e))]
structure MidS (l w:List (List UInt8)) (i0 k i:Nat):Prop where
 len:w.length=l.length
 head:w.take i=sqz (l.take (i0+k))
 rest:∀ j,i0+k-1≤j→w[j]? = l[j]?
 low:i≤i0+k-1
structure MidL (l w:List dX) (i0 k i:Nat):Prop where
 len:w.length=l.length
 head:w.take i=sqz (l.take (i0+k))
 rest:∀ j,i0+k-1≤j→w[j]? = l[j]?
 low:i≤i0+k-1
theorem mX {l:List dX}{i0:Nat} (hl:l.length<1000000) (hE:∀ a b,a∈l→za9 a b=some (decide (a=b))) (h0:0<i0) (hi0:i0<l.length):∀ (n k i:Nat) (w:List dX),l.length-i0-k≤n→1≤k→k≤l.length-i0→MidL l w i0 k i →
   ∃ w' i',MidL l w' i0 (l.length-i0) i'∧aJ nb ((i:Int),(i0,l.length-i0),(k:Int),w,())=some (.inl ((i':Int),w',())):=by
 intro n
 induction n with
 | zero =>
   intro k i w hn hk1 hk hm
   have e:k=l.length-i0:=by omega
   subst e
   refine ⟨w,i,hm,aw ?_⟩
   unfold nb
   simp only[ac]
   rw[zn (by omega)]
 | succ n ih =>
   intro k i w hn hk1 hk hm
   by_cases hlt:k<l.length-i0
   · have hwl:=hm.len
     have hw:0<w.length:=by omega
     have hk0:i0+k<l.length:=by omega
     have ea:w[i0+k]? = some (l[i0+k]):=by rw[hm.rest _ (by omega),zg hk0]
     have eb:w[i0+(k-1)]? = some (l[i0+k-1]'(by omega)):=by rw[show i0+(k-1)=i0+k-1 by omega,hm.rest _ (by omega),zg (by omega)]
     have hlow:=hm.low
     have hiw:i<w.length:=by omega
     have turn:nb ((i:Int),(i0,l.length-i0),(k:Int),w,())=if l[i0+k-1]'(by omega)=l[i0+k] then some (.inl ((i:Int),(i0,l.length-i0),((k+1:Nat):Int),w,())) else some (.inl (((i+1:Nat):Int),(i0,l.length-i0),((k+1:Nat):Int),w.set i l[i0+k],())):=by
       unfold nb
       simp only[ac]
       rw[zp (by omega),dQ hw]
       simp only[cond_false]
       rw[cg hlt,wrap64 (n:=(k:Int)-1) (by omega) (by omega),show (k:Int)-1=((k-1:Nat):Int) by omega,cg (show k-1<l.length-i0 by omega)]
       simp only[zb]
       rw[ea,eb]
       simp only[zb,hE,zm]
       rw[wrap64 (by omega) (by omega),wrap64 (by omega) (by omega)]
       by_cases hx:l[i0+k]=l[i0+k-1]'(by omega)
       · rw[zp hx.symm]
         first | (rw[zt hx]; rfl) | (rw[zp hx])
       · rw[zn (fun e=>hx e.symm),zf hx,cg hiw]
         simp only[Bool.not_false,cond_true,zb]
         rw[zg hiw]
         rfl
     have hsq:=iB (l:=l) (i:=i0+k) hk0 (by omega)
     by_cases hx:l[i0+k-1]'(by omega)=l[i0+k]
     · rw[zp hx] at turn hsq
       rw[aD turn]
       exact ih (k+1) i w (by omega) (by omega) (by omega) ⟨hwl,by rw[hm.head,show i0+(k+1)=i0+k+1 by omega,hsq],fun j hj=>hm.rest j (by omega),by omega⟩
     · rw[zn hx] at turn hsq
       rw[aD turn]
       refine ih (k+1) (i+1) _ (by omega) (by omega) (by omega) ⟨by rw[List.length_set]; exact hwl,?_,fun j hj => ?_,by omega⟩
       · rw[show i0+(k+1)=i0+k+1 by omega,hsq,← hm.head,List.take_add_one,List.take_set_of_le (by omega),List.getElem?_set_self hiw]; rfl
       · rw[List.getElem?_set_ne (by omega)]
         exact hm.rest j (by omega)
   · have e:k=l.length-i0:=by omega
     subst e
     refine ⟨w,i,hm,aw ?_⟩
     unfold nb
     simp only[ac]
     rw[zn (by omega)]
theorem mW {l:List dX} (hl:l.length<1000000) (hE:∀ a b,a∈l→za9 a b=some (decide (a=b))):∀ (n i:Nat),l.length-i≤n→1≤i→i≤l.length→sqz (l.take i)=l.take i →
   aJ kL ((i:Int),l,())=some (sqz l):=by
 intro n
 induction n with
 | zero =>
   intro i hn h1 hi hs
   have e:i=l.length:=by omega
   subst e
   rw[List.take_of_length_le (Nat.le_refl _)] at hs
   refine aw ?_
   unfold kL
   simp only[ac]
   rw[zn (by omega),hs]
 | succ n ih =>
   intro i hn h1 hi hs
   by_cases hlt:i<l.length
   · have hsq:=iB (l:=l) (i:=i) hlt (by omega)
     have he:l.isEmpty=false:=dQ (by omega)
     by_cases hx:l[i-1]'(by omega)=l[i]
     · refine aw ?_
       unfold kL
       simp only[ac]
       rw[zp (by omega),cg hlt,wrap64 (by omega) (by omega),show (i:Int)-1=((i-1:Nat):Int) by omega,cg (show i-1<l.length by omega)]
       simp only[zb,zg hlt,zg (show i-1<l.length by omega),hE,zm]
       first | rw[zt hx.symm,cond_true] | rw[zp hx.symm]
       rw[he,cond_false,e8 (by omega) (Nat.le_refl _)]
       simp only[zb]
       rw[zp hx] at hsq
       obtain ⟨w',i',hm,hrun⟩:=mX hl hE (by omega) hlt (l.length-i) 1 i l (by omega) (Nat.le_refl _) (by omega) ⟨rfl,by rw[hsq,hs],fun j _=>rfl,by omega⟩
       rw[show ((1:Int))=((1:Nat):Int) from rfl,hrun,aF]
       have hwl:=hm.len
       have hlow:=hm.low
       have hle:i'≤w'.length:=by omega
       have hw:0<w'.length:=by omega
       have e2:i+(l.length-i)=l.length:=by omega
       have hhead:w'.take i'=sqz l:=by rw[hm.head,e2,List.take_of_length_le (Nat.le_refl _)]
       simp only
       rw[dQ hw,cond_false,e8 hle (Nat.le_refl _)]
       simp only[zb,cond_false]
       rw[zp (by omega)]
       simp only[zb]
       have hlen2:(List.take i' w'++List.replicate (w'.length-i') (([],0,()):dX)++List.drop (i'+(w'.length-i')) w').length=w'.length:=by
         rw[List.length_append,List.length_append,List.length_take,List.length_replicate,List.length_drop]; omega
       rw[dQ (by rw[hlen2]; exact hw),cond_false,hlen2,show ((0:Int))=((0:Nat):Int) from rfl,e8 (Nat.zero_le _) hle]
       simp only[zb,cond_false]
       rw[zp (by omega)]
       simp only[Option.map_some,List.drop_zero,Nat.sub_zero]
       rw[List.append_assoc,List.take_append_of_le_length (by rw[List.length_take]; omega),List.take_take,Nat.min_self,hhead]
     · have turn : kL ((i : Int), l, ()) = some (.inl (((i + 1 : Nat) : Int), l, ())) := by
         unfold kL
         simp only[ac]
         rw[zp (by omega),cg hlt,wrap64 (by omega) (by omega),show (i:Int)-1=((i-1:Nat):Int) by omega,cg (show i-1<l.length by omega)]
         simp only[zb,zg hlt,zg (show i-1<l.length by omega),hE,zm]
         first | rw[zf (fun e=>hx e.symm),cond_false] | rw[zn (fun e=>hx e.symm)]
         rw[wrap64 (by omega) (by omega)]; rfl
       rw[aD turn]
       rw[zn hx,hs] at hsq
       refine ih (i+1) (by omega) (by omega) (by omega) ?_
       rw[hsq,List.take_add_one,zg hlt]; rfl
   · have e:i=l.length:=by omega
     subst e
     rw[List.take_of_length_le (Nat.le_refl _)] at hs
     refine aw ?_
     unfold kL
     simp only[ac]
     rw[zn (by omega),hs]
theorem yd {l:List dX} (hl:l.length<1000000) (hE:∀ a b,a∈l→za9 a b=some (decide (a=b))):zae l=some (sqz l,()):=by
 unfold zae aiH
 simp only[ac]
 match l,hl,hE with
 | [],_,_=>rfl
 | [x],_,_=>rfl
 | x::y::l,hl,hE =>
   rw[zn (by simp only[zl]; omega)]
   have:=mW hl hE (x::y::l).length 1 (by omega) (Nat.le_refl _) (by simp) rfl
   rw[show ((1:Int))=((1:Nat):Int) from rfl,this]
   rfl
def iR (x:bk):dX:=(x.2.1.2.1,tM x.2.1.1,())
def da (l:List bk):List dX:=uniq pV (l.map iR)
theorem ad9 {l:List bk} (hl:LowI l):zbs l=some (da l):=by
 have hlen:=hl.len
 have:=iO (f:=uR l) (l:=l) (fun i o=>((i:Int),o,())) (fun x=>[iR x]) (fun o=>(.inl (o,()):(List dX×Unit)⊕List dX)) 1 (fun x _=>Nat.le_refl _) (fun i h o ho=>by
   have hp:=(hl.path _ (zm h)).1
   unfold uR
   simp only[ac]
   rw[zp (by omega),aX h]
   have hc:zat l[i].2.1.2.1=some l[i].2.1.2.1:=by
     unfold zat eR
     rw[zp (by simp only[most]; omega)]
   simp only[zb,hc,vD]
   rw[wrap64 (by omega) (by omega),cr (by simp; omega)]; rfl) (fun o _=>by
   unfold uR
   simp only[ac]
   rw[zn (by omega)])
 unfold zbs
 rw[show ((0:Int),([]:List dX),())=(((0:Nat):Int),[],()) from rfl,this,aF]
 have e:(l.flatMap fun x=>[iR x])=l.map iR:=by
   clear this hlen hl
   induction l with
   | nil=>rfl
   | cons x l ih=>rw[List.flatMap_cons,List.map_cons,ih]; rfl
 have hp:∀ x∈l.map iR,x.1.length<1000000:=fun x hx=>by
   obtain ⟨y,hy,rfl⟩:=List.mem_map.1 hx
   exact (hl.path y hy).1
 obtain ⟨s,h1,h2,h3⟩:=qH (c:=pV) (key:=fun v:dX=>v) (cmp:=fun x y=>zbi x y) (xs:=l.map iR) hP (fun x hx y _=>aau (hp x hx)) (by rw[List.length_map]; omega)
 have hs:zag (l.map iR)=some ((),s,()):=by unfold zag; rw[h1]; rfl
 simp only[e]
 rw[hs]
 simp only[zb]
 rw[yd (by rw[h2.length_eq,List.length_map]; omega) (fun a b ha=>abA (hp a (h2.mem_iff.1 ha)))]
 simp only[zb]
 congr 1
 unfold da
 refine dO hP (key:=fun v:dX=>v) (qF hP (fun a b=>(hP.zero a b).1) _ s rfl h3) (gB hP _) fun x => ?_
 rw[oR _ s rfl,ku hP]
 exact h2.mem_iff
theorem tL {l:List bk}{y:dX}:y∈da l↔∃ x∈l,iR x=y:=by
 unfold da
 rw[ku hP,List.mem_map]
structure OpOk (o:Op1):Prop where
 kind:1≤o.1∧o.1≤5
 path:fX o.2.1=0
 val:o.1≠3→o.1≠5→gf o.2.2.1=true
 noval:o.1=3∨o.1=5→o.2.2.1=zeroV
 num:o.1=3→o.2.2.2.1≠0∧o.2.2.2.1≤2147483647 ∧ -2147483647≤o.2.2.2.1
 nonum:o.1≠3→o.2.2.2.1=0
 noseen:o.1=2∨o.1=3→o.2.2.2.2.1=[]
 seen:o.2.2.2.2.1.length≤256∧mM o.2.2.2.2.1=true
theorem aqq {o:Op1} (h:opM o=0):OpOk o:=by
 unfold opM at h
 by_cases a1:o.1<1∨5<o.1
 · rw[zp a1] at h; omega
 rw[zn a1] at h
 by_cases a2:fX o.2.1≠0
 · rw[zp a2] at h; exact absurd h a2
 rw[zn a2] at h
 by_cases a3:(o.1=3∨o.1=5)∧o.2.2.1≠zeroV
 · rw[zp a3] at h; omega
 rw[zn a3] at h
 by_cases a4:¬ (o.1=3∨o.1=5)∧gf o.2.2.1=false
 · rw[zp a4] at h; omega
 rw[zn a4] at h
 by_cases a5:o.1≠3∧o.2.2.2.1≠0
 · rw[zp a5] at h; omega
 rw[zn a5] at h
 by_cases a6:o.1=3∧(o.2.2.2.1=0∨o.2.2.2.1>2147483647∨o.2.2.2.1 < -2147483647)
 · rw[zp a6] at h; omega
 rw[zn a6] at h
 by_cases a7:(o.1=2∨o.1=3)∧0<o.2.2.2.2.1.length
 · rw[zp a7] at h; omega
 rw[zn a7] at h
 by_cases a8:256<o.2.2.2.2.1.length
 · rw[zp a8] at h; omega
 rw[zn a8] at h
 by_cases a9:mM o.2.2.2.2.1=true
 · refine ⟨by omega,Classical.not_not.1 a2,fun h1 h2 => ?_,fun h1 => ?_,fun h1 => ?_,fun h1 => ?_,fun h1 => ?_,by omega,a9⟩
   · cases hr:gf o.2.2.1 with
     | true=>rfl
     | false=>exact absurd ⟨by omega,hr⟩ a4
   · exact Classical.not_not.1 fun h2=>a3 ⟨h1,h2⟩
   · exact ⟨fun h2=>a6 ⟨h1,.inl h2⟩,Int.not_lt.1 fun h2=>a6 ⟨h1,.inr (.inl h2)⟩,Int.not_lt.1 fun h2=>a6 ⟨h1,.inr (.inr h2)⟩⟩
   · exact Classical.not_not.1 fun h2=>a5 ⟨h1,h2⟩
   · exact List.length_eq_zero_iff.1 (by omega)
 · rw[zn a9] at h; omega
structure ItemsOk (l:List bk):Prop where
 len:l.length≤320
 op:∀ x∈l,OpOk x.2.1∧qJ x.2.1∧fC x.2.1.1=true
theorem pA {l:List Txn1}{u:List Ref1} (h:TxnsOk l 20):ItemsOk (allM l u):=by
 constructor
 · have : (allM l u).length ≤ l.length * 16 := by
     unfold allM
     refine wa fun t ht => ?_
     split
     · exact Nat.le_trans lS (h.all t ht).len
     · simp
   have:=h.len; omega
 · intro x hx
   obtain ⟨t,ht,j,o,ho,hk,_,_,rfl⟩:=aeD hx
   obtain ⟨h1,h2⟩:=(h.all t ht).ops o ho
   refine ⟨?_,h1,hk⟩
   rcases h2 with h2 | ⟨_,h2⟩
   · exact aqq h2
   · unfold jN at h2
     unfold fC at hk
     simp only[decide_eq_true_eq] at h2 hk
     omega
theorem lT {l:List bk} (h:ItemsOk l):LowI l:=⟨by have:=h.len; omega,fun x hx=>by
 have:=(h.op x hx).2.1
 exact ⟨by have:=this.1; omega,fun s hs=>by have:=this.2.1 s hs; omega⟩⟩
theorem atOk {l:List bk}{p:Path}{k:Int} (h:ItemsOk l):ItemsOk (atM l p k):=⟨Nat.le_trans (List.length_filter_le ..) h.len,fun x hx=>h.op x (List.mem_filter.1 hx).1⟩
theorem aby {k:Int} (h:fC k=true):tM k=k:=by
 unfold fC at h
 simp only[decide_eq_true_eq] at h
 unfold tM
 split
 · omega
 · split
   · omega
   · split<;>omega
theorem acz {l:List bk}{p:Path}{k:Int} (h:ItemsOk l):∀ x∈atM l p k,x.2.1.1=k∧x.2.1.2.1=p:=fun x hx=>by
 obtain ⟨h1,h2⟩:=List.mem_filter.1 hx
 unfold isAt at h2
 simp only[Bool.and_eq_true,decide_eq_true_eq] at h2
 exact ⟨by rw[← aby (h.op x h1).2.2]; exact h2.1,h2.2⟩
theorem ajO {A:Type}{p q:List A}{y:A} (h:(p++q).length<1000000):insT (p++q) (p.length:Int) [y]=some (p++y::q):=by
 simp only[List.length_append] at h
 unfold insT
 rw[zp ⟨by omega,by simp only[List.length_append]; omega,by simp,by simp only[List.length_append,zl,List.length_nil]; unfold most; omega⟩]
 simp
theorem wW (l:List Val):jr l=uniq cmpV l:=by
 refine dO fp (key:=fun v:Val=>v) (kT l) (gB fp l) fun x => ?_
 rw[kU,ku fp]
theorem qv {u:List Val}{d:Val} (hl:u.length<1000000) (hr:eW cmpV u):∀ (k i j:Nat),j-i≤k→i≤(loA cmpV d u).length→(loA cmpV d u).length≤j→j≤u.length →
   aJ (nd u d) ((i:Int),(j:Int),())=some (.inl (((loA cmpV d u).length:Int),())):=by
 intro k
 induction k with
 | zero =>
   intro i j hk h1 h2 h3
   refine aw ?_
   unfold nd
   simp only[ac]
   rw[zn (by omega),show (loA cmpV d u).length=i by omega]
 | succ k ih =>
   intro i j hk h1 h2 h3
   by_cases hij:i<j
   · have hh:(i+j)/2<u.length:=by omega
     have turn:nd u d ((i:Int),(j:Int),())=if cmpV u[(i+j)/2] d<0 then some (.inl ((((i+j)/2+1:Nat):Int),(j:Int),())) else some (.inl ((i:Int),(((i+j)/2:Nat):Int),())):=by
       unfold nd
       simp only[ac]
       rw[zp (by omega),show (i:Int)+(j:Int)=((i+j:Nat):Int) by omega,abP (by omega)]
       simp only[zb]
       rw[wrap64 (n:=(((i+j)/2:Nat):Int)) (by omega) (by omega),aX hh]
       simp only[zb,eU]
       rw[wrap64 (by omega) (by omega)]; rfl
     by_cases hn:(i+j)/2<(loA cmpV d u).length
     · rw[zp (akf (c:=cmpV) (key:=fun v:Val=>v) hh hn)] at turn
       rw[aD turn]
       exact ih _ _ (by omega) (by omega) h2 h3
     · have:=akg fp (key:=fun v:Val=>v) hr hh (k:=d) (Nat.le_of_not_lt hn)
       rw[zn (by omega)] at turn
       rw[aD turn]
       exact ih _ _ (by omega) h1 (by omega) (by omega)
   · refine aw ?_
     unfold nd
     simp only[ac]
     rw[zn (by omega),show (loA cmpV d u).length=i by omega]
def ajQ (q:List Val) (d:Val):Bool:=match q with
 | []=>false
 | x::_=>decide (cmpV x d=0)
theorem aaq {u:List Val}{d:Val} (hl:u.length<1000000) (hr:eW cmpV u) :
   zac u d ()=some (((loA cmpV d u).length:Int),ajQ (hiA cmpV d u) d,()):=by
 have e2:loA cmpV d u++hiA cmpV d u=u:=abw
 have hlen:(loA cmpV d u).length+(hiA cmpV d u).length=u.length:=by rw[← List.length_append,e2]
 unfold zac
 have:=qv (d:=d) hl hr u.length 0 u.length (by omega) (by omega) (by omega) (by omega)
 rw[show ((0:Int),(u.length:Int),())=(((0:Nat):Int),(u.length:Int),()) from rfl,this,aF]
 simp only[ac]
 cases hq:hiA cmpV d u with
 | nil =>
   rw[hq] at hlen
   simp only[List.length_nil] at hlen
   rw[zn (by omega)]; rfl
 | cons x q =>
   rw[hq] at hlen e2
   simp only[zl] at hlen
   rw[zp (by omega),bN]
   have e3:u[(loA cmpV d u).length]? = some x:=by
     have:(loA cmpV d u++x::q)[(loA cmpV d u).length]? = some x:=by simp
     rw[e2] at this
     exact this
   rw[e3]
   simp only[zb,eU]
   rfl
def aeB (l:List bk) (p:Path):List Val:=(atM l p 2).map fun x=>x.2.1.2.2.1
theorem uq {l:List bk}{p:Path} (hl:LowI l):zck l p=some (jr (aeB l p)):=by
 unfold zck aeB
 rw[at_t hl]
 have hlow:=(ut (p:=p) (leaf:=2) hl).len
 generalize atM l p 2=q at hlow
 simp only[zb]
 have loop:=bS (S:=List Val) (f:=uK q) (l:=q) (fun i o=>((i:Int),o,())) (fun _ x o=>.inl (putU cmpV o x.2.1.2.2.1)) (fun o=>o) (fun i o=>eW cmpV o∧o.length≤i) (fun i h o ho=>by
   refine .inl ⟨_,rfl,?_,nE fp ho.1,by have:=adU (c:=cmpV) (o:=o) (v:=q[i].2.1.2.2.1); have:=ho.2; omega⟩
   have ho2:=ho.2
   unfold uK
   simp only[ac]
   rw[zp (by omega),aX h]
   simp only[zb,aaq (show o.length<1000000 by omega) ho.1]
   rw[wrap64 (by omega) (by omega)]
   generalize q[i].2.1.2.2.1=v
   have e:loA cmpV v o++hiA cmpV v o=o:=abw
   have ins:insT o ((loA cmpV v o).length:Int) [v]=some (loA cmpV v o++v::hiA cmpV v o):=by
     have:=ajO (p:=loA cmpV v o) (q:=hiA cmpV v o) (y:=v) (by rw[e]; omega)
     rwa [e] at this
   unfold zao putU
   cases hq:hiA cmpV v o with
   | nil =>
     rw[hq] at ins
     simp only[ajQ,Bool.not_false,cond_true,ins,Option.map_some,zb]; rfl
   | cons y r =>
     rw[hq] at ins
     simp only[ajQ]
     by_cases h0:cmpV y v=0
     · rw[zt h0,Bool.not_true,cond_false,zp h0]; rfl
     · rw[zf h0,Bool.not_false,cond_true,zn h0,ins]; rfl) (fun o _=>by
   unfold uK
   simp only[ac]
   rw[zn (by omega)]) [] ⟨List.Pairwise.nil,by simp⟩
 rw[show ((0:Int),([]:List Val),())=(((0:Nat):Int),[],()) from rfl,loop,eC,wW,← adP fp,List.foldl_map]
def sumI (q:List bk):Int:=q.foldl (fun n x=>n+x.2.1.2.2.2.1) 0
def aaD (q:List bk):Prop:=∀ x∈q,-2147483647≤x.2.1.2.2.2.1∧x.2.1.2.2.2.1≤2147483647
theorem asu {l:List bk}{p:Path} (hl:LowI l) (hn:aaD (atM l p 3)):zco l p=some (sumI (atM l p 3)):=by
 unfold zco
 rw[at_t hl]
 have hlow:=(ut (p:=p) (leaf:=3) hl).len
 generalize atM l p 3=q at hlow hn
 simp only[zb]
 have loop:=bS (S:=Int) (f:=uI q) (l:=q) (fun i n=>(n,(i:Int),())) (fun _ x n=>.inl (n+x.2.1.2.2.2.1)) (fun n=>n) (fun i n => -2147483648*(i:Int)≤n∧n≤2147483648*(i:Int)) (fun i h n hb=>by
   have hx:=hn _ (zm h)
   refine .inl ⟨_,rfl,?_,by constructor<;>omega⟩
   unfold uI
   simp only[ac]
   rw[zp (by omega),aX h]
   simp only[zb]
   rw[wrap64 (n:=(i:Int)+1) (by omega) (by omega),wrap64 (by omega) (by omega)]; rfl) (fun n _=>by
   unfold uI
   simp only[ac]
   rw[zn (by omega)]) 0 (by omega)
 rw[eC] at loop
 exact loop
def entM (l:List bk) (p:Path) (k:Int):Ent:=(p,k,if k=1 then jr (vj l p) else if k=2 then jr (aeB l p) else [],if k=3 then sumI (atM l p 3) else 0,())
theorem abl {l:List bk}{p:Path} (h:ItemsOk l):aaD (atM l p 3):=fun x hx=>by
 have h1:=(acz h x hx).1
 have h2:=((atOk h).op x hx).1.num h1
 omega
theorem aj9 {p:Path} (hp:p.length<1000000):zat p=some p:=by
 unfold zat eR
 rw[zp (by simp only[most]; omega)]
theorem ads {l:List bk}{p:Path}{k:Int} (h:ItemsOk l) (hp:p.length<1000000):zcz l p k=some (entM l p k):=by
 have hl:=lT h
 unfold zcz entM
 rw[aj9 hp]
 simp only[zb,ac,th hl,uq hl,asu hl (abl h)]
 by_cases h1:k=1
 · rw[zp h1,zp h1,zn (by omega)]
 · rw[zn h1,zn h1]
   by_cases h2:k=2
   · rw[zp h2,zp h2,zn (by omega)]
   · rw[zn h2,zn h2]
     by_cases h3:k=3
     · rw[zp h3,zp h3]
     · rw[zn h3,zn h3]
theorem cO {A B:Type}{g:A→B}:∀ {l:List A},(l.flatMap fun x=>[g x])=l.map g
 | []=>rfl
 | x::l=>by rw[List.flatMap_cons,List.map_cons,cO]; rfl
theorem nS {l:List bk} (h:ItemsOk l) {y:dX} (hy:y∈da l):y.1.length≤12∧∀ s∈y.1,s.length≤120:=by
 obtain ⟨x,hx,rfl⟩:=tL.1 hy
 have:=(h.op x hx).2.1
 exact ⟨this.1,this.2.1⟩
theorem nR {l:List bk} (h:ItemsOk l):(da l).length≤320:=by
 have h1:=adu (c:=pV) (l.map iR)
 rw[List.length_map] at h1
 have:=h.len
 unfold da; omega
theorem ni {l:List bk}{p:Path}{k:Int} (h:ItemsOk l) (hk:k=1∨k=2):∀ v∈(atM l p k).map (fun x=>x.2.1.2.2.1),gf v=true:=fun v hv=>by
 obtain ⟨x,hx,rfl⟩:=List.mem_map.1 hv
 have h1:=(acz h x hx).1
 exact ((atOk h).op x hx).1.val (by omega) (by omega)
theorem kS {q:List Val} (hq:q.length≤320) (hr:∀ v∈q,gf v=true):(jr q).length≤400∧∀ v∈jr q,gf v=true:=by
 constructor
 · have:=qw q []
   simp only[List.length_nil,Nat.zero_add] at this
   unfold jr; omega
 · intro v hv
   exact hr v ((kU q v).1 hv)
theorem aeW:∀ (q:List bk) (n:Int) (k:Nat),aaD q→(-2147483647*(k:Int)≤n∧n≤2147483647*(k:Int)) → -2147483647*((k+q.length:Nat):Int)≤q.foldl (fun n x=>n+x.2.1.2.2.2.1) n∧q.foldl (fun n x=>n+x.2.1.2.2.2.1) n≤2147483647*((k+q.length:Nat):Int)
 | [],n,k,_,h=>h
 | x::q,n,k,hn,h=>by
   have hx:=hn x (List.mem_cons_self ..)
   rw[List.foldl_cons,zl,show k+(q.length+1)=(k+1)+q.length by omega]
   exact aeW q _ (k+1) (fun y hy=>hn y (List.mem_cons_of_mem _ hy)) (by omega)
theorem ab6 {l:List bk}{p:Path}{k:Int} (h:ItemsOk l) (hp:p.length≤12) (hs:∀ s∈p,s.length≤120):aqi (entM l p k)∧inR (entM l p k).2.2.2.1:=by
 have hat:∀ k,(atM l p k).length≤320:=fun k=>(atOk h).len
 refine ⟨⟨hp,hs,?_⟩,?_⟩
 · unfold entM
   simp only
   by_cases h1:k=1
   · rw[zp h1]
     exact kS (by rw[vj,List.length_map]; exact hat 1) (ni h (.inl rfl))
   · rw[zn h1]
     by_cases h2:k=2
     · rw[zp h2]
       exact kS (by rw[aeB,List.length_map]; exact hat 2) (ni h (.inr rfl))
     · rw[zn h2]
       exact ⟨by simp,fun v hv=>by cases hv⟩
 · unfold entM inR
   simp only
   have h1:=aeW (atM l p 3) 0 0 (abl h) (by simp)
   have:=hat 3
   unfold sumI
   split<;>omega
theorem ajX {l:List bk}{p:Path}{k:Int} (h:ItemsOk l) (hp:p.length≤12) (hs:∀ s∈p,s.length≤120):lowE (entM l p k):=by
 have:=(ab6 (k:=k) h hp hs).1
 exact ⟨by have:=this.1; omega,by have:=this.2.2.1; omega⟩
theorem fA {l m:List Ent} (hl:l.length<1000000) (hs:∀ e∈l,lowE e):zcp l m=some (decide (l=m)):=by
 unfold zcp zaa
 by_cases hlen:l.length=m.length
 · rw[zt (by omega)]
   simp only[Bool.not_true,cond_false]
   have:=iP (f:=kM l m) (l:=l) (m:=m) (fun i=>((i:Int),())) (fun x y=>decide (x=y)) true false hlen (fun i h h'=>by
     unfold kM
     simp only[ac]
     rw[zp (by omega),aX h,aX h']
     simp only[zb,ng (hs _ (zm h)),bT]
     rw[wrap64 (by omega) (by omega)]
     by_cases e:l[i]=m[i]
     · rw[zp e,zp (zt e)]; rfl
     · rw[zn e,zn (by simpa using e)]) (by
     unfold kM
     simp only[ac]
     rw[zn (by omega)])
   rw[jh,ite_bool] at this
   rw[show ((0:Int),())=(((0:Nat):Int),()) from rfl,this]; rfl
 · rw[zf (by omega)]
   have:l≠m:=fun e=>hlen (by rw[e])
   rw[zf this]; rfl
theorem xc {p:Path}:(decide (p.length≤12)&&p.all fun x=>decide (x.length≤120))=true→p.length≤12∧∀ s∈p,s.length≤120:=by
 simp only[Bool.and_eq_true,decide_eq_true_eq,List.all_eq_true]
 exact id
def pS:List UInt8:=[42,42]
open Classical in
noncomputable def rF (s t:List UInt8):Bool:=match pat s,bh t with | some o,some x=>decide (Mt o x) | _,_=>false
def lowS (q:Path):Prop:=∀ s∈q,s.length<1000000
open Classical in
theorem tO {s t:List UInt8} (hs:s.length<1000000) (ht:t.length<1000000):zcf s t=some (rF s t):=ajA (p:=s) (s:=t) (by omega) (by omega)
noncomputable def cK (s:List UInt8):Bool:=decide (s=[]) || !(pat s).isSome
noncomputable def qcM (q:Path):Int:=if q.length=0 then 8 else if q.length>8 then 9 else if q.any cK=true then 8 else 0
theorem abc {s:List UInt8} (hs:s.length<1000000):zbd s=some (cK s):=by
 unfold zbd cK
 simp only[ac]
 by_cases h:s=[]
 · rw[zp h,zt h]; rfl
 · rw[zn h,zf h,ajm (by omega)]; rfl
theorem ae6 {A:Type}{b:A→Bool}:∀ (l:List A) (i:Nat),dp (S:=Unit) (R:=Int) (fun i x _=>if b x=true then .inr (i:Int) else .inl ()) (fun _=>(-1:Int)) i l ()≥0↔l.any b=true
 | [],i=>by simp[dp]
 | x::l,i=>by
   unfold dp
   by_cases h:b x=true
   · rw[zp h,List.any_cons,h]
     simp
   · rw[zn h,List.any_cons,eq_false_of_ne_true h,Bool.false_or]
     exact ae6 l (i+1)
theorem j3 {q:Path} (hl:lowS q):zbr q=some (qcM q):=by
 unfold zbr qcM
 simp only[ac]
 by_cases h0:q.length=0
 · rw[zp (by omega),zp h0]
 rw[zn (by omega),zn h0]
 by_cases h8:q.length>8
 · rw[zp (by omega),zp h8]
 rw[zn (by omega),zn h8]
 have loop:=bS (S:=Unit) (R:=Int) (f:=qr q) (l:=q) (fun i _=>((i:Int),())) (fun i x _=>if cK x=true then .inr (i:Int) else .inl ()) (fun _=>(-1:Int)) (fun _ _=>True) (fun i h s _=>by
   have turn:qr q ((i:Int),())=if cK q[i]=true then some (.inr (i:Int)) else some (.inl (((i+1:Nat):Int),())):=by
     unfold qr
     simp only[ac]
     rw[zp (by omega),aX h]
     simp only[zb,abc (hl _ (zm h))]
     rw[wrap64 (by omega) (by omega)]
     cases cK q[i] with
     | true=>rfl
     | false=>rfl
   by_cases hb:cK q[i]=true
   · exact .inr ⟨_,by rw[zp hb],by rw[turn,zp hb]⟩
   · exact .inl ⟨(),by rw[zn hb],by rw[turn,zn hb],trivial⟩) (fun s _=>by
   unfold qr
   simp only[ac]
   rw[zn (by omega)]) () trivial
 have hi:=ae6 (b:=cK) q 0
 unfold zah zai
 rw[show ((0:Int),())=(((0:Nat):Int),()) from rfl,loop]
 simp only[zb]
 by_cases hb:q.any cK=true
 · rw[zp hb,zt (hi.2 hb)]; rfl
 · rw[zn hb,zf (fun e=>hb (hi.1 e))]; rfl
noncomputable def b9:Path→Path→Bool
 | [],p=>decide (p.length=0)
 | s::q,p=>if s=pS then (List.range' 0 (p.length+1)).any (fun i=>b9 q (p.drop i)) else match p with
   | []=>false
   | x::p'=>rF s x&&b9 q p'
theorem nO {p:Path}:b9 [] p=decide (p.length=0):=by unfold b9; rfl
theorem tI {q p:Path}:b9 (pS::q) p=(List.range' 0 (p.length+1)).any (fun i=>b9 q (p.drop i)):=by
 conv=>lhs; unfold b9
 rw[zp rfl]
theorem tH {s:List UInt8}{q:Path} (h:s≠pS):b9 (s::q) []=false:=by
 conv=>lhs; unfold b9
 rw[zn h]
theorem lK {s x:List UInt8}{q p:Path} (h:s≠pS):b9 (s::q) (x::p)=(rF s x&&b9 q p):=by
 conv=>lhs; unfold b9
 rw[zn h]
def NS (G:Prop) {A:Type} (o:Option A) (b:A):Prop:=o=some b∨¬ G∧o=none
theorem NS.bind {G:Prop}{A B:Type}{o:Option A}{a:A}{f:A→Option B}{b:B} (h:NS G o a) (hf:NS G (f a) b):NS G (o.bind f) b:=by
 rcases h with h | ⟨h1,h2⟩
 · rw[h,zb]; exact hf
 · exact .inr ⟨h1,by rw[h2]; rfl⟩
theorem rg {A X:Type}{f:A→Option (A⊕X)}{a:A} (h:f a=none):aJ f a=none:=by rw[po,h]; rfl
abbrev Rec1:=(Path×Path×Unit)→Option Bool
theorem ace {G:Prop}{rec:Rec1}{s:List UInt8}{q p:Path} (hp:p.length<1000000) (hrec:∀ i,i≤p.length→NS G (rec (q,p.drop i,())) (b9 q (p.drop i))):∀ (k i:Nat),p.length+1-i≤k→i≤p.length+1 →
   NS G (aJ (kI (s::q,p,()) rec) ((i:Int),())) (.inr (.inr (.inr ((List.range' i (p.length+1-i)).any fun j=>b9 q (p.drop j))))):=by
 have stop:∀ i,¬ i<p.length+1→i≤p.length+1→NS G (aJ (kI (s::q,p,()) rec) ((i:Int),())) (.inr (.inr (.inr ((List.range' i (p.length+1-i)).any fun j=>b9 q (p.drop j))))):=fun i h1 h2=>by
   refine .inl (aw ?_)
   unfold kI
   simp only[ac]
   rw[wrap64 (by omega) (by omega),zn (by omega),show p.length+1-i=0 by omega]
   rfl
 intro k
 induction k with
 | zero=>intro i hk hi; exact stop i (by omega) hi
 | succ k ih =>
   intro i hk hi
   by_cases hlt:i<p.length+1
   · have e : kI (s :: q, p, ()) rec ((i : Int), ()) = (rec (q, p.drop i, ())).bind fun r4 => cond r4 (some (.inr (.inr (.inr (.inr true))))) (some (.inl (((i + 1 : Nat) : Int), ()))) := by
       unfold kI
       simp only[ac]
       rw[wrap64 (n:=(p.length:Int)+1) (by omega) (by omega),zp (by omega),sub1]
       simp only[zb]
       rw[ga (by omega)]
       simp only[zb]
       rw[wrap64 (by omega) (by omega)]; rfl
     rw[show p.length+1-i=(p.length+1-(i+1))+1 by omega,List.range'_succ,List.any_cons]
     rcases hrec i (by omega) with h | ⟨h1,h2⟩
     · rw[h,zb] at e
       cases hm:b9 q (p.drop i) with
       | true =>
         rw[hm] at e
         exact .inl (by rw[aw e]; rfl)
       | false =>
         rw[hm] at e
         rw[aD e,Bool.false_or]
         exact ih (i+1) (by omega) (by omega)
     · rw[h2] at e
       exact .inr ⟨h1,rg e⟩
   · exact stop i hlt hi
theorem xI {rec:Rec1}{p:Path}:bP rec [] p=some (b9 [] p):=by
 unfold bP
 rw[aw (x:=(.inl (p,()):(Path×Unit)⊕Bool)) (by
   unfold kJ
   simp only[ac]
   rw[zn (by simp)]),aF,nO]
 show some (decide ((p.length:Int)=0))=some (decide (p.length=0))
 congr 1
 by_cases h:p.length=0
 · rw[zt h,zt (by omega)]
 · rw[zf h,zf (by omega)]
theorem lJ {rec:Rec1}{s:List UInt8}{q p:Path} (hd:s=pS) {o:Option (Unit⊕((Path×Path×Unit)⊕((Path×Unit)⊕Bool)))} (ho:aJ (kI (s::q,p,()) rec) ((0:Int),())=o) {b:Bool} (hb:o=some (.inr (.inr (.inr b)))∨o=none) :
   bP rec (s::q) p=if o=none then none else some b:=by
 unfold bP
 have e:kJ rec (s::q,p,())=if o=none then none else some (.inr (.inr b)):=by
   unfold kJ
   simp only
   rw[zt (show (((s::q).length:Int)>0) by simp only[zl]; omega),cond_true,at0]
   simp only[zb]
   rw[zt (show s=[42,42] from hd),cond_true,ho]
   rcases hb with h | h
   · rw[h,aY,zn (by simp)]
   · rw[h,zp rfl]; rfl
 rcases hb with h | h
 · rw[zn (by rw[h]; simp)] at e ⊢
   rw[aw e,aY]
 · rw[zp h] at e ⊢
   rw[rg e]; rfl
theorem tF {rec:Rec1}{s:List UInt8}{q:Path} (hd:s≠pS):bP rec (s::q) []=some false:=by
 unfold bP
 rw[aw (x:=(.inr false:(Path×Unit)⊕Bool)) (by
   unfold kJ
   simp only
   rw[zt (show (((s::q).length:Int)>0) by simp only[zl]; omega),cond_true,at0]
   simp only[zb]
   rw[zf (show ¬ s=[42,42] from hd),cond_false,aF,zt (by simp),cond_true]),aY]
theorem xH {rec:Rec1}{s x:List UInt8}{q p:Path}{b:Bool} (hd:s≠pS) (hg:zcf s x=some b):kJ rec (s::q,x::p,())=if b=true then some (.inl (q,p,())) else some (.inr (.inr false)):=by
 unfold kJ
 simp only
 rw[zt (show (((s::q).length:Int)>0) by simp only[zl]; omega),cond_true,at0,zb,zf (show ¬ s=[42,42] from hd),cond_false,aF,zf (by simp only[zl]; omega),cond_false,at0,zb,zb,hg,zb,sub1,zb,sub1,zb]
 cases b
 · rw[zn (by simp)]; rfl
 · rw[zp rfl]; rfl
theorem tG {rec:Rec1}{s x:List UInt8}{q p:Path} (hd:s≠pS) (hs:s.length<1000000) (hx:x.length<1000000):bP rec (s::q) (x::p)=if rF s x=true then bP rec q p else some false:=by
 have e:=xH (rec:=rec) (q:=q) (p:=p) hd (tO hs hx)
 generalize rF s x=b at e ⊢
 unfold bP
 cases b
 · rw[zn (by simp)] at e ⊢
   rw[aw e,aY]
 · rw[zp rfl] at e ⊢
   rw[aD e]
theorem nN {G:Prop}{rec:Rec1}:∀ (q p:Path),p.length<1000000→lowS q→lowS p→(∀ (q' p':Path),q'.length<q.length→p'.length<1000000→lowS q'→lowS p'→NS G (rec (q',p',())) (b9 q' p'))→NS G (bP rec q p) (b9 q p)
 | [],p,_,_,_,_=>.inl xI
 | s::q,p,hp,hq,hpl,hrec=>by
   have hq':lowS q:=fun x hx=>hq x (List.mem_cons_of_mem _ hx)
   by_cases hd:s=pS
   · have hl:=ace (G:=G) (rec:=rec) (s:=s) (q:=q) (p:=p) hp (fun i hi=>hrec q (p.drop i) (by simp) (by rw[List.length_drop]; omega) hq' (fun x hx=>hpl x (List.mem_of_mem_drop hx))) (p.length+1) 0 (by omega) (by omega)
     have hm:b9 (s::q) p=(List.range' 0 (p.length+1-0)).any (fun j=>b9 q (p.drop j)):=by rw[hd,tI,Nat.sub_zero]
     rw[hm]
     generalize (List.range' 0 (p.length+1-0)).any (fun j=>b9 q (p.drop j))=b at hl ⊢
     rcases hl with h | ⟨h1,h2⟩
     · exact .inl (by rw[lJ hd h (.inl rfl),zn (by simp)])
     · exact .inr ⟨h1,by rw[lJ (b:=b) hd h2 (.inr rfl),zp rfl]⟩
   · match p,hp,hpl with
     | [],_,_=>exact .inl (by rw[tF hd,tH hd])
     | x::p,hp,hpl =>
       rw[tG hd (hq s (List.mem_cons_self ..)) (hpl x (List.mem_cons_self ..)),lK hd]
       by_cases hg:rF s x=true
       · rw[zp hg,hg,Bool.true_and]
         exact nN q p (by simp only[zl] at hp; omega) hq' (fun y hy=>hpl y (List.mem_cons_of_mem _ hy)) (fun q' p' h=>hrec q' p' (by simp only[zl]; omega))
       · rw[zn hg,eq_false_of_ne_true hg,Bool.false_and]
         exact .inl rfl
theorem pk (G:Prop):∀ (n:Nat) (q p:Path),p.length<1000000→lowS q→lowS p→(G→q.length<n)→NS G (itT (fun (rec:Rec1) v=>bP rec v.1 v.2.1) n (q,p,())) (b9 q p)
 | 0,q,p,_,_,_,h=>.inr ⟨fun g=>by have:=h g; omega,rfl⟩
 | n+1,q,p,hp,hq,hpl,h=>by
   have e:itT (fun (rec:Rec1) v=>bP rec v.1 v.2.1) (n+1) (q,p,())=bP (itT (fun (rec:Rec1) v=>bP rec v.1 v.2.1) n) q p:=rfl
   rw[e]
   exact nN q p hp hq hpl fun q' p' h1 h2 h3 h4=>pk G n q' p' h2 h3 h4 fun g=>by have:=h g; omega
theorem adO {q p:Path} (hp:p.length<1000000) (hq:lowS q) (hpl:lowS p):zb5 q p=some (b9 q p):=by
 unfold zb5 gj
 refine aqD (fun n => ?_) ⟨q.length+1,?_⟩
 · rcases pk False n q p hp hq hpl (fun h=>h.elim) with h | ⟨_,h⟩
   · exact .inr h
   · exact .inl h
 · rcases pk True (q.length+1) q p hp hq hpl (fun _=>by omega) with h | ⟨h,_⟩
   · exact h
   · exact absurd trivial h
noncomputable def pL (q p:Path):Bool:=decide (qcM q=0)&&b9 q p
theorem qW {q p:Path} (hp:p.length<1000000) (hq:lowS q) (hpl:lowS p):zbm q p=some (pL q p):=by
 unfold zbm pL
 rw[j3 hq]
 simp only[zb,adO hp hq hpl]
 by_cases h:qcM q=0
 · rw[zt h]; rfl
 · rw[zf h]; rfl
noncomputable def selM (l:List bk) (q:Path):List dX:=(da l).filter fun y=>pL q y.1
theorem rt {l:List bk} (h:ItemsOk l) {y:dX} (hy:y∈da l):y.1.length<1000000∧lowS y.1:=by
 have:=nS h hy
 exact ⟨by omega,fun s hs=>by have:=this.2 s hs; omega⟩
theorem adE {l:List bk}{q:Path} (h:ItemsOk l) (hq:lowS q):zbj l q=some (selM l q):=by
 have hlen:=nR h
 unfold zbj
 rw[ad9 (lT h)]
 simp only[zb]
 have this:=iO (f:=uU q (da l)) (l:=da l) (fun i o=>((i:Int),o,())) (fun y=>if pL q y.1=true then [y] else []) (fun o=>o) 1 (fun x _=>by split<;>simp) (fun i hi o ho=>by
   have hs:=rt h (zm hi)
   unfold uU
   simp only[ac]
   rw[zp (by omega),aX hi]
   simp only[zb,qW hs.1 hq hs.2]
   rw[wrap64 (by omega) (by omega),cr (by simp; omega)]
   by_cases hb:pL q (da l)[i].1=true
   · rw[hb,cond_true,zp rfl]; rfl
   · rw[zn hb,eq_false_of_ne_true hb,cond_false,List.append_nil]; rfl) (fun o _=>by
   unfold uU
   simp only[ac]
   rw[zn (by omega)])
 rw[show ((0:Int),([]:List dX),())=(((0:Nat):Int),[],()) from rfl,this]
 congr 1
 exact jO (q:=fun y:dX=>pL q y.1)
theorem aaK {l:List bk}{q:Path}{y:dX} (h:y∈selM l q):y∈da l:=(List.mem_filter.1 h).1
theorem aaL {l:List bk}{q:Path} (h:ItemsOk l):(selM l q).length≤320:=Nat.le_trans (List.length_filter_le ..) (nR h)
noncomputable def dv (l:List bk) (q:Path):List Ent:=(selM l q).map fun y=>entM l y.1 y.2.1
theorem ib {l:List bk}{q:Path} (h:ItemsOk l) (hq:lowS q):zcb l q=some (dv l q):=by
 have hlen:=aaL (q:=q) h
 unfold zcb
 rw[adE h hq]
 simp only[zb]
 have this:=iO (f:=uN l (selM l q)) (l:=selM l q) (fun i o=>((i:Int),o,())) (fun y=>[entM l y.1 y.2.1]) (fun o=>o) 1 (fun x _=>Nat.le_refl _) (fun i hi o ho=>by
   have hs:=rt h (aaK (zm hi))
   unfold uN
   simp only[ac]
   rw[zp (by omega),aX hi]
   simp only[zb,ads h hs.1]
   rw[wrap64 (by omega) (by omega),cr (by simp; omega)]; rfl) (fun o _=>by
   unfold uN
   simp only[ac]
   rw[zn (by omega)])
 rw[show ((0:Int),([]:List Ent),())=(((0:Nat):Int),[],()) from rfl,this,cO]
 rfl
theorem lf {a:UInt8} (h:a.toNat<128):bh [a]=some [(a.toNat:Int)]:=by rw[qN h,bV]; rfl
theorem aa9 {a:UInt8} (h:a.toNat<128) (hw:fb (a.toNat:Int)=false):pat [a]=some [(a.toNat:Int)]:=by
 unfold pat
 rw[lf h,zb,zn (by simp),gm hw]; rfl
open Classical in
theorem abS {a b:UInt8} (ha:a.toNat<128) (hb:b.toNat<128) (hw:fb (a.toNat:Int)=false):rF [a] [b]=decide (a.toNat=b.toNat):=by
 unfold rF
 rw[aa9 ha hw,lf hb]
 show decide (Mt [(a.toNat:Int)] [(b.toNat:Int)])=_
 rw[decide_eq_decide,ki (by omega)]
 constructor
 · rintro ⟨x,t,h1,h2,h3⟩
   injection h1 with h1 h4
   rcases h2 with h2 | h2<;>omega
 · intro h
   exact ⟨_,[],rfl,.inr (by omega),rfl⟩
theorem tu {a:UInt8} (h:a.toNat<128) (hw:fb (a.toNat:Int)=false):cK [a]=false:=by
 unfold cK
 rw[aa9 h hw]; rfl
theorem ajq {q:Path} (h1:q.length≠0) (h2:q.length≤8) (h3:q.any cK=false):qcM q=0:=by
 unfold qcM
 rw[zn h1,zn (by omega),h3,zn (by simp)]
theorem vY {A R:Type}{b:A→Bool}{yes no:R}:∀ (l:List A) (i:Nat),dp (S:=Unit) (R:=R) (fun _ x _=>if b x=true then .inr yes else .inl ()) (fun _=>no) i l ()=if l.any b=true then yes else no
 | [],i=>by simp[dp]
 | x::l,i=>by
   unfold dp
   by_cases h:b x=true
   · rw[zp h,List.any_cons,h,Bool.true_or,zp rfl]
   · rw[zn h,List.any_cons,eq_false_of_ne_true h,Bool.false_or]
     exact vY l (i+1)
theorem tj {q:Path} (hl:lowS q):zb0 q=some (qcM q):=by
 unfold zb0 qcM
 simp only[ac]
 by_cases h0:q.length=0
 · rw[zp (by omega),zp h0]
 rw[zn (by omega),zn h0]
 by_cases h8:q.length>8
 · rw[zp (by omega),zp h8]
 rw[zn (by omega),zn h8]
 have loop:=bS (S:=Unit) (R:=Int) (f:=qp q) (l:=q) (fun i _=>((i:Int),())) (fun _ x _=>if cK x=true then .inr 8 else .inl ()) (fun _=>(0:Int)) (fun _ _=>True) (fun i h s _=>by
   have turn:qp q ((i:Int),())=if cK q[i]=true then some (.inr 8) else some (.inl (((i+1:Nat):Int),())):=by
     have hs:=hl _ (zm h)
     unfold qp
     simp only[ac]
     rw[zp (by omega),aX h]
     simp only[zb,xr (show q[i].length<4294967296 by omega)]
     rw[wrap64 (by omega) (by omega)]
     unfold cK
     cases pat q[i] with
     | none =>
       by_cases hn:q[i]=[]
       · rw[zp hn,zp (by simp)]
       · rw[zn hn,zp (by simp)]; rfl
     | some o =>
       by_cases hn:q[i]=[]
       · rw[zp hn,zp (by simp[hn])]
       · rw[zn hn,zn (by simp[hn])]; rfl
   by_cases hb:cK q[i]=true
   · exact .inr ⟨_,by rw[zp hb],by rw[turn,zp hb]⟩
   · exact .inl ⟨(),by rw[zn hb],by rw[turn,zn hb],trivial⟩) (fun s _=>by
   unfold qp
   simp only[ac]
   rw[zn (by omega)]) () trivial
 rw[show ((0:Int),())=(((0:Nat):Int),()) from rfl,loop,vY]
abbrev Chg:=Int×Ent×Ent×Unit
theorem bY {a b:Ent} (ha:a.1.length<1000000):za7 a b=some (cmpK (keyE a) (keyE b)):=by
 unfold za7
 simp only[iJ ha,jb,or_t,zb]
 rfl
instance decC:DecidableEq Chg:=fun a b => @instDecidableEqProd Int (Ent×Ent×Unit) inferInstance decC2 a b
theorem ka {a b:Ent} (ha:lowE a):zb3 a b=some (decide (a=b)):=by
 unfold zb3 zcp zaa
 simp only[zl,List.length_nil,decide_true,Bool.not_true,cond_false]
 have:=iP (f:=kM [a] [b]) (l:=[a]) (m:=[b]) (fun i=>((i:Int),())) (fun x y=>decide (x=y)) true false rfl (fun i h h'=>by
   have hi:i=0:=by simpa using h
   subst hi
   unfold kM
   simp only[ac]
   rw[zp (by simp),aX h,aX h']
   simp only[zb,List.getElem_cons_zero,ng ha]
   by_cases hab:a=b
   · simp only[zt hab,Bool.not_true,cond_false,if_true]; rw[wrap64 (by omega) (by omega)]; rfl
   · simp only[zf hab,Bool.not_false,cond_true,Bool.false_eq_true,if_false]) (by
   unfold kM
   simp only[ac]
   rw[zn (by simp)])
 rw[jh,ite_bool] at this
 rw[show (0:Int)=((0:Nat):Int) from rfl,this]
 simp
def lowC (c:Chg):Prop:=lowE c.2.1∧lowE c.2.2.1
theorem d8 {e:Ent} (h:lowE e):zbg e=some e:=by
 unfold zbg zat zap eR
 have h1:e.1.length<most:=by unfold most; have:=h.1; omega
 have h2:e.2.2.1.length<most:=by unfold most; have:=h.2; omega
 rw[zp h1,zp h2]
 rfl
def aei (x:Ent):Chg:=(2,x,oI,())
def abt (y:Ent):Chg:=(1,oI,y,())
def aas (x y:Ent):Chg:=(3,x,y,())
def dM:List Ent→List Ent→List Chg:=df cmpK keyE xd aei abt aas
theorem ae9:∀ (n:Nat) (a b:List Ent),a.length+b.length≤n→(dM a b).length≤a.length+b.length:=by
 intro n
 induction n with
 | zero =>
   intro a b h
   have e1:a=[]:=List.eq_nil_of_length_eq_zero (by omega)
   have e2:b=[]:=List.eq_nil_of_length_eq_zero (by omega)
   subst e1; subst e2
   simp[dM,df]
 | succ n ih =>
   intro a b h
   match a,b,h with
   | [],b,h=>simp[dM,df]
   | x::a,[],h=>simp[dM,df]
   | x::a,y::b,h =>
     simp only[zl] at h
     have i1:=ih a (y::b) (by simp only[zl]; omega)
     have i2:=ih (x::a) b (by simp only[zl]; omega)
     have i3:=ih a b (by omega)
     simp only[zl] at i1 i2
     unfold dM at i1 i2 i3 ⊢
     rw[df.eq_def]
     simp only
     split
     · simp only[zl]; omega
     · split
       · simp only[zl]; omega
       · rw[List.length_append]
         have:(if xd x y=true then [] else [aas x y]).length≤1:=by split<;>simp
         simp only[zl]; omega
theorem acb:∀ (n:Nat) (a b:List Ent) (o:List Chg),a.length+b.length≤n→a.length+b.length+o.length<1000000→(∀ e∈a,lowE e)→(∀ e∈b,lowE e)→aJ ir (a,b,o,())=some (o++dM a b):=by
 intro n
 induction n with
 | zero =>
   intro a b o h _ _ _
   have e1:a=[]:=List.eq_nil_of_length_eq_zero (by omega)
   have e2:b=[]:=List.eq_nil_of_length_eq_zero (by omega)
   subst e1; subst e2
   refine aw ?_
   unfold ir
   simp[dM,df]
 | succ n ih =>
   intro a b o h hb la lb
   match a,b,h,hb,la,lb with
   | [],[],h,hb,la,lb =>
     refine aw ?_
     unfold ir
     simp[dM,df]
   | [],y::b,h,hb,la,lb =>
     simp only[zl,List.length_nil] at h hb
     rw[aD (b:=([],b,o++[abt y],())),ih [] b _ (by simp<;>omega) (by simp<;>omega) (fun e he=>by cases he) (fun e he=>lb e (List.mem_cons_of_mem _ he))]
     · simp[dM,df]
     · unfold ir
       simp only[ac]
       rw[zn (by simp),zp (by simp<;>omega),aF]
       simp only[]
       rw[zn (by simp<;>omega),zn (by simp),aF]
       simp only[]
       rw[zn (by omega),zp (by omega),at0]
       simp only[zb,d8 (lb y (List.mem_cons_self ..))]
       rw[cr (by simp<;>omega)]
       simp only[zb]
       rw[sub1]
       rfl
   | x::a,[],h,hb,la,lb =>
     simp only[zl,List.length_nil] at h hb
     rw[aD (b:=(a,[],o++[aei x],())),ih a [] _ (by simp<;>omega) (by simp<;>omega) (fun e he=>la e (List.mem_cons_of_mem _ he)) (fun e he=>by cases he)]
     · cases a<;>simp[dM,df]
     · unfold ir
       simp only[ac]
       rw[zp (by simp<;>omega),aF]
       simp only[]
       rw[zp (by simp),aF]
       simp only[]
       rw[zp (by omega),at0]
       simp only[zb,d8 (la x (List.mem_cons_self ..))]
       rw[cr (by simp<;>omega)]
       simp only[zb]
       rw[sub1]
       rfl
   | x::a,y::b,h,hb,la,lb =>
     simp only[zl] at h hb
     have lx:=la x (List.mem_cons_self ..)
     have ly:=lb y (List.mem_cons_self ..)
     have la':∀ e∈a,lowE e:=fun e he=>la e (List.mem_cons_of_mem _ he)
     have lb':∀ e∈b,lowE e:=fun e he=>lb e (List.mem_cons_of_mem _ he)
     have hd:dM (x::a) (y::b)=if cmpK (keyE x) (keyE y)<0 then aei x::dM a (y::b) else if cmpK (keyE x) (keyE y)>0 then abt y::dM (x::a) b else (if xd x y then [] else [aas x y])++dM a b:=by
       unfold dM
       rw[df.eq_def]
     rw[hd]
     by_cases h1:cmpK (keyE x) (keyE y)<0
     · rw[zp h1,aD (b:=(a,y::b,o++[aei x],())),ih a (y::b) _ (by simp only[zl]; omega) (by simp<;>omega) la' lb]
       · simp
       · unfold ir
         simp only[ac]
         rw[zp (by simp<;>omega),aF]
         simp only[]
         rw[zn (by simp<;>omega),zp (by simp<;>omega),at0,at0]
         simp only[zb,bY lx.1,be]
         rw[zp h1]
         simp only[zb,d8 lx]
         rw[cr (by simp<;>omega)]
         simp only[zb]
         rw[sub1]
         rfl
     · rw[zn h1]
       by_cases h2:cmpK (keyE x) (keyE y)>0
       · rw[zp h2,aD (b:=(x::a,b,o++[abt y],())),ih (x::a) b _ (by simp only[zl]; omega) (by simp<;>omega) la lb']
         · simp
         · unfold ir
           simp only[ac]
           rw[zp (by simp<;>omega),aF]
           simp only[]
           rw[zn (by simp<;>omega),zp (by simp<;>omega),at0,at0]
           simp only[zb,bY lx.1,be]
           rw[zn h1,zp h2]
           simp only[zb,d8 ly]
           rw[cr (by simp<;>omega)]
           simp only[zb]
           rw[sub1]
           rfl
       · rw [zn h2, aD (b := (a, b, o ++ (if xd x y then [] else [aas x y]), ())), ih a b _ (by omega) (by
           rw[List.length_append]
           have:(if xd x y=true then [] else [aas x y]).length≤1:=by split<;>simp
           omega) la' lb']
         · simp
         · unfold ir
           simp only[ac]
           rw[zp (by simp<;>omega),aF]
           simp only[]
           rw[zn (by simp<;>omega),zp (by simp<;>omega),at0,at0]
           simp only[zb,bY lx.1,be]
           rw[zn h1,zn h2]
           simp only[zb,ka lx,d8 lx,d8 ly]
           unfold xd
           by_cases hxy:x=y
           · simp only[zt hxy,Bool.not_true,cond_false,if_true,List.append_nil]
             rw[aF,sub1,sub1]
             rfl
           · simp only[zf hxy,Bool.not_false,cond_true,Bool.false_eq_true,if_false]
             rw[cr (by simp<;>omega)]
             simp only[zb,be]
             rw[sub1,sub1]
             rfl
theorem aqI {a b:List Ent} (h:a.length+b.length<1000000) (la:∀ e∈a,lowE e) (lb:∀ e∈b,lowE e):zb6 a b=some (dM a b):=by
 have:=acb _ a b [] (Nat.le_refl _) (by simpa using h) la lb
 simpa [zb6] using this
theorem aqL:∀ (n:Nat) (a b:List Ent),a.length+b.length≤n→∀ c∈dM a b,(c.2.1∈a∨c.2.1=oI)∧(c.2.2.1∈b∨c.2.2.1=oI):=by
 intro n
 have nilB:∀ b:List Ent,∀ c∈dM [] b,(c.2.1∈([]:List Ent)∨c.2.1=oI)∧(c.2.2.1∈b∨c.2.2.1=oI):=by
   intro b c hc
   unfold dM at hc
   rw[df.eq_def] at hc
   simp only[List.mem_map] at hc
   obtain ⟨y,hy,rfl⟩:=hc
   exact ⟨.inr rfl,.inl hy⟩
 induction n with
 | zero =>
   intro a b h
   have e1:a=[]:=List.eq_nil_of_length_eq_zero (by omega)
   subst e1
   exact nilB b
 | succ n ih =>
   intro a b h
   match a,b,h with
   | [],b,h=>exact nilB b
   | x::a,[],h =>
     intro c hc
     unfold dM at hc
     rw[df.eq_def] at hc
     simp only[List.mem_map] at hc
     obtain ⟨y,hy,rfl⟩:=hc
     exact ⟨.inl hy,.inr rfl⟩
   | x::a,y::b,h =>
     simp only[zl] at h
     intro c hc
     have i1:=ih a (y::b) (by simp only[zl]; omega)
     have i2:=ih (x::a) b (by simp only[zl]; omega)
     have i3:=ih a b (by omega)
     unfold dM at hc i1 i2 i3
     rw[df.eq_def] at hc
     simp only at hc
     split at hc
     · rcases List.mem_cons.1 hc with rfl | hc
       · exact ⟨.inl (List.mem_cons_self ..),.inr rfl⟩
       · have:=i1 c hc
         exact ⟨this.1.imp_left (List.mem_cons_of_mem _),this.2⟩
     · split at hc
       · rcases List.mem_cons.1 hc with rfl | hc
         · exact ⟨.inr rfl,.inl (List.mem_cons_self ..)⟩
         · have:=i2 c hc
           exact ⟨this.1,this.2.imp_left (List.mem_cons_of_mem _)⟩
       · rcases List.mem_append.1 hc with hc | hc
         · split at hc
           · cases hc
           · simp at hc
             subst hc
             exact ⟨.inl (List.mem_cons_self ..),.inl (List.mem_cons_self ..)⟩
         · have:=i3 c hc
           exact ⟨this.1.imp_left (List.mem_cons_of_mem _),this.2.imp_left (List.mem_cons_of_mem _)⟩
open Classical in
abbrev loE:Path×Int→List Ent→List Ent:=lo cmpK keyE
abbrev hiE:Path×Int→List Ent→List Ent:=hi cmpK keyE
abbrev qE:List Ent→Chg→List Ent⊕Int:=kl cmpK keyE
abbrev wx:List Ent→List Chg→List Ent×Int×Unit:=fZ cmpK keyE
abbrev jy:List Ent→Prop:=dF cmpK keyE
def seen (q:List Ent) (k:Path×Int):Bool:=match q with
 | x::_=>decide (cmpK (keyE x) k=0)
 | []=>false
theorem sX {l:List Ent}{e:Ent} (hl:l.length<1000000) (hr:jy l) (hs:∀ x∈l,lowE x):∀ (k i j:Nat),j-i≤k→i≤(loE (keyE e) l).length→(loE (keyE e) l).length≤j→j≤l.length →
   aJ (ne l e) ((i:Int),(j:Int),())=some (.inl (((loE (keyE e) l).length:Int),())):=by
 intro k
 induction k with
 | zero =>
   intro i j hk h1 h2 h3
   refine aw ?_
   unfold ne
   simp only[ac]
   rw[zn (by omega),show (loE (keyE e) l).length=i by omega]
 | succ k ih =>
   intro i j hk h1 h2 h3
   by_cases hij:i<j
   · have hh:(i+j)/2<l.length:=by omega
     have turn:ne l e ((i:Int),(j:Int),())=if cmpK (keyE l[(i+j)/2]) (keyE e)<0 then some (.inl ((((i+j)/2+1:Nat):Int),(j:Int),())) else some (.inl ((i:Int),(((i+j)/2:Nat):Int),())):=by
       unfold ne
       simp only[ac]
       rw[zp (by omega),show (i:Int)+(j:Int)=((i+j:Nat):Int) by omega,abP (by omega)]
       simp only[zb]
       rw[wrap64 (n:=(((i+j)/2:Nat):Int)) (by omega) (by omega),aX hh]
       simp only[zb,bY (hs _ (zm hh)).1]
       rw[wrap64 (by omega) (by omega)]; rfl
     by_cases hn:(i+j)/2<(loE (keyE e) l).length
     · rw[zp (akf hh hn)] at turn
       rw[aD turn]
       exact ih _ _ (by omega) (by omega) h2 h3
     · have:=akg oi hr hh (k:=keyE e) (Nat.le_of_not_lt hn)
       rw[zn (by omega)] at turn
       rw[aD turn]
       exact ih _ _ (by omega) h1 (by omega) (by omega)
   · refine aw ?_
     unfold ne
     simp only[ac]
     rw[zn (by omega),show (loE (keyE e) l).length=i by omega]
theorem adF {l:List Ent}{e:Ent} (hl:l.length<1000000) (hr:jy l) (hs:∀ x∈l,lowE x) :
   zab l e ()=some (((loE (keyE e) l).length:Int),seen (hiE (keyE e) l) (keyE e),()):=by
 have e2:loE (keyE e) l++hiE (keyE e) l=l:=lohi
 have hlen:(loE (keyE e) l).length+(hiE (keyE e) l).length=l.length:=by rw[← List.length_append,e2]
 unfold zab
 have:=sX (e:=e) hl hr hs l.length 0 l.length (by omega) (by omega) (by omega) (by omega)
 rw[show ((0:Int),(l.length:Int),())=(((0:Nat):Int),(l.length:Int),()) from rfl,this,aF]
 simp only[ac]
 cases hq:hiE (keyE e) l with
 | nil =>
   rw[hq] at hlen
   simp only[List.length_nil] at hlen
   rw[zn (by omega)]; rfl
 | cons x q =>
   rw[hq] at hlen e2
   simp only[zl] at hlen
   rw[zp (by omega),bN]
   have e3:l[(loE (keyE e) l).length]? = some x:=by
     have:(loE (keyE e) l++x::q)[(loE (keyE e) l).length]? = some x:=by simp
     rw[e2] at this
     exact this
   rw[e3]
   have hx:lowE x:=hs x (by rw[← e2]; simp)
   simp only[zb,bY hx.1]
   rfl
theorem ajF (c:Chg):zav c=some (fF c):=by
 unfold zav fF
 simp only[ac]
 by_cases h:c.1=1
 · rw[zp h,zp h]
 · rw[zn h,zn h]
theorem ae5 {p q:List Ent}{y:Ent} (h:(p++q).length<1000000):insT (p++q) (p.length:Int) [y]=some (p++y::q):=by
 simp only[List.length_append] at h
 unfold insT
 rw[zp ⟨by omega,by simp only[List.length_append]; omega,by simp,by simp only[List.length_append,zl,List.length_nil]; unfold most; omega⟩]
 simp
theorem aqJ {p q:List Ent}{x:Ent} (h:(p++x::q).length<1000000):delT (p++x::q) (p.length:Int) (IntKind.wrap .i64 ((p.length:Int)+1))=some (p++q):=by
 simp only[List.length_append,zl] at h
 rw[wrap64 (by omega) (by omega)]
 unfold delT
 rw[zp ⟨by omega,by omega,by simp only[List.length_append,zl]; omega⟩]
 have:((p.length:Int)+1).toNat=p.length+1:=by omega
 rw[this]
 simp
theorem vG {p q:List Ent}{x:Ent}:inI (p++x::q).length (p.length:Int)=some p.length∧(p++x::q)[p.length]? = some x:=by
 refine ⟨cg (by simp),by simp⟩
def endE {A:Type} (f:List Ent→A):List Ent⊕Int→A⊕(List Ent×Int×Unit)
 | .inl l=>.inl (f l)
 | .inr e=>.inr ([],e,())
theorem aa7 {cs:List Chg}{i:Nat}{l:List Ent} (hi:i<cs.length) (hcs:cs.length<1000000) (hl:l.length<1000000) (hs:∀ x∈l,lowE x) (hr:jy l) (hd:lowC cs[i]) :
   qn cs ((i:Int),l,())=some (endE (fun l'=>(((i+1:Nat):Int),l',())) (qE l cs[i])):=by
 have w1:IntKind.wrap .i64 ((i:Int)+1)=((i+1:Nat):Int):=by rw[wrap64 (by omega) (by omega)]; rfl
 unfold qn
 simp only[ac]
 rw[zp (by omega),aX hi]
 simp only[zb,ajF,adF hl hr hs,w1]
 generalize cs[i]=d at *
 unfold qE kl
 have e:loE (keyE (fF d)) l++hiE (keyE (fF d)) l=l:=lohi
 generalize hk:keyE (fF d)=k at *
 show _=some (endE _ (lC cmpK keyE l d (loE k l) (hiE k l)))
 generalize loE k l=p at *
 generalize hiE k l=q at *
 subst e
 obtain ⟨n,w,y,⟨⟩⟩:=d
 simp only
 have hw:lowE w:=hd.1
 have hy:lowE y:=hd.2
 unfold lC
 dsimp only
 by_cases h1:n<1
 · rw[zp h1,zp (.inl h1)]; rfl
 rw[zn h1]
 by_cases h3:n>3
 · rw[zp h3,zp (.inr h3)]; rfl
 rw[zn h3,zn (show ¬ (n<1∨n>3) by omega)]
 by_cases hn:n=1
 · subst hn
   rw[show fF ((1,w,y,()):Chg)=y from rfl] at hk
   subst hk
   cases q with
   | nil =>
     simp only[seen,decide_true,Bool.not_true,beq_self_eq_true,cond_false,if_true]
     rw[zn (by decide)]
     simp only[aF,aW,if_true,d8 hy,zb,zak]
     rw[ae5 hl]; rfl
   | cons x q =>
     simp only[seen]
     by_cases h0:cmpK (keyE x) (keyE y)=0
     · simp[h0,endE]
     · simp only[h0,decide_false,decide_true,Bool.not_true,beq_self_eq_true,cond_false,if_true]
       rw[zn (by decide)]
       simp only[aF,aW,if_true,d8 hy,zb,zak]
       rw[ae5 hl]; rfl
 · rw[show fF ((n,w,y,()):Chg)=w from zn hn] at hk
   subst hk
   rw[zn hn]
   cases q with
   | nil =>
     simp only[seen,zf hn]
     rfl
   | cons x q =>
     have hx:lowE x:=hs x (by simp)
     simp only[seen,zf hn,Bool.not_false]
     by_cases h0:cmpK (keyE x) (keyE w)=0
     · rw[zt h0]
       simp only[beq_self_eq_true,Bool.not_true,cond_false,cond_true,vG.1,vG.2,zb,ka hx,bT]
       by_cases hxw:x=w
       · rw[zp hxw,zp hxw]
         by_cases h3:n=3
         · rw[zp h3,zp h3,bY hw.1]
           simp only[zb,bT]
           by_cases h4:cmpK (keyE w) (keyE y)=0
           · rw[zp h4,zp h4]
             simp only[zb,aW]
             rw[zn hn,zn (by omega),d8 hy]
             simp only[zb,vG.1,vG.2]
             simp[endE]
           · rw[zn h4,zn h4]; rfl
         · rw[zn h3,zn h3]
           simp only[zb,aW]
           rw[zn hn,zp (by omega)]
           simp only[zal]
           rw[aqJ hl]; rfl
       · rw[zn hxw,zn hxw]; rfl
     · have hxw:x≠w:=fun e=>h0 (by rw[e]; exact (oi.zero _ _).2 rfl)
       rw[zf h0,zn hxw]
       rfl
theorem oz:∀ (cs:List Chg) (i:Nat) (l:List Ent),dp (fun _ d l=>endE (fun l=>l) (qE l d)) (fun l=>(l,0,())) i cs l=wx l cs
 | [],_,l=>rfl
 | d::cs,i,l=>by
   unfold wx
   rw[fZ]
   simp only[dp]
   have e:kl cmpK keyE l d=qE l d:=rfl
   rw[e]
   cases h:qE l d with
   | inl l'=>exact oz cs (i+1) l'
   | inr e=>rfl
theorem yi {A:Type}{f:A→Option (A⊕(List Ent×Int×Unit))}{enc:Nat→List Ent→A}{cs:List Chg}{l:List Ent}{P:Ent→Prop} (hs:∀ x∈l,P x) (hr:jy l) (hd:∀ d∈cs,P d.2.2.1)
   (hturn:∀ (i:Nat) (h:i<cs.length) (s:List Ent),s.length≤l.length+i→(∀ x∈s,P x)→jy s→f (enc i s)=some (endE (fun l'=>enc (i+1) l') (qE s cs[i])))
   (hend:∀ s,f (enc cs.length s)=some (.inr (s,0,()))):aJ f (enc 0 l)=some (wx l cs):=by
 have:=bS (f:=f) (l:=cs) (S:=List Ent) enc (fun _ d l=>endE (fun l=>l) (qE l d)) (fun l=>(l,0,())) (fun i s=>s.length≤l.length+i∧(∀ x∈s,P x)∧jy s) (fun i hi s ⟨h1,h2,h3⟩=>by
   have hc:=hd _ (zm hi)
   have t:=hturn i hi s h1 h2 h3
   cases h:qE s cs[i] with
   | inl l' =>
     rw[h] at t
     have k:=xa oi h3 h
     exact .inl ⟨l',rfl,t,by omega,fun x hx=>by
       rcases k.2.2 x hx with h | rfl
       · exact h2 x h
       · exact hc,k.1⟩
   | inr e =>
     rw[h] at t
     exact .inr ⟨_,rfl,t⟩) (fun s _=>hend s) l ⟨by omega,hs,hr⟩
 rw[oz] at this
 exact this
theorem akh {cs:List Chg}{l:List Ent} (hcs:cs.length<1000) (hl:l.length<1000) (hs:∀ x∈l,lowE x) (hr:jy l) (hd:∀ d∈cs,lowC d):zbk l cs=some (wx l cs):=by
 have:=yi (f:=qn cs) (enc:=fun i l=>((i:Int),l,())) hs hr (fun d h=>(hd d h).2) (fun i hi s h1 h2 h3=>aa7 hi (by omega) (by omega) h2 h3 (hd _ (zm hi))) (fun s=>by
   unfold qn
   simp only[ac]
   rw[zn (by omega)])
 unfold zbk zam eR
 rw[zp (by unfold most; omega)]
 exact this
theorem aqM {a b:List Ent} (sa:∀ e∈a,lowE e) (sb:∀ e∈b,lowE e):∀ c∈dM a b,lowC c:=fun c hc=>by
 obtain ⟨h1,h2⟩:=aqL _ a b (Nat.le_refl _) c hc
 refine ⟨?_,?_⟩
 · rcases h1 with h1 | h1
   · exact sa _ h1
   · rw[h1]; exact qj.1
 · rcases h2 with h2 | h2
   · exact sb _ h2
   · rw[h2]; exact qj.1
theorem aki {a b:List Ent} (la:a.length<400) (lb:b.length<400) (sa:∀ e∈a,lowE e) (sb:∀ e∈b,lowE e) (ra:jy a) (rb:jy b):zbk a (dM a b)=some (b,0,()):=by
 have hlen:=ae9 _ a b (Nat.le_refl _)
 rw[akh (by omega) (by omega) sa ra (aqM sa sb)]
 exact congrArg some (oA oi (z:=oI) _ [] a b (Nat.le_refl _) ra rb)
theorem ae8 {a b:List Ent} (ra:jy a) (rb:jy b):dM a b=[]↔a=b:=by
 constructor
 · exact aet oi (z:=oI) ra rb
 · rintro rfl
   exact rS oi a
end Go.Proofs.YtnbgkhdcidbkaaaGreatDoor.Q
