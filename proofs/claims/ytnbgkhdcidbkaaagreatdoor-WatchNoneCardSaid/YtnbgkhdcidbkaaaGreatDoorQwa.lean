import Derived.Test.YtnbgkhdcidbkaaaGreatDoorW
import Derived.Test.YtnbgkhdcidbkaaaGreatDoorT14
import Derived.Test.YtnbgkhdcidbkaaaGreatDoorT29
set_option linter.unusedVariables false
set_option linter.unusedSimpArgs false
set_option maxRecDepth 100000
namespace Go.Proofs.YtnbgkhdcidbkaaaGreatDoor.Q
open Go.EM Go.TY Go.Proofs Go.Proofs.YtnbgkhdcidbkaaaGreatDoor.Y
def aP:List UInt8→Int×Nat
 | []=>(0,0)
 | a::t =>
   if a.toNat<128 then (a.toNat,1)
   else if 194≤a.toNat∧a.toNat<224 then (match t with
     | b::_=>if 128≤b.toNat∧b.toNat≤191 then (64*((a.toNat:Int)-192)+b.toNat-128,2) else (0,0)
     | _=>(0,0))
   else if 224≤a.toNat∧a.toNat<240 then (match t with
     | b :: c :: _ => if (128 ≤ b.toNat ∧ b.toNat ≤ 191) ∧ (128 ≤ c.toNat ∧ c.toNat ≤ 191) then
         let r:Int:=64*(64*((a.toNat:Int)-224)+b.toNat-128)+c.toNat-128
         if r<2048∨(55296≤r∧r≤57343) then (0,0) else (r,3)
       else (0,0)
     | _=>(0,0))
   else if 240≤a.toNat∧a.toNat<245 then (match t with
     | b :: c :: d :: _ => if (128 ≤ b.toNat ∧ b.toNat ≤ 191) ∧ (128 ≤ c.toNat ∧ c.toNat ≤ 191) ∧ (128 ≤ d.toNat ∧ d.toNat ≤ 191) then
         let r:Int:=64*(64*(64*((a.toNat:Int)-240)+b.toNat-128)+c.toNat-128)+d.toNat-128
         if r<65536∨1114111<r then (0,0) else (r,4)
       else (0,0)
     | _=>(0,0))
   else (0,0)
theorem ol {s:List UInt8}{q:Int×Int×Int×Unit}{x:Int}{i:Nat}{b:UInt8} (hi:(i:Int)<q.2.1) (hi4:i≤4) (h:s[i]? = some b) (hx:0≤x) (hx2:x≤100000000) :
   ge s q (x,(i:Int),())=if 128≤b.toNat∧b.toNat≤191 then some (.inl (64*x+b.toNat-128,((i+1:Nat):Int),())) else some (.inr (.inr (0,0,()))):=by
 have hb:b.toNat<256:=b.toNat_lt
 simp only[ge,bD,h,zb,ae,zp hi]
 rw[wrap64 (n:=64*x) (by omega) (by omega),wrap64 (n:=(b.toNat:Int)) (by omega) (by omega),wrap64 (n:=64*x+b.toNat) (by omega) (by omega),wrap64 (n:=64*x+b.toNat-128) (by omega) (by omega),wrap64 (n:=(i:Int)+1) (by omega) (by omega)]
 by_cases h1:b.toNat<128
 · rw[zp (by omega),zn (by omega)]
 · rw[zn (by omega)]
   by_cases h2:b.toNat>191
   · rw[zp (by omega),zn (by omega)]
   · rw[zn (by omega),zp (by omega)]; rfl
theorem acN {s:List UInt8}{q:Int×Int×Int×Unit}{x:Int}{i:Nat} (hi:¬ (i:Int)<q.2.1):ge s q (x,(i:Int),())=some (.inr (.inl (x,()))):=by
 simp only[ge,ae,zn hi]
theorem agp {a b:UInt8}{t:List UInt8}{l:Int}{c x:Int} (hx:0≤x) (hx2:x≤1000) :
   aH (ge (a::b::t) (c,2,l,())) (x,1,())=if 128≤b.toNat∧b.toNat≤191 then some (.inl (64*x+b.toNat-128,())) else some (.inr (0,0,())):=by
 have h:=ol (s:=a::b::t) (q:=(c,2,l,())) (i:=1) (b:=b) (x:=x) (by simp) (by omega) rfl hx (by omega)
 by_cases hb:128≤b.toNat∧b.toNat≤191
 · rw[zp hb] at h ⊢
   exact (aD h).trans (aw (acN (by simp)))
 · rw[zn hb] at h ⊢
   exact aw h
theorem ago {a b d:UInt8}{t:List UInt8}{l:Int}{c x:Int} (hx:0≤x) (hx2:x≤1000) :
   aH (ge (a::b::d::t) (c,3,l,())) (x,1,())=if (128≤b.toNat∧b.toNat≤191)∧(128≤d.toNat∧d.toNat≤191) then some (.inl (64*(64*x+b.toNat-128)+d.toNat-128,())) else some (.inr (0,0,())):=by
 have hb':=b.toNat_lt
 have h:=ol (s:=a::b::d::t) (q:=(c,3,l,())) (i:=1) (b:=b) (x:=x) (by simp) (by omega) rfl hx (by omega)
 by_cases hb:128≤b.toNat∧b.toNat≤191
 · rw[zp hb] at h
   have h2:=ol (s:=a::b::d::t) (q:=(c,3,l,())) (i:=2) (b:=d) (x:=64*x+b.toNat-128) (by simp) (by omega) rfl (by omega) (by omega)
   by_cases hd:128≤d.toNat∧d.toNat≤191
   · rw[zp hd] at h2
     rw[zp ⟨hb,hd⟩]
     exact ((aD h).trans (aD h2)).trans (aw (acN (by simp)))
   · rw[zn hd] at h2
     rw[zn (fun e=>hd e.2)]
     exact (aD h).trans (aw h2)
 · rw[zn hb] at h
   rw[zn (fun e=>hb e.1)]
   exact aw h
theorem agn {a b d e:UInt8}{t:List UInt8}{l:Int}{c x:Int} (hx:0≤x) (hx2:x≤1000) :
   aH (ge (a::b::d::e::t) (c,4,l,())) (x,1,())=if (128≤b.toNat∧b.toNat≤191)∧(128≤d.toNat∧d.toNat≤191)∧(128≤e.toNat∧e.toNat≤191) then some (.inl (64*(64*(64*x+b.toNat-128)+d.toNat-128)+e.toNat-128,())) else some (.inr (0,0,())):=by
 have hb':=b.toNat_lt
 have hd':=d.toNat_lt
 have h:=ol (s:=a::b::d::e::t) (q:=(c,4,l,())) (i:=1) (b:=b) (x:=x) (by simp) (by omega) rfl hx (by omega)
 by_cases hb:128≤b.toNat∧b.toNat≤191
 · rw[zp hb] at h
   have h2:=ol (s:=a::b::d::e::t) (q:=(c,4,l,())) (i:=2) (b:=d) (x:=64*x+b.toNat-128) (by simp) (by omega) rfl (by omega) (by omega)
   by_cases hd:128≤d.toNat∧d.toNat≤191
   · rw[zp hd] at h2
     have h3:=ol (s:=a::b::d::e::t) (q:=(c,4,l,())) (i:=3) (b:=e) (x:=64*(64*x+b.toNat-128)+d.toNat-128) (by simp) (by omega) rfl (by omega) (by omega)
     by_cases he:128≤e.toNat∧e.toNat≤191
     · rw[zp he] at h3
       rw[zp ⟨hb,hd,he⟩]
       exact (((aD h).trans (aD h2)).trans (aD h3)).trans (aw (acN (by simp)))
     · rw[zn he] at h3
       rw[zn (fun q=>he q.2.2)]
       exact ((aD h).trans (aD h2)).trans (aw h3)
   · rw[zn hd] at h2
     rw[zn (fun q=>hd q.2.1)]
     exact (aD h).trans (aw h2)
 · rw[zn hb] at h
   rw[zn (fun q=>hb q.1)]
   exact aw h
theorem ahJ (s:List UInt8):zcr s=some ((aP s).1,((aP s).2:Int),()):=by
 cases s with
 | nil=>simp[zcr,aP]
 | cons a t =>
   have ha:a.toNat<256:=a.toNat_lt
   have h0:¬ (((a::t).length:Int)=0):=by simp only[zl]; omega
   have hi:atI (a::t) 0=some a:=by simp[atI]
   unfold zcr
   simp only[ae,zn h0,hi,zb,agX,agy,ano]
   rw[wrap64 (n:=(a.toNat:Int)) (by omega) (by omega)]
   by_cases c1:a.toNat<128
   · rw[zp (by omega)]
     simp only[aS,aP,zp c1]; rfl
   rw[zn (by omega)]
   by_cases c2:194≤a.toNat∧a.toNat<224
   · rw[zp (by omega),wrap64 (by omega) (by omega)]
     simp only[aC]
     match t with
     | []=>simp[aP,c1,c2]
     | b::t =>
       rw[zn (by simp only[zl]; omega),agp (by omega) (by omega)]
       by_cases hb:128≤b.toNat∧b.toNat≤191
       · rw[zp hb]
         simp only[aC]
         rw[j9,zn (by omega)]
         simp only[aP,c1,c2,hb,if_true,if_false,and_self]; rfl
       · rw[zn hb]
         simp only[aS]
         simp[aP,c1,c2,hb]
   rw[zn (by omega)]
   by_cases c3:224≤a.toNat∧a.toNat<240
   · rw[zp (by omega),wrap64 (by omega) (by omega)]
     simp only[aC]
     match t with
     | []=>simp[aP,c1,c2,c3]
     | [b]=>simp[aP,c1,c2,c3]
     | b::c::t =>
       have hb:=b.toNat_lt
       have hc:=c.toNat_lt
       rw[zn (by simp only[zl]; omega),ago (by omega) (by omega)]
       by_cases hb':(128≤b.toNat∧b.toNat≤191)∧(128≤c.toNat∧c.toNat≤191)
       · rw[zp hb']
         simp only[aC]
         rw[j9]
         simp only[aP,c1,c2,c3,hb',if_true,if_false,and_self]
         by_cases hr:64*(64*((a.toNat:Int)-224)+b.toNat-128)+c.toNat-128<2048∨(55296≤64*(64*((a.toNat:Int)-224)+b.toNat-128)+c.toNat-128∧64*(64*((a.toNat:Int)-224)+b.toNat-128)+c.toNat-128≤57343)
         · rw[zp (by omega),zp hr]; rfl
         · rw[zn (by omega),zn hr]; rfl
       · rw[zn hb']
         simp only[aS]
         simp[aP,c1,c2,c3,hb']
   rw[zn (by omega)]
   by_cases c4:240≤a.toNat∧a.toNat<245
   · rw[zp (by omega),wrap64 (by omega) (by omega)]
     simp only[aC]
     match t with
     | []=>simp[aP,c1,c2,c3,c4]
     | [b]=>simp[aP,c1,c2,c3,c4]
     | [b,c]=>simp[aP,c1,c2,c3,c4]
     | b::c::d::t =>
       have hb:=b.toNat_lt
       have hc:=c.toNat_lt
       have hd:=d.toNat_lt
       rw[zn (by simp only[zl]; omega),agn (by omega) (by omega)]
       by_cases hb':(128≤b.toNat∧b.toNat≤191)∧(128≤c.toNat∧c.toNat≤191)∧(128≤d.toNat∧d.toNat≤191)
       · rw[zp hb']
         simp only[aC]
         rw[j9]
         simp only[aP,c1,c2,c3,c4,hb',if_true,if_false,and_self]
         by_cases hr:64*(64*(64*((a.toNat:Int)-240)+b.toNat-128)+c.toNat-128)+d.toNat-128<65536∨1114111<64*(64*(64*((a.toNat:Int)-240)+b.toNat-128)+c.toNat-128)+d.toNat-128
         · rw[zp (by omega),zp hr]; rfl
         · rw[zn (by omega),zn hr]; rfl
       · rw[zn hb']
         simp only[aS]
         simp[aP,c1,c2,c3,c4,hb']
   rw[zn (by omega)]
   simp only[aS]
   simp[aP,c1,c2,c3,c4]
theorem lf (s:List UInt8):(aP s).2≤s.length:=by
 unfold aP
 repeat' split
 all_goals (try simp only[])
 all_goals (try split)
 all_goals (try simp only[zl])
 all_goals omega
theorem tw (s:List UInt8):0≤(aP s).1∧(aP s).1≤1114111:=by
 unfold aP
 repeat' split
 all_goals (try simp only[])
 all_goals (try split)
 all_goals (try simp only[])
 all_goals omega
def bl (s:List UInt8):Option (List Int) :=
 if h:s=[] then some []
 else if h0:(aP s).2=0 then none
 else (bl (s.drop (aP s).2)).map fun l=>(aP s).1::l
termination_by s.length
decreasing_by
 have:s.length≠0:=fun e=>h (List.eq_nil_of_length_eq_zero e)
 simp only[List.length_drop]; omega
theorem b9:bl []=some []:=by rw[bl,dif_pos rfl]
theorem cY {s:List UInt8} (h:s≠[]) (h0:(aP s).2=0):bl s=none:=by rw[bl,dif_neg h,dif_pos h0]
theorem cF {s:List UInt8} (h:s≠[]) (h0:(aP s).2≠0):bl s=(bl (s.drop (aP s).2)).map fun l=>(aP s).1::l:=by rw[bl,dif_neg h,dif_neg h0]
def eS (s:List UInt8) (out:List Int):List Int×Bool×Unit :=
 match bl s with
 | some m=>(out++m,true,())
 | none=>([],false,())
theorem zu {s:List UInt8} (hs:s.length<4294967296):∀ (k i:Nat) (l:List Int),s.length-i≤k→i≤s.length→l.length≤i→aH (nY s) ((i:Int),l,())=some (eS (s.drop i) l):=by
 intro k
 have fin:∀ (i:Nat) (l:List Int),¬ i<s.length→aH (nY s) ((i:Int),l,())=some (eS (s.drop i) l):=by
   intro i l hi
   rw[List.drop_eq_nil_of_le (by omega),aw (x:=(l,true,())) (by simp only[nY,ae]; rw[zn (by omega)])]
   simp[eS,b9]
 induction k with
 | zero=>intro i l hk hi hl; exact fin i l (by omega)
 | succ k ih =>
   intro i l hk hi hl
   by_cases hlt:i<s.length
   · have hne:s.drop i≠[]:=fun e=>by have:=congrArg List.length e; simp at this; omega
     have hle:=lf (s.drop i)
     simp only[List.length_drop] at hle
     by_cases h0:(aP (s.drop i)).2=0
     · rw[aw (x:=([],false,()))]
       · simp only[eS,cY hne h0]
       · simp only[nY,ae]
         rw[zp (by omega),gh (by omega)]
         simp only[zb,ahJ]
         rw[zp (by omega)]
     · rw[aD (b:=(((i+(aP (s.drop i)).2:Nat):Int),l++[(aP (s.drop i)).1],()))]
       · rw[ih _ _ (by omega) (by omega) (by simp; omega)]
         simp only[eS,cF hne h0,List.drop_drop]
         cases bl (s.drop (i+(aP (s.drop i)).2))<;>simp
       · simp only[nY,ae]
         rw[zp (by omega),gh (by omega)]
         simp only[zb,ahJ]
         rw[zn (by omega),aY (by simp; omega)]
         simp only[zb]
         rw[wrap64 (by omega) (by omega)]
         simp
   · exact fin i l hlt
theorem pK {s:List UInt8} (hs:s.length<4294967296):zbx s=some (eS s []):=by
 have:=zu hs s.length 0 [] (by omega) (by omega) (by simp)
 simpa [zbx] using this
theorem wrapN {n:Nat} (h:n<18446744073709551616):IntKind.wrap .u64 (n:Int)=n:=amT (by omega) (by omega)
theorem or64 {a b:Nat} (ha:a<18446744073709551616) (hb:b<18446744073709551616):IntKind.wrap .u64 ((BitVec.ofInt (IntKind.bits .u64) (a:Int) ||| BitVec.ofInt (IntKind.bits .u64) (b:Int)).toNat:Nat)=((a ||| b:Nat):Int):=by
 have h1:(BitVec.ofInt 64 (a:Int) ||| BitVec.ofInt 64 (b:Int)).toNat=a ||| b:=by
   rw[BitVec.toNat_or,BitVec.ofInt_natCast,BitVec.ofInt_natCast,BitVec.toNat_ofNat,BitVec.toNat_ofNat,Nat.mod_eq_of_lt (by omega),Nat.mod_eq_of_lt (by omega)]
 have h2:a ||| b<2 ^ 64:=Nat.or_lt_two_pow (by omega) (by omega)
 have e:IntKind.bits .u64=64:=rfl
 rw[e,h1,wrapN (by omega)]
theorem an4 {a b:Nat} (ha:a<18446744073709551616) (hb:b<18446744073709551616):IntKind.wrap .u64 ((BitVec.ofInt (IntKind.bits .u64) (a:Int) &&& BitVec.ofInt (IntKind.bits .u64) (b:Int)).toNat:Nat)=((a &&& b:Nat):Int):=by
 have h1:(BitVec.ofInt 64 (a:Int) &&& BitVec.ofInt 64 (b:Int)).toNat=a &&& b:=by
   rw[BitVec.toNat_and,BitVec.ofInt_natCast,BitVec.ofInt_natCast,BitVec.toNat_ofNat,BitVec.toNat_ofNat,Nat.mod_eq_of_lt (by omega),Nat.mod_eq_of_lt (by omega)]
 have h2:a &&& b<2 ^ 64:=Nat.and_lt_two_pow _ (by omega)
 have e:IntKind.bits .u64=64:=rfl
 rw[e,h1,wrapN (by omega)]
theorem awj {k:Nat} (hk:k≤56):2 ^ k≤2 ^ 56:=Nat.pow_le_pow_right (by omega) hk
theorem qQ {a k:Nat} (ha:a<256) (hk:k≤56):a*2 ^ k<18446744073709551616:=by
 calc a*2 ^ k≤255*2 ^ 56:=Nat.mul_le_mul (by omega) (awj hk)
   _<18446744073709551616:=by decide
theorem uE {a:Nat} (k:Nat) {n:Int} (hn:n=(k:Int)) (ha:a<256) (hk:k≤56):shlT .u64 (IntKind.wrap .u64 (a:Int)) n=some ((a*2 ^ k:Nat):Int):=by
 subst hn
 rw[wrapN (by omega)]
 have hmin:min ((k:Int).toNat) (IntKind.bits .u64)=k:=by simp[IntKind.bits]; omega
 unfold shlT
 rw[zn (by omega),hmin]
 have:((a:Int)*2 ^ k)=((a*2 ^ k:Nat):Int):=by push_cast; rfl
 rw[this,wrapN (qQ ha hk)]
def yX (a b c d e f g h:Nat):Nat:=a ||| b*2 ^ 8 ||| c*2 ^ 16 ||| d*2 ^ 24 ||| e*2 ^ 32 ||| f*2 ^ 40 ||| g*2 ^ 48 ||| h*2 ^ 56
theorem orlt {a b:Nat} (ha:a<18446744073709551616) (hb:b<18446744073709551616):a ||| b<18446744073709551616:=Nat.or_lt_two_pow (n:=64) ha hb
theorem av7 (a b c d e f g h:UInt8) (t:List UInt8):zaz (a::b::c::d::e::f::g::h::t)=some ((yX a.toNat b.toNat c.toNat d.toNat e.toNat f.toNat g.toNat h.toNat:Nat):Int):=by
 have ha:=a.toNat_lt; have hb:=b.toNat_lt; have hc:=c.toNat_lt; have hd:=d.toNat_lt; have he:=e.toNat_lt; have hf:=f.toNat_lt; have hg:=g.toNat_lt; have hh:=h.toNat_lt
 have z:∀ {x:UInt8}{k:Nat},k≤56→x.toNat*2 ^ k<18446744073709551616:=fun hk=>qQ (UInt8.toNat_lt _) hk
 have w0:a.toNat<18446744073709551616:=by omega
 have w1:=orlt w0 (z (x:=b) (k:=8) (by omega))
 have w2:=orlt w1 (z (x:=c) (k:=16) (by omega))
 have w3:=orlt w2 (z (x:=d) (k:=24) (by omega))
 have w4:=orlt w3 (z (x:=e) (k:=32) (by omega))
 have w5:=orlt w4 (z (x:=f) (k:=40) (by omega))
 have w6:=orlt w5 (z (x:=g) (k:=48) (by omega))
 unfold zaz
 have i:∀ (n:Nat) (x:UInt8),(a::b::c::d::e::f::g::h::t)[n]? = some x→atI (a::b::c::d::e::f::g::h::t) (n:Int)=some x:=fun n x hx=>by rw[bD]; exact hx
 have i0:=i 0 a rfl; have i1:=i 1 b rfl; have i2:=i 2 c rfl; have i3:=i 3 d rfl; have i4:=i 4 e rfl; have i5:=i 5 f rfl; have i6:=i 6 g rfl; have i7:=i 7 h rfl
 simp only[Int.natCast_zero,Int.natCast_one,Int.cast_ofNat_Int] at i0 i1 i2 i3 i4 i5 i6 i7
 simp only[i0,i1,i2,i3,i4,i5,i6,i7,zb,uE (n:=8) 8 rfl (UInt8.toNat_lt b) (by omega),uE (n:=16) 16 rfl (UInt8.toNat_lt c) (by omega),uE (n:=24) 24 rfl (UInt8.toNat_lt d) (by omega),uE (n:=32) 32 rfl (UInt8.toNat_lt e) (by omega),uE (n:=40) 40 rfl (UInt8.toNat_lt f) (by omega),uE (n:=48) 48 rfl (UInt8.toNat_lt g) (by omega),uE (n:=56) 56 rfl (UInt8.toNat_lt h) (by omega)]
 rw[wrapN w0,or64 w0 (z (by omega)),or64 w1 (z (by omega)),or64 w2 (z (by omega)),or64 w3 (z (by omega)),or64 w4 (z (by omega)),or64 w5 (z (by omega)),or64 w6 (z (by omega))]
 rfl
def nL:Nat:=9259542123273814144
theorem agV {x k:Nat} (h:128≤x) (h2:x<256):Nat.testBit (x*2 ^ k) (k+7)=true:=by
 rw[Nat.testBit_mul_two_pow]
 have:x.testBit 7=true:=by
   rw[Nat.testBit_eq_decide_div_mod_eq]
   simp; omega
 simp[this]
theorem tG {a b i:Nat} (h:a &&& b=0) (hb:Nat.testBit b i=true):Nat.testBit a i=false:=by
 have:Nat.testBit (a &&& b) i=false:=by rw[h]; simp
 rw[Nat.testBit_and,hb,Bool.and_true] at this
 exact this
theorem yW {a b c d e f g h:Nat} (ha:a<256) (hb:b<256) (hc:c<256) (hd:d<256) (he:e<256) (hf:f<256) (hg:g<256) (hh:h<256)
   (hz:yX a b c d e f g h &&& nL=0):a<128∧b<128∧c<128∧d<128∧e<128∧f<128∧g<128∧h<128:=by
 have key:∀ k,Nat.testBit nL (k+7)=true→Nat.testBit (yX a b c d e f g h) (k+7)=false:=fun k hk=>tG hz hk
 have k0:=key 0 (by decide)
 have k1:=key 8 (by decide)
 have k2:=key 16 (by decide)
 have k3:=key 24 (by decide)
 have k4:=key 32 (by decide)
 have k5:=key 40 (by decide)
 have k6:=key 48 (by decide)
 have k7:=key 56 (by decide)
 simp only[yX,Nat.testBit_or,Bool.or_eq_false_iff] at k0 k1 k2 k3 k4 k5 k6 k7
 have no:∀ x k,x<256→Nat.testBit (x*2 ^ k) (k+7)=false→x<128:=by
   intro x k hx hk
   rcases Nat.lt_or_ge x 128 with h | h
   · exact h
   · rw[agV h hx] at hk; cases hk
 have n0:a<128:=no a 0 ha (by simpa using k0.1.1.1.1.1.1.1)
 exact ⟨n0,no b 8 hb k1.1.1.1.1.1.1.2,no c 16 hc k2.1.1.1.1.1.2,no d 24 hd k3.1.1.1.1.2,no e 32 he k4.1.1.1.2,no f 40 hf k5.1.1.2,no g 48 hg k6.1.2,no h 56 hh k7.2⟩
theorem lE {s:List UInt8} (hs:8≤s.length):∃ W:Nat,W<18446744073709551616∧zaz s=some (W:Int)∧(W &&& nL=0→∀ b∈s.take 8,b.toNat<128):=by
 match s,hs with
 | a::b::c::d::e::f::g::h::t,_ =>
   have ha:=a.toNat_lt; have hb:=b.toNat_lt; have hc:=c.toNat_lt; have hd:=d.toNat_lt; have he:=e.toNat_lt; have hf:=f.toNat_lt; have hg:=g.toNat_lt; have hh:=h.toNat_lt
   have z:∀ {x:UInt8}{k:Nat},k≤56→x.toNat*2 ^ k<18446744073709551616:=fun hk=>qQ (UInt8.toNat_lt _) hk
   refine ⟨yX a.toNat b.toNat c.toNat d.toNat e.toNat f.toNat g.toNat h.toNat,?_,av7 a b c d e f g h t,fun hz x hx => ?_⟩
   · unfold yX
     exact orlt (orlt (orlt (orlt (orlt (orlt (orlt (by omega) (z (by omega))) (z (by omega))) (z (by omega))) (z (by omega))) (z (by omega))) (z (by omega))) (z (by omega))
   · have:=yW (by omega) (by omega) (by omega) (by omega) (by omega) (by omega) (by omega) (by omega) hz
     simp only[List.take_succ_cons,List.take_zero,List.mem_cons,List.mem_nil_iff,or_false] at hx
     rcases hx with rfl | rfl | rfl | rfl | rfl | rfl | rfl | rfl<;>omega
def cR (s:List UInt8):Bool:=(bl s).isSome
theorem rF:cR []=true:=by unfold cR; rw[b9]; rfl
theorem oj {s:List UInt8} (hne:s≠[]):cR s=(if (aP s).2=0 then false else cR (s.drop (aP s).2)):=by
 unfold cR
 split
 · rename_i h; rw[cY hne h]; rfl
 · rename_i h; rw[cF hne h]; cases bl (s.drop (aP s).2)<;>rfl
theorem ep:∀ (n:Nat) (s:List UInt8),n≤s.length→(∀ b∈s.take n,b.toNat<128)→cR s=cR (s.drop n)
 | 0,s,_,_=>rfl
 | n+1,[],h,_=>by simp at h
 | n+1,a::t,h,hb=>by
   have h1:a.toNat<128:=hb a (by simp)
   have hc:aP (a::t)=((a.toNat:Int),1):=by simp only[aP,zp h1]
   rw[oj (by simp),hc]
   simp only[Nat.one_ne_zero,if_false,List.drop_succ_cons,List.drop_zero]
   exact ep n t (by simpa using h) (fun b hm=>hb b (by simp[hm]))
theorem mI:(9259542123273814144:Int)=((nL:Nat):Int):=rfl
theorem qg:nL<18446744073709551616:=by unfold nL; omega
theorem p7 {a b m:Nat} (h:(a ||| b) &&& m=0):a &&& m=0∧b &&& m=0:=by
 rw[Nat.and_or_distrib_right] at h
 exact Nat.or_eq_zero_iff.1 h
theorem iW {s:List UInt8}{n m:Nat} (h1:∀ b∈s.take n,b.toNat<128) (h2:∀ b∈(s.drop n).take m,b.toNat<128):∀ b∈s.take (n+m),b.toNat<128:=by
 intro b hb
 rw[List.take_add,List.mem_append] at hb
 exact hb.elim (h1 b) (h2 b)
theorem dh {s:List UInt8} (n:Nat) {i:Int} (hi:i=(n:Int)) (h:n≤s.length):subI s i (s.length:Int)=some (s.drop n):=by subst hi; exact gh h
theorem awb (s:List UInt8):(32<s.length∧cR s=cR (s.drop 32)∧iR (s,())=some (.inl (s.drop 32,())))∨iR (s,())=some (.inr (.inr (.inl (s,())))):=by
 by_cases h:32<s.length
 · obtain ⟨W1,a1,b1,c1⟩:=lE (s:=s) (by omega)
   obtain ⟨W2,a2,b2,c2⟩:=lE (s:=s.drop 8) (by simp; omega)
   obtain ⟨W3,a3,b3,c3⟩:=lE (s:=s.drop 16) (by simp; omega)
   obtain ⟨W4,a4,b4,c4⟩:=lE (s:=s.drop 24) (by simp; omega)
   have run:iR (s,())=if ((((W1 ||| W2) ||| (W3 ||| W4)) &&& nL:Nat):Int)=0 then some (.inl (s.drop 32,())) else some (.inr (.inr (.inl (s,())))):=by
     unfold iR
     simp only[ae,b1,zb,dh (i:=8) 8 rfl (show 8≤s.length by omega),b2,dh (i:=16) 16 rfl (show 16≤s.length by omega),b3,dh (i:=24) 24 rfl (show 24≤s.length by omega),b4,dh (i:=32) 32 rfl (show 32≤s.length by omega)]
     rw[zp (by omega),or64 a1 a2,or64 a3 a4,or64 (orlt a1 a2) (orlt a3 a4),mI,an4 (orlt (orlt a1 a2) (orlt a3 a4)) qg]
   by_cases hz:((W1 ||| W2) ||| (W3 ||| W4)) &&& nL=0
   · left
     rw[zp (by rw[hz]; rfl)] at run
     refine ⟨h,?_,run⟩
     obtain ⟨y1,y2⟩:=p7 hz
     obtain ⟨z1,z2⟩:=p7 y1
     obtain ⟨z3,z4⟩:=p7 y2
     have t2:=iW (c1 z1) (c2 z2)
     have t3:=iW t2 (c3 z3)
     have t4:=iW t3 (c4 z4)
     exact ep 32 s (by omega) t4
   · right
     rw[zn (fun e=>hz (by exact_mod_cast e))] at run
     exact run
 · right
   unfold iR
   simp only[ae]
   rw[zn (by omega)]
theorem ay7:∀ (k:Nat) (s:List UInt8),s.length≤k→∃ s',s'.length≤s.length∧cR s=cR s'∧aH iR (s,())=some (.inr (.inl (s',()))):=by
 intro k
 induction k with
 | zero =>
   intro s hk
   rcases awb s with ⟨h,_⟩ | h
   · omega
   · exact ⟨s,Nat.le_refl _,rfl,aw h⟩
 | succ k ih =>
   intro s hk
   rcases awb s with ⟨h,hv,hr⟩ | h
   · obtain ⟨s',h1,h2,h3⟩:=ih (s.drop 32) (by simp; omega)
     refine ⟨s',?_,hv.trans h2,(aD hr).trans h3⟩
     simp only[List.length_drop] at h1; omega
   · exact ⟨s,Nat.le_refl _,rfl,aw h⟩
def fC (a:Nat):Int :=
 if a<128 then 240 else if a<194 then 241 else if a<224 then 2 else if a=224 then 19 else if a<237 then 3 else if a=237 then 35 else if a<240 then 3 else if a=240 then 52 else if a<244 then 4 else if a=244 then 68 else 241
theorem aeb:(List.range 256).all (fun a=>decide (gO[a]? = some (fC a)))=true:=by kernel_rfl
theorem agI {a:Nat} (h:a<256):atI gO (a:Int)=some (fC a):=by
 rw[bD]
 have:=aeb
 rw[List.all_eq_true] at this
 exact of_decide_eq_true (this a (List.mem_range.2 h))
theorem cls2 {x:Int} (hx:x=2∨x=3∨x=19∨x=35∨x=4∨x=52∨x=68∨x=241):∃ n lo hi k,IntKind.wrap .i64 (IntKind.wrap .u8 ((BitVec.ofInt (IntKind.bits .u8) x &&& BitVec.ofInt (IntKind.bits .u8) 7).toNat))=n∧shrT .u8 x 4=some k∧atI fq k=some (lo,hi,()) ∧
   ((x=2∧n=2∧lo=128∧hi=191)∨(x=3∧n=3∧lo=128∧hi=191)∨(x=19∧n=3∧lo=160∧hi=191)∨(x=35∧n=3∧lo=128∧hi=159)∨(x=4∧n=4∧lo=128∧hi=191)∨(x=52∧n=4∧lo=144∧hi=191)∨(x=68∧n=4∧lo=128∧hi=143)∨(x=241∧n=1)):=by
 rcases hx with rfl | rfl | rfl | rfl | rfl | rfl | rfl | rfl
 · exact ⟨2,128,191,0,by decide,by decide,by decide,.inl ⟨rfl,rfl,rfl,rfl⟩⟩
 · exact ⟨3,128,191,0,by decide,by decide,by decide,.inr (.inl ⟨rfl,rfl,rfl,rfl⟩)⟩
 · exact ⟨3,160,191,1,by decide,by decide,by decide,.inr (.inr (.inl ⟨rfl,rfl,rfl,rfl⟩))⟩
 · exact ⟨3,128,159,2,by decide,by decide,by decide,.inr (.inr (.inr (.inl ⟨rfl,rfl,rfl,rfl⟩)))⟩
 · exact ⟨4,128,191,0,by decide,by decide,by decide,.inr (.inr (.inr (.inr (.inl ⟨rfl,rfl,rfl,rfl⟩))))⟩
 · exact ⟨4,144,191,3,by decide,by decide,by decide,.inr (.inr (.inr (.inr (.inr (.inl ⟨rfl,rfl,rfl,rfl⟩)))))⟩
 · exact ⟨4,128,143,4,by decide,by decide,by decide,.inr (.inr (.inr (.inr (.inr (.inr (.inl ⟨rfl,rfl,rfl,rfl⟩))))))⟩
 · exact ⟨1,0,0,15,by decide,by decide,by decide,.inr (.inr (.inr (.inr (.inr (.inr (.inr ⟨rfl,rfl⟩))))))⟩
abbrev VR:=(List UInt8×Unit)⊕Bool
theorem at1 {a b:UInt8}{t:List UInt8}:atI (a::b::t) 1=some b:=by simp[atI]
theorem at2 {a b c:UInt8}{t:List UInt8}:atI (a::b::c::t) 2=some c:=by simp[atI]
theorem at3 {a b c d:UInt8}{t:List UInt8}:atI (a::b::c::d::t) 3=some d:=by simp[atI]
theorem sub2 {a b:UInt8}{t:List UInt8}:subI (a::b::t) 2 ((a::b::t).length:Int)=some t:=dh (i:=2) 2 rfl (by simp)
theorem sub3 {a b c:UInt8}{t:List UInt8}:subI (a::b::c::t) 3 ((a::b::c::t).length:Int)=some t:=dh (i:=3) 3 rfl (by simp)
theorem sub4 {a b c d:UInt8}{t:List UInt8}:subI (a::b::c::d::t) 4 ((a::b::c::d::t).length:Int)=some t:=dh (i:=4) 4 rfl (by simp)
def iZ (n lo hi:Int) (s:List UInt8):VR :=
 if n=2 then (match s with
   | _::b::t=>if lo≤(b.toNat:Int)∧(b.toNat:Int)≤hi then .inl (t,()) else .inr false
   | _=>.inr false)
 else if n=3 then (match s with
   | _::b::c::t=>if (lo≤(b.toNat:Int)∧(b.toNat:Int)≤hi)∧(128≤c.toNat∧c.toNat≤191) then .inl (t,()) else .inr false
   | _=>.inr false)
 else if n=4 then (match s with
   | _::b::c::d::t=>if (lo≤(b.toNat:Int)∧(b.toNat:Int)≤hi)∧(128≤c.toNat∧c.toNat≤191)∧(128≤d.toNat∧d.toNat≤191) then .inl (t,()) else .inr false
   | _=>.inr false)
 else .inr false
set_option maxHeartbeats 1000000 in
theorem zh {a:UInt8}{t:List UInt8}{x n lo hi k:Int} (ha:128≤a.toNat) (hx:fC a.toNat=x)
   (hn:IntKind.wrap .i64 (IntKind.wrap .u8 ((BitVec.ofInt (IntKind.bits .u8) x &&& BitVec.ofInt (IntKind.bits .u8) 7).toNat))=n) (hk:shrT .u8 x 4=some k) (hr:atI fq k=some (lo,hi,())) :
   iS (a::t,())=some (iZ n lo hi (a::t)):=by
 have hl:((a::t).length:Int)>0:=by simp only[zl]; omega
 have hi0:atI (a::t) 0=some a:=by simp[atI]
 have h128:¬ (a.toNat:Int)<128:=by omega
 have hf:=agI (a:=a.toNat) a.toNat_lt
 rw[hx] at hf
 unfold iS
 generalize gO=T at hf ⊢
 generalize fq=TA at hr ⊢
 simp only[ae,zp hl,hi0,zb,zn h128,aC,bd]
 rw[hf,zb,hk,zb,hr,zb,hn]
 clear hn hk hf hr hx
 unfold iZ
 by_cases h2:n=2
 · simp only[zp h2]
   match t with
   | []=>simp
   | b::t =>
     rw[zn (by simp only[zl]; omega)]
     simp only[at1,zb,sub2]
     by_cases c1:(b.toNat:Int)<lo
     · rw[zp c1,zn (by omega)]
     · rw[zn c1]
       by_cases c2:hi<(b.toNat:Int)
       · rw[zp c2,zn (by omega)]
       · rw[zn c2,zp (by omega)]
 simp only[zn h2]
 by_cases h3:n=3
 · simp only[zp h3]
   match t with
   | []=>simp
   | [b]=>simp
   | b::c::t =>
     rw[zn (by simp only[zl]; omega)]
     simp only[at1,at2,zb,sub3,ae]
     by_cases c1:(b.toNat:Int)<lo
     · rw[zp c1,zn (by omega)]
     · rw[zn c1]
       by_cases c2:hi<(b.toNat:Int)
       · rw[zp c2,zn (by omega)]
       · rw[zn c2]
         by_cases c3:(c.toNat:Int)<128
         · rw[zp c3,zn (by omega)]
         · rw[zn c3]
           by_cases c4:191<(c.toNat:Int)
           · rw[zp c4,zn (by omega)]
           · rw[zn c4,zp (by omega)]
 simp only[zn h3]
 by_cases h4:n=4
 · simp only[zp h4]
   match t with
   | []=>simp
   | [b]=>simp
   | [b,c]=>simp
   | b::c::d::t =>
     rw[zn (by simp only[zl]; omega)]
     simp only[at1,at2,at3,zb,sub4,ae]
     by_cases c1:(b.toNat:Int)<lo
     · simp only[zp c1,zb,cond_true]
       rw[zn (by omega)]
     · simp only[zn c1,zb,ae]
       by_cases c2:hi<(b.toNat:Int)
       · simp only[zp c2,zb,cond_true]
         rw[zn (by omega)]
       · simp only[zn c2,zb,ae]
         by_cases c3:(c.toNat:Int)<128
         · simp only[zp c3]
           rw[zn (by omega)]
         · simp only[zn c3]
           by_cases c4:191<(c.toNat:Int)
           · rw[zp c4,zn (by omega)]
           · rw[zn c4]
             by_cases c5:(d.toNat:Int)<128
             · rw[zp c5,zn (by omega)]
             · rw[zn c5]
               by_cases c6:191<(d.toNat:Int)
               · rw[zp c6,zn (by omega)]
               · rw[zn c6,zp (by omega)]
 simp only[zn h4]
theorem aah {a:Nat} (h:128≤a) (h2:a<256):(fC a=2∧194≤a∧a<224)∨(fC a=3∧225≤a∧a<240∧a≠237)∨(fC a=19∧a=224)∨(fC a=35∧a=237)∨(fC a=4∧241≤a∧a<244)∨(fC a=52∧a=240)∨(fC a=68∧a=244)∨(fC a=241∧(a<194∨245≤a)):=by
 unfold fC
 repeat' split
 all_goals omega
theorem three {a:UInt8}{t:List UInt8}{n lo hi:Int} (c1:¬ a.toNat<128) (k:n=3) (h:224≤a.toNat∧a.toNat<240)
   (hr:∀ b c:Int,128≤b∧b≤191→128≤c∧c≤191→((lo≤b∧b≤hi)↔¬ (64*(64*((a.toNat:Int)-224)+b-128)+c-128<2048∨(55296≤64*(64*((a.toNat:Int)-224)+b-128)+c-128∧64*(64*((a.toNat:Int)-224)+b-128)+c-128≤57343)))) (hlo:128≤lo:=by omega) (hhi:hi≤191:=by omega) :
   iZ n lo hi (a::t)=if (aP (a::t)).2=0 then .inr false else .inl ((a::t).drop (aP (a::t)).2,()):=by
 subst k
 have d2:¬ (194≤a.toNat∧a.toNat<224):=by omega
 match t with
 | []=>simp[iZ,aP,c1,d2,h]
 | [b]=>simp[iZ,aP,c1,d2,h]
 | b::c::t =>
   simp only[iZ,aP,zn c1,zn d2,zp h,if_true,show ¬ (3:Int)=2 by omega,if_false]
   by_cases hb:(128≤b.toNat∧b.toNat≤191)∧(128≤c.toNat∧c.toNat≤191)
   · have:=hr b.toNat c.toNat (by omega) (by omega)
     rw[zp hb]
     by_cases hq:lo≤(b.toNat:Int)∧(b.toNat:Int)≤hi
     · rw[zp ⟨hq,hb.2⟩,zn (this.1 hq)]; rfl
     · rw[zn (fun e=>hq e.1),zp (Classical.not_not.1 (fun e=>hq (this.2 e)))]; rfl
   · rw[zn hb,zn (by omega)]; rfl
theorem four {a:UInt8}{t:List UInt8}{n lo hi:Int} (c1:¬ a.toNat<128) (k:n=4) (h:240≤a.toNat∧a.toNat<245)
   (hr:∀ b c d:Int,128≤b∧b≤191→128≤c∧c≤191∧128≤d∧d≤191→((lo≤b∧b≤hi)↔¬ (64*(64*(64*((a.toNat:Int)-240)+b-128)+c-128)+d-128<65536∨1114111<64*(64*(64*((a.toNat:Int)-240)+b-128)+c-128)+d-128))) (hlo:128≤lo:=by omega) (hhi:hi≤191:=by omega) :
   iZ n lo hi (a::t)=if (aP (a::t)).2=0 then .inr false else .inl ((a::t).drop (aP (a::t)).2,()):=by
 subst k
 have d2:¬ (194≤a.toNat∧a.toNat<224):=by omega
 have d3:¬ (224≤a.toNat∧a.toNat<240):=by omega
 match t with
 | []=>simp[iZ,aP,c1,d2,d3,h]
 | [b]=>simp[iZ,aP,c1,d2,d3,h]
 | [b,c]=>simp[iZ,aP,c1,d2,d3,h]
 | b::c::d::t =>
   simp only[iZ,aP,zn c1,zn d2,zn d3,zp h,if_true,show ¬ (4:Int)=2 by omega,show ¬ (4:Int)=3 by omega,if_false]
   by_cases hb:(128≤b.toNat∧b.toNat≤191)∧(128≤c.toNat∧c.toNat≤191)∧(128≤d.toNat∧d.toNat≤191)
   · have:=hr b.toNat c.toNat d.toNat (by omega) (by omega)
     rw[zp hb]
     by_cases hq:lo≤(b.toNat:Int)∧(b.toNat:Int)≤hi
     · rw[zp ⟨hq,hb.2⟩,zn (this.1 hq)]; rfl
     · rw[zn (fun e=>hq e.1),zp (Classical.not_not.1 (fun e=>hq (this.2 e)))]; rfl
   · rw[zn hb,zn (by omega)]; rfl
theorem afM {a:UInt8}{t:List UInt8} (ha:128≤a.toNat):iS (a::t,())=some (if (aP (a::t)).2=0 then .inr false else .inl ((a::t).drop (aP (a::t)).2,())):=by
 have hlt:=a.toNat_lt
 have hc:=aah ha hlt
 obtain ⟨n,lo,hi,k,g1,g2,g2',g3⟩:=cls2 (x:=fC a.toNat) (by omega)
 rw[zh ha rfl g1 g2 g2']
 congr 1
 have c1:¬ a.toNat<128:=by omega
 rcases hc with ⟨e,k1,k2⟩ | ⟨e,k1,k2,k3⟩ | ⟨e,k1⟩ | ⟨e,k1⟩ | ⟨e,k1,k2⟩ | ⟨e,k1⟩ | ⟨e,k1⟩ | ⟨e,k1⟩
 · have:n=2∧lo=128∧hi=191:=by omega
   obtain ⟨rfl,rfl,rfl⟩:=this
   match t with
   | []=>simp[iZ,aP,c1,k1,k2]
   | b::t =>
     simp only[iZ,aP,zn c1,zp (And.intro k1 k2),if_true]
     by_cases hb:128≤b.toNat∧b.toNat≤191
     · rw[zp (by omega),zp hb]; rfl
     · rw[zn (by omega),zn hb]; rfl
 · exact three (lo:=lo) (hi:=hi) (n:=n) c1 (by omega) (by omega) (by intro b c h1 h2; omega)
 · exact three (lo:=lo) (hi:=hi) (n:=n) c1 (by omega) (by omega) (by intro b c h1 h2; omega)
 · exact three (lo:=lo) (hi:=hi) (n:=n) c1 (by omega) (by omega) (by intro b c h1 h2; omega)
 · exact four (lo:=lo) (hi:=hi) (n:=n) c1 (by omega) (by omega) (by intro b c d h1 h2; omega)
 · exact four (lo:=lo) (hi:=hi) (n:=n) c1 (by omega) (by omega) (by intro b c d h1 h2; omega)
 · exact four (lo:=lo) (hi:=hi) (n:=n) c1 (by omega) (by omega) (by intro b c d h1 h2; omega)
 · have hn:n=1:=by omega
   subst hn
   have d2:¬ (194≤a.toNat∧a.toNat<224):=by omega
   have d3:¬ (224≤a.toNat∧a.toNat<240):=by omega
   have d4:¬ (240≤a.toNat∧a.toNat<245):=by omega
   simp[iZ,aP,c1,d2,d3,d4]
def decN (l:List UInt8):Nat×Nat:=if (aP l).2=0 then (65533,1) else ((aP l).1.toNat,(aP l).2)
theorem get_at {s:List UInt8}{i:Nat}{b:UInt8} (h:s[i]? = some b):(⟨s.toArray⟩:ByteArray).get! i=b:=by
 have:(⟨s.toArray⟩:ByteArray).get! i=s.toArray[i]! := rfl
 rw[this]
 simp[h]
theorem anS {s:List UInt8}{i:Nat} (h:s.length≤i):decide (i<(⟨s.toArray⟩:ByteArray).size)=false:=by
 have:(⟨s.toArray⟩:ByteArray).size=s.length:=by simp[ByteArray.size]
 rw[this]; simp; omega
theorem agT {s:List UInt8}{i:Nat} (h:i<s.length):decide (i<(⟨s.toArray⟩:ByteArray).size)=true:=by
 have:(⟨s.toArray⟩:ByteArray).size=s.length:=by simp[ByteArray.size]
 rw[this]; simp; omega
theorem drop_at {s t:List UInt8}{i k:Nat}{b:UInt8} (h:s.drop i=t) (hb:t[k]? = some b):s[i+k]? = some b:=by
 rw[← h,List.getElem?_drop] at hb; exact hb
theorem agL {s t:List UInt8}{i:Nat} (h:s.drop i=t) (hi:i≤s.length):s.length=i+t.length:=by
 rw[← h,List.length_drop]; omega
def decV (b0:Nat) (b1 b2 b3:Option Nat):Nat×Nat :=
 let cont (b:Option Nat):Bool:=match b with
   | some b=>b/64==2
   | none=>false
 if b0<0x80 then (b0,1)
 else if b0/32==6&&cont b1 then
   let c:=(b0%32)*64+b1.getD 0%64
   if c≥0x80 then (c,2) else (65533,1)
 else if b0/16==14&&cont b1&&cont b2 then
   let c:=(b0%16)*4096+(b1.getD 0%64)*64+b2.getD 0%64
   if c≥0x800&&Utf8.valid c then (c,3) else (65533,1)
 else if b0/8==30&&cont b1&&cont b2&&cont b3 then
   let c:=(b0%8)*262144+(b1.getD 0%64)*4096+(b2.getD 0%64)*64+b3.getD 0%64
   if c≥0x10000&&Utf8.valid c then (c,4) else (65533,1)
 else (65533,1)
theorem agP {s t:List UInt8}{i:Nat}{a:UInt8} (h:s.drop i=a::t) (hi:i≤s.length):Utf8.decode ⟨s.toArray⟩ i=decV a.toNat (t[0]?.map (·.toNat)) (t[1]?.map (·.toNat)) (t[2]?.map (·.toNat)):=by
 have hlen:=agL h hi
 have g0:(⟨s.toArray⟩:ByteArray).get! (i+0)=a:=get_at (drop_at h rfl)
 have gk:∀ k b,t[k]? = some b→(⟨s.toArray⟩:ByteArray).get! (i+(k+1))=b:=fun k b hb=>get_at (drop_at h (by simpa using hb))
 have cy:∀ k b,t[k]? = some b→decide (i+(k+1)<(⟨s.toArray⟩:ByteArray).size)=true:=fun k b hb=>agT (by
   rcases Nat.lt_or_ge k t.length with h' | h'
   · simp only[zl] at hlen; omega
   · rw[List.getElem?_eq_none h'] at hb; cases hb)
 have cn:∀ k,t[k]? = none→decide (i+(k+1)<(⟨s.toArray⟩:ByteArray).size)=false:=fun k hb=>anS (by
   rw[List.getElem?_eq_none_iff] at hb
   simp only[zl] at hlen; omega)
 unfold Utf8.decode decV
 simp only[g0]
 have e:Utf8.runeError=65533:=rfl
 cases h1:t[0]? with
 | none =>
   have c1:=cn 0 h1
   have h2:t[1]? = none:=by rw[List.getElem?_eq_none_iff] at h1 ⊢; omega
   have h3:t[2]? = none:=by rw[List.getElem?_eq_none_iff] at h1 ⊢; omega
   simp only[Nat.zero_add] at c1
   simp[c1,h2,h3,e]
 | some b =>
   have c1:=cy 0 b h1
   have d1:=gk 0 b h1
   simp only[Nat.zero_add] at c1 d1
   cases h2:t[1]? with
   | none =>
     have c2:=cn 1 h2
     have h3:t[2]? = none:=by rw[List.getElem?_eq_none_iff] at h2 ⊢; omega
     simp only[Nat.reduceAdd] at c2
     simp[c1,c2,d1,h3,e]
   | some c =>
     have c2:=cy 1 c h2
     have d2:=gk 1 c h2
     simp only[Nat.reduceAdd] at c2 d2
     cases h3:t[2]? with
     | none =>
       have c3:=cn 2 h3
       simp only[Nat.reduceAdd] at c3
       simp[c1,c2,c3,d1,d2,e]
     | some d =>
       have c3:=cy 2 d h3
       have d3:=gk 2 d h3
       simp only[Nat.reduceAdd] at c3 d3
       simp[c1,c2,c3,d1,d2,d3,e]
theorem anK {b:Nat}:(b/64==2)=decide (128≤b∧b≤191):=by
 rw[Bool.eq_iff_iff]; simp; omega
theorem awJ (a:UInt8) (t:List UInt8):decV a.toNat (t[0]?.map (·.toNat)) (t[1]?.map (·.toNat)) (t[2]?.map (·.toNat))=decN (a::t):=by
 have ha:=a.toNat_lt
 unfold decV decN
 by_cases c1:a.toNat<128
 · simp[aP,c1]
 have c1':¬ a.toNat<0x80:=c1
 simp only[zn c1']
 by_cases c2:a.toNat/32=6
 · have e2:(a.toNat/32==6)=true:=by simp[c2]
   match t with
   | [] =>
     have e3:¬ a.toNat/16=14:=by omega
     have e4:¬ a.toNat/8=30:=by omega
     have d3:¬ (224≤a.toNat∧a.toNat<240):=by omega
     have d4:¬ (240≤a.toNat∧a.toNat<245):=by omega
     simp[aP,c1,e3,e4,d3,d4]
   | b::t =>
     have hb:=b.toNat_lt
     have e3:¬ a.toNat/16=14:=by omega
     have e4:¬ a.toNat/8=30:=by omega
     have d3:¬ (224≤a.toNat∧a.toNat<240):=by omega
     have d4:¬ (240≤a.toNat∧a.toNat<245):=by omega
     simp only[List.getElem?_cons_zero,Option.map_some,e2,anK,Bool.true_and,Option.getD_some]
     by_cases hb':128≤b.toNat∧b.toNat≤191
     · rw[zp (by simpa using hb')]
       by_cases c3:194≤a.toNat
       · rw[zp (by omega)]
         have q:194≤a.toNat∧a.toNat<224:=by omega
         simp only[aP,zn c1,zp q,zp hb']
         rw[zn (by omega)]
         congr 1
         omega
       · rw[zn (by omega)]
         have q:¬ (194≤a.toNat∧a.toNat<224):=by omega
         simp[aP,c1,q,d3,d4]
     · rw[zn (by simpa using hb')]
       have x3:(a.toNat/16==14)=false:=by simp[e3]
       have x4:(a.toNat/8==30)=false:=by simp[e4]
       simp only[x3,x4,Bool.false_and,Bool.false_eq_true,if_false]
       by_cases c3:194≤a.toNat∧a.toNat<224
       · simp[aP,c1,c3,hb']
       · simp[aP,c1,c3,d3,d4]
 have e2:(a.toNat/32==6)=false:=by simp[c2]
 simp only[e2,Bool.false_and,Bool.false_eq_true,if_false]
 have d2:¬ (194≤a.toNat∧a.toNat<224):=by omega
 by_cases c3:a.toNat/16=14
 · have e3:(a.toNat/16==14)=true:=by simp[c3]
   have d3:(224≤a.toNat∧a.toNat<240):=by omega
   have x4:(a.toNat/8==30)=false:=by simp; omega
   simp only[e3,x4,Bool.true_and,Bool.false_and,Bool.false_eq_true,if_false]
   match t with
   | []=>simp[aP,c1,d2,d3]
   | [b]=>simp[aP,c1,d2,d3]
   | b::c::t =>
     have hb:=b.toNat_lt
     have hc:=c.toNat_lt
     simp only[List.getElem?_cons_zero,List.getElem?_cons_succ,Option.map_some,anK,Option.getD_some]
     by_cases hb':(128≤b.toNat∧b.toNat≤191)∧(128≤c.toNat∧c.toNat≤191)
     · rw[zp (by simp only[Bool.and_eq_true,decide_eq_true_eq]; exact hb')]
       simp only[aP,zn c1,zn d2,zp d3,zp hb']
       by_cases hr:64*(64*((a.toNat:Int)-224)+b.toNat-128)+c.toNat-128<2048∨(55296≤64*(64*((a.toNat:Int)-224)+b.toNat-128)+c.toNat-128∧64*(64*((a.toNat:Int)-224)+b.toNat-128)+c.toNat-128≤57343)
       · rw [zp hr, zn (by
           simp only[Utf8.valid,Bool.and_eq_true,Bool.or_eq_true,decide_eq_true_eq]; omega)]
         rfl
       · rw [zn hr, zp (by
           simp only[Utf8.valid,Bool.and_eq_true,Bool.or_eq_true,decide_eq_true_eq]; omega),zn (by simp)]
         congr 1
         omega
     · rw[zn (by simp only[Bool.and_eq_true,decide_eq_true_eq]; exact hb')]
       simp only[aP,zn c1,zn d2,zp d3,zn hb']
       rfl
 have e3:(a.toNat/16==14)=false:=by simp[c3]
 have d3:¬ (224≤a.toNat∧a.toNat<240):=by omega
 simp only[e3,Bool.false_and,Bool.false_eq_true,if_false]
 by_cases c4:a.toNat/8=30
 · have e4:(a.toNat/8==30)=true:=by simp[c4]
   simp only[e4,Bool.true_and]
   match t with
   | []=>simp[aP,c1,d2,d3]
   | [b]=>simp[aP,c1,d2,d3]
   | [b,c]=>simp[aP,c1,d2,d3]
   | b::c::d::t =>
     have hb:=b.toNat_lt
     have hc:=c.toNat_lt
     have hd:=d.toNat_lt
     simp only[List.getElem?_cons_zero,List.getElem?_cons_succ,Option.map_some,anK,Option.getD_some]
     by_cases hb':(128≤b.toNat∧b.toNat≤191)∧(128≤c.toNat∧c.toNat≤191)∧(128≤d.toNat∧d.toNat≤191)
     · rw[zp (by simp only[Bool.and_eq_true,decide_eq_true_eq]; exact ⟨⟨hb'.1,hb'.2.1⟩,hb'.2.2⟩)]
       by_cases d4:(240≤a.toNat∧a.toNat<245)
       · simp only[aP,zn c1,zn d2,zn d3,zp d4,zp hb']
         by_cases hr:64*(64*(64*((a.toNat:Int)-240)+b.toNat-128)+c.toNat-128)+d.toNat-128<65536∨1114111<64*(64*(64*((a.toNat:Int)-240)+b.toNat-128)+c.toNat-128)+d.toNat-128
         · rw [zp hr, zn (by
             simp only[Utf8.valid,Bool.and_eq_true,Bool.or_eq_true,decide_eq_true_eq]; omega)]
           rfl
         · rw [zn hr, zp (by
             simp only[Utf8.valid,Bool.and_eq_true,Bool.or_eq_true,decide_eq_true_eq]; omega),zn (by simp)]
           congr 1
           omega
       · rw [zn (by
           simp only[Utf8.valid,Bool.and_eq_true,Bool.or_eq_true,decide_eq_true_eq]; omega)]
         simp only[aP,zn c1,zn d2,zn d3,zn d4]
         rfl
     · rw[zn (by simp only[Bool.and_eq_true,decide_eq_true_eq]; exact fun e=>hb' ⟨e.1.1,e.1.2,e.2⟩)]
       by_cases d4:(240≤a.toNat∧a.toNat<245)
       · simp only[aP,zn c1,zn d2,zn d3,zp d4,zn hb']
         rfl
       · simp only[aP,zn c1,zn d2,zn d3,zn d4]
         rfl
 · have e4:(a.toNat/8==30)=false:=by simp[c4]
   have d4:¬ (240≤a.toNat∧a.toNat<245):=by omega
   simp[e4,aP,c1,d2,d3,d4]
theorem decode_N {s:List UInt8}{i:Nat} (hi:i<s.length):Utf8.decode ⟨s.toArray⟩ i=decN (s.drop i):=by
 cases h:s.drop i with
 | nil=>have:=congrArg List.length h; simp at this; omega
 | cons a t=>rw[agP h (by omega),awJ]
noncomputable def aeR (s2:List UInt8):Option ((List UInt8×Int×Unit)⊕((List UInt8×Unit)⊕Bool)) :=
 cond (decide ((s2.length:Int)>8)) ((zaz s2).bind fun r3 =>
 cond (decide ((IntKind.wrap .u64 ((BitVec.ofInt (IntKind.bits .u64) r3 &&& BitVec.ofInt (IntKind.bits .u64) 9259542123273814144).toNat))=0)) (
(subI s2 8 (s2.length:Int)).bind fun s4 =>
 cond (decide ((s4.length:Int)>16)) ((zaz s4).bind fun r5 =>
(subI s4 8 (s4.length:Int)).bind fun s6 =>
(zaz s6).bind fun r7 =>
 cond (decide ((IntKind.wrap .u64 ((BitVec.ofInt (IntKind.bits .u64) (IntKind.wrap .u64 ((BitVec.ofInt (IntKind.bits .u64) r5 ||| BitVec.ofInt (IntKind.bits .u64) r7).toNat)) &&& BitVec.ofInt (IntKind.bits .u64) 9259542123273814144).toNat))=0)) (
(subI s4 16 (s4.length:Int)).bind fun s8 =>
 aH (iR) (s8,())) (
 some (.inr (.inl (s4,()))))) (some (.inr (.inl (s4,()))))) (
 some (.inr (.inl (s2,()))))) (some (.inr (.inl (s2,()))))
theorem an7 (s4:List UInt8):∃ s',s'.length≤s4.length∧cR s4=cR s' ∧
   (cond (decide ((s4.length:Int)>16)) ((zaz s4).bind fun r5 =>
(subI s4 8 (s4.length:Int)).bind fun s6 =>
(zaz s6).bind fun r7 =>
 cond (decide ((IntKind.wrap .u64 ((BitVec.ofInt (IntKind.bits .u64) (IntKind.wrap .u64 ((BitVec.ofInt (IntKind.bits .u64) r5 ||| BitVec.ofInt (IntKind.bits .u64) r7).toNat)) &&& BitVec.ofInt (IntKind.bits .u64) 9259542123273814144).toNat))=0)) (
(subI s4 16 (s4.length:Int)).bind fun s8 =>
 aH (iR) (s8,())) (
 some (.inr (.inl (s4,()))))) (some (.inr (.inl (s4,())))):Option ((List UInt8×Int×Unit)⊕((List UInt8×Unit)⊕Bool)))=some (.inr (.inl (s',()))):=by
 by_cases h:16<s4.length
 · obtain ⟨W1,a1,b1,c1⟩:=lE (s:=s4) (by omega)
   obtain ⟨W2,a2,b2,c2⟩:=lE (s:=s4.drop 8) (by simp; omega)
   rw[ae,zp (by omega),b1,zb,dh (i:=8) 8 rfl (show 8≤s4.length by omega),zb,b2,zb,ae,or64 a1 a2,mI,an4 (orlt a1 a2) qg]
   by_cases hz:(W1 ||| W2) &&& nL=0
   · rw[zp (by rw[hz]; rfl),dh (i:=16) 16 rfl (show 16≤s4.length by omega),zb]
     obtain ⟨s',h1,h2,h3⟩:=ay7 (s4.drop 16).length (s4.drop 16) (Nat.le_refl _)
     obtain ⟨y1,y2⟩:=p7 hz
     have t2:=iW (c1 y1) (c2 y2)
     refine ⟨s',by simp only[List.length_drop] at h1; omega,(ep 16 s4 (by omega) t2).trans h2,h3⟩
   · rw[zn (fun e=>hz (by exact_mod_cast e))]
     exact ⟨s4,Nat.le_refl _,rfl,rfl⟩
 · rw[ae,zn (by omega)]
   exact ⟨s4,Nat.le_refl _,rfl,rfl⟩
theorem an6 (s2:List UInt8):∃ s',s'.length≤s2.length∧cR s2=cR s'∧aeR s2=some (.inr (.inl (s',()))):=by
 unfold aeR
 by_cases h:8<s2.length
 · obtain ⟨W1,a1,b1,c1⟩:=lE (s:=s2) (by omega)
   rw[ae,zp (by omega),b1,zb,ae,mI,an4 a1 qg]
   by_cases hz:W1 &&& nL=0
   · rw[zp (by rw[hz]; rfl),dh (i:=8) 8 rfl (show 8≤s2.length by omega),zb]
     obtain ⟨s',h1,h2,h3⟩:=an7 (s2.drop 8)
     refine ⟨s',by simp only[List.length_drop] at h1; omega,(ep 8 s2 (by omega) (c1 hz)).trans h2,h3⟩
   · rw[zn (fun e=>hz (by exact_mod_cast e))]
     exact ⟨s2,Nat.le_refl _,rfl,rfl⟩
 · rw[ae,zn (by omega)]
   exact ⟨s2,Nat.le_refl _,rfl,rfl⟩
theorem zi {a:UInt8}{t:List UInt8} (ha:a.toNat<128):∃ F,iS (a::t,())=(aeR t).bind (aU F):=by
 have hl:((a::t).length:Int)>0:=by simp only[zl]; omega
 have hi0:atI (a::t) 0=some a:=by simp[atI]
 have h128:(a.toNat:Int)<128:=by omega
 have hs:subI (a::t) 1 ((a::t).length:Int)=some t:=dh (i:=1) 1 rfl (by simp)
 refine ⟨?F,?h⟩
 case h =>
   unfold iS
   rw[ae,zp hl,hi0,zb,ae,zp h128,hs,zb]
   exact rfl
theorem amU:∀ (k:Nat) (s:List UInt8),s.length≤k→aH iS (s,())=some (cR s):=by
 intro k
 induction k with
 | zero =>
   intro s hk
   have:s=[]:=List.eq_nil_of_length_eq_zero (by omega)
   subst this
   rw[rF]
   refine aw ?_
   unfold iS
   rw[ae,zn (by simp)]
 | succ k ih =>
   intro s hk
   cases s with
   | nil =>
     rw[rF]
     refine aw ?_
     unfold iS
     rw[ae,zn (by simp)]
   | cons a t =>
     simp only[zl] at hk
     by_cases ha:a.toNat<128
     · obtain ⟨F,hF⟩:=zi (t:=t) ha
       obtain ⟨s',h1,h2,h3⟩:=an6 t
       rw[h3] at hF
       have hv:cR (a::t)=cR t:=by
         have:=ep 1 (a::t) (by simp) (by simp; exact ha)
         simpa using this
       rw[aD (b:=(s',())) hF,ih s' (by omega),hv,h2]
     · have h:=afM (a:=a) (t:=t) (by omega)
       rw[oj (by simp)]
       by_cases h0:(aP (a::t)).2=0
       · rw[zp h0] at h ⊢
         exact aw h
       · rw[zn h0] at h ⊢
         rw[aD h]
         exact ih _ (by simp only[List.length_drop,zl]; omega)
theorem iU (s:List UInt8):zax s=some (cR s):=amU s.length s (Nat.le_refl _)
theorem aap {s:List UInt8}:∀ (k i n:Nat) (l:List Int),s.length-i≤k→i≤s.length→n≤i→s.length<4294967296→bl (s.drop i)=some l→aH (rz s) ((n:Int),i,())=some (((n+l.length:Nat)):Int):=by
 intro k
 induction k with
 | zero =>
   intro i n l hk hi hn hs hl
   rw[List.drop_eq_nil_of_le (by omega),b9] at hl
   cases hl
   refine aw ?_
   unfold rz
   rw[ae,zn (by simp only[]; omega)]
   simp
 | succ k ih =>
   intro i n l hk hi hn hs hl
   by_cases hlt:i<s.length
   · have hne:s.drop i≠[]:=fun e=>by have:=congrArg List.length e; simp at this; omega
     have hle:=lf (s.drop i)
     simp only[List.length_drop] at hle
     by_cases h0:(aP (s.drop i)).2=0
     · rw[cY hne h0] at hl; cases hl
     · rw[cF hne h0,List.drop_drop,Option.map_eq_some_iff] at hl
       obtain ⟨l',hl',rfl⟩:=hl
       rw[aD (b:=(((n+1:Nat):Int),i+(aP (s.drop i)).2,()))]
       · rw[ih _ (n+1) l' (by omega) (by omega) (by omega) hs hl']
         simp only[zl]; congr 2; omega
       · unfold rz
         rw[ae,zp (by simp only[]; exact hlt),decode_N hlt]
         simp only[decN,zn h0]
         rw[wrap64 (by omega) (by omega)]; rfl
   · rw[List.drop_eq_nil_of_le (by omega),b9] at hl
     cases hl
     refine aw ?_
     unfold rz
     rw[ae,zn (by simp only[]; omega)]
     simp
theorem anP {s:List UInt8}{l:List Int} (hs:s.length<4294967296) (hl:bl s=some l):zaq s=some (l.length:Int):=by
 have:=aap (s:=s) s.length 0 0 l (by omega) (by omega) (by omega) hs (by simpa using hl)
 simpa [zaq] using this
theorem uG {s:List UInt8}:∀ (k i:Nat) (l:List Int),s.length-i≤k→i≤s.length→bl (s.drop i)=some l→df s k i=l:=by
 intro k
 induction k with
 | zero =>
   intro i l hk hi hl
   rw[List.drop_eq_nil_of_le (by omega),b9] at hl
   cases hl; rfl
 | succ k ih =>
   intro i l hk hi hl
   by_cases hlt:i<s.length
   · have hne:s.drop i≠[]:=fun e=>by have:=congrArg List.length e; simp at this; omega
     have hle:=lf (s.drop i)
     have hin:=tw (s.drop i)
     simp only[List.length_drop] at hle
     by_cases h0:(aP (s.drop i)).2=0
     · rw[cY hne h0] at hl; cases hl
     · rw[cF hne h0,List.drop_drop,Option.map_eq_some_iff] at hl
       obtain ⟨l',hl',rfl⟩:=hl
       unfold df
       rw[zp hlt,decode_N hlt]
       simp only[decN,zn h0]
       rw[ih _ l' (by omega) (by omega) hl']
       congr 1; omega
   · rw[List.drop_eq_nil_of_le (by omega),b9] at hl
     cases hl
     unfold df
     rw[zn hlt]
theorem afW {s:List UInt8}{l:List Int} (hl:bl s=some l):rU s=l:=uG s.length 0 l (by omega) (by omega) (by simpa using hl)
def fv (c:Int):Bool:=decide (c=42)||decide (c=63)||decide (c=92)
theorem fu (c:Int):zbv c=some (fv c):=by
 unfold zbv fv
 by_cases h1:c=42<;>by_cases h2:c=63<;>by_cases h3:c=92<;>simp[h1,h2,h3]
def bt:List Int→Option (List Int)
 | []=>some []
 | c::t =>
   if c=42 then (bt t).map fun o => -2::o
   else if c=63 then (bt t).map fun o => -1::o
   else if c=92 then (match t with
     | []=>none
     | d::t'=>if fv d then (bt t').map fun o=>d::o else none)
   else (bt t).map fun o=>c::o
def partOf (c:Int):Int×Int×Unit:=if c = -2 then (2,0,()) else if c = -1 then (1,0,()) else (0,c,())
def pat (p:List UInt8):Option (List Int):=(bl p).bind fun l=>if l.length>64 then none else bt l
theorem eA {c:Int}{t:List Int}:bt (c::t)=if c=42 then (bt t).map fun o => -2::o
   else if c=63 then (bt t).map fun o => -1::o
   else if c=92 then (match t with
     | []=>none
     | d::t'=>if fv d then (bt t').map fun o=>d::o else none)
   else (bt t).map fun o=>c::o:=by rw[bt.eq_def]
theorem jV {d:Int}{t:List Int}:bt (92::d::t)=if fv d then (bt t).map fun o=>d::o else none:=by
 rw[eA,zn (by omega),zn (by omega),zp rfl]
theorem gu {c:Int}{t:List Int} (h:fv c=false):bt (c::t)=(bt t).map fun o=>c::o:=by
 simp only[fv,Bool.or_eq_false_iff,decide_eq_false_iff_not] at h
 rw[eA,zn h.1.1,zn h.1.2,zn h.2]
theorem my {t:List Int}:bt (42::t)=(bt t).map fun o => -2::o:=by rw[eA,zp rfl]
theorem oI {t:List Int}:bt (63::t)=(bt t).map fun o => -1::o:=by rw[eA,zn (by omega),zp rfl]
theorem uD {c:Int} (h:fv c=true):c=42∨c=63∨c=92:=by
 simp only[fv,Bool.or_eq_true,decide_eq_true_eq] at h; omega
def ip (esc:Bool) (l:List Int):Option (List Int):=if esc then bt (92::l) else bt l
def ex (out:List (Int×Int×Unit)):Option (List Int)→List (Int×Int×Unit)×Bool×Unit
 | some o=>(out++o.map partOf,true,())
 | none=>([],false,())
theorem gX {out:List (Int×Int×Unit)}{c:Int}{x:Option (List Int)}:ex out (x.map fun o=>c::o)=ex (out++[partOf c]) x:=by
 cases x<;>simp[ex]
theorem zU {s:List UInt8} (hs:s.length<4294967296):∀ (k i:Nat) (esc:Bool) (out:List (Int×Int×Unit)) (l:List Int),s.length-i≤k→i≤s.length→out.length≤i→bl (s.drop i)=some l →
   (aH (fX s) (esc,i,out,())).bind (aU fun v10 =>
     cond v10.1 (some ([],false,())) (some (v10.2.1,true,())))=some (ex out (ip esc l)):=by
 intro k
 have fin : ∀ (i : Nat) (esc : Bool) (out : List (Int × Int × Unit)) (l : List Int), ¬ i < s.length → bl (s.drop i) = some l → (aH (fX s) (esc, i, out, ())).bind (aU fun v10 =>
     cond v10.1 (some ([],false,())) (some (v10.2.1,true,())))=some (ex out (ip esc l)):=by
   intro i esc out l hi hl
   rw[List.drop_eq_nil_of_le (by omega),b9] at hl
   cases hl
   rw[aw (x:=.inl (esc,out,())) (by unfold fX; rw[ae,zn hi])]
   cases esc<;>simp[ip,bt,ex]
 induction k with
 | zero=>intro i esc out l hk hi ho hl; exact fin i esc out l (by omega) hl
 | succ k ih =>
   intro i esc out l hk hi ho hl
   by_cases hlt:i<s.length
   · have hne:s.drop i≠[]:=fun e=>by have:=congrArg List.length e; simp at this; omega
     have hle:=lf (s.drop i)
     have hin:=tw (s.drop i)
     simp only[List.length_drop] at hle
     by_cases h0:(aP (s.drop i)).2=0
     · rw[cY hne h0] at hl; cases hl
     · rw[cF hne h0,List.drop_drop,Option.map_eq_some_iff] at hl
       obtain ⟨l',hl',rfl⟩:=hl
       have hd:=decode_N hlt
       simp only[decN,zn h0] at hd
       have hc:(((aP (s.drop i)).1.toNat:Nat):Int)=(aP (s.drop i)).1:=by omega
       generalize hcc:(aP (s.drop i)).1=c at hl' hd hc hin ⊢
       generalize hnn:(aP (s.drop i)).2=n at hl' hd hle h0 ⊢
       have hroom:ch (out.length+1)=some ():=aY (by omega)
       have next:∀ (e':Bool) (out':List (Int×Int×Unit)),out'.length≤out.length+1→fX s (esc,i,out,())=some (.inl (e',i+n,out',()))→(aH (fX s) (esc,i,out,())).bind (aU fun v10 =>
     cond v10.1 (some ([], false, ())) (some (v10.2.1, true, ()))) = some (ex out' (ip e' l')) := by
         intro e' out' ho' h
         rw[aD h]
         exact ih _ _ _ _ (by omega) (by omega) (by omega) hl'
       cases esc with
       | true =>
         by_cases hsp:fv c=true
         · rw[next false (out++[partOf c]) (by simp) ?_]
           · simp only[ip,jV,hsp,if_true,gX]; simp
           · unfold fX
             rw[ae,zp hlt,hd]
             simp only[hc,fu,zb,hsp,cond_true,bd,Bool.not_true,cond_false,zl,List.length_nil,hroom]
             have:partOf c=(0,c,()):=by
               have:=uD hsp
               unfold partOf; rw[zn (by omega),zn (by omega)]
             rw[this]
         · have hsp':fv c=false:=by simpa using hsp
           rw[aw (x:=.inr ([],false,()))]
           · simp[ip,jV,hsp',ex]
           · unfold fX
             rw[ae,zp hlt,hd]
             simp only[hc,fu,zb,hsp',cond_true,bd,Bool.not_false]
       | false =>
         by_cases hsp:fv c=true
         · have hs3:=uD hsp
           by_cases h92:c=92
           · rw[next true out (by omega) ?_]
             · simp only[ip,h92]; simp
             · unfold fX
               rw[ae,zp hlt,hd]
               simp only[hc,fu,zb,hsp,cond_false,bd,Bool.not_true,ae,zp h92]
           · by_cases h63:c=63
             · rw[next false (out++[partOf (-1)]) (by simp) ?_]
               · simp only[ip,h63,oI]; rw[zn (by simp),zn (by simp),gX]
               · unfold fX
                 rw[ae,zp hlt,hd]
                 simp only[hc,fu,zb,hsp,cond_false,bd,Bool.not_true,ae,zn h92,zp h63,zl,List.length_nil,hroom]
                 rfl
             · have h42:c=42:=by omega
               rw[next false (out++[partOf (-2)]) (by simp) ?_]
               · simp only[ip,h42,my]; rw[zn (by simp),zn (by simp),gX]
               · unfold fX
                 rw[ae,zp hlt,hd]
                 simp only[hc,fu,zb,hsp,cond_false,bd,Bool.not_true,ae,zn h92,zn h63,zl,List.length_nil,hroom]
                 rfl
         · have hsp':fv c=false:=by simpa using hsp
           rw[next false (out++[partOf c]) (by simp) ?_]
           · simp only[ip,gu hsp']; rw[zn (by simp),zn (by simp),gX]
           · unfold fX
             rw[ae,zp hlt,hd]
             simp only[hc,fu,zb,hsp',cond_false,bd,Bool.not_false,cond_true,zl,List.length_nil,hroom]
             have:partOf c=(0,c,()):=by
               unfold partOf; rw[zn (by omega),zn (by omega)]
             rw[this]
   · exact fin i esc out l hlt hl
theorem mS {p:List UInt8} (hp:p.length<4294967296):zcv p=some (ex [] (pat p)):=by
 unfold zcv
 rw[iU,zb]
 unfold cR pat
 cases hl:bl p with
 | none=>simp[ex]
 | some l =>
   simp only[Option.isSome_some,Bool.not_true,cond_false,zb,anP hp hl,ae]
   by_cases h:l.length>64
   · rw[zp (by omega),zp h]; simp[ex]
   · rw[zn (by omega),zn h]
     exact zU hp p.length 0 false [] l (by omega) (by omega) (by simp) (by simpa using hl)
theorem pS {r:List Int×Bool×Unit} (hr:r.1.length<4294967296):∀ (k i:Nat) (out:List Int),r.1.length-i≤k→i≤r.1.length→out.length≤i →
   aH (fZ r) ((i:Int),out,())=some (match bt (r.1.drop i) with | some o=>(out++o,true,()) | none=>([],false,())):=by
 intro k
 have fin:∀ (i:Nat) (out:List Int),¬ i<r.1.length→aH (fZ r) ((i:Int),out,())=some (match bt (r.1.drop i) with | some o=>(out++o,true,()) | none=>([],false,())):=by
   intro i out hi
   rw[List.drop_eq_nil_of_le (by omega),aw (x:=(out,true,())) (by unfold fZ; rw[ae,zn (by omega)])]
   simp[bt]
 induction k using Nat.strongRecOn with
 | _ k ih =>
   intro i out hk hi ho
   by_cases hlt:i<r.1.length
   · obtain ⟨c,hc⟩:∃ c,r.1[i]? = some c:=⟨_,zg hlt⟩
     have hdr:r.1.drop i=c::r.1.drop (i+1):=by
       rw[List.drop_eq_getElem_cons hlt]; rw[zg hlt] at hc; cases hc; rfl
     have w1:IntKind.wrap .i64 ((i:Int)+1)=((i+1:Nat):Int):=by rw[wrap64 (by omega) (by omega)]; rfl
     have hroom:ch (out.length+1)=some ():=aY (by omega)
     have next : ∀ (x : Int), fZ r ((i : Int), out, ()) = some (.inl (((i + 1 : Nat) : Int), out ++ [x], ())) →
         aH (fZ r) ((i:Int),out,())=some (match (bt (r.1.drop (i+1))).map (fun o=>x::o) with | some o=>(out++o,true,()) | none=>([],false,())):=by
       intro x h
       rw[aD h,ih (k-1) (by omega) (i+1) _ (by omega) (by omega) (by simp; omega)]
       cases bt (r.1.drop (i+1))<;>simp
     rw[hdr]
     by_cases h42:c=42
     · rw[h42,my]
       refine next (-2) ?_
       unfold fZ
       simp only[ae,bD,hc,zb,zp (show (i:Int)<(r.1.length:Int) by omega),zp h42,zl,List.length_nil,hroom,w1]
     by_cases h63:c=63
     · rw[h63,oI]
       refine next (-1) ?_
       unfold fZ
       simp only[ae,bD,hc,zb,zp (show (i:Int)<(r.1.length:Int) by omega),zn h42,zp h63,zl,List.length_nil,hroom,w1]
     by_cases h92:c=92
     · subst h92
       by_cases hl:i+1=r.1.length
       · rw[List.drop_eq_nil_of_le (by omega)]
         rw[aw (x:=([],false,()))]
         · simp[bt]
         · unfold fZ
           simp only[ae,bD,hc,zb,zp (show (i:Int)<(r.1.length:Int) by omega),w1,zp (show ((i+1:Nat):Int)=(r.1.length:Int) by omega),di,zn h42,zn h63,if_true]
       · obtain ⟨d,hd⟩:∃ d,r.1[i+1]? = some d:=⟨_,zg (by omega)⟩
         have hdr2:r.1.drop (i+1)=d::r.1.drop (i+2):=by
           rw[List.drop_eq_getElem_cons (by omega)]; rw[zg (by omega)] at hd; cases hd; rfl
         have w2:IntKind.wrap .i64 (((i+1:Nat):Int)+1)=((i+2:Nat):Int):=by rw[wrap64 (by omega) (by omega)]; omega
         rw[hdr2,jV]
         by_cases hsp:fv d=true
         · rw[zp hsp,aD (b:=(((i+2:Nat):Int),out++[d],()))]
           · rw[ih (k-2) (by omega) (i+2) _ (by omega) (by omega) (by simp; omega)]
             cases bt (r.1.drop (i+2))<;>simp
           · have hs3:=uD hsp
             unfold fZ
             simp only[ae,bW,bD,hc,hd,zb,zp (show (i:Int)<(r.1.length:Int) by omega),w1,zn (show ¬ ((i+1:Nat):Int)=(r.1.length:Int) by omega),zn h42,zn h63,if_true,zl,List.length_nil]
             rcases hs3 with h | h | h<;>subst h<;>simp only[if_true,bd,zb,hroom,w2,ite_self]<;>simp[hroom,w2]
         · have hsp':fv d=false:=by simpa using hsp
           rw[zn hsp,aw (x:=([],false,()))]
           simp only[fv,Bool.or_eq_false_iff,decide_eq_false_iff_not] at hsp'
           unfold fZ
           simp only[ae,bW,bD,hc,hd,zb,zp (show (i:Int)<(r.1.length:Int) by omega),w1,zn (show ¬ ((i+1:Nat):Int)=(r.1.length:Int) by omega),zn h42,zn h63,if_true,zn hsp'.1.1,zn hsp'.1.2,zn hsp'.2,di]
     · rw[gu (by simp[fv,h42,h63,h92])]
       refine next c ?_
       unfold fZ
       simp only[ae,bD,hc,zb,zp (show (i:Int)<(r.1.length:Int) by omega),zn h42,zn h63,zn h92,bd,zl,List.length_nil,hroom,w1]
   · exact fin i out hlt
theorem oC {p:List UInt8} (hp:p.length<4294967296):zcl p=some (match pat p with | some o=>(o,true,()) | none=>([],false,())):=by
 unfold zcl
 rw[pK hp,zb]
 unfold eS pat
 cases hl:bl p with
 | none=>simp
 | some l =>
   simp only[Bool.not_true,cond_false,zb,ae,List.nil_append]
   by_cases h:l.length>64
   · rw[zp (by omega),zp h]
   · rw[zn (by omega),zn h]
     have:=pS (r:=(l,true,())) (by simp only[]; omega) l.length 0 [] (by simp) (by simp) (by simp)
     simpa using this
theorem rV:∀ {s:List UInt8}{l:List Int},bl s=some l→l.length≤s.length:=by
 intro s
 induction s using (measure List.length).wf.induction with
 | _ s ih =>
   intro l h
   by_cases hn:s=[]
   · subst hn; rw[b9] at h; cases h; simp
   · by_cases h0:(aP s).2=0
     · rw[cY hn h0] at h; cases h
     · rw[cF hn h0,Option.map_eq_some_iff] at h
       obtain ⟨l',hl',rfl⟩:=h
       have hp:s.length≠0:=fun e=>hn (List.eq_nil_of_length_eq_zero e)
       have:=ih (s.drop (aP s).2) (by show (s.drop _).length<s.length; simp only[List.length_drop]; omega) hl'
       simp only[List.length_drop] at this
       simp only[zl]; omega
theorem zV:∀ (n:Nat) {l o:List Int},l.length≤n→bt l=some o→o.length≤l.length:=by
 intro n
 induction n with
 | zero =>
   intro l o hn h
   have:l=[]:=List.eq_nil_of_length_eq_zero (by omega)
   subst this
   simp[bt] at h; subst h; simp
 | succ n ih =>
   intro l o hn h
   cases l with
   | nil=>simp[bt] at h; subst h; simp
   | cons c t =>
     simp only[zl] at hn
     have key:∀ {x:Int}{t':List Int},t'.length≤t.length→((bt t').map fun o=>x::o)=some o→o.length≤(c::t).length:=by
       intro x t' ht' e
       rw[Option.map_eq_some_iff] at e
       obtain ⟨o',h1,rfl⟩:=e
       have:=ih (by omega) h1
       simp only[zl]; omega
     rw[eA] at h
     split at h
     · exact key (Nat.le_refl _) h
     · split at h
       · exact key (Nat.le_refl _) h
       · split at h
         · cases t with
           | nil=>cases h
           | cons d t' =>
             simp only[] at h
             split at h
             · exact key (by simp) h
             · cases h
         · exact key (Nat.le_refl _) h
theorem adp {l o:List Int} (h:bt l=some o):o.length≤l.length:=zV l.length (Nat.le_refl _) h
theorem ahx {p:List UInt8}{o:List Int} (h:pat p=some o):o.length≤64:=by
 unfold pat at h
 rw[Option.bind_eq_some_iff] at h
 obtain ⟨l,h1,h2⟩:=h
 split at h2
 · cases h2
 · have:=adp h2; omega
def one (c:Int) (a:List Int):Prop:=c = -2∨∃ x,a=[x]∧(c = -1∨c=x)
def Mt:List Int→List Int→Prop
 | [],t=>t=[]
 | c::o,t=>∃ a b,t=a++b∧one c a∧Mt o b
theorem pm:∀ {o o' t:List Int},Mt (o++o') t↔∃ a b,t=a++b∧Mt o a∧Mt o' b
 | [],o',t=>by
   constructor
   · intro h; exact ⟨[],t,rfl,rfl,h⟩
   · rintro ⟨a,b,rfl,rfl,h⟩; exact h
 | c::o,o',t=>by
   constructor
   · rintro ⟨a,b,rfl,h1,h2⟩
     obtain ⟨a',b',rfl,h3,h4⟩:=pm.1 h2
     exact ⟨a++a',b',by simp,⟨a,a',rfl,h1,h3⟩,h4⟩
   · rintro ⟨a,b,rfl,⟨a',b',rfl,h1,h2⟩,h3⟩
     exact ⟨a',b'++b,by simp,h1,pm.2 ⟨b',b,rfl,h2,h3⟩⟩
theorem qa {a:List Int}:one (-2) a:=Or.inl rfl
theorem eR {o t:List Int}:Mt (-2::o) t↔∃ j,Mt o (t.drop j):=by
 constructor
 · rintro ⟨a,b,rfl,h1,h2⟩; exact ⟨a.length,by simpa using h2⟩
 · rintro ⟨j,h⟩; exact ⟨t.take j,t.drop j,by simp,qa,h⟩
theorem kM {c:Int}{o t:List Int} (hc:c ≠ -2):Mt (c::o) t↔∃ x b,t=x::b∧(c = -1∨c=x)∧Mt o b:=by
 constructor
 · rintro ⟨a,b,rfl,h1,h2⟩
   rcases h1 with h1 | ⟨x,rfl,h1⟩
   · exact absurd h1 hc
   · exact ⟨x,b,rfl,h1,h2⟩
 · rintro ⟨x,b,rfl,h1,h2⟩
   exact ⟨[x],b,rfl,Or.inr ⟨x,rfl,h1⟩,h2⟩
theorem tL {t:List Int}:Mt [] t↔t=[]:=Iff.rfl
theorem fD {A:Type}{l:List A}{i:Nat} (h:i<l.length):l.drop i=l[i]::l.drop (i+1):=List.drop_eq_getElem_cons h
structure Inv (o t:List Int) (k:Nat) (star:Int) (mark i:Nat):Prop where
 k_le:k≤o.length
 i_le:i≤t.length
 no:star<0→(Mt o t↔Mt (o.drop k) (t.drop i))
 is:∀ st:Nat,star=(st:Int)→st<k∧mark≤i∧(Mt o t↔Mt (-2::o.drop (st+1)) (t.drop mark))∧(Mt (o.drop k) (t.drop i)→Mt (o.drop (st+1)) (t.drop mark))∧(∀ u,Mt (o.drop (st+1)) u→Mt (o.drop k) (u.drop (i-mark)))
 le : -1≤star
theorem agz {o t:List Int}{k mark i:Nat}{star:Int} (h:Inv o t k star mark i) (hk:k<o.length) (hs:o[k] = -2):Inv o t (k+1) k i i:=by
 have hd:o.drop k = -2::o.drop (k+1):=by rw[fD hk,hs]
 refine ⟨hk,h.i_le,fun e=>by omega,?_,by omega⟩
 intro st hst
 have:st=k:=by omega
 subst this
 refine ⟨by omega,by omega,?_,fun x=>x,fun u hu=>by simpa using hu⟩
 by_cases hneg:star<0
 · rw[h.no hneg,hd]
 · obtain ⟨st,hst⟩:∃ st:Nat,star=(st:Int):=⟨star.toNat,by omega⟩
   obtain ⟨h0,h1,h2,h3,h4⟩:=h.is st hst
   rw[h2,← hd]
   constructor
   · intro hm
     obtain ⟨j,hj⟩:=eR.1 hm
     have:=h4 _ hj
     rw[hd] at this ⊢
     obtain ⟨j',hj'⟩:=eR.1 this
     refine eR.2 ⟨j+j',?_⟩
     rw[List.drop_drop,List.drop_drop] at hj'
     rw[List.drop_drop]
     have e:i+(j+j')=mark+j+(i-mark)+j':=by omega
     rw[e]
     simpa [Nat.add_assoc,Nat.add_comm,Nat.add_left_comm] using hj'
   · intro hm
     exact eR.2 ⟨0,by simpa using h3 hm⟩
theorem anp {o t:List Int}{k mark i:Nat}{star:Int} (h:Inv o t k star mark i) (hk:k<o.length) (hi:i<t.length) (hs:o[k] ≠ -2) (ho:o[k] = -1∨o[k]=t[i]):Inv o t (k+1) star mark (i+1):=by
 have hd:o.drop k=o[k]::o.drop (k+1):=fD hk
 have ht:t.drop i=t[i]::t.drop (i+1):=fD hi
 have hstep:Mt (o.drop k) (t.drop i)↔Mt (o.drop (k+1)) (t.drop (i+1)):=by
   rw[hd,ht,kM hs]
   constructor
   · rintro ⟨x,b,h1,h2,h3⟩; cases h1; exact h3
   · intro h1; exact ⟨_,_,rfl,ho,h1⟩
 refine ⟨hk,hi,fun e=>(h.no e).trans hstep,?_,h.le⟩
 intro st hst
 obtain ⟨h0,h1,h2,h3,h4⟩:=h.is st hst
 refine ⟨by omega,by omega,h2,fun x=>h3 (hstep.2 x),?_⟩
 intro u hu
 have:=h4 u hu
 rw[hd,kM hs] at this
 obtain ⟨x,b,h5,h6,h7⟩:=this
 have:u.drop (i+1-mark)=b:=by
   have e:i+1-mark=(i-mark)+1:=by omega
   rw[e,← List.drop_drop,h5]; rfl
 rw[this]; exact h7
theorem mis {o t:List Int}{k i:Nat} (hi:i<t.length) (hm:∀ hk:k<o.length,o[k] ≠ -2∧¬ (o[k] = -1∨o[k]=t[i])):¬ Mt (o.drop k) (t.drop i):=by
 rw[fD hi]
 by_cases hk:k<o.length
 · rw[fD hk,kM (hm hk).1]
   rintro ⟨x,b,h1,h2,h3⟩
   cases h1
   exact (hm hk).2 h2
 · rw[List.drop_eq_nil_of_le (by omega),tL]
   intro e; cases e
theorem anq {o t:List Int}{k mark i st:Nat} (h:Inv o t k st mark i) (hi:i<t.length) (hm:¬ Mt (o.drop k) (t.drop i)):Inv o t (st+1) st (mark+1) (mark+1):=by
 obtain ⟨h0,h1,h2,h3,h4⟩:=h.is st rfl
 have hk:=h.k_le
 refine ⟨by omega,by omega,fun e=>by omega,?_,by omega⟩
 intro st' hst
 have:st'=st:=by omega
 subst this
 refine ⟨by omega,by omega,?_,fun x=>x,fun u hu=>by simpa using hu⟩
 rw[h2]
 constructor
 · intro hx
   obtain ⟨j,hj⟩:=eR.1 hx
   cases j with
   | zero =>
     have:=h4 _ hj
     rw[List.drop_zero,List.drop_drop] at this
     exact absurd (by have e : mark + (i - mark) = i := by omega
                      rw[e] at this; exact this) hm
   | succ j =>
     refine eR.2 ⟨j,?_⟩
     rw[List.drop_drop] at hj ⊢
     have e:mark+1+j=mark+(j+1):=by omega
     rw[e]; exact hj
 · intro hx
   obtain ⟨j,hj⟩:=eR.1 hx
   refine eR.2 ⟨j+1,?_⟩
   rw[List.drop_drop] at hj ⊢
   have e:mark+(j+1)=mark+1+j:=by omega
   rw[e]; exact hj
theorem anr {o t:List Int}{k mark i:Nat}{star:Int} (h:Inv o t k star mark i) (hi:i=t.length):Mt o t↔Mt (o.drop k) []:=by
 have hn:t.drop i=[]:=List.drop_eq_nil_of_le (by omega)
 by_cases hneg:star<0
 · rw[h.no hneg,hn]
 · obtain ⟨st,hst⟩:∃ st:Nat,star=(st:Int):=⟨star.toNat,by have:=h.le; omega⟩
   obtain ⟨h0,h1,h2,h3,h4⟩:=h.is st hst
   rw[h2,← hn]
   constructor
   · intro hm
     obtain ⟨j,hj⟩:=eR.1 hm
     have:=h4 _ hj
     have e:(((t.drop mark).drop j).drop (i-mark))=[]:=by
       rw[List.drop_drop,List.drop_drop]; exact List.drop_eq_nil_of_le (by omega)
     rw[e] at this
     rw[hn]; exact this
   · intro hm; exact eR.2 ⟨0,by simpa using h3 hm⟩
theorem kY {c:Int}:(partOf c).1=2↔c = -2:=by
 unfold partOf; split
 · simp[*]
 · split<;>simp[*]
theorem pX {c:Int}:(partOf c).1=1↔c = -1:=by
 unfold partOf; split
 · subst_vars; simp
 · split<;>simp[*]
theorem adq {c:Int} (h:c ≠ -2) (h1:c ≠ -1):(partOf c).2.1=c:=by
 unfold partOf; rw[zn h,zn h1]
theorem kj {o:List Int}{k:Nat} (hk:k<o.length):atI (o.map partOf) (k:Int)=some (partOf o[k]):=by
 rw[bD,List.getElem?_map,zg hk]; rfl
theorem acL {o:List Int} (ho:o.length<4294967296):∀ (n k:Nat),o.length-k≤n→k≤o.length →
   ∃ k':Nat,aH (jI (o.map partOf)) ((k:Int),())=some (.inl ((k':Int),()))∧k'≤o.length∧(Mt (o.drop k) []↔k'=o.length):=by
 intro n
 induction n with
 | zero =>
   intro k hn hk
   refine ⟨k,aw ?_,hk,?_⟩
   · unfold jI
     rw[ae,zn (by simp only[List.length_map]; omega)]
   · rw[List.drop_eq_nil_of_le (by omega),tL]; simp; omega
 | succ n ih =>
   intro k hn hk
   by_cases hlt:k<o.length
   · have hd:o.drop k=o[k]::o.drop (k+1):=fD hlt
     by_cases h2:o[k] = -2
     · obtain ⟨k',h3,h4,h5⟩:=ih (k+1) (by omega) (by omega)
       refine ⟨k',?_,h4,?_⟩
       · rw[aD (b:=(((k+1:Nat):Int),())),h3]
         unfold jI
         rw[ae,zp (by simp only[List.length_map]; omega),kj hlt,zb,ae,zp (kY.2 h2)]
         simp only[]
         rw[wrap64 (by omega) (by omega)]; rfl
       · rw[← h5,hd,h2,eR]; simp
     · refine ⟨k,aw ?_,hk,?_⟩
       · unfold jI
         rw[ae,zp (by simp only[List.length_map]; omega),kj hlt,zb,ae,zn (fun e=>h2 (kY.1 e))]
       · rw[hd,kM h2]
         constructor
         · rintro ⟨x,b,h,_⟩; cases h
         · intro e; omega
   · refine ⟨k,aw ?_,hk,?_⟩
     · unfold jI
       rw[ae,zn (by simp only[List.length_map]; omega)]
     · rw[List.drop_eq_nil_of_le (by omega),tL]; simp; omega
open Classical in
theorem ad9 {o t:List Int} (ho:o.length<4294967296) (ht:t.length<4294967296):∀ (n m k mark i:Nat) (star:Int),t.length-mark≤n→o.length-k≤m→mark≤i→(star<0→t.length-i+(o.length-k)≤m)→Inv o t k star mark i →
   ((∃ k':Nat,k'≤o.length∧aH (d7 (o.map partOf) t) ((k:Int),star,(mark:Int),(i:Int),())=some (.inl ((k':Int),()))∧(Mt o t↔Mt (o.drop k') [])) ∨
   (¬ Mt o t∧aH (d7 (o.map partOf) t) ((k:Int),star,(mark:Int),(i:Int),())=some (.inr false))):=by
 intro n
 induction n using Nat.strongRecOn with
 | _ n ihn =>
 intro m
 induction m using Nat.strongRecOn with
 | _ m ihm =>
 intro k mark i star hn hm hmi hsm hI
 by_cases hi:i<t.length
 · have hti:t[i]? = some t[i]:=zg hi
   -- what is left when nothing goes on
   have miss : ∀ F : (Int × Int × Unit) → Option ((Int × Int × Int × Int × Unit) ⊕ ((Int × Unit) ⊕ Bool)), ¬ Mt (o.drop k) (t.drop i) →
       (star<0→d7 (o.map partOf) t ((k:Int),star,(mark:Int),(i:Int),())=some (.inr (.inr false))) →
       (¬ star<0→d7 (o.map partOf) t ((k:Int),star,(mark:Int),(i:Int),())=some (.inl (IntKind.wrap .i64 (star+1),star,IntKind.wrap .i64 ((mark:Int)+1),IntKind.wrap .i64 ((mark:Int)+1),()))) →
       ((∃ k':Nat,k'≤o.length∧aH (d7 (o.map partOf) t) ((k:Int),star,(mark:Int),(i:Int),())=some (.inl ((k':Int),()))∧(Mt o t↔Mt (o.drop k') [])) ∨
   (¬ Mt o t∧aH (d7 (o.map partOf) t) ((k:Int),star,(mark:Int),(i:Int),())=some (.inr false))):=by
     intro F hmm h1 h2
     by_cases hs:star<0
     · exact Or.inr ⟨fun e=>hmm ((hI.no hs).1 e),aw (h1 hs)⟩
     · have hs':=h2 hs
       obtain ⟨st,hst⟩:∃ st:Nat,star=(st:Int):=⟨star.toNat,by omega⟩
       subst hst
       have hk:=hI.k_le
       have hst:=(hI.is st rfl).1
       rw[wrap64 (by omega) (by omega),wrap64 (by omega) (by omega)] at hs'
       rw[aD (b:=(((st+1:Nat):Int),(st:Int),((mark+1:Nat):Int),((mark+1:Nat):Int),())) hs']
       exact ihn (n-1) (by omega) _ (st+1) (mark+1) (mark+1) st (by omega) (Nat.le_refl _) (Nat.le_refl _) (fun e=>by omega) (anq hI hi hmm)
   by_cases hk:k<o.length
   · by_cases h2:o[k] = -2
     · rw[aD (b:=(((k+1:Nat):Int),(k:Int),(i:Int),(i:Int),()))]
       · by_cases hmk:m=0
         · omega
         · exact ihm (m-1) (by omega) (k+1) i i k (by omega) (by omega) (Nat.le_refl _) (fun e=>by omega) (agz hI hk h2)
       · unfold d7
         simp only[ae,zp (show (i:Int)<(t.length:Int) by omega),List.length_map,zp (show (k:Int)<(o.length:Int) by omega),kj hk,zb,bd,di,kY,h2,decide_true,cond_true]
         rw[wrap64 (by omega) (by omega)]; rfl
     · have h3:¬ (partOf o[k]).1=2:=fun e=>h2 (kY.1 e)
       by_cases h1:o[k] = -1∨o[k]=t[i]
       · rw[aD (b:=(((k+1:Nat):Int),star,(mark:Int),((i+1:Nat):Int),()))]
         · exact ihm (m-1) (by omega) (k+1) mark (i+1) star (by omega) (by omega) (by omega) (fun e=>by have:=hsm e; omega) (anp hI hk hi h2 h1)
         · unfold d7
           simp only[ae,zp (show (i:Int)<(t.length:Int) by omega),List.length_map,zp (show (k:Int)<(o.length:Int) by omega),kj hk,zb,bd,di,h3,decide_false,cond_false,pX,bD,hti]
           rw[wrap64 (n:=(k:Int)+1) (by omega) (by omega),wrap64 (n:=(i:Int)+1) (by omega) (by omega)]
           by_cases h4:o[k] = -1
           · rw[zp h4]; rfl
           · rw[zn h4,adq h2 h4,zp (by rcases h1 with h | h; exact absurd h h4; exact h)]; rfl
       · have h4:¬ o[k] = -1:=fun e=>h1 (Or.inl e)
         have h5:¬ o[k]=t[i]:=fun e=>h1 (Or.inr e)
         refine miss (fun _=>none) (mis hi (fun hk'=>⟨h2,h1⟩)) ?_ ?_
         · intro hs
           unfold d7
           simp only[ae,zp (show (i:Int)<(t.length:Int) by omega),List.length_map,zp (show (k:Int)<(o.length:Int) by omega),kj hk,zb,bd,di,h3,decide_false,cond_false,pX,bD,hti,zn h4,adq h2 h4,zn h5,zp hs]
         · intro hs
           unfold d7
           simp only[ae,zp (show (i:Int)<(t.length:Int) by omega),List.length_map,zp (show (k:Int)<(o.length:Int) by omega),kj hk,zb,bd,di,h3,decide_false,cond_false,pX,bD,hti,zn h4,adq h2 h4,zn h5,zn hs]
   · refine miss (fun _=>none) (mis hi (fun hk'=>absurd hk' hk)) ?_ ?_
     · intro hs
       unfold d7
       simp only[ae,zp (show (i:Int)<(t.length:Int) by omega),List.length_map,zn (show ¬ (k:Int)<(o.length:Int) by omega),zb,bd,di,cond_false,zp hs]
     · intro hs
       unfold d7
       simp only[ae,zp (show (i:Int)<(t.length:Int) by omega),List.length_map,zn (show ¬ (k:Int)<(o.length:Int) by omega),zb,bd,di,cond_false,zn hs]
 · refine Or.inl ⟨k,hI.k_le,aw ?_,anr hI (by have:=hI.i_le; omega)⟩
   unfold d7
   rw[ae,zn (by simp only[]; omega)]
open Classical in
theorem awE {o t:List Int} (ho:o.length<4294967296) (ht:t.length<4294967296):zdq (o.map partOf) t=some (decide (Mt o t)):=by
 have hI:Inv o t 0 (-1) 0 0:=⟨by omega,by omega,fun _=>by simp,fun st h=>by omega,by omega⟩
 unfold zdq
 rcases ad9 ho ht t.length (t.length+o.length) 0 0 0 (-1) (by omega) (by omega) (by omega) (fun _=>by omega) hI with ⟨k',h1,h2,h3⟩ | ⟨h1,h2⟩
 · obtain ⟨k'',h4,h5,h6⟩:=acL ho (o.length-k') k' (Nat.le_refl _) h1
   have h2':aH (d7 (o.map partOf) t) (0,-1,0,0,())=some (.inl ((k':Int),())):=h2
   rw[h2',zb,bd,h4,zb,bd]
   simp only[List.length_map]
   congr 1
   rw[decide_eq_decide,h3,h6]
   omega
 · have h2':aH (d7 (o.map partOf) t) (0,-1,0,0,())=some (.inr false):=h2
   rw[h2',zb,di]
   simp[h1]
theorem tM {P t:List Int}{i:Nat}:Mt (P++[-2]) (t.take (i+1))↔Mt P (t.take (i+1))∨Mt (P++[-2]) (t.take i):=by
 have key:∀ i:Nat,Mt (P++[-2]) (t.take i)↔∃ j,j≤i∧Mt P (t.take j):=by
   intro i
   rw[pm]
   constructor
   · rintro ⟨a,b,h1,h2,h3⟩
     by_cases hl:a.length≤i
     · refine ⟨a.length,hl,?_⟩
       have:t.take a.length=a:=by
         have:=congrArg (List.take a.length) h1
         rw[List.take_take,Nat.min_eq_left hl,List.take_left] at this
         exact this
       rw[this]; exact h2
     · exfalso
       have:=congrArg List.length h1
       simp only[List.length_append,List.length_take] at this
       omega
   · rintro ⟨j,hj,h⟩
     refine ⟨t.take j,(t.take i).drop j,?_,h,⟨(t.take i).drop j,[],by simp,qa,rfl⟩⟩
     have:=List.take_append_drop j (t.take i)
     rw[List.take_take,Nat.min_eq_left hj] at this
     exact this.symm
 rw[key,key]
 constructor
 · rintro ⟨j,hj,h⟩
   by_cases e:j=i+1
   · subst e; exact Or.inl h
   · exact Or.inr ⟨j,by omega,h⟩
 · rintro (h | ⟨j,hj,h⟩)
   · exact ⟨i+1,Nat.le_refl _,h⟩
   · exact ⟨j,by omega,h⟩
theorem qW {P:List Int}:Mt (P++[-2]) []↔Mt P []:=by
 rw[pm]
 constructor
 · rintro ⟨a,b,h1,h2,h3⟩
   have:=List.append_eq_nil_iff.1 h1.symm
   rw[this.1] at h2; exact h2
 · intro h; exact ⟨[],[],rfl,h,[],[],rfl,qa,rfl⟩
theorem wd {P t:List Int}{i:Nat}{c:Int} (hc:c ≠ -2) (hi:i<t.length):Mt (P++[c]) (t.take (i+1))↔Mt P (t.take i)∧(c = -1∨c=t[i]):=by
 have e:t.take (i+1)=t.take i++[t[i]]:=by rw[List.take_add_one,zg hi]; rfl
 rw[pm,e]
 constructor
 · rintro ⟨a,b,h1,h2,h3⟩
   rw[kM hc] at h3
   obtain ⟨x,b',rfl,h4,h5⟩:=h3
   cases (tL.1 h5)
   obtain ⟨h6,h7⟩:=List.append_inj' h1 rfl
   cases h7
   rw[h6]; exact ⟨h2,h4⟩
 · rintro ⟨h1,h2⟩
   exact ⟨_,_,rfl,h1,(kM hc).2 ⟨_,[],rfl,h2,rfl⟩⟩
theorem tN {P:List Int}{c:Int} (hc:c ≠ -2):¬ Mt (P++[c]) []:=by
 rw[pm]
 rintro ⟨a,b,h1,h2,h3⟩
 rw[kM hc] at h3
 obtain ⟨x,b',rfl,h4,h5⟩:=h3
 have:=List.append_eq_nil_iff.1 h1.symm
 cases this.2
open Classical in
noncomputable def gM (P t:List Int) (i:Nat):Bool:=decide (Mt P (t.take i))
open Classical in
theorem anE {P t:List Int}{i:Nat}:gM (P++[-2]) t (i+1)=(gM P t (i+1)||gM (P++[-2]) t i):=by
 unfold gM
 rw[← Bool.decide_or,decide_eq_decide]; exact tM
theorem agF {P t:List Int}:gM (P++[-2]) t 0=gM P t 0:=by
 unfold gM
 rw[decide_eq_decide,List.take_zero]; exact qW
open Classical in
theorem awB {P t:List Int}{i:Nat}{c:Int} (hc:c ≠ -2) (hi:i<t.length):gM (P++[c]) t (i+1)=(gM P t i&&(decide (c = -1)||decide (c=t[i]))):=by
 unfold gM
 rw[← Bool.decide_or,← Bool.decide_and,decide_eq_decide]; exact wd hc hi
theorem anF {P t:List Int}{c:Int} (hc:c ≠ -2):gM (P++[c]) t 0=false:=by
 unfold gM
 rw[decide_eq_false_iff_not,List.take_zero]; exact tN hc
def RowM (n:Nat) (f:Nat→Bool) (row:List Bool):Prop:=row.length=n+1∧∀ j,j≤n→row[j]? = some (f j)
theorem acX {n i:Nat}{f:Nat→Bool}{nx:List Bool} (h1:nx.length=n+1) (h2:∀ j,j<i→nx[j]? = some (f j)) (hi:i≤n):(nx.set i (f i)).length=n+1∧∀ j,j<i+1→(nx.set i (f i))[j]? = some (f j):=by
 refine ⟨by simpa using h1,?_⟩
 intro j hj
 by_cases e:i=j
 · subst e; rw[List.getElem?_set_self (by omega)]
 · rw[List.getElem?_set_ne e]; exact h2 j (by omega)
theorem mQ {o t:List Int}{r1 r2:List Int×Bool×Unit} (h1:r1.1=o) (h2:r2.1=t) (ho:o.length<4294967296) (ht:t.length<4294967295) {k:Nat} (hk:k<o.length) {y8:Int×List Bool×Unit} (hy:y8.1=k) {row:List Bool} (hr:RowM t.length (gM (o.take k) t) row) :
   ∀ (m i:Nat) (nx:List Bool),t.length+1-i≤m→i≤t.length+1→nx.length=t.length+1→(∀ j,j<i→nx[j]? = some (gM (o.take (k+1)) t j)) →
     ∃ nx',RowM t.length (gM (o.take (k+1)) t) nx'∧aH (jJ y8 r1 r2) ((i:Int),row,nx,())=some (.inl (((k+1:Nat):Int),nx',())):=by
 have hok:o[k]? = some o[k]:=zg hk
 have htk:o.take (k+1)=o.take k++[o[k]]:=by rw[List.take_add_one,hok]; rfl
 have fin : ∀ (i : Nat) (nx : List Bool), ¬ i ≤ t.length → nx.length = t.length + 1 → (∀ j, j < i → nx[j]? = some (gM (o.take (k + 1)) t j)) →
     ∃ nx',RowM t.length (gM (o.take (k+1)) t) nx'∧aH (jJ y8 r1 r2) ((i:Int),row,nx,())=some (.inl (((k+1:Nat):Int),nx',())):=by
   intro i nx hi hl hn
   refine ⟨nx,⟨hl,fun j hj=>hn j (by omega)⟩,aw ?_⟩
   unfold jJ
   rw[ae,zn (by rw[h2]; simp only[]; omega),hy,wrap64 (by omega) (by omega)]; rfl
 intro m
 induction m with
 | zero=>intro i nx hm hi hl hn; exact fin i nx (by omega) hl hn
 | succ m ih =>
   intro i nx hm hi hl hn
   by_cases hlt:i≤t.length
   · have go : jJ y8 r1 r2 ((i : Int), row, nx, ()) = some (.inl (((i + 1 : Nat) : Int), row, nx.set i (gM (o.take (k + 1)) t i), ())) := by
       have w1:IntKind.wrap .i64 ((i:Int)+1)=((i+1:Nat):Int):=by rw[wrap64 (by omega) (by omega)]; rfl
       have hri:=hr.2 i hlt
       obtain ⟨b0,hb0⟩:∃ b0,nx[i]? = some b0:=⟨_,zg (by omega)⟩
       have hin:inI nx.length (i:Int)=some i:=bg (by omega)
       have hir:inI row.length (i:Int)=some i:=bg (by have:=hr.1; omega)
       unfold jJ
       rw[ae,zp (by rw[h2]; simp only[]; omega)]
       simp only[hy,h1,h2,bD,hok,zb,ae,w1,hri,hin,hir,hb0]
       cases i with
       | zero =>
         simp only[Int.natCast_zero,gt_iff_lt,Int.lt_irrefl,if_false,zb,cond_false,htk]
         by_cases hc:o[k] = -2
         · rw[zp hc,hc,agF]
           cases gM (o.take k) t 0<;>rfl
         · rw[zn hc,anF hc]
           have hin0:inI nx.length 0=some 0:=hin
           rw[hin0,zb,hb0,zb]
       | succ i =>
         have hg:((i+1:Nat):Int)>0:=by omega
         have w2:IntKind.wrap .i64 (((i+1:Nat):Int)-1)=(i:Int):=by rw[wrap64 (by omega) (by omega)]; omega
         have hri':=hr.2 i (by omega)
         have hni:=hn i (by omega)
         have hin':inI nx.length (i:Int)=some i:=bg (by omega)
         have hir':inI row.length (i:Int)=some i:=bg (by have:=hr.1; omega)
         have hti:t[i]? = some t[i]:=zg (by omega)
         simp only[zp hg,w2,hin',hir',zb,hni,hri',bD,hti,hin,hb0]
         by_cases hc:o[k] = -2
         · have hgs:gM (o.take (k+1)) t (i+1)=(gM (o.take k) t (i+1)||gM (o.take (k+1)) t i):=by rw[htk,hc]; exact anE
           rw[zp hc,hgs]
           cases gM (o.take k) t (i+1)<;>rfl
         · have hgs:gM (o.take (k+1)) t (i+1)=(gM (o.take k) t i&&(decide (o[k] = -1)||decide (o[k]=t[i]))):=by rw[htk]; exact awB hc (by omega)
           rw[zn hc,hgs]
           cases gM (o.take k) t i
           · rfl
           · by_cases h5:o[k] = -1
             · simp[h5]
             · simp[h5]
     obtain ⟨a1,a2⟩:=acX hl hn hlt
     rw[aD go]
     exact ih (i+1) _ (by omega) (by omega) a1 a2
   · exact fin i nx hlt hl hn
theorem nK {o t:List Int}{r1 r2:List Int×Bool×Unit} (h1:r1.1=o) (h2:r2.1=t) (ho:o.length<4294967296) (ht:t.length<4294967295) :
   ∀ (m k:Nat) (row:List Bool),o.length-k≤m→k≤o.length→RowM t.length (gM (o.take k) t) row →
     ∃ row',RowM t.length (gM o t) row'∧aH (nW r1 r2) ((k:Int),row,())=some (.inl (row',())):=by
 have fin : ∀ (k : Nat) (row : List Bool), ¬ k < o.length → RowM t.length (gM (o.take k) t) row →
     ∃ row',RowM t.length (gM o t) row'∧aH (nW r1 r2) ((k:Int),row,())=some (.inl (row',())):=by
   intro k row hk hr
   refine ⟨row,by rw[List.take_of_length_le (by omega)] at hr; exact hr,aw ?_⟩
   unfold nW
   rw[ae,zn (by rw[h1]; simp only[]; omega)]
 intro m
 induction m with
 | zero=>intro k row hm hk hr; exact fin k row (by omega) hr
 | succ m ih =>
   intro k row hm hk hr
   by_cases hlt:k<o.length
   · have w:IntKind.wrap .i64 ((t.length:Int)+1)=((t.length+1:Nat):Int):=by rw[wrap64 (by omega) (by omega)]; rfl
     obtain ⟨nx',a1,a2⟩:=mQ h1 h2 ho ht hlt (y8:=((k:Int),row,())) rfl hr (t.length+1) 0 (List.replicate (t.length+1) false) (by omega) (by omega) (by simp) (by intro j hj; omega)
     obtain ⟨row',b1,b2⟩:=ih (k+1) nx' (by omega) (by omega) a1
     refine ⟨row',b1,?_⟩
     rw[aD (b:=(((k+1:Nat):Int),nx',())),b2]
     unfold nW
     rw[ae,zp (by rw[h1]; simp only[]; omega),h2,w,qd (by omega),zb,Int.toNat_natCast]
     exact a2
   · exact fin k row hlt hr
open Classical in
theorem zK {p s:List UInt8} (hp:p.length<4294967295) (hs:s.length<4294967295):zcj p s=some (match pat p,bl s with | some o,some t=>decide (Mt o t) | _,_=>false):=by
 unfold zcj
 rw[oC (by omega),zb,pK (by omega),zb]
 unfold eS
 cases hpa:pat p with
 | none=>simp
 | some o =>
   cases hra:bl s with
   | none=>simp
   | some t =>
     have ho:o.length<4294967296:=by
       have:=ahx hpa; omega
     have ht:t.length<4294967295:=by have:=rV hra; omega
     have w:IntKind.wrap .i64 ((t.length:Int)+1)=((t.length+1:Nat):Int):=by rw[wrap64 (by omega) (by omega)]; rfl
     have h0:∀ P:List Int,gM [] t 0=true:=by intro _; unfold gM; rw[decide_eq_true_eq,List.take_zero]; exact rfl
     have hrow:RowM t.length (gM (o.take 0) t) ((List.replicate (t.length+1) false).set 0 true):=by
       refine ⟨by simp,?_⟩
       intro j hj
       cases j with
       | zero=>rw[List.getElem?_set_self (by simp),List.take_zero,h0 []]
       | succ j =>
         rw[List.getElem?_set_ne (by omega),List.getElem?_replicate,zp (by omega)]
         congr 1
         unfold gM
         rw[eq_comm,decide_eq_false_iff_not,List.take_zero,tL]
         intro e
         have:=congrArg List.length e
         simp only[List.length_take,List.length_nil] at this
         omega
     obtain ⟨row',b1,b2⟩:=nK (r1:=(o,true,())) (r2:=(t,true,())) rfl rfl ho ht o.length 0 _ (by simp only[]; omega) (by simp only[]; omega) hrow
     simp only[Bool.not_true,cond_false,List.nil_append]
     rw[w,qd (by omega),zb,Int.toNat_natCast,List.length_replicate]
     have i0:inI (t.length+1) 0=some 0:=bg (i:=0) (by omega)
     rw[i0,zb,List.getElem?_replicate,zp (by omega),zb]
     have b2':aH (nW (o,true,()) (t,true,())) (0,(List.replicate (t.length+1) false).set 0 true,())=some (.inl (row',())):=b2
     rw[b2',zb,bd]
     simp only[]
     rw[bg (by have:=b1.1; simp only[] at this ⊢; omega),zb,b1.2 _ (Nat.le_refl _),zb]
     unfold gM
     rw[List.take_length]
open Classical in
theorem anh {p s:List UInt8} (hp:p.length<4294967295) (hs:s.length<4294967295):zc0 p s=some (match pat p,bl s with | some o,some t=>decide (Mt o t) | _,_=>false):=by
 unfold zc0
 rw[mS (by omega),zb,iU,zb]
 cases hpa:pat p with
 | none=>simp[ex]
 | some o =>
   cases hra:bl s with
   | none=>simp[ex,cR,hra]
   | some t =>
     have h1:=ahx hpa
     have h2:=rV hra
     simp only[ex,cR,hra,Option.isSome_some,cond_true,List.nil_append]
     rw[afW hra,awE (by omega) (by omega),zb]
theorem am2 {p:List UInt8} (hp:p.length<4294967295):zc6 p=some (pat p).isSome:=by
 unfold zc6
 rw[mS (by omega),zb]
 cases pat p<;>simp[ex]
theorem rW {a:UInt8}{t:List UInt8} (h:a.toNat<128):bl (a::t)=(bl t).map fun l=>(a.toNat:Int)::l:=by
 have hc:aP (a::t)=((a.toNat:Int),1):=by simp only[aP,zp h]
 rw[cF (by simp) (by rw[hc]; simp),hc]; rfl
def cmpI (a b:Int):Int:=if a<b then -1 else if a>b then 1 else 0
theorem ju (a b:Int):za5 a b=some (cmpI a b):=by
 unfold za5 za9 cmpI
 simp only[zb,decide_true,Bool.not_true,cond_false,ae]
 by_cases h1:a<b
 · simp[h1]
 · by_cases h2:a>b<;>simp[h1,h2]
def orI (a b:Int):Int:=if a=0 then b else a
theorem or_t (a b:Int):zcn [a,b]=some (orI a b):=by
 unfold zcn orI
 by_cases h1:a=0
 · rw[zp h1]
   have t0:fY [a,b] (0,())=some (.inl (1,())):=by
     unfold fY
     simp only[ae,zl,List.length_nil]
     rw[zp (by decide)]
     simp[atI,h1,wrap64]
   rw[aD t0]
   by_cases h2:b=0
   · have t1 : fY [a, b] (1, ()) = some (.inl (2, ())) := by
       unfold fY
       simp only[ae,zl,List.length_nil]
       rw[zp (by decide)]
       simp[atI,h2,wrap64]
     rw[aD t1,h2]
     refine aw ?_
     unfold fY
     simp only[ae,zl,List.length_nil]
     rw[zn (by decide)]
   · refine aw ?_
     unfold fY
     simp only[ae,zl,List.length_nil]
     rw[zp (by decide)]
     simp[atI,h2]
 · rw[zn h1]
   refine aw ?_
   unfold fY
   simp only[ae,zl,List.length_nil]
   rw[zp (by decide)]
   simp[atI,h1]
def cmpD (a b:Int×Int×Unit):Int:=orI (cmpI a.1 b.1) (cmpI a.2.1 b.2.1)
def inR (n:Int):Prop := -9223372036854775808≤n∧n≤9223372036854775807
def eT (d:Int×Int×Unit):Bool:=decide (0≤d.1∧d.1≤15∧1≤d.2.1∧d.2.1≤1048576)
def Good (c:Int):Prop:=∃ s,(aP s).2≠0∧(aP s).1=c
abbrev Val:=Int×Int×List UInt8×Unit
theorem vg {l:List Int}{i:Nat}{x:Int} (h:l[i]? = some x) (hl:l.length<1000000):fY l ((i:Int),())=if x=0 then some (.inl (((i+1:Nat):Int),())) else some (.inr x):=by
 have hi:i<l.length:=by
   rcases Nat.lt_or_ge i l.length with h' | h'
   · exact h'
   · rw[List.getElem?_eq_none h'] at h; cases h
 unfold fY
 simp only[ae]
 rw[zp (by omega),bD,h]
 simp only[zb]
 by_cases hx:x=0
 · rw[zp hx]
   simp only[hx,decide_true,Bool.not_true,cond_false]
   rw[wrap64 (by omega) (by omega)]; rfl
 · rw[zn hx]
   simp only[hx,decide_false,Bool.not_false,cond_true]
theorem ay3 (a b c:Int):zcn [a,b,c]=some (orI a (orI b c)):=by
 unfold zcn
 have t0:=vg (l:=[a,b,c]) (i:=0) (x:=a) rfl (by simp)
 have t1:=vg (l:=[a,b,c]) (i:=1) (x:=b) rfl (by simp)
 have t2:=vg (l:=[a,b,c]) (i:=2) (x:=c) rfl (by simp)
 have t3:fY [a,b,c] (((3:Nat):Int),())=some (.inr 0):=by
   unfold fY
   simp only[ae,zl,List.length_nil]
   rw[zn (by decide)]
 unfold orI
 by_cases h0:a=0
 · rw[zp h0] at t0 ⊢
   rw[show ((0:Int),())=(((0:Nat):Int),()) from rfl,aD t0]
   by_cases h1:b=0
   · rw[zp h1] at t1 ⊢
     rw[aD t1]
     by_cases h2:c=0
     · rw[zp h2] at t2
       rw[aD t2,aw t3,h2]
     · rw[zn h2] at t2
       rw[aw t2]
   · rw[zn h1] at t1 ⊢
     rw[aw t1]
 · rw[zn h0] at t0 ⊢
   exact aw t0
theorem aeD:∀ a b:List UInt8,Lib.compareBytes b a = - Lib.compareBytes a b
 | [],[]=>rfl
 | [],_::_=>rfl
 | _::_,[]=>rfl
 | x::a,y::b=>by
   simp only[Lib.compareBytes,UInt8.lt_iff_toNat_lt]
   by_cases h1:x.toNat<y.toNat
   · have h2:¬ y.toNat<x.toNat:=by omega
     simp only[zp h1,zn h2]
     rfl
   · by_cases h2:y.toNat<x.toNat
     · simp only[zp h2,zn h1]
     · simp only[zn h2,zn h1]; exact aeD a b
theorem qN:∀ a b:List UInt8,Lib.compareBytes a b=0↔a=b
 | [],[]=>by simp[Lib.compareBytes]
 | [],_::_=>by simp[Lib.compareBytes]
 | _::_,[]=>by simp[Lib.compareBytes]
 | x::a,y::b=>by
   simp only[Lib.compareBytes,UInt8.lt_iff_toNat_lt]
   by_cases h1:x.toNat<y.toNat
   · rw[zp h1]
     constructor
     · intro h; cases h
     · intro h; cases h; omega
   · rw[zn h1]
     by_cases h2:y.toNat<x.toNat
     · rw[zp h2]
       constructor
       · intro h; cases h
       · intro h; cases h; omega
     · rw[zn h2,qN a b]
       have:x=y:=UInt8.toNat_inj.1 (by omega)
       subst this
       simp
theorem aeC:∀ a b:List UInt8,Lib.compareBytes a b = -1∨Lib.compareBytes a b=0∨Lib.compareBytes a b=1
 | [],[]=>.inr (.inl rfl)
 | [],_::_=>.inl rfl
 | _::_,[]=>.inr (.inr rfl)
 | x::a,y::b=>by
   simp only[Lib.compareBytes]
   split
   · exact .inl rfl
   · split
     · exact .inr (.inr rfl)
     · exact aeC a b
theorem yc:∀ a b c:List UInt8,Lib.compareBytes a b≤0→Lib.compareBytes b c≤0→Lib.compareBytes a c≤0
 | [],b,[],_,_=>by simp[Lib.compareBytes]
 | [],b,_::_,_,_=>by simp[Lib.compareBytes]
 | _::_,[],_,h,_=>by simp[Lib.compareBytes] at h
 | x::a,y::b,[],_,h=>by simp[Lib.compareBytes] at h
 | x::a,y::b,z::c,h,k=>by
   simp only[Lib.compareBytes,UInt8.lt_iff_toNat_lt] at h k ⊢
   by_cases h1:x.toNat<y.toNat
   · by_cases k1:y.toNat<z.toNat
     · rw[zp (by omega)]; omega
     · rw[zn k1] at k
       by_cases k2:z.toNat<y.toNat
       · rw[zp k2] at k; omega
       · rw[zp (by omega)]; omega
   · rw[zn h1] at h
     by_cases h2:y.toNat<x.toNat
     · rw[zp h2] at h; omega
     · rw[zn h2] at h
       by_cases k1:y.toNat<z.toNat
       · rw[zp (by omega)]; omega
       · rw[zn k1] at k
         by_cases k2:z.toNat<y.toNat
         · rw[zp k2] at k; omega
         · rw[zn k2] at k
           rw[zn (by omega),zn (by omega)]
           exact yc a b c h k
def cmpV (a b:Val):Int:=orI (cmpI a.1 b.1) (orI (cmpI a.2.1 b.2.1) (Lib.compareBytes a.2.2.1 b.2.2.1))
theorem vF (a b:Val):eqV (.agg (.cons (.int .i64) (.cons (.int .i64) (.cons .str .unit)))) a b=decide (a=b):=by
 obtain ⟨k,n,s,⟨⟩⟩:=a
 obtain ⟨k',n',s',⟨⟩⟩:=b
 simp only[eqV,Bool.and_true]
 rw[Bool.eq_iff_iff]
 simp
theorem vu (a b:Int):zc8 a b=some (cmpI a b):=by
 unfold zc8 cmpI
 simp only[ae]
 by_cases h1:a<b
 · simp[h1]
 · by_cases h2:a>b<;>simp[h1,h2]
theorem agM {A:Type}{s:List A}{i:Nat} (h:i<s.length):s.drop i=s[i]::s.drop (i+1):=List.drop_eq_getElem_cons h
theorem zj {a b:List UInt8} (ha:a.length<1000000):∀ (k i:Nat),a.length-i≤k→i≤a.length→i≤b.length →
   ((aH (kp a b) ((i:Int),()):Option (Unit⊕Int)).bind (aU fun _=>some (cmpI (a.length:Int) (b.length:Int))))=some (Lib.compareBytes (a.drop i) (b.drop i)):=by
 intro k
 have fin:∀ i:Nat,i≤a.length→i≤b.length→¬ (i<a.length∧i<b.length)→((aH (kp a b) ((i:Int),()):Option (Unit⊕Int)).bind (aU fun _=>some (cmpI (a.length:Int) (b.length:Int))))=some (Lib.compareBytes (a.drop i) (b.drop i)):=by
   intro i h1 h2 h3
   have hl:aH (kp a b) ((i:Int),())=some (.inl ()):=by
     refine aw ?_
     unfold kp
     simp only[ae]
     by_cases h4:(i:Int)<(a.length:Int)
     · rw[zp h4,zn (by omega)]
     · rw[zn h4]
   rw[hl,aC]
   congr 1
   unfold cmpI
   by_cases h4:i<a.length
   · have e:b.drop i=[]:=List.drop_eq_nil_of_le (by omega)
     rw[e,agM h4]
     simp only[Lib.compareBytes]
     rw[zn (by omega),zp (by omega)]
   · have e:a.drop i=[]:=List.drop_eq_nil_of_le (by omega)
     rw[e]
     by_cases h5:i<b.length
     · rw[agM h5]
       simp only[Lib.compareBytes]
       rw[zp (by omega)]
     · have e:b.drop i=[]:=List.drop_eq_nil_of_le (by omega)
       rw[e]
       simp only[Lib.compareBytes]
       rw[zn (by omega),zn (by omega)]
 induction k with
 | zero=>intro i hk h1 h2; exact fin i h1 h2 (by omega)
 | succ k ih =>
   intro i hk h1 h2
   by_cases h3:i<a.length∧i<b.length
   · obtain ⟨h3,h4⟩:=h3
     rw[agM h3,agM h4]
     simp only[Lib.compareBytes,UInt8.lt_iff_toNat_lt]
     by_cases he:a[i].toNat=b[i].toNat
     · rw[zn (by omega),zn (by omega),← ih (i+1) (by omega) (by omega) (by omega)]
       rw[aD (b:=(((i+1:Nat):Int),()))]
       unfold kp
       simp only[ae]
       rw[zp (by omega),zp (by omega),aL h3,aL h4]
       simp only[zb]
       rw[zt (by omega)]
       simp only[Bool.not_true,cond_false]
       rw[wrap64 (by omega) (by omega)]; rfl
     · have ba:=a[i].toNat_lt
       have bb:=b[i].toNat_lt
       have hl:aH (kp a b) ((i:Int),())=some (.inr (cmpI (a[i].toNat:Int) (b[i].toNat:Int))):=by
         refine aw ?_
         unfold kp
         simp only[ae]
         rw[zp (by omega),zp (by omega),aL h3,aL h4]
         simp only[zb]
         rw[zf (by omega)]
         simp only[Bool.not_false,cond_true,vu,zb]
         rw[wrap64 (by omega) (by omega),wrap64 (by omega) (by omega)]
       rw[hl,aS]
       congr 1
       unfold cmpI
       by_cases h5:a[i].toNat<b[i].toNat
       · rw[zp (by omega),zp h5]
       · rw[zn (by omega),zn h5,zp (by omega),zp (by omega)]
   · exact fin i h1 h2 h3
theorem acK {a b:List UInt8} (ha:a.length<1000000):zb4 a b=some (Lib.compareBytes a b):=by
 have:=zj (b:=b) ha a.length 0 (by omega) (by omega) (by omega)
 simp only[List.drop_zero] at this
 unfold zb4
 simp only[vu,zb]
 exact this
theorem ac1 {s:List UInt8}:(eS s []).2.1=(bl s).isSome:=by
 unfold eS; cases bl s<;>rfl
def gp (v:Val):Bool:=decide ((v.1=1∧v.2.2.1=[] ∧ -2147483647≤v.2.1∧v.2.1≤2147483647)∨(v.1=2∧v.2.1=0∧(bl v.2.2.1).isSome=true∧v.2.2.1.length≤64)∨(v.1=3∧v.2.2.1=[]∧0≤v.2.1∧v.2.1≤1))
theorem uR {v:Val} (hv:v.2.2.1.length<4294967296):zb8 v=some (gp v):=by
 unfold zb8 gp
 simp only[pK (s:=v.2.2.1) (by omega),zb,ac1,ae]
 by_cases h1:v.1=1
 · rw[zp h1]
   by_cases h2:v.2.2.1=[]
   · by_cases h3:v.2.1 ≥ -2147483647
     · simp only[h1,h2,h3]; simp<;>omega
     · simp only[h1,h2]; simp[h3]<;>omega
   · simp[h1,h2]
 rw[zn h1]
 by_cases h2:v.1=2
 · rw[zp h2]
   cases hr:(bl v.2.2.1).isSome with
   | true =>
     by_cases h3:v.2.1=0
     · simp only[h2,h3]; simp<;>omega
     · simp[h2,h3]
   | false=>by_cases h3:v.2.1=0<;>simp[h2,h3]
 rw[zn h2]
 by_cases h3:v.1=3
 · rw[zp h3]
   by_cases h4:v.2.2.1=[]
   · by_cases h5:v.2.1≥0
     · simp only[h3,h4]; simp[h5]<;>omega
     · simp only[h3,h4]; simp[h5]<;>omega
   · simp[h3,h4]
 rw[zn h3]
 simp[h1,h2,h3]
abbrev Path:=List (List UInt8)
abbrev Ent:=Path×Int×List Val×Int×Unit
theorem yd:Cmp Lib.compareBytes where
 one a b:=by have:=aeC a b; omega
 neg a b:=aeD a b
 zero a b:=qN a b
 trans a b d h1 h2:=by
   have h3:=yc a b d (by omega) (by omega)
   rcases Int.lt_or_eq_of_le h3 with h | h
   · exact h
   · have e:=(qN a d).1 h
     subst e
     have:=aeD a b
     omega
theorem ng:Cmp cmpI where
 one a b:=by
   unfold cmpI
   split
   · omega
   · split<;>omega
 neg a b:=by
   unfold cmpI
   by_cases h1:a<b
   · rw[zn (by omega),zp (by omega),zp h1]; rfl
   · by_cases h2:a>b
     · rw[zp (by omega),zn h1,zp h2]
     · rw[zn (by omega),zn (by omega),zn h1,zn h2]; rfl
 zero a b:=by
   unfold cmpI
   by_cases h1:a<b
   · rw[zp h1]; constructor<;>intro h<;>omega
   · by_cases h2:a>b
     · rw[zn h1,zp h2]; constructor<;>intro h<;>omega
     · rw[zn h1,zn h2]; constructor<;>intro h<;>omega
 trans a b d h1 h2:=by
   unfold cmpI at h1 h2 ⊢
   have e1:a<b:=by
     by_cases h:a<b
     · exact h
     · rw[zn h] at h1; split at h1<;>omega
   have e2:b<d:=by
     by_cases h:b<d
     · exact h
     · rw[zn h] at h2; split at h2<;>omega
   rw[zp (by omega)]; omega
theorem adK:∀ a b:List UInt8,Op.bytesLess a b=decide (Lib.compareBytes a b<0)
 | [],[]=>rfl
 | _::_,[]=>rfl
 | [],_::_=>rfl
 | x::a,y::b=>by
   simp only[Op.bytesLess,Lib.compareBytes]
   by_cases h1:x<y
   · simp[h1]
   · by_cases h2:y<x
     · have h3:x≠y:=fun e=>by subst e; exact h1 h2
       simp[h1,h2,h3]
     · have h3:x=y:=UInt8.toNat_inj.1 (by rw[UInt8.lt_iff_toNat_lt] at h1 h2; omega)
       subst h3
       simp[h1,adK a b]
theorem rJ (a b:List UInt8):zav a b=some (Lib.compareBytes a b):=by
 unfold zav za2
 simp only[decide_true,Bool.not_true,zb,cond_false,adK]
 have h1:=aeC a b
 have h0:=qN a b
 by_cases h2:Lib.compareBytes a b<0
 · rw[zt h2]
   simp only[cond_true]
   congr 1; omega
 · rw[zf h2]
   simp only[cond_false,Bool.false_or]
   by_cases h3:a=b
   · rw[zt h3]
     simp only[Bool.not_true,cond_false]
     rw[h0.2 h3]
   · rw[zf h3]
     simp only[Bool.not_false,cond_true]
     congr 1
     have:Lib.compareBytes a b≠0:=fun e=>h3 (h0.1 e)
     omega
def cmpP:Path→Path→Int:=cmpL Lib.compareBytes
theorem to {x y:List UInt8}{a b:Path}:cmpP (x::a) (y::b)=if Lib.compareBytes x y=0 then cmpP a b else Lib.compareBytes x y:=by unfold cmpP; rw[cmpL]
theorem sr {a b:Path} (ha:a.length<1000000):∀ (k i:Nat),a.length-i≤k→i≤a.length→i≤b.length →
   ((aH (iT a b) ((i:Int),()):Option (Unit⊕Int)).bind (aU fun _=>cond (decide ((a.length:Int)<(b.length:Int))) (some (-1)) (some 0)))=some (cmpP (a.drop i) (b.drop i)):=by
 intro k
 have fin:∀ i:Nat,i=a.length→i≤b.length→((aH (iT a b) ((i:Int),()):Option (Unit⊕Int)).bind (aU fun _=>cond (decide ((a.length:Int)<(b.length:Int))) (some (-1)) (some 0)))=some (cmpP (a.drop i) (b.drop i)):=by
   intro i hi h2
   have hl:aH (iT a b) ((i:Int),())=some (.inl ()):=by
     refine aw ?_
     unfold iT
     simp only[ae]
     rw[zn (by omega)]
   rw[hl,aC,List.drop_eq_nil_of_le (by omega:a.length≤i)]
   rw[ae]
   by_cases h5:i<b.length
   · rw[List.drop_eq_getElem_cons h5,zp (by omega)]; rfl
   · rw[List.drop_eq_nil_of_le (by omega),zn (by omega)]; rfl
 induction k with
 | zero=>intro i hk h1 h2; exact fin i (by omega) h2
 | succ k ih =>
   intro i hk h1 h2
   by_cases h3:i<a.length
   · rw[List.drop_eq_getElem_cons h3]
     by_cases h4:i<b.length
     · rw[List.drop_eq_getElem_cons h4,to]
       have turn:iT a b ((i:Int),())=if Lib.compareBytes a[i] b[i]=0 then some (.inl (((i+1:Nat):Int),())) else some (.inr (.inr (Lib.compareBytes a[i] b[i]))):=by
         unfold iT
         simp only[ae]
         rw[zp (by omega),aL h3]
         simp only[zb]
         rw[zn (by omega),aL h4]
         simp only[zb,rJ]
         by_cases hz:Lib.compareBytes a[i] b[i]=0
         · rw[zt hz,zp hz]
           simp only[Bool.not_true,cond_false]
           rw[wrap64 (by omega) (by omega)]; rfl
         · rw[zf hz,zn hz]
           simp only[Bool.not_false,cond_true]
       by_cases hz:Lib.compareBytes a[i] b[i]=0
       · rw[zp hz] at turn ⊢
         rw[aD turn]
         exact ih (i+1) (by omega) (by omega) (by omega)
       · rw[zn hz] at turn ⊢
         rw[aw turn,aS]
     · have hl : aH (iT a b) ((i : Int), ()) = some (.inr 1) := by
         refine aw ?_
         unfold iT
         simp only[ae]
         rw[zp (by omega),aL h3]
         simp only[zb]
         rw[zp (by omega)]
       rw[hl,aS,List.drop_eq_nil_of_le (by omega:b.length≤i)]; rfl
   · exact fin i (by omega) h2
theorem je {a b:Path} (ha:a.length<1000000):zbs a b=some (cmpP a b):=by
 have:=sr (b:=b) ha a.length 0 (by omega) (by omega) (by omega)
 simp only[List.drop_zero] at this
 rw[show (((0:Nat):Int))=0 from rfl] at this
 unfold zbs zan
 rw[this]; rfl
theorem uU {a b:Path} (ha:a.length<1000000) (hs:∀ x∈a,x.length<1000000):∀ (k i:Nat),a.length-i≤k→i≤a.length→i≤b.length →
   ((aH (lp a b) ((i:Int),()):Option (Unit⊕Int)).bind (aU fun _=>cond (decide ((a.length:Int)<(b.length:Int))) (some (-1)) (cond (decide ((a.length:Int)>(b.length:Int))) (some 1) (some 0))))=some (cmpP (a.drop i) (b.drop i)):=by
 intro k
 have fin:∀ i:Nat,i≤a.length→i≤b.length→¬ (i<a.length∧i<b.length)→((aH (lp a b) ((i:Int),()):Option (Unit⊕Int)).bind (aU fun _=>cond (decide ((a.length:Int)<(b.length:Int))) (some (-1)) (cond (decide ((a.length:Int)>(b.length:Int))) (some 1) (some 0))))=some (cmpP (a.drop i) (b.drop i)):=by
   intro i h1 h2 h3
   have hl:aH (lp a b) ((i:Int),())=some (.inl ()):=by
     refine aw ?_
     unfold lp
     simp only[ae]
     by_cases h4:(i:Int)<(a.length:Int)
     · rw[zp h4,zn (by omega)]
     · rw[zn h4]
   rw[hl,aC]
   simp only[ae]
   by_cases h4:i<a.length
   · rw[List.drop_eq_nil_of_le (by omega:b.length≤i),List.drop_eq_getElem_cons h4,zn (by omega),zp (by omega)]; rfl
   · rw[List.drop_eq_nil_of_le (by omega:a.length≤i)]
     by_cases h5:i<b.length
     · rw[List.drop_eq_getElem_cons h5,zp (by omega)]; rfl
     · rw[List.drop_eq_nil_of_le (by omega),zn (by omega),zn (by omega)]; rfl
 induction k with
 | zero=>intro i hk h1 h2; exact fin i h1 h2 (by omega)
 | succ k ih =>
   intro i hk h1 h2
   by_cases h3:i<a.length∧i<b.length
   · obtain ⟨h3,h4⟩:=h3
     rw[List.drop_eq_getElem_cons h3,List.drop_eq_getElem_cons h4,to]
     have turn:lp a b ((i:Int),())=if Lib.compareBytes a[i] b[i]=0 then some (.inl (((i+1:Nat):Int),())) else some (.inr (.inr (Lib.compareBytes a[i] b[i]))):=by
       unfold lp
       simp only[ae]
       rw[zp (by omega),zp (by omega),aL h3,aL h4]
       simp only[zb,acK (hs _ (zm h3))]
       by_cases hz:Lib.compareBytes a[i] b[i]=0
       · rw[zt hz,zp hz]
         simp only[Bool.not_true,cond_false]
         rw[wrap64 (by omega) (by omega)]; rfl
       · rw[zf hz,zn hz]
         simp only[Bool.not_false,cond_true]
     by_cases hz:Lib.compareBytes a[i] b[i]=0
     · rw[zp hz] at turn ⊢
       rw[aD turn]
       exact ih (i+1) (by omega) (by omega) (by omega)
     · rw[zn hz] at turn ⊢
       rw[aw turn,aS]
   · exact fin i h1 h2 h3
theorem d5 {a b:Path} (ha:a.length<1000000) (hs:∀ x∈a,x.length<1000000):zbg a b=some (cmpP a b):=by
 have:=uU (b:=b) ha hs a.length 0 (by omega) (by omega) (by omega)
 simp only[List.drop_zero] at this
 rw[show (((0:Nat):Int))=0 from rfl] at this
 unfold zbg
 exact this
def keyE (e:Ent):Path×Int:=(e.1,e.2.1)
def cmpK:Path×Int→Path×Int→Int:=cmpB cmpP cmpI
theorem aeB:Cmp cmpK:=(Cmp.list yd).pair ng
def mayM (c:Int):Bool:=decide (32≤c∧(c<127∨159<c)∧c≠65533)
theorem af5 (c:Int):zdl c=some (mayM c):=by
 unfold zdl mayM
 simp only[ae]
 by_cases h1:c≥32
 · rw[zp h1]
   by_cases h2:c<127
   · rw[zp h2,zf (by omega:¬ c=65533),zt (by omega)]; rfl
   · rw[zn h2]
     by_cases h3:c>159
     · rw[zp h3]
       by_cases h4:c=65533
       · rw[zt h4,zf (by omega)]; rfl
       · rw[zf h4,zt (by omega)]; rfl
     · rw[zn h3,zf (by omega)]
 · rw[zn h1,zf (by omega)]
theorem ac0:∀ {s:List UInt8}{l:List Int},bl s=some l→l.length≤s.length:=by
 have key:∀ (n:Nat) (s:List UInt8) (l:List Int),s.length≤n→bl s=some l→l.length≤s.length:=by
   intro n
   induction n with
   | zero =>
     intro s l hn h
     have:s=[]:=List.eq_nil_of_length_eq_zero (by omega)
     subst this
     rw[b9] at h; cases h; simp
   | succ n ih =>
     intro s l hn h
     by_cases hs:s=[]
     · subst hs
       rw[b9] at h; cases h; simp
     · have hl:s.length≠0:=fun e=>hs (List.eq_nil_of_length_eq_zero e)
       by_cases h0:(aP s).2=0
       · rw[cY hs h0] at h; cases h
       · rw[cF hs h0,Option.map_eq_some_iff] at h
         obtain ⟨l',hl',rfl⟩:=h
         have:=ih _ l' (by rw[List.length_drop]; omega) hl'
         rw[List.length_drop] at this
         simp only[zl]; omega
 intro s l h
 exact key s.length s l (Nat.le_refl _) h
def vl (s:List UInt8):Bool:=match bl s with
 | some l=>decide (1≤l.length∧l.length≤24)&&l.all mayM
 | none=>false
theorem nH {s:List UInt8} (hs:s.length<1000000):zb3 s=some (vl s):=by
 unfold zb3 vl
 rw[pK (by omega)]
 simp only[zb]
 have gen:∀ (l:List Int) (ok:Bool),l.length<1000000→aH (rx (l,ok,())) ((0:Int),())=some (if l.all mayM=true then .inl () else .inr false):=by
   intro l ok hl
   have:=eW (f:=rx (l,ok,())) (l:=l) (fun i=>((i:Int),())) mayM (.inl ()) (.inr false) (fun i h=>by
     unfold rx
     simp only[ae]
     rw[zp (by omega),aL h]
     simp only[zb,af5]
     cases mayM l[i] with
     | true=>simp only[Bool.not_true,cond_false,if_true]; rw[wrap64 (by omega) (by omega)]; rfl
     | false=>rfl) (by
     unfold rx
     simp only[ae]
     rw[zn (by omega)])
   exact this
 cases hr:bl s with
 | none =>
   have e:eS s []=([],false,()):=by unfold eS; rw[hr]
   rw[e,gen [] false (by simp)]
   rfl
 | some l =>
   have e:eS s []=(l,true,()):=by unfold eS; rw[hr]; rfl
   have hl:l.length≤s.length:=ac0 hr
   rw[e,gen l true (by omega)]
   cases hm:l.all mayM with
   | false =>
     simp only[Bool.false_eq_true,if_false,aS,hm,Bool.and_false]
   | true =>
     simp only[if_true,aC,cond_true,hm,Bool.and_true,ae]
     by_cases h1:(l.length:Int)≥1
     · rw[zp h1]
       congr 1
       rw[decide_eq_decide]; omega
     · rw[zn h1,zf (by omega)]
def f8 (p:Path):Int:=if p.length=0 then 8 else if p.length>8 then 9 else if p.all vl=true then 0 else 8
theorem zL {p:Path} (hs:∀ x∈p,x.length<1000000):zci p=some (f8 p):=by
 unfold zci f8
 simp only[ae]
 by_cases h1:(p.length:Int)=0
 · rw[zp h1,zp (show p.length=0 by omega)]
 rw[zn h1,zn (show ¬ p.length=0 by omega)]
 by_cases h2:(p.length:Int)>8
 · rw[zp h2,zp (show p.length>8 by omega)]
 rw[zn h2,zn (show ¬ p.length>8 by omega)]
 have:=eW (f:=wC p) (l:=p) (fun i=>((i:Int),())) vl (0:Int) 8 (fun i h=>by
   unfold wC
   simp only[ae]
   rw[zp (by omega),aL h]
   simp only[zb,nH (hs _ (zm h))]
   cases vl p[i] with
   | true=>simp only[Bool.not_true,cond_false,if_true]; rw[wrap64 (by omega) (by omega)]; rfl
   | false=>rfl) (by
   unfold wC
   simp only[ae]
   rw[zn (by omega)])
 exact this
instance decE1:DecidableEq (List Val×Int×Unit):=fun a b => @instDecidableEqProd (List Val) (Int×Unit) inferInstance inferInstance a b
instance decE2:DecidableEq (Int×List Val×Int×Unit):=fun a b => @instDecidableEqProd Int (List Val×Int×Unit) inferInstance decE1 a b
instance decE:DecidableEq Ent:=fun a b => @instDecidableEqProd Path (Int×List Val×Int×Unit) inferInstance decE2 a b
instance decC1:DecidableEq (Ent×Unit):=fun a b => @instDecidableEqProd Ent Unit decE inferInstance a b
instance decC2:DecidableEq (Ent×Ent×Unit):=fun a b => @instDecidableEqProd Ent (Ent×Unit) decE decC1 a b
theorem ite_bool {b:Bool}:(if b=true then true else false)=b:=by cases b<;>rfl
theorem afO {a b:Path} (ha:a.length<1000000):zao a b=some (decide (a=b)):=by
 unfold zao
 by_cases hl:a.length=b.length
 · rw[zt (by omega)]
   simp only[Bool.not_true,cond_false]
   have:=eD (f:=wX a b) (l:=a) (m:=b) (fun i=>((i:Int),())) (fun x y=>decide (x=y)) true false hl (fun i h h'=>by
     unfold wX
     simp only[ae]
     rw[zp (by omega),aL h,aL h']
     simp only[zb]
     cases decide (a[i]=b[i]) with
     | true=>simp only[Bool.not_true,cond_false,if_true]; rw[wrap64 (by omega) (by omega)]; rfl
     | false=>rfl) (by
     unfold wX
     simp only[ae]
     rw[zn (by omega)])
   rw[fa,ite_bool] at this
   exact this
 · rw[zf (by omega)]
   have:a≠b:=fun e=>hl (by rw[e])
   rw[zf this]; rfl
theorem uP {a b:Path} (ha:a.length<1000000):zcz a b=some (decide (a=b)):=by
 unfold zcz
 by_cases hl:a.length=b.length
 · rw[zt (by omega)]
   simp only[Bool.not_true,cond_false]
   have:=eD (f:=wr a b) (l:=a) (m:=b) (fun i=>((i:Int),())) (fun x y=>decide (x=y)) true false hl (fun i h h'=>by
     unfold wr
     simp only[ae]
     rw[zp (by omega),aL h,aL h']
     simp only[zb]
     cases decide (a[i]=b[i]) with
     | true=>simp only[Bool.not_true,cond_false,if_true]; rw[wrap64 (by omega) (by omega)]; rfl
     | false=>rfl) (by
     unfold wr
     simp only[ae]
     rw[zn (by omega)])
   rw[fa,ite_bool] at this
   exact this
 · rw[zf (by omega)]
   have:a≠b:=fun e=>hl (by rw[e])
   rw[zf this]; rfl
theorem afJ {a b:List Val} (ha:a.length<1000000):zal a b=some (decide (a=b)):=by
 unfold zal
 by_cases hl:a.length=b.length
 · rw[zt (by omega)]
   simp only[Bool.not_true,cond_false]
   have:=eD (f:=wY a b) (l:=a) (m:=b) (fun i=>((i:Int),())) (fun x y=>decide (x=y)) true false hl (fun i h h'=>by
     unfold wY
     simp only[ae]
     rw[zp (by omega),aL h,aL h']
     simp only[zb,vF]
     cases decide (a[i]=b[i]) with
     | true=>simp only[Bool.not_true,cond_false,if_true]; rw[wrap64 (by omega) (by omega)]; rfl
     | false=>rfl) (by
     unfold wY
     simp only[ae]
     rw[zn (by omega)])
   rw[fa,ite_bool] at this
   exact this
 · rw[zf (by omega)]
   have:a≠b:=fun e=>hl (by rw[e])
   rw[zf this]; rfl
theorem uO {a b:List Val} (ha:a.length<1000000):zcq a b=some (decide (a=b)):=by
 unfold zcq
 by_cases hl:a.length=b.length
 · rw[zt (by omega)]
   simp only[Bool.not_true,cond_false]
   have:=eD (f:=wu a b) (l:=a) (m:=b) (fun i=>((i:Int),())) (fun x y=>decide (x=y)) true false hl (fun i h h'=>by
     unfold wu
     simp only[ae]
     rw[zp (by omega),aL h,aL h']
     simp only[zb,vF]
     cases decide (a[i]=b[i]) with
     | true=>simp only[Bool.not_true,cond_false,if_true]; rw[wrap64 (by omega) (by omega)]; rfl
     | false=>rfl) (by
     unfold wu
     simp only[ae]
     rw[zn (by omega)])
   rw[fa,ite_bool] at this
   exact this
 · rw[zf (by omega)]
   have:a≠b:=fun e=>hl (by rw[e])
   rw[zf this]; rfl
def lowE (e:Ent):Prop:=e.1.length<1000000∧e.2.2.1.length<1000000
theorem oG {a b:Path} (ha:a.length<1000000):zdp a b=some (decide (a=b)):=by
 unfold zdp
 rw[afO ha]; rfl
theorem oe {a b:Ent} (ha:lowE a):zdh a b=some (decide (a=b)):=by
 obtain ⟨p,k,l,n,⟨⟩⟩:=a
 obtain ⟨p',k',l',n',⟨⟩⟩:=b
 unfold zdh
 simp only[oG ha.1,afJ ha.2,zb,ae]
 by_cases h1:k=k'
 · rw[zp h1]
   simp only[zb]
   by_cases h2:n=n'
   · by_cases h3:p=p'
     · by_cases h4:l=l'
       · simp[h1,h2,h3,h4]
       · simp[h1,h2,h3,h4]
     · simp[h1,h2,h3]
   · simp[h1,h2]
 · rw[zn h1]
   simp[h1]
theorem iE {l m:List Ent} (hl:l.length<1000000) (hs:∀ e∈l,lowE e):zc3 l m=some (decide (l=m)):=by
 unfold zc3
 by_cases hlen:l.length=m.length
 · rw[zt (by omega)]
   simp only[Bool.not_true,cond_false]
   have:=eD (f:=wH l m) (l:=l) (m:=m) (fun i=>((i:Int),())) (fun x y=>decide (x=y)) true false hlen (fun i h h'=>by
     unfold wH
     simp only[ae]
     rw[zp (by omega),aL h,aL h']
     have hlo:=hs _ (zm h)
     simp only[zb,uP hlo.1,uO hlo.2]
     have w1:IntKind.wrap .i64 ((i:Int)+1)=((i+1:Nat):Int):=by rw[wrap64 (by omega) (by omega)]; rfl
     rw[w1]
     generalize l[i]=x at *
     generalize m[i]=y at *
     obtain ⟨p,k,v,n,⟨⟩⟩:=x
     obtain ⟨p',k',v',n',⟨⟩⟩:=y
     simp only
     by_cases h1:k=k'
     · by_cases h2:n=n'
       · by_cases h3:p=p'
         · by_cases h4:v=v'
           · simp[h1,h2,h3,h4]
           · simp[h1,h2,h3,h4]
         · simp[h1,h2,h3]
       · simp[h1,h2]
     · simp[h1]) (by
     unfold wH
     simp only[ae]
     rw[zn (by omega)])
   rw[fa,ite_bool] at this
   exact this
 · rw[zf (by omega)]
   have:l≠m:=fun e=>hlen (by rw[e])
   rw[zf this]; rfl
def awd (e:Ent):Prop:=e.1.length≤12∧(∀ x∈e.1,x.length≤120)∧e.2.2.1.length≤400∧∀ v∈e.2.2.1,gp v=true
theorem xe {p:Path}:zby p=some (decide (p.length≤12)&&p.all fun x=>decide (x.length≤120)):=by
 unfold zby
 simp only[ae]
 by_cases h1:(p.length:Int)>12
 · rw[zp h1,zf (by omega)]; rfl
 rw[zn h1,zt (by omega),Bool.true_and]
 have:=eW (f:=wJ p) (l:=p) (fun i=>((i:Int),())) (fun x=>decide (x.length≤120)) true false (fun i h=>by
   unfold wJ
   simp only[ae]
   rw[zp (by omega),aL h]
   simp only[zb]
   by_cases h2:(p[i].length:Int)>120
   · rw[zp h2,zn (by simp; omega)]
   · rw[zn h2,zp (by simp; omega),wrap64 (by omega) (by omega)]; rfl) (by
   unfold wJ
   simp only[ae]
   rw[zn (by omega)])
 rw[ite_bool] at this
 exact this
def re:Ent:=([],0,[],0,())
def kO (x y:Ent):Bool:=decide (x=y)
theorem sub1 {A:Type}{x:A}{l:List A}:subI (x::l) 1 ((x::l).length:Int)=some l:=by
 have:=gh (l:=x::l) (i:=1) (by simp)
 simpa using this
theorem at0 {A:Type}{x:A}{l:List A}:atI (x::l) 0=some x:=by
 have:=bD (l:=x::l) (i:=0)
 simpa using this
def kg (e:Ent):Prop:=lowE e∧∀ x∈e.1,x.length<1000000
theorem rc:kg re:=⟨⟨by decide,by decide⟩,fun x hx=>by cases hx⟩
theorem bV {R X S:Type}{g:S→X→S}{fin:S→R}:∀ (l:List X) (i:Nat) (s:S),cq (fun _ x s=>.inl (g s x)) fin i l s=fin (l.foldl g s)
 | [],_,s=>rfl
 | x::l,i,s=>by simp only[cq,List.foldl_cons]; exact bV l (i+1) (g s x)
theorem ahF {n:Nat} (h:n<9000000):shrT .u64 (IntKind.wrap .u64 (IntKind.wrap .i64 (n:Int))) 1=some ((n/2:Nat):Int):=by
 rw[wrap64 (by omega) (by omega)]
 have w:IntKind.wrap .u64 (n:Int)=(n:Int):=by simp[IntKind.wrap,IntKind.bits,IntKind.signed]; omega
 rw[w]
 unfold shrT
 rw[zn (by omega)]
 have e:(2:Int) ^ min (Int.toNat 1) (IntKind.bits .u64)=2:=by decide
 rw[e,Int.fdiv_eq_ediv_of_nonneg _ (by omega)]
 congr 1
theorem fc (a b:Val):zbb a b=some (cmpV a b):=by
 unfold zbb cmpV za7 cmpT
 simp only[ju,ay3,zb]
theorem pU {a b:Val} (ha:a.2.2.1.length<1000000):zbh a b=some (cmpV a b):=by
 unfold zbh cmpV orI
 simp only[vu,acK ha,zb]
 unfold cmpI
 by_cases h1:a.1=b.1
 · simp only[h1,decide_true,Bool.not_true,cond_false]
   by_cases h2:a.2.1=b.2.1
   · simp[h2]
   · simp only[h2,decide_false,Bool.not_false,cond_true]
     by_cases h3:a.2.1<b.2.1
     · simp[h3]
     · have h4:b.2.1<a.2.1:=by omega
       simp[h3,h4]
 · simp only[h1,decide_false,Bool.not_false,cond_true]
   by_cases h3:a.1<b.1
   · simp[h3]
   · have h4:b.1<a.1:=by omega
     simp[h3,h4]
abbrev Dot1:=Int×Int×Unit
abbrev Ref1:=Dot1×Int×Unit
abbrev Op1:=Int×Path×Val×Int×List Ref1×Unit
abbrev Txn1:=Dot1×Int×Int×Bool×List Op1×Unit
abbrev aV:=Ref1×Op1×Int×Unit
abbrev nE:Ty:=.agg (.cons (.agg (.cons (.int .i64) (.cons (.int .i64) .unit))) (.cons (.int .i64) .unit))
theorem wg {K L:Type}{c:K→K→Int} (h:Cmp c) (f:L→K) (hf:∀ a b,f a=f b→a=b):Cmp fun a b=>c (f a) (f b) where
 one a b:=h.one _ _
 neg a b:=h.neg _ _
 zero a b:=⟨fun e=>hf _ _ ((h.zero _ _).1 e),fun e=>(h.zero _ _).2 (by rw[e])⟩
 trans a b d:=h.trans _ _ _
theorem o5:Cmp cmpD:=by
 have:cmpD=fun a b=>cmpB cmpI cmpI ((fun x:Dot1=>(x.1,x.2.1)) a) ((fun x:Dot1=>(x.1,x.2.1)) b):=rfl
 rw[this]
 exact wg (ng.pair ng) _ fun a b h=>by
   obtain ⟨a1,a2,⟨⟩⟩:=a; obtain ⟨b1,b2,⟨⟩⟩:=b
   simp only[Prod.mk.injEq] at h
   rw[h.1,h.2]
def cmpR (a b:Ref1):Int:=orI (cmpD a.1 b.1) (cmpI a.2.1 b.2.1)
theorem e7:Cmp cmpV:=by
 have:cmpV=fun a b=>cmpB cmpI (cmpB cmpI Lib.compareBytes) ((fun x:Val=>(x.1,x.2.1,x.2.2.1)) a) ((fun x:Val=>(x.1,x.2.1,x.2.2.1)) b):=rfl
 rw[this]
 exact wg (ng.pair (ng.pair yd)) _ fun a b h=>by
   obtain ⟨a1,a2,a3,⟨⟩⟩:=a; obtain ⟨b1,b2,b3,⟨⟩⟩:=b
   simp only[Prod.mk.injEq] at h
   rw[h.1,h.2.1,h.2.2]
theorem adW (a b:Int):zc1 a b=some (cmpI a b):=by
 unfold zc1 cmpI
 simp only[ae]
 by_cases h1:a<b
 · rw[zp h1,zp h1]
 · by_cases h2:a>b
   · rw[zn h1,zp h2,zn h1,zp h2]
   · rw[zn h1,zn h2,zn h1,zn h2]
theorem tq (a b:Int):cmpI a b=0↔a=b:=ng.zero a b
theorem pT (a b:Dot1):zbj a b=some (cmpD a b):=by
 unfold zbj cmpD orI
 simp only[adW,zb,bW]
 by_cases h:a.1=b.1
 · rw[zp h,zp ((tq _ _).2 h)]
 · rw[zn h,zn (fun e=>h ((tq _ _).1 e))]
theorem af4 (a b:Ref1):zcu a b=some (cmpR a b):=by
 unfold zcu cmpR orI
 simp only[pT,adW,zb,bW]
 by_cases h:cmpD a.1 b.1=0
 · rw[zp h,zp h]
 · rw[zn h,zn h]
theorem awG (a b:Dot1):zb2 a b=some (cmpD a b):=by
 unfold zb2
 simp only[ju,or_t,zb]
 rfl
theorem jR (d:Dot1):zb7 d=some (eT d):=by
 unfold zb7 eT
 simp only[ae]
 by_cases h1:d.1≥0<;>by_cases h2:d.1≤15<;>by_cases h3:d.2.1≥1<;>by_cases h4:d.2.1≤1048576<;>simp[h1,h2,h3,h4]<;>omega
theorem lY {A K:Type}{c:K→K→Int}{key:A→K} (hc:Cmp c):∀ {l:List A},(∀ i,(h:i+1<l.length)→c (key l[i]) (key l[i+1])<0)→cT c key l
 | [],_=>List.Pairwise.nil
 | [x],_=>List.pairwise_singleton ..
 | x::y::l,h=>by
   have ih:=lY hc (l:=y::l) (fun i hi=>h (i+1) (by simpa using hi))
   have h0:=h 0 (by simp)
   refine List.pairwise_cons.2 ⟨fun z hz => ?_,ih⟩
   rcases List.mem_cons.1 hz with e | hz'
   · subst e; exact h0
   · exact hc.trans _ _ _ h0 ((List.pairwise_cons.1 ih).1 z hz')
theorem aai (a b:Ref1):eqV nE a b=decide (a=b):=by
 obtain ⟨⟨a1,a2,⟨⟩⟩,a3,⟨⟩⟩:=a
 obtain ⟨⟨b1,b2,⟨⟩⟩,b3,⟨⟩⟩:=b
 simp only[eqV,Prod.mk.injEq,and_true]
 by_cases h1:a1=b1<;>by_cases h2:a2=b2<;>by_cases h3:a3=b3<;>simp[h1,h2,h3]
theorem ay9 (a b:Dot1):eqV (.agg (.cons (.int .i64) (.cons (.int .i64) .unit))) a b=decide (a=b):=by
 obtain ⟨a1,a2,⟨⟩⟩:=a
 obtain ⟨b1,b2,⟨⟩⟩:=b
 simp only[eqV,Prod.mk.injEq,and_true]
 by_cases h1:a1=b1<;>by_cases h2:a2=b2<;>simp[h1,h2]
def awg (x:Ref1):Bool:=eT x.1&&decide (0≤x.2.1∧x.2.1≤15)
def ac6 (l:List Ref1) (i:Nat):Bool :=
 match l[i]? with
 | some x=>awg x&&(decide (i=0)||match l[i-1]? with
   | some y=>decide (cmpR y x = -1)
   | none=>false)
 | none=>false
open Classical in
noncomputable def nG (l:List Ref1):Bool:=if (∀ i,i<l.length→ac6 l i=true) then true else false
theorem ac7 {l:List Ref1} (hl:l.length<1000000):zc5 l=some (nG l):=by
 have:=mJ (f:=wG l) l.length (fun i=>((i:Int),())) (ac6 l) true false (fun i h=>by
   unfold wG ac6 awg
   rw[zg h]
   simp only[ae]
   rw[zp (by omega),aL h]
   simp only[zb,jR]
   by_cases h0:eT l[i].1=true
   · simp only[h0,Bool.not_true,cond_false,Bool.true_and]
     by_cases h1:l[i].2.1<0
     · rw[zp h1,zf (by omega)]; rfl
     rw[zn h1]
     by_cases h2:l[i].2.1>15
     · rw[zp h2,zf (by omega)]; rfl
     rw[zn h2,zt (by omega),Bool.true_and]
     by_cases h3:i=0
     · subst h3
       rw[zn (by omega),wrap64 (by omega) (by omega)]; rfl
     · rw[zp (by omega),wrap64 (by omega) (by omega),show (i:Int)-1=((i-1:Nat):Int) by omega,aL (by omega),zg (show i-1<l.length by omega)]
       simp only[zb,af4,bW]
       by_cases h4:cmpR l[i-1] l[i] = -1
       · rw[zp h4,wrap64 (by omega) (by omega)]; simp[h3,h4]
       · rw[zn h4]; simp[h3,h4]
   · have h0:eT l[i].1=false:=by simpa using h0
     simp only[h0,Bool.not_false,cond_true,Bool.false_and]; rfl) (by
   unfold wG
   simp only[ae]
   rw[zn (by omega)])
 unfold zc5 nG
 rw[show ((0:Int),())=(((0:Nat):Int),()) from rfl,this]
def zeroV:Val:=(0,0,[],())
noncomputable def opM (o:Op1):Int :=
 if o.1<1∨5<o.1 then 18 else if f8 o.2.1≠0 then f8 o.2.1
 else if (o.1=3∨o.1=5)∧o.2.2.1≠zeroV then 2
 else if ¬ (o.1=3∨o.1=5)∧gp o.2.2.1=false then 2
 else if o.1≠3∧o.2.2.2.1≠0 then 2
 else if o.1=3∧(o.2.2.2.1=0∨o.2.2.2.1>2147483647∨o.2.2.2.1 < -2147483647) then 2
 else if (o.1=2∨o.1=3)∧0<o.2.2.2.2.1.length then 2
 else if 256<o.2.2.2.2.1.length then 7
 else if nG o.2.2.2.2.1=true then 0 else 2
def rR (o:Op1):Prop:=o.2.1.length≤12∧(∀ x∈o.2.1,x.length≤120)∧o.2.2.1.2.2.1.length≤200∧o.2.2.2.2.1.length≤300
theorem am3 {o:Op1} (h:rR o):zcc o=some (opM o):=by
 obtain ⟨s1,s2,s3,s4⟩:=h
 obtain ⟨k,p,v,n,sn,⟨⟩⟩:=o
 simp only at s1 s2 s3 s4
 unfold zcc opM
 simp only[ae,bW,vF,zL (p:=p) (fun x hx=>by have:=s2 x hx; omega),uR (v:=v) (by omega),ac7 (l:=sn) (by omega),zb]
 have ez:((0,0,[],()):Val)=zeroV:=rfl
 simp only[ez]
 by_cases a1:k<1
 · rw[zp a1,zp (.inl a1)]
 rw[zn a1]
 by_cases a2:k>5
 · rw[zp a2,zp (.inr a2)]
 rw[zn a2]
 rw[zn (show ¬ (k<1∨5<k) by omega)]
 by_cases a3:¬ f8 p=0
 · rw[zn a3,zp (show f8 p≠0 from a3)]
 have a3:f8 p=0:=Classical.not_not.1 a3
 rw[zp a3,zn (show ¬ f8 p≠0 from fun e=>e a3)]
 have hlen:((sn.length:Int)>0)↔0<sn.length:=by omega
 have hlen2:((sn.length:Int)>256)↔256<sn.length:=by omega
 simp only[hlen,hlen2]
 have last:(cond (!nG sn) (some (2:Int)) (some 0))=some (if nG sn=true then 0 else 2):=by cases nG sn<;>rfl
 by_cases k3:k=3
 · subst k3
   by_cases hz:v=zeroV
   · by_cases n0:n=0
     · simp[hz,n0]
     · by_cases n1:n>2147483647
       · simp[hz,n0,n1]
       · by_cases n2:n < -2147483647
         · simp[hz,n0,n1,n2]
         · by_cases l0:0<sn.length
           · simp[hz,n0,n1,n2,l0]
           · by_cases l2:256<sn.length
             · omega
             · simp[hz,n0,n1,n2,l0,l2,last]
   · simp[hz]
 · by_cases k5:k=5
   · subst k5
     by_cases hz:v=zeroV
     · by_cases n0:n=0
       · by_cases l2:256<sn.length
         · simp[hz,n0,l2]
         · simp[hz,n0,l2,last]
       · simp[hz,n0]
     · simp[hz]
   · cases hr:gp v with
     | false=>simp[k3,k5,hr]
     | true =>
       by_cases n0:n=0
       · by_cases k2:k=2
         · subst k2
           by_cases l0:0<sn.length
           · simp[n0,l0]
           · by_cases l2:256<sn.length
             · omega
             · simp[n0,l0,l2,last]
         · by_cases l2:256<sn.length
           · simp[k2,k3,k5,n0,l2]
           · simp[k2,k3,k5,n0,l2,last]
       · simp[k3,k5,n0]
def ka (o:Op1):Bool:=decide (o.1=0∧o.2.1=[]∧o.2.2.1=zeroV∧o.2.2.2.1=0∧o.2.2.2.2.1=[])
theorem awz (o:Op1):zcx o=some (ka o):=by
 obtain ⟨k,p,v,n,sn,⟨⟩⟩:=o
 unfold zcx ka
 simp only[ae,vF]
 have ez:((0,0,[],()):Val)=zeroV:=rfl
 simp only[ez]
 have e1:((p.length:Int)=0)↔p=[]:=by rw[show ((p.length:Int)=0)↔p.length=0 by omega,List.length_eq_zero_iff]
 have e2:((sn.length:Int)=0)↔sn=[]:=by rw[show ((sn.length:Int)=0)↔sn.length=0 by omega,List.length_eq_zero_iff]
 simp only[e1,e2]
 by_cases h1:k=0<;>by_cases h2:p=[]<;>by_cases h3:v=zeroV<;>by_cases h4:n=0<;>by_cases h5:sn=[]<;>simp[h1,h2,h3,h4,h5]
def lO (o:Op1):Bool:=decide (o.2.1.length≤12)&&(o.2.1.all fun x=>decide (x.length≤120))&&decide (o.2.2.1.2.2.1.length≤200)&&decide (o.2.2.2.2.1.length≤300)
theorem acU (o:Op1):zce o=some (lO o):=by
 unfold zce lO
 simp only[xe,zb,ae]
 cases (decide (o.2.1.length≤12)&&o.2.1.all fun x=>decide (x.length≤120)) with
 | false=>rfl
 | true =>
   rw[cond_true,Bool.true_and]
   by_cases h3:((o.2.2.1.2.2.1.length:Int)≤200)
   · rw[zp h3,zt (show o.2.2.1.2.2.1.length≤200 by omega),Bool.true_and]
     congr 1
     by_cases h4:((o.2.2.2.2.1.length:Int)≤300)
     · rw[zt h4,zt (by omega)]
     · rw[zf h4,zf (by omega)]
   · rw[zn h3,zf (show ¬ o.2.2.1.2.2.1.length≤200 by omega)]; rfl
theorem ow {o:Op1}:lO o=true↔rR o:=by
 unfold lO rR
 simp only[Bool.and_eq_true,decide_eq_true_eq,List.all_eq_true]
 exact ⟨fun h=>⟨h.1.1.1,h.1.1.2,h.1.2,h.2⟩,fun h=>⟨⟨⟨h.1,h.2.1⟩,h.2.2.1⟩,h.2.2.2⟩⟩
noncomputable def ja (t:Txn1):Bool:=decide (t.2.2.2.2.1.length≤20)&&t.2.2.2.2.1.all lO
theorem zo (t:Txn1):zb6 t=some (ja t):=by
 unfold zb6 ja
 simp only[ae]
 by_cases h1:(t.2.2.2.2.1.length:Int)>20
 · rw[zp h1,zf (by omega)]; rfl
 rw[zn h1,zt (by omega),Bool.true_and]
 have:=eW (f:=wU t) (l:=t.2.2.2.2.1) (fun i=>((i:Int),())) lO true false (fun i h=>by
   unfold wU
   simp only[ae]
   rw[zp (by omega),aL h]
   simp only[zb,acU]
   by_cases hs:lO t.2.2.2.2.1[i]=true
   · rw[hs,Bool.not_true,cond_false,zp rfl,wrap64 (by omega) (by omega)]; rfl
   · rw[zn hs,eq_false_of_ne_true hs]; rfl) (by
   unfold wU
   simp only[ae]
   rw[zn (by omega)])
 rw[ite_bool] at this
 exact this
noncomputable def opsM (thin:Bool):List Op1→Int
 | []=>0
 | o::l=>if opM o≠0∧¬ (thin=true∧ka o=true) then opM o else opsM thin l
noncomputable def txnM (t:Txn1):Int :=
 if eT t.1=false∨t.2.1<0∨7<t.2.1∨t.2.2.1<1∨1099511627776<t.2.2.1 then 2
 else if t.2.2.2.2.1.length=0 then 11 else if 16<t.2.2.2.2.1.length then 7 else opsM t.2.2.2.1 t.2.2.2.2.1
theorem ss {thin:Bool}:∀ (l:List Op1) (i:Nat),cq (S:=Unit) (fun _ o _=>if opM o≠0∧¬ (thin=true∧ka o=true) then .inr (opM o) else .inl ()) (fun _=>(0:Int)) i l ()=opsM thin l
 | [],_=>rfl
 | o::l,i=>by
   unfold cq opsM
   by_cases h:opM o≠0∧¬ (thin=true∧ka o=true)
   · rw[zp h,zp h]
   · rw[zn h,zn h]; exact ss l (i+1)
theorem ze {t:Txn1} (h:ja t=true):zb9 t=some (txnM t):=by
 unfold ja at h
 simp only[Bool.and_eq_true,decide_eq_true_eq,List.all_eq_true] at h
 obtain ⟨h1,h2⟩:=h
 have loop:=aZ (S:=Unit) (R:=Int) (f:=rv t) (l:=t.2.2.2.2.1) (fun i _=>((i:Int),())) (fun _ o _=>if opM o≠0∧¬ (t.2.2.2.1=true∧ka o=true) then .inr (opM o) else .inl ()) (fun _=>(0:Int)) (fun _ _=>True) (fun i h s _=>by
   have turn:rv t ((i:Int),())=if opM t.2.2.2.2.1[i]≠0∧¬ (t.2.2.2.1=true∧ka t.2.2.2.2.1[i]=true) then some (.inr (opM t.2.2.2.2.1[i])) else some (.inl (((i+1:Nat):Int),())):=by
     unfold rv
     simp only[ae,bW]
     rw[zp (by omega),aL h]
     simp only[zb,am3 (ow.1 (h2 _ (zm h))),awz]
     rw[wrap64 (by omega) (by omega),show (i:Int)+1=((i+1:Nat):Int) by omega]
     by_cases a:opM t.2.2.2.2.1[i]=0
     · rw[zp a,zn (fun e=>e.1 a)]
     · rw[zn a]
       cases ht:t.2.2.2.1 with
       | false=>rw[cond_false,zp ⟨a,by simp⟩]
       | true =>
         rw[cond_true]
         by_cases hg:ka t.2.2.2.2.1[i]=true
         · rw[hg,Bool.not_true,cond_false,zn (by simp)]
         · rw[eq_false_of_ne_true hg,Bool.not_false,cond_true,zp ⟨a,by simp⟩]
   by_cases hc:opM t.2.2.2.2.1[i]≠0∧¬ (t.2.2.2.1=true∧ka t.2.2.2.2.1[i]=true)
   · exact .inr ⟨_,by rw[zp hc],by rw[turn,zp hc]⟩
   · exact .inl ⟨(),by rw[zn hc],by rw[turn,zn hc],trivial⟩) (fun s _=>by
   unfold rv
   simp only[ae]
   rw[zn (by omega)]) () trivial
 rw[ss] at loop
 rw[show (((0:Nat):Int),())=((0:Int),()) from rfl] at loop
 unfold zb9 txnM
 simp only[ae,jR,zb]
 by_cases a1:eT t.1=true
 · rw[a1,Bool.not_true,cond_false]
   simp only[zb]
   by_cases a2:t.2.1<0
   · rw[zt a2,cond_true,zp (.inr (.inl a2))]
   rw[zf a2,cond_false]
   by_cases a3:t.2.1>7
   · rw[zp a3,zp (.inr (.inr (.inl a3)))]
   rw[zn a3]
   by_cases a4:t.2.2.1<1
   · rw[zp a4,zp (.inr (.inr (.inr (.inl a4))))]
   rw[zn a4]
   by_cases a5:t.2.2.1>1099511627776
   · rw[zp a5,zp (.inr (.inr (.inr (.inr a5))))]
   have nn:¬ (true=false∨t.2.1<0∨7<t.2.1∨t.2.2.1<1∨1099511627776<t.2.2.1):=by
     rintro (h | h | h | h | h)
     · cases h
     · exact a2 h
     · exact a3 h
     · exact a4 h
     · exact a5 h
   rw[zn a5,zn nn]
   by_cases a6:t.2.2.2.2.1.length=0
   · rw[zp (show (t.2.2.2.2.1.length:Int)=0 by omega),zp a6]
   rw[zn (show ¬ (t.2.2.2.2.1.length:Int)=0 by omega),zn a6]
   by_cases a7:16<t.2.2.2.2.1.length
   · rw[zp (show (t.2.2.2.2.1.length:Int)>16 by omega),zp a7]
   rw[zn (show ¬ (t.2.2.2.2.1.length:Int)>16 by omega),zn a7]
   exact loop
 · have a1:eT t.1=false:=by simpa using a1
   rw[zp (show eT t.1=false∨t.2.1<0∨7<t.2.1∨t.2.2.1<1∨1099511627776<t.2.2.1 from .inl a1),a1]
   rfl
noncomputable def oB {A:Type} (key:A→Dot1) (l:List A) (i:Nat):Bool:=match l[i]?,l[i+1]? with
 | some x,some y=>decide (cmpD (key x) (key y) = -1)
 | _,_=>true
theorem zG {A:Type}{key:A→Dot1}{l:List A} (h:∀ i,i<l.length-1→oB key l i=true):cT cmpD key l:=by
 refine lY o5 fun i hi => ?_
 have:=h i (by omega)
 unfold oB at this
 rw[zg hi,zg (show i<l.length by omega)] at this
 simp only[decide_eq_true_eq] at this
 omega
open Classical in
theorem ac4 {l:List Txn1} (hl:l.length<1000000):zb1 l=some (if (∀ i,i<l.length-1→oB (·.1) l i=true) then true else false):=by
 have:=mJ (f:=wV l) (l.length-1) (fun i=>(((i+1:Nat):Int),())) (oB (·.1) l) true false (fun i h=>by
   unfold wV oB
   rw[zg (show i<l.length by omega),zg (show i+1<l.length by omega)]
   simp only[ae,bW]
   rw[zp (by omega),wrap64 (by omega) (by omega),show ((i+1:Nat):Int)-1=(i:Int) by omega,aL (show i<l.length by omega),aL (show i+1<l.length by omega)]
   simp only[zb,pT,decide_eq_true_eq]
   rw[wrap64 (by omega) (by omega)]
   by_cases h4:cmpD l[i].1 l[i+1].1 = -1
   · rw[zp h4,zp h4]; rfl
   · rw[zn h4,zn h4]) (by
   unfold wV
   simp only[ae]
   rw[zn (by omega)])
 exact this
def oneM (x:Ref1):Bool:=eT x.1&&decide (1≤x.2.1∧x.2.1≤64)
theorem ay4 (x:Ref1):zdj x=some (oneM x):=by
 unfold zdj oneM
 simp only[jR,zb,ae]
 cases eT x.1 with
 | false=>rfl
 | true =>
   rw[cond_true,Bool.true_and]
   by_cases h1:x.2.1≥1<;>by_cases h2:x.2.1≤64<;>simp[h1,h2]<;>omega
def iL (l:List Ref1) (i:Nat):Bool:=match l[i]? with
 | some x=>oneM x&&(decide (i=0)||match l[i-1]? with
   | some y=>decide (cmpD y.1 x.1 = -1)
   | none=>false)
 | none=>false
open Classical in
theorem af1 {l:List Ref1} (hl:l.length<1000000):zbz l=some (if (∀ i,i<l.length→iL l i=true) then true else false):=by
 have:=mJ (f:=wI l) l.length (fun i=>((i:Int),())) (iL l) true false (fun i h=>by
   unfold wI iL
   rw[zg h]
   simp only[ae]
   rw[zp (by omega),aL h]
   simp only[zb,ay4]
   by_cases h0:oneM l[i]=true
   · simp only[h0,Bool.not_true,cond_false,Bool.true_and]
     by_cases h3:i=0
     · subst h3
       rw[zn (by omega),wrap64 (by omega) (by omega)]; rfl
     · rw[zp (by omega),wrap64 (by omega) (by omega),show (i:Int)-1=((i-1:Nat):Int) by omega,aL (by omega),zg (show i-1<l.length by omega)]
       simp only[zb,pT,bW]
       by_cases h4:cmpD l[i-1].1 l[i].1 = -1
       · rw[zp h4,wrap64 (by omega) (by omega)]; simp[h3,h4]
       · rw[zn h4]; simp[h3,h4]
   · have h0:oneM l[i]=false:=by simpa using h0
     simp only[h0,Bool.not_false,cond_true,Bool.false_and]; rfl) (by
   unfold wI
   simp only[ae]
   rw[zn (by omega)])
 exact this
abbrev zH (u:List Ref1):Prop:=cT cmpD (·.1) u
structure CountsOk (u:List Ref1):Prop where
 len:u.length≤100
 rise:zH u
 one:∀ x∈u,oneM x=true
theorem counts_of {l:List Ref1} (hl:l.length≤100) (h:∀ i,i<l.length→iL l i=true):CountsOk l where
 len:=hl
 rise:=lY o5 fun i hi=>by
   have:=h (i+1) hi
   unfold iL at this
   rw[zg hi,Nat.add_sub_cancel,zg (show i<l.length by omega)] at this
   simp only[Bool.and_eq_true,Bool.or_eq_true,decide_eq_true_eq] at this
   omega
 one x hx:=by
   obtain ⟨i,hi,rfl⟩:=List.mem_iff_getElem.1 hx
   have:=h i hi
   unfold iL at this
   rw[zg hi] at this
   simp only[Bool.and_eq_true] at this
   exact this.1
structure TxnOk (t:Txn1):Prop where
 len:t.2.2.2.2.1.length≤16
 pos:0<t.2.2.2.2.1.length
 ops:∀ o∈t.2.2.2.2.1,rR o∧(opM o=0∨t.2.2.2.1=true∧ka o=true)
 dot:eT t.1=true
 user:0≤t.2.1∧t.2.1≤7
 time:1≤t.2.2.1∧t.2.2.1≤1099511627776
theorem xw {thin:Bool}:∀ {l:List Op1},opsM thin l=0→∀ o∈l,opM o=0∨thin=true∧ka o=true
 | [],_,o,h=>by cases h
 | p::l,h,o,ho=>by
   unfold opsM at h
   by_cases hc:opM p≠0∧¬ (thin=true∧ka p=true)
   · rw[zp hc] at h; exact absurd h hc.1
   · rw[zn hc] at h
     rcases List.mem_cons.1 ho with e | ho
     · subst e
       by_cases h1:opM o=0
       · exact .inl h1
       · exact .inr (Classical.not_not.1 fun h2=>hc ⟨h1,h2⟩)
     · exact xw h o ho
theorem awa {t:Txn1} (h1:ja t=true) (h2:txnM t=0):TxnOk t:=by
 unfold ja at h1
 simp only[Bool.and_eq_true,decide_eq_true_eq,List.all_eq_true] at h1
 unfold txnM at h2
 by_cases a:eT t.1=false∨t.2.1<0∨7<t.2.1∨t.2.2.1<1∨1099511627776<t.2.2.1
 · rw[zp a] at h2; omega
 rw[zn a] at h2
 by_cases b:t.2.2.2.2.1.length=0
 · rw[zp b] at h2; omega
 rw[zn b] at h2
 by_cases c:16<t.2.2.2.2.1.length
 · rw[zp c] at h2; omega
 rw[zn c] at h2
 refine ⟨by omega,by omega,fun o ho=>⟨ow.1 (h1.2 o ho),xw h2 o ho⟩,?_,?_,?_⟩
 · cases hr:eT t.1 with
   | true=>rfl
   | false=>exact absurd (.inl hr) a
 · constructor
   · exact Int.not_lt.1 fun h=>a (.inr (.inl h))
   · exact Int.not_lt.1 fun h=>a (.inr (.inr (.inl h)))
 · constructor
   · exact Int.not_lt.1 fun h=>a (.inr (.inr (.inr (.inl h))))
   · exact Int.not_lt.1 fun h=>a (.inr (.inr (.inr (.inr h))))
abbrev ay2 (l:List Txn1):Prop:=cT cmpD (·.1) l
structure TxnsOk (l:List Txn1) (n:Nat):Prop where
 len:l.length≤n
 rise:ay2 l
 all:∀ t∈l,TxnOk t
open Classical in
theorem zd {l:List Txn1}{n:Nat} (hn:n<1000000):∃ b,zc9 l (n:Int)=some b∧(b=true→TxnsOk l n):=by
 unfold zc9
 simp only[ae]
 by_cases h1:(l.length:Int)>(n:Int)
 · exact ⟨false,by rw[zp h1],fun h=>by cases h⟩
 rw[zn h1,ac4 (by omega)]
 simp only[zb]
 by_cases h2:∀ i,i<l.length-1→oB (·.1) l i=true
 · rw[zp h2,Bool.not_true,cond_false]
   have:=eW (f:=wE l) (l:=l) (fun i=>((i:Int),())) (fun t=>ja t&&decide (txnM t=0)) true false (fun i h=>by
     unfold wE
     simp only[ae]
     rw[zp (by omega),aL h]
     simp only[zb,zo]
     by_cases hs:ja l[i]=true
     · simp only[hs,Bool.not_true,cond_false,ze hs,zb,Bool.true_and,bW,decide_eq_true_eq]
       by_cases hz:txnM l[i]=0
       · rw[zp hz,zp hz,wrap64 (by omega) (by omega)]; rfl
       · rw[zn hz,zn hz]
     · have hs:ja l[i]=false:=by simpa using hs
       simp only[hs,Bool.not_false,cond_true,Bool.false_and]; rfl) (by
     unfold wE
     simp only[ae]
     rw[zn (by omega)])
   rw[ite_bool] at this
   refine ⟨_,this,fun h=>⟨by omega,zG h2,fun t ht => ?_⟩⟩
   have:=List.all_eq_true.1 h t ht
   simp only[Bool.and_eq_true,decide_eq_true_eq] at this
   exact awa this.1 this.2
 · rw[zn h2]
   exact ⟨false,rfl,fun h=>by cases h⟩
theorem ti (u:List Ref1):∃ b,zc4 u=some b∧(b=true→CountsOk u):=by
 unfold zc4
 simp only[ae]
 by_cases h1:(u.length:Int)≤100
 · rw[zp h1,af1 (by omega)]
   simp only[zb]
   refine ⟨_,rfl,fun h=>counts_of (by omega) ?_⟩
   by_cases h2:∀ i,i<u.length→iL u i=true
   · exact h2
   · rw[zn h2] at h; cases h
 · exact ⟨false,by rw[zn h1],fun h=>by cases h⟩
theorem xM (l:List Txn1) (u:List Ref1):∃ b,zct l u=some b∧(b=true→TxnsOk l 20∧CountsOk u):=by
 unfold zct
 obtain ⟨b,h1,h2⟩:=zd (l:=l) (n:=20) (by omega)
 rw[show ((20:Nat):Int)=20 from rfl] at h1
 rw[h1]
 simp only[zb]
 cases b with
 | false=>exact ⟨false,rfl,fun h=>by cases h⟩
 | true =>
   obtain ⟨c,h3,h4⟩:=ti u
   rw[cond_true,h3]
   exact ⟨c,rfl,fun h=>⟨h2 rfl,h4 h⟩⟩
def getM (u:List Ref1) (d:Dot1):Int:=match u with
 | []=>0
 | x::u=>if x.1=d then x.2.1 else getM u d
abbrev loU (d:Dot1) (u:List Ref1):List Ref1:=lo cmpD (·.1) d u
abbrev hiU (d:Dot1) (u:List Ref1):List Ref1:=hi cmpD (·.1) d u
theorem sS {d:Dot1}:∀ {u:List Ref1},(∀ x∈u,x.1≠d)→getM u d=0
 | [],_=>rfl
 | x::u,h=>by
   unfold getM
   rw[zn (h x (List.mem_cons_self ..))]
   exact sS fun y hy=>h y (List.mem_cons_of_mem _ hy)
theorem xP {d:Dot1}:∀ {p q:List Ref1},(∀ x∈p,x.1≠d)→getM (p++q) d=getM q d
 | [],_,_=>rfl
 | x::p,q,h=>by
   rw[List.cons_append]
   conv=>lhs; unfold getM
   rw[zn (h x (List.mem_cons_self ..))]
   exact xP fun y hy=>h y (List.mem_cons_of_mem _ hy)
theorem xb (a b:Ref1):zbc a b=some (cmpD a.1 b.1):=by
 unfold zbc
 rw[awG]; rfl
theorem rG {u:List Ref1}{d:Ref1} (hl:u.length<1000000) (hr:zH u):∀ (k i j:Nat),j-i≤k→i≤(loU d.1 u).length→(loU d.1 u).length≤j→j≤u.length →
   aH (oc u d) ((i:Int),(j:Int),())=some (.inl (((loU d.1 u).length:Int),())):=by
 intro k
 induction k with
 | zero =>
   intro i j hk h1 h2 h3
   refine aw ?_
   unfold oc
   simp only[ae]
   rw[zn (by omega),show (loU d.1 u).length=i by omega]
 | succ k ih =>
   intro i j hk h1 h2 h3
   by_cases hij:i<j
   · have hh:(i+j)/2<u.length:=by omega
     have turn:oc u d ((i:Int),(j:Int),())=if cmpD u[(i+j)/2].1 d.1<0 then some (.inl ((((i+j)/2+1:Nat):Int),(j:Int),())) else some (.inl ((i:Int),(((i+j)/2:Nat):Int),())):=by
       unfold oc
       simp only[ae]
       rw[zp (by omega),show (i:Int)+(j:Int)=((i+j:Nat):Int) by omega,ahF (by omega)]
       simp only[zb]
       rw[wrap64 (n:=(((i+j)/2:Nat):Int)) (by omega) (by omega),aL hh]
       simp only[zb,xb]
       rw[wrap64 (by omega) (by omega)]; rfl
     by_cases hn:(i+j)/2<(loU d.1 u).length
     · rw[zp (an2 hh hn)] at turn
       rw[aD turn]
       exact ih _ _ (by omega) (by omega) h2 h3
     · have:=an3 o5 hr hh (k:=d.1) (Nat.le_of_not_lt hn)
       rw[zn (by omega)] at turn
       rw[aD turn]
       exact ih _ _ (by omega) h1 (by omega) (by omega)
   · refine aw ?_
     unfold oc
     simp only[ae]
     rw[zn (by omega),show (loU d.1 u).length=i by omega]
theorem vJ {a b:Dot1} (h:cmpD a b≠0):a≠b:=fun e=>h ((o5.zero _ _).2 e)
def awy (q:List Ref1) (d:Dot1):Bool:=match q with
 | []=>false
 | x::_=>decide (cmpD x.1 d=0)
theorem acH {u:List Ref1}{d:Ref1} (hl:u.length<1000000) (hr:zH u) :
   zac u d ()=some (((loU d.1 u).length:Int),awy (hiU d.1 u) d.1,()):=by
 have e2:loU d.1 u++hiU d.1 u=u:=lohi
 have hlen:(loU d.1 u).length+(hiU d.1 u).length=u.length:=by rw[← List.length_append,e2]
 unfold zac
 have:=rG (d:=d) hl hr u.length 0 u.length (by omega) (by omega) (by omega) (by omega)
 rw[show ((0:Int),(u.length:Int),())=(((0:Nat):Int),(u.length:Int),()) from rfl,this,aC]
 simp only[ae]
 cases hq:hiU d.1 u with
 | nil =>
   rw[hq] at hlen
   simp only[List.length_nil] at hlen
   rw[zn (by omega)]; rfl
 | cons x q =>
   rw[hq] at hlen e2
   simp only[zl] at hlen
   rw[zp (by omega),bD]
   have e3:u[(loU d.1 u).length]? = some x:=by
     have:(loU d.1 u++x::q)[(loU d.1 u).length]? = some x:=by simp
     rw[e2] at this
     exact this
   rw[e3]
   simp only[zb,xb]
   rfl
theorem aws {u:List Ref1}{d:Dot1}{x:Ref1} (hx:x∈loU d u):x.1≠d:=by
 have h:=kZ (c:=cmpD) (key:=fun y:Ref1=>y.1) (k:=d) (l:=u) x hx
 exact vJ (fun e=>by rw[e] at h; omega)
theorem zk {u:List Ref1}{d:Dot1} (hl:u.length<1000000) (hr:zH u):zdk u d=some (getM u d):=by
 have e2:loU d u++hiU d u=u:=lohi
 have hlo:∀ x∈loU d u,x.1≠d:=fun x hx=>aws hx
 unfold zdk zdu
 rw[acH (d:=(d,0,())) hl hr]
 simp only[zb]
 have hg:getM u d=getM (hiU d u) d:=by
   conv=>lhs; rw[← e2]
   exact xP hlo
 rw[hg]
 cases hq:hiU d u with
 | nil=>rfl
 | cons x q =>
   have hab:=qz o5 hr hq
   unfold awy
   simp only[ae]
   by_cases h0:cmpD x.1 d=0
   · rw[zp h0,bD]
     have e3:u[(loU d u).length]? = some x:=by
       have:(loU d u++x::q)[(loU d u).length]? = some x:=by simp
       rw[← hq,e2] at this
       exact this
     rw[e3]
     simp only[zb]
     unfold getM
     rw[zp ((o5.zero _ _).1 h0)]
   · rw[zn h0,sS]
     intro y hy
     rcases List.mem_cons.1 hy with e | hy
     · subst e; exact vJ h0
     · exact vJ (by have:=hab.2 y hy; omega)
theorem af6 {u:List Ref1}{d:Dot1} (hl:u.length<1000000):zdi u d=some (getM u d):=by
 have:=aZ (S:=Unit) (R:=Int) (f:=rf u d) (l:=u) (fun i _=>((i:Int),())) (fun _ x _=>if x.1=d then .inr x.2.1 else .inl ()) (fun _=>(0:Int)) (fun _ _=>True) (fun i h s _=>by
   have turn:rf u d ((i:Int),())=if u[i].1=d then some (.inr u[i].2.1) else some (.inl (((i+1:Nat):Int),())):=by
     unfold rf
     simp only[ae,ay9]
     rw[zp (by omega),aL h]
     simp only[zb]
     rw[wrap64 (by omega) (by omega)]; rfl
   by_cases hc:u[i].1=d
   · exact .inr ⟨_,by rw[zp hc],by rw[turn,zp hc]⟩
   · exact .inl ⟨(),by rw[zn hc],by rw[turn,zn hc],trivial⟩) (fun s _=>by
   unfold rf
   simp only[ae]
   rw[zn (by omega)]) () trivial
 have gen:∀ (l:List Ref1) (i:Nat),cq (S:=Unit) (R:=Int) (fun _ x _=>if x.1=d then .inr x.2.1 else .inl ()) (fun _=>(0:Int)) i l ()=getM l d:=by
   intro l
   induction l with
   | nil=>intro i; rfl
   | cons x l ih =>
     intro i
     unfold cq getM
     by_cases hc:x.1=d
     · rw[zp hc,zp hc]
     · rw[zn hc,zn hc]; exact ih (i+1)
 rw[gen] at this
 exact this
def fe (u:List Ref1) (d:Dot1):Bool:=match remT (getM u d) 2 with
 | some x=>decide (x=0)
 | none=>false
theorem rem2 (a:Int):∃ x,remT a 2=some x:=⟨_,by unfold remT; rw[zn (by omega)]⟩
theorem lM {u:List Ref1}{d:Dot1} (hl:u.length<1000000) (hr:zH u):zcs u d=some (fe u d):=by
 unfold zcs fe
 rw[zk hl hr]
 obtain ⟨x,hx⟩:=rem2 (getM u d)
 simp only[zb,hx]
theorem lZ {u:List Ref1}{d:Dot1} (hl:u.length<1000000):zdd u d=some (fe u d):=by
 unfold zdd fe
 rw[af6 hl]
 obtain ⟨x,hx⟩:=rem2 (getM u d)
 simp only[zb,hx]
theorem xU {x y:Ref1}{v:Bool}:∀ {m:List (Ref1×Bool)},kd nE x (putK nE y v m)=if x=y then some v else kd nE x m
 | []=>by
   unfold putK kd
   rw[aai,ae]
   unfold kd
   rfl
 | e::m=>by
   unfold putK
   rw[aai]
   by_cases hy:y=e.1
   · rw[zt hy,cond_true]
     conv=>lhs; unfold kd
     conv=>rhs; rhs; unfold kd
     rw[aai,aai,ae,ae,← hy]
     by_cases hx:x=y
     · rw[zp hx,zp hx]
     · rw[zn hx,zn hx,zn hx]
   · rw[zf hy,cond_false]
     conv=>lhs; unfold kd
     conv=>rhs; rhs; unfold kd
     rw[aai,ae,ae,xU]
     by_cases hx:x=e.1
     · rw[zp hx,zn (fun e'=>hy (by rw[← e',hx])),zp hx]
     · rw[zn hx,zn hx]
def hasK (x:Ref1) (m:List (Ref1×Bool)):Bool:=(getK nE false x m).1
theorem anA {x y:Ref1}{m:List (Ref1×Bool)}:hasK x (putK nE y true m)=(decide (x=y)||hasK x m):=by
 unfold hasK getK
 rw[xU]
 by_cases h:x=y
 · rw[zp h,zt h]; rfl
 · rw[zn h,zf h,Bool.false_or]
def sk (m:List (Ref1×Bool)) (l:List Ref1):List (Ref1×Bool):=l.foldl (fun m x=>putK nE x true m) m
theorem ad1 {x:Ref1}:∀ {l:List Ref1}{m:List (Ref1×Bool)},hasK x (sk m l)=(l.any (fun y=>decide (x=y))||hasK x m)
 | [],m=>rfl
 | y::l,m=>by
   have:=ad1 (x:=x) (l:=l) (m:=putK nE y true m)
   unfold sk at this ⊢
   rw[List.foldl_cons,this,anA,List.any_cons]
   cases decide (x=y)<;>cases l.any (fun y=>decide (x=y))<;>rfl
def jt (o:Op1) (x:Ref1):Bool:=o.2.2.2.2.1.any fun y=>decide (x=y)
def covT (m:List (Ref1×Bool)) (l:List Op1):List (Ref1×Bool):=l.foldl (fun m o=>sk m o.2.2.2.2.1) m
theorem xI {x:Ref1}:∀ {l:List Op1}{m:List (Ref1×Bool)},hasK x (covT m l)=(l.any (fun o=>jt o x)||hasK x m)
 | [],m=>rfl
 | o::l,m=>by
   have:=xI (x:=x) (l:=l) (m:=sk m o.2.2.2.2.1)
   unfold covT at this ⊢
   rw[List.foldl_cons,this,ad1,List.any_cons]
   unfold jt
   cases o.2.2.2.2.1.any (fun y=>decide (x=y))<;>cases l.any (fun o=>o.2.2.2.2.1.any fun y=>decide (x=y))<;>rfl
def covL (u:List Ref1) (m:List (Ref1×Bool)) (l:List Txn1):List (Ref1×Bool):=l.foldl (fun m t=>if fe u t.1=true then covT m t.2.2.2.2.1 else m) m
def covM (l:List Txn1) (u:List Ref1) (x:Ref1):Bool:=l.any fun t=>fe u t.1&&t.2.2.2.2.1.any fun o=>jt o x
theorem xJ {x:Ref1}{u:List Ref1}:∀ {l:List Txn1}{m:List (Ref1×Bool)},hasK x (covL u m l)=(covM l u x||hasK x m)
 | [],m=>rfl
 | t::l,m=>by
   have:=xJ (x:=x) (u:=u) (l:=l) (m:=if fe u t.1=true then covT m t.2.2.2.2.1 else m)
   unfold covL at this ⊢
   rw[List.foldl_cons,this]
   unfold covM
   rw[List.any_cons]
   by_cases hs:fe u t.1=true
   · rw[zp hs,xI,hs,Bool.true_and]
     cases t.2.2.2.2.1.any (fun o=>jt o x)<;>cases l.any (fun t=>fe u t.1&&t.2.2.2.2.1.any fun o=>jt o x)<;>rfl
   · rw[zn hs,eq_false_of_ne_true hs,Bool.false_and,Bool.false_or]
structure Low (l:List Txn1):Prop where
 len:l.length≤1000
 ops:∀ t∈l,t.2.2.2.2.1.length≤1000
 seen:∀ t∈l,∀ o∈t.2.2.2.2.1,o.2.2.2.2.1.length<1000000
structure LowU (u:List Ref1):Prop where
 len:u.length<1000000
 rise:zH u
theorem aeu {l:List Txn1}{u:List Ref1} (hl:Low l) (hu:LowU u):zbq l u=some (covL u [] l):=by
 have nK:=aZ (S:=List (Ref1×Bool)) (f:=wO l u) (l:=l) (fun i m=>((i:Int),m,())) (fun _ t m=>.inl (if fe u t.1=true then covT m t.2.2.2.2.1 else m)) (fun m=>m) (fun _ _=>True) (fun i h m _=>by
   refine .inl ⟨_,rfl,?_,trivial⟩
   have hi:=hl.len
   unfold wO
   simp only[ae]
   rw[zp (by omega),aL h]
   simp only[zb,lM hu.len hu.rise]
   have hops:=hl.ops _ (zm h)
   by_cases hs:fe u l[i].1=true
   · rw[hs,Bool.not_true,cond_false,zp rfl]
     have mid:=aZ (S:=List (Ref1×Bool)) (f:=wN ((i:Int),m,()) l[i]) (l:=l[i].2.2.2.2.1) (fun k m=>((k:Int),m,())) (fun _ o m=>.inl (sk m o.2.2.2.2.1)) (fun m'=>(.inl (((i+1:Nat):Int),m',()):(Int×List (Ref1×Bool)×Unit)⊕List (Ref1×Bool))) (fun _ _=>True) (fun k hk m' _=>by
       refine .inl ⟨_,rfl,?_,trivial⟩
       have hseen:=hl.seen _ (zm h) _ (zm hk)
       unfold wN
       simp only[ae]
       rw[zp (by omega),aL hk]
       simp only[zb]
       have mQ:=aZ (S:=List (Ref1×Bool)) (f:=pw ((k:Int),m',()) l[i].2.2.2.2.1[k]) (l:=l[i].2.2.2.2.1[k].2.2.2.2.1) (fun j m=>((j:Int),m,())) (fun _ x m=>.inl (putK nE x true m)) (fun m''=>(.inl (((k+1:Nat):Int),m'',()):(Int×List (Ref1×Bool)×Unit)⊕((Int×List (Ref1×Bool)×Unit)⊕List (Ref1×Bool)))) (fun _ _=>True) (fun j hj m'' _=>by
         refine .inl ⟨_,rfl,?_,trivial⟩
         unfold pw
         simp only[ae]
         rw[zp (by omega),aL hj]
         simp only[zb]
         rw[wrap64 (by omega) (by omega)]; rfl) (fun m'' _=>by
         unfold pw
         simp only[ae]
         rw[zn (by omega),wrap64 (by omega) (by omega)]; rfl) m' trivial
       rw[show ((0:Int),m',())=(((0:Nat):Int),m',()) from rfl,mQ,bV]
       rfl) (fun m' _=>by
       unfold wN
       simp only[ae]
       rw[zn (by omega),wrap64 (by omega) (by omega)]; rfl) m trivial
     rw[show ((0:Int),m,())=(((0:Nat):Int),m,()) from rfl,mid,bV]
     rfl
   · rw[zn hs,eq_false_of_ne_true hs,Bool.not_false,cond_true,wrap64 (by omega) (by omega)]; rfl) (fun m _=>by
   unfold wO
   simp only[ae]
   rw[zn (by omega)]) [] trivial
 unfold zbq
 rw[show ((0:Int),([]:List (Ref1×Bool)),())=(((0:Nat):Int),[],()) from rfl,nK,bV]
 rfl
def fj (k:Int):Bool:=decide (1≤k∧k≤3)
def jk (p:Ref1→Bool) (t:Txn1) (k:Nat) (o:Op1):List aV:=if fj o.1=true∧p (t.1,(k:Int),())=false then [((t.1,(k:Int),()),o,t.2.2.1,())] else []
def gz (p:Ref1→Bool) (t:Txn1):Nat→List Op1→List aV
 | _,[]=>[]
 | k,o::l=>jk p t k o++gz p t (k+1) l
def allM (l:List Txn1) (u:List Ref1):List aV:=l.flatMap fun t=>if fe u t.1=true then gz (covM l u) t 0 t.2.2.2.2.1 else []
theorem j6 {p:Ref1→Bool}{t:Txn1}{k:Nat}{o:Op1}:(jk p t k o).length≤1:=by
 unfold jk; split<;>simp
theorem jj {p:Ref1→Bool}{t:Txn1}:∀ {l:List Op1}{k:Nat},(gz p t k l).length≤l.length
 | [],_=>Nat.le_refl _
 | o::l,k=>by
   have:=jj (p:=p) (t:=t) (l:=l) (k:=k+1)
   have:=j6 (p:=p) (t:=t) (k:=k) (o:=o)
   unfold gz
   rw[List.length_append,zl]; omega
theorem j5 {R:Type}{p:Ref1→Bool}{t:Txn1}{fin:List aV→R}:∀ (l:List Op1) (k:Nat) (o:List aV),cq (fun k x o=>.inl (o++jk p t k x)) fin k l o=fin (o++gz p t k l)
 | [],k,o=>by simp[cq,gz]
 | x::l,k,o=>by
   unfold cq gz
   simp only
   rw[j5 l (k+1),List.append_assoc]
theorem mW {A B R:Type}{g:A→List B}{fin:List B→R}:∀ (l:List A) (i:Nat) (o:List B),cq (fun _ x o=>.inl (o++g x)) fin i l o=fin (o++l.flatMap g)
 | [],i,o=>by simp[cq]
 | x::l,i,o=>by
   unfold cq
   simp only
   rw[mW l (i+1),List.flatMap_cons,List.append_assoc]
theorem an5 {l:List Txn1}{u:List Ref1} (hl:Low l) (hu:LowU u):zdt l u=some (allM l u):=by
 unfold zdt
 rw[aeu hl hu,zb]
 have hp:(fun x=>hasK x (covL u [] l))=covM l u:=by
   funext x
   rw[xJ]
   exact Bool.or_false _
 generalize hm:covL u [] l=m at hp ⊢
 have nK:=aZ (S:=List aV) (f:=wj l u) (l:=l) (fun i o=>((i:Int),m,o,())) (fun _ t o=>.inl (o++if fe u t.1=true then gz (covM l u) t 0 t.2.2.2.2.1 else [])) (fun o=>o) (fun i o=>o.length≤i*1000) (fun i h o ho=>by
   have hi:=hl.len
   have hops:=hl.ops _ (zm h)
   refine .inl ⟨_,rfl,?_,?_⟩
   · unfold wj
     simp only[ae]
     rw[zp (by omega),aL h]
     simp only[zb,lM hu.len hu.rise]
     by_cases hs:fe u l[i].1=true
     · rw[hs,Bool.not_true,cond_false,zp rfl]
       have mQ:=aZ (S:=List aV) (f:=wi ((i:Int),m,o,()) l[i]) (l:=l[i].2.2.2.2.1) (fun k o=>((k:Int),m,o,l[i],())) (fun k x o=>.inl (o++jk (covM l u) l[i] k x)) (fun o'=>(.inl (((i+1:Nat):Int),m,o',()):(Int×List (Ref1×Bool)×List aV×Unit)⊕List aV)) (fun k o'=>o'.length≤i*1000+k) (fun k hk o' ho'=>by
         refine .inl ⟨_,rfl,?_,?_⟩
         · have hget:(getK nE false (l[i].1,(k:Int),()) m).1=covM l u (l[i].1,(k:Int),()):=by rw[← hp]; rfl
           unfold wi jk
           simp only[ae]
           rw[zp (by omega),aL hk]
           simp only[zb]
           have hget:(getK (.agg (.cons (.agg (.cons (.int .i64) (.cons (.int .i64) .unit))) (.cons (.int .i64) .unit))) false (l[i].1,(k:Int),()) m).1=covM l u (l[i].1,(k:Int),()):=hget
           rw[hget,wrap64 (by omega) (by omega),aY (by simp; omega)]
           simp only[zb]
           have hk':fj l[i].2.2.2.2.1[k].1=true↔(l[i].2.2.2.2.1[k].1=1∨l[i].2.2.2.2.1[k].1=2∨l[i].2.2.2.2.1[k].1=3):=by unfold fj; simp only[decide_eq_true_eq]; omega
           by_cases hc:covM l u (l[i].1,(k:Int),())=true
           · rw[hc]
             simp only[Bool.not_true,cond_false,Bool.true_eq_false,and_false,if_false,List.append_nil]
             split
             · rfl
             · split
               · rfl
               · split<;>rfl
           · rw[eq_false_of_ne_true hc]
             simp only[Bool.not_false,cond_true,and_true]
             by_cases h1:l[i].2.2.2.2.1[k].1=1
             · rw[zp h1,zp (hk'.2 (.inl h1))]; rfl
             · by_cases h2:l[i].2.2.2.2.1[k].1=2
               · rw[zn h1,zp h2,zp (hk'.2 (.inr (.inl h2)))]; rfl
               · by_cases h3:l[i].2.2.2.2.1[k].1=3
                 · rw[zn h1,zn h2,zp h3,zp (hk'.2 (.inr (.inr h3)))]; rfl
                 · rw[zn h1,zn h2,zn h3,zn (fun e=>by rcases hk'.1 e with e | e | e; exact h1 e; exact h2 e; exact h3 e),List.append_nil]; rfl
         · have:=j6 (p:=covM l u) (t:=l[i]) (k:=k) (o:=l[i].2.2.2.2.1[k])
           rw[List.length_append]; omega) (fun o' ho'=>by
         unfold wi
         simp only[ae]
         rw[zn (by omega),wrap64 (by omega) (by omega)]; rfl) o (by omega)
       rw[show ((0:Int),m,o,l[i],())=(((0:Nat):Int),m,o,l[i],()) from rfl,mQ,j5]
     · rw[zn hs,eq_false_of_ne_true hs,Bool.not_false,cond_true,wrap64 (by omega) (by omega),List.append_nil]; rfl
   · have:=jj (p:=covM l u) (t:=l[i]) (l:=l[i].2.2.2.2.1) (k:=0)
     rw[List.length_append,Nat.succ_mul]
     split
     · omega
     · simp; omega) (fun o _=>by
   unfold wj
   simp only[ae]
   rw[zn (by omega)]) [] (by simp)
 rw[show ((0:Int),m,([]:List aV),())=(((0:Nat):Int),m,[],()) from rfl,nK,mW]
 rfl
theorem adz {A:Type}{q:A→Bool}:∀ {l:List A}{R:Type}{yes no:R},(if l.all (fun x => !q x)=true then no else yes)=if l.any q=true then yes else no
 | [],_,_,_=>rfl
 | x::l,R,yes,no=>by
   rw[List.all_cons,List.any_cons]
   cases q x with
   | true=>rfl
   | false =>
     rw[Bool.not_false,Bool.true_and,Bool.false_or]
     exact adz (l:=l)
theorem qi {A R X:Type}{f:A→Option (A⊕R)}{l:List X} (enc:Nat→A) (q:X→Bool) (yes no:R)
   (hturn:∀ (i:Nat) (h:i<l.length),f (enc i)=some (if q l[i]=true then .inr yes else .inl (enc (i+1)))) (hend:f (enc l.length)=some (.inr no)):aH f (enc 0)=some (if l.any q=true then yes else no):=by
 have:=eW (f:=f) (l:=l) enc (fun x => !q x) no yes (fun i h=>by
   rw[hturn i h]
   cases q l[i]<;>rfl) hend
 rw[this,adz]
theorem agQ {o:Op1}{x:Ref1} (ho:o.2.2.2.2.1.length<1000000):zbo o x=some (jt o x):=by
 have:=qi (f:=wP o x) (l:=o.2.2.2.2.1) (fun i=>((i:Int),())) (fun y=>decide (x=y)) true false (fun i h=>by
   unfold wP
   simp only[ae]
   rw[zp (by omega),aL h]
   simp only[zb]
   have e:eqV (.agg (.cons (.agg (.cons (.int .i64) (.cons (.int .i64) .unit))) (.cons (.int .i64) .unit))) o.2.2.2.2.1[i] x=decide (o.2.2.2.2.1[i]=x):=aai _ _
   rw[e,ae,wrap64 (by omega) (by omega)]
   by_cases hx:o.2.2.2.2.1[i]=x
   · rw[zp hx,zp (by rw[hx]; simp)]
   · rw[zn hx,zn (by simpa using fun e=>hx e.symm)]; rfl) (by
   unfold wP
   simp only[ae]
   rw[zn (by omega)])
 rw[ite_bool] at this
 exact this
theorem sg {l:List Txn1}{u:List Ref1}{x:Ref1} (hl:Low l) (hu:LowU u):zbe l u x=some (covM l u x):=by
 have nK:=qi (f:=wT l u x) (l:=l) (fun i=>((i:Int),())) (fun t=>t.2.2.2.2.1.any fun o=>jt o x&&fe u t.1) true false (fun i h=>by
   have hi:=hl.len
   have hops:=hl.ops _ (zm h)
   have mQ:=qi (f:=wS ((i:Int),()) l u x) (l:=l[i].2.2.2.2.1) (fun k=>((k:Int),())) (fun o=>jt o x&&fe u l[i].1) (.inr true:(Int×Unit)⊕Bool) (.inl (((i+1:Nat):Int),())) (fun k hk=>by
     have hseen:=hl.seen _ (zm h) _ (zm hk)
     unfold wS
     simp only[ae]
     rw[aL h]
     simp only[zb]
     rw[zp (by omega),aL hk]
     simp only[zb,agQ hseen,lZ hu.len]
     rw[wrap64 (by omega) (by omega)]
     by_cases hc:jt l[i].2.2.2.2.1[k] x=true
     · rw[hc,cond_true,Bool.true_and]
       by_cases hs:fe u l[i].1=true
       · rw[zp hs,hs]; rfl
       · rw[zn hs,eq_false_of_ne_true hs]; rfl
     · rw[eq_false_of_ne_true hc]; rfl) (by
     unfold wS
     simp only[ae]
     rw[aL h]
     simp only[zb]
     rw[zn (by omega),wrap64 (by omega) (by omega)]; rfl)
   unfold wT
   simp only[ae]
   rw[zp (by omega),show ((0:Int),())=(((0:Nat):Int),()) from rfl,mQ]
   ) (by
   unfold wT
   simp only[ae]
   rw[zn (by omega)])
 rw[ite_bool] at nK
 unfold zbe covM
 rw[show ((0:Int),())=(((0:Nat):Int),()) from rfl,nK]
 congr 2
 funext t
 cases fe u t.1 with
 | true=>simp
 | false=>simp
theorem af9 {l:List Txn1}{u:List Ref1} (hl:Low l) (hu:LowU u):zdo l u=some (allM l u):=by
 have nK:=aZ (S:=List aV) (f:=wl l u) (l:=l) (fun i o=>((i:Int),o,())) (fun _ t o=>.inl (o++if fe u t.1=true then gz (covM l u) t 0 t.2.2.2.2.1 else [])) (fun o=>o) (fun i o=>o.length≤i*1000) (fun i h o ho=>by
   have hi:=hl.len
   have hops:=hl.ops _ (zm h)
   refine .inl ⟨_,rfl,?_,?_⟩
   · unfold wl
     simp only[ae]
     rw[zp (by omega)]
     have fin:∀ o':List aV,lk ((i:Int),o,()) l u ((l[i].2.2.2.2.1.length:Int),o',())=some (.inr (.inl (((i+1:Nat):Int),o',()))):=fun o'=>by
       unfold lk
       simp only[ae]
       rw[aL h]
       simp only[zb]
       rw[zn (by omega),wrap64 (by omega) (by omega)]; rfl
     by_cases hs:fe u l[i].1=true
     · rw[zp hs]
       have mQ:=aZ (S:=List aV) (f:=lk ((i:Int),o,()) l u) (l:=l[i].2.2.2.2.1) (fun k o=>((k:Int),o,())) (fun k x o=>.inl (o++jk (covM l u) l[i] k x)) (fun o'=>(.inl (((i+1:Nat):Int),o',()):(Int×List aV×Unit)⊕List aV)) (fun k o'=>o'.length≤i*1000+k) (fun k hk o' ho'=>by
         refine .inl ⟨_,rfl,?_,?_⟩
         · unfold lk jk fj
           simp only[ae]
           rw[aL h]
           simp only[zb]
           rw[zp (by omega),aL hk]
           simp only[zb,lZ hu.len,hs,sg hl hu,cond_true]
           rw[wrap64 (by omega) (by omega)]
           by_cases h1:l[i].2.2.2.2.1[k].1≥1
           · rw[zp h1]
             simp only[zb,ae]
             rw[aY (by simp; omega)]
             by_cases h3:l[i].2.2.2.2.1[k].1≤3
             · rw[zp h3]
               by_cases hc:covM l u (l[i].1,(k:Int),())=true
               · rw[hc]
                 simp only[Bool.not_true,cond_false,Bool.true_eq_false,and_false,if_false,List.append_nil]; rfl
               · rw[eq_false_of_ne_true hc]
                 simp only[Bool.not_false,cond_true,and_true]
                 rw[zp (by simp only[decide_eq_true_eq]; omega)]; rfl
             · rw[zn h3,zn (fun e=>h3 (by have:=e.1; simp only[decide_eq_true_eq] at this; omega)),List.append_nil]; rfl
           · rw[zn h1,zn (fun e=>h1 (by have:=e.1; simp only[decide_eq_true_eq] at this; omega)),List.append_nil]; rfl
         · have:=j6 (p:=covM l u) (t:=l[i]) (k:=k) (o:=l[i].2.2.2.2.1[k])
           rw[List.length_append]; omega) (fun o' ho'=>fin o') o (by omega)
       rw[show ((0:Int),o,())=(((0:Nat):Int),o,()) from rfl,mQ,j5]
     · rw[zn hs,List.append_nil]
       have mQ:=aZ (S:=List aV) (f:=lk ((i:Int),o,()) l u) (l:=l[i].2.2.2.2.1) (fun k o=>((k:Int),o,())) (fun k x o=>.inl o) (fun o'=>(.inl (((i+1:Nat):Int),o',()):(Int×List aV×Unit)⊕List aV)) (fun k o'=>True) (fun k hk o' _=>by
         refine .inl ⟨_,rfl,?_,trivial⟩
         unfold lk
         simp only[ae]
         rw[aL h]
         simp only[zb]
         rw[zp (by omega),aL hk]
         simp only[zb,lZ hu.len,eq_false_of_ne_true hs,cond_false]
         rw[wrap64 (by omega) (by omega)]
         split
         · simp only[zb,ae]
           split<;>rfl
         · rfl) (fun o' _=>fin o') o trivial
       rw[show ((0:Int),o,())=(((0:Nat):Int),o,()) from rfl,mQ,bV]
       congr 2
       have:∀ (l:List Op1) (s:List aV),l.foldl (fun s _=>s) s=s:=by
         intro l
         induction l with
         | nil=>intro s; rfl
         | cons x l ih=>intro s; exact ih s
       rw[this]
   · have:=jj (p:=covM l u) (t:=l[i]) (l:=l[i].2.2.2.2.1) (k:=0)
     rw[List.length_append,Nat.succ_mul]
     split
     · omega
     · simp; omega) (fun o _=>by
   unfold wl
   simp only[ae]
   rw[zn (by omega)]) [] (by simp)
 unfold zdo
 rw[show ((0:Int),([]:List aV),())=(((0:Nat):Int),[],()) from rfl,nK,mW]
 rfl
def ji (k:Int):Int:=if k=1 then 1 else if k=2∨k=4 then 2 else if k=3 then 3 else 0
theorem xx (k:Int):zdx k=some (ji k):=by
 unfold zdx ji
 simp only[ae]
 by_cases h1:k=1
 · rw[zp h1,zp h1]
 · by_cases h2:k=2
   · subst h2; rfl
   · by_cases h4:k=4
     · subst h4; rfl
     · by_cases h3:k=3
       · subst h3; rfl
       · simp[h1,h2,h3,h4]
theorem md (k:Int):zcy k=some (ji k):=by
 unfold zcy ji
 simp only[ae]
 by_cases h1:k=1
 · rw[zp h1,zp h1]
 · by_cases h2:k=2
   · subst h2; rfl
   · by_cases h4:k=4
     · subst h4; rfl
     · by_cases h3:k=3
       · subst h3; rfl
       · simp[h1,h2,h3,h4]
def isAt (p:Path) (leaf:Int) (x:aV):Bool:=decide (ji x.2.1.1=leaf)&&decide (x.2.1.2.1=p)
def atM (l:List aV) (p:Path) (leaf:Int):List aV:=l.filter (isAt p leaf)
theorem hX {A:Type}{q:A→Bool}:∀ {l:List A},(l.flatMap fun x=>if q x=true then [x] else [])=l.filter q
 | []=>rfl
 | x::l=>by
   rw[List.flatMap_cons,hX,List.filter_cons]
   split<;>rfl
structure LowI (l:List aV):Prop where
 len:l.length<1000000
 path:∀ x∈l,x.2.1.2.1.length<1000000∧∀ s∈x.2.1.2.1,s.length<1000000
theorem aet (a b:Path):cmpP a b=0↔a=b:=(Cmp.list yd).zero a b
theorem at_t {l:List aV}{p:Path}{leaf:Int} (hl:LowI l):zdv l p leaf=some (atM l p leaf):=by
 have hlen:=hl.len
 have:=eV (f:=wh l p leaf) (l:=l) (fun i o=>((i:Int),o,())) (fun x=>if isAt p leaf x=true then [x] else []) (fun o=>o) 1 (fun x _=>by split<;>simp) (fun i h o ho=>by
   have hp:=(hl.path _ (zm h)).1
   unfold wh isAt
   simp only[ae]
   rw[zp (by omega),aL h]
   simp only[zb,xx,oG hp]
   rw[wrap64 (by omega) (by omega),aY (by simp; omega)]
   simp only[zb,ae]
   by_cases h1:ji l[i].2.1.1=leaf
   · rw[zp h1,zt h1,Bool.true_and]
     by_cases h2:l[i].2.1.2.1=p
     · rw[zp h2,zt h2]; rfl
     · rw[zn h2,zf h2]; simp
   · rw[zn h1,zf h1]; simp) (fun o _=>by
   unfold wh
   simp only[ae]
   rw[zn (by omega)])
 unfold zdv atM
 rw[show ((0:Int),([]:List aV),())=(((0:Nat):Int),[],()) from rfl,this,hX]
theorem uV {l:List aV}{p:Path}{leaf:Int} (hl:LowI l):zds l p leaf=some (atM l p leaf):=by
 have hlen:=hl.len
 have:=eV (f:=wk l p leaf) (l:=l) (fun i o=>((i:Int),o,())) (fun x=>if isAt p leaf x=true then [x] else []) (fun o=>o) 1 (fun x _=>by split<;>simp) (fun i h o ho=>by
   have hp:=hl.path _ (zm h)
   unfold wk isAt
   simp only[ae]
   rw[zp (by omega),aL h]
   simp only[zb,md,d5 hp.1 hp.2]
   rw[wrap64 (by omega) (by omega),aY (by simp; omega)]
   simp only[zb,ae]
   by_cases h1:ji l[i].2.1.1=leaf
   · rw[zp h1,zt h1,Bool.true_and]
     by_cases h2:l[i].2.1.2.1=p
     · rw[zp ((aet _ _).2 h2),zt h2]; rfl
     · rw[zn (fun e=>h2 ((aet _ _).1 e)),zf h2]; simp
   · rw[zn h1,zf h1]; simp) (fun o _=>by
   unfold wk
   simp only[ae]
   rw[zn (by omega)])
 unfold zds atM
 rw[show ((0:Int),([]:List aV),())=(((0:Nat):Int),[],()) from rfl,this,hX]
theorem kl {l:List aV}{p:Path}{leaf:Int} (hl:LowI l):LowI (atM l p leaf):=⟨Nat.lt_of_le_of_lt (List.length_filter_le ..) hl.len,fun x hx=>hl.path x (List.mem_filter.1 hx).1⟩
theorem dV {A:Type}{w:List A} (h:0<w.length):w.isEmpty=false:=by cases w with
 | nil=>cases h
 | cons _ _=>rfl
theorem fp {n a b:Nat} (h1:a≤b) (h2:b≤n):lG n (a:Int) (b:Int)=some (a,b-a):=by
 unfold lG
 rw[zp ⟨by omega,by omega,by omega⟩]; simp
theorem iY {A:Type} [DecidableEq A] {l:List A}{i:Nat} (hi:i<l.length) (h0:0<i):sqz (l.take (i+1))=if l[i-1]'(by omega)=l[i] then sqz (l.take i) else sqz (l.take i)++[l[i]]:=by
 rw[List.take_add_one,zg hi,Option.toList_some,pG]
 unfold sqzS
 have e:(sqz (l.take i)).getLast? = some (l[i-1]'(by omega)):=by
   rw[afQ,List.getLast?_eq_getElem?,List.length_take,show min i l.length-1=i-1 by omega,List.getElem?_take_of_lt (by omega),zg (by omega)]
 rw[e]
 by_cases h:l[i-1]'(by omega)=l[i]
 · rw[zp (by rw[h]),zp h]
 · rw[zn (fun e=>h (Option.some.inj e)),zn h]
structure Mid (l w:List Val) (i0 k i:Nat):Prop where
 len:w.length=l.length
 head:w.take i=sqz (l.take (i0+k))
 rest:∀ j,i0+k-1≤j→w[j]? = l[j]?
 low:i≤i0+k-1
theorem qK {l:List Val}{i0:Nat} (hl:l.length<1000000) (h0:0<i0) (hi0:i0<l.length):∀ (n k i:Nat) (w:List Val),l.length-i0-k≤n→1≤k→k≤l.length-i0→Mid l w i0 k i →
   ∃ w' i',Mid l w' i0 (l.length-i0) i'∧aH oa ((i:Int),(i0,l.length-i0),(k:Int),w,())=some (.inl ((i':Int),w',())):=by
 intro n
 induction n with
 | zero =>
   intro k i w hn hk1 hk hm
   have e:k=l.length-i0:=by omega
   subst e
   refine ⟨w,i,hm,aw ?_⟩
   unfold oa
   simp only[ae]
   rw[zn (by omega)]
 | succ n ih =>
   intro k i w hn hk1 hk hm
   by_cases hlt:k<l.length-i0
   · have hwl:=hm.len
     have hw:0<w.length:=by omega
     have hk0:i0+k<l.length:=by omega
     have ea:w[i0+k]? = some (l[i0+k]):=by rw[hm.rest _ (by omega),zg hk0]
     have eb:w[i0+(k-1)]? = some (l[i0+k-1]'(by omega)):=by rw[show i0+(k-1)=i0+k-1 by omega,hm.rest _ (by omega),zg (by omega)]
     have hlow:=hm.low
     have hiw:i<w.length:=by omega
     have turn:oa ((i:Int),(i0,l.length-i0),(k:Int),w,())=if l[i0+k-1]'(by omega)=l[i0+k] then some (.inl ((i:Int),(i0,l.length-i0),((k+1:Nat):Int),w,())) else some (.inl (((i+1:Nat):Int),(i0,l.length-i0),((k+1:Nat):Int),w.set i l[i0+k],())):=by
       unfold oa
       simp only[ae]
       rw[zp (by omega),dV hw]
       simp only[cond_false]
       rw[bg hlt,wrap64 (n:=(k:Int)-1) (by omega) (by omega),show (k:Int)-1=((k-1:Nat):Int) by omega,bg (show k-1<l.length-i0 by omega)]
       simp only[zb]
       rw[ea,eb]
       simp only[zb,vF]
       rw[wrap64 (by omega) (by omega),wrap64 (by omega) (by omega)]
       by_cases hx:l[i0+k]=l[i0+k-1]'(by omega)
       · rw[zp hx.symm,zt hx]; rfl
       · rw[zn (fun e=>hx e.symm),zf hx,bg hiw]
         simp only[Bool.not_false,cond_true,zb]
         rw[zg hiw]
         rfl
     have hsq:=iY (l:=l) (i:=i0+k) hk0 (by omega)
     by_cases hx:l[i0+k-1]'(by omega)=l[i0+k]
     · rw[zp hx] at turn hsq
       rw[aD turn]
       exact ih (k+1) i w (by omega) (by omega) (by omega) ⟨hwl,by rw[hm.head,show i0+(k+1)=i0+k+1 by omega,hsq],fun j hj=>hm.rest j (by omega),by omega⟩
     · rw[zn hx] at turn hsq
       rw[aD turn]
       refine ih (k+1) (i+1) _ (by omega) (by omega) (by omega) ⟨by rw[List.length_set]; exact hwl,?_,fun j hj => ?_,by omega⟩
       · rw[show i0+(k+1)=i0+k+1 by omega,hsq,← hm.head,List.take_add_one,List.take_set_of_le (by omega),List.getElem?_set_self hiw]; rfl
       · rw[List.getElem?_set_ne (by omega)]
         exact hm.rest j (by omega)
   · have e:k=l.length-i0:=by omega
     subst e
     refine ⟨w,i,hm,aw ?_⟩
     unfold oa
     simp only[ae]
     rw[zn (by omega)]
theorem qJ {l:List Val} (hl:l.length<1000000):∀ (n i:Nat),l.length-i≤n→1≤i→i≤l.length→sqz (l.take i)=l.take i →
   aH lu ((i:Int),l,())=some (sqz l):=by
 intro n
 induction n with
 | zero =>
   intro i hn h1 hi hs
   have e:i=l.length:=by omega
   subst e
   rw[List.take_of_length_le (Nat.le_refl _)] at hs
   refine aw ?_
   unfold lu
   simp only[ae]
   rw[zn (by omega),hs]
 | succ n ih =>
   intro i hn h1 hi hs
   by_cases hlt:i<l.length
   · have hsq:=iY (l:=l) (i:=i) hlt (by omega)
     have he:l.isEmpty=false:=dV (by omega)
     by_cases hx:l[i-1]'(by omega)=l[i]
     · refine aw ?_
       unfold lu
       simp only[ae]
       rw[zp (by omega),bg hlt,wrap64 (by omega) (by omega),show (i:Int)-1=((i-1:Nat):Int) by omega,bg (show i-1<l.length by omega)]
       simp only[zb,zg hlt,zg (show i-1<l.length by omega),vF]
       rw[zt hx.symm,cond_true,he,cond_false,fp (by omega) (Nat.le_refl _)]
       simp only[zb]
       rw[zp hx] at hsq
       obtain ⟨w',i',hm,hrun⟩:=qK hl (by omega) hlt (l.length-i) 1 i l (by omega) (Nat.le_refl _) (by omega) ⟨rfl,by rw[hsq,hs],fun j _=>rfl,by omega⟩
       rw[show ((1:Int))=((1:Nat):Int) from rfl,hrun,aC]
       have hwl:=hm.len
       have hlow:=hm.low
       have hle:i'≤w'.length:=by omega
       have hw:0<w'.length:=by omega
       have e2:i+(l.length-i)=l.length:=by omega
       have hhead:w'.take i'=sqz l:=by rw[hm.head,e2,List.take_of_length_le (Nat.le_refl _)]
       simp only
       rw[dV hw,cond_false,fp hle (Nat.le_refl _)]
       simp only[zb,cond_false]
       rw[zp (by omega)]
       simp only[zb]
       have hlen2:(List.take i' w'++List.replicate (w'.length-i') ((0,0,[],()):Val)++List.drop (i'+(w'.length-i')) w').length=w'.length:=by
         rw[List.length_append,List.length_append,List.length_take,List.length_replicate,List.length_drop]; omega
       rw[dV (by rw[hlen2]; exact hw),cond_false,hlen2,show ((0:Int))=((0:Nat):Int) from rfl,fp (Nat.zero_le _) hle]
       simp only[zb,cond_false]
       rw[zp (by omega)]
       simp only[Option.map_some,List.drop_zero,Nat.sub_zero]
       rw[List.append_assoc,List.take_append_of_le_length (by rw[List.length_take]; omega),List.take_take,Nat.min_self,hhead]
     · have turn : lu ((i : Int), l, ()) = some (.inl (((i + 1 : Nat) : Int), l, ())) := by
         unfold lu
         simp only[ae]
         rw[zp (by omega),bg hlt,wrap64 (by omega) (by omega),show (i:Int)-1=((i-1:Nat):Int) by omega,bg (show i-1<l.length by omega)]
         simp only[zb,zg hlt,zg (show i-1<l.length by omega),vF]
         rw[zf (fun e=>hx e.symm),cond_false,wrap64 (by omega) (by omega)]; rfl
       rw[aD turn]
       rw[zn hx,hs] at hsq
       refine ih (i+1) (by omega) (by omega) (by omega) ?_
       rw[hsq,List.take_add_one,zg hlt]; rfl
   · have e:i=l.length:=by omega
     subst e
     rw[List.take_of_length_le (Nat.le_refl _)] at hs
     refine aw ?_
     unfold lu
     simp only[ae]
     rw[zn (by omega),hs]
theorem aew {l:List Val} (hl:l.length<1000000):zaj l=some (sqz l,()):=by
 unfold zaj al5
 simp only[ae]
 match l,hl with
 | [],_=>rfl
 | [x],_=>rfl
 | x::y::l,hl =>
   rw[zn (by simp only[zl]; omega)]
   have:=qJ hl (x::y::l).length 1 (by omega) (Nat.le_refl _) (by simp) rfl
   rw[show ((1:Int))=((1:Nat):Int) from rfl,this]
   rfl
def insV (o:List Val) (v:Val):List Val:=match o with
 | []=>[v]
 | x::l=>if cmpV v x=0 then x::l else if cmpV v x<0 then v::x::l else x::insV l v
abbrev pQ (o:List Val):Prop:=cT cmpV (fun v=>v) o
theorem qv {v x:Val}:∀ {o:List Val},x∈insV o v↔x=v∨x∈o
 | []=>by simp[insV]
 | y::l=>by
   unfold insV
   split
   · rename_i h
     have e:=(e7.zero _ _).1 h
     subst e
     simp
   · split
     · simp
     · rw[List.mem_cons,qv,List.mem_cons]
       constructor
       · rintro (h | h | h)
         · exact .inr (.inl h)
         · exact .inl h
         · exact .inr (.inr h)
       · rintro (h | h | h)
         · exact .inr (.inl h)
         · exact .inl h
         · exact .inr (.inr h)
theorem hJ {v:Val}:∀ {o:List Val},pQ o→pQ (insV o v)
 | [],_=>List.pairwise_singleton ..
 | y::l,h=>by
   have h':=List.pairwise_cons.1 h
   unfold insV
   split
   · exact h
   · rename_i h0
     split
     · rename_i h1
       refine List.pairwise_cons.2 ⟨fun z hz => ?_,h⟩
       rcases List.mem_cons.1 hz with e | hz
       · subst e; exact h1
       · exact e7.trans _ _ _ h1 (h'.1 z hz)
     · rename_i h1
       refine List.pairwise_cons.2 ⟨fun z hz => ?_,hJ h'.2⟩
       rcases qv.1 hz with e | hz
       · subst e
         have h2:=e7.neg z y
         show cmpV y z<0
         omega
       · exact h'.1 z hz
def gg (l:List Val):List Val:=l.foldl insV []
theorem lK:∀ (l o:List Val),pQ o→pQ (l.foldl insV o)∧∀ x,x∈l.foldl insV o↔x∈o∨x∈l
 | [],o,h=>⟨h,fun x=>by simp⟩
 | v::l,o,h=>by
   obtain ⟨h1,h2⟩:=lK l (insV o v) (hJ h)
   refine ⟨h1,fun x => ?_⟩
   rw[List.foldl_cons,h2,qv,List.mem_cons]
   constructor
   · rintro ((h | h) | h)
     · exact .inr (.inl h)
     · exact .inl h
     · exact .inr (.inr h)
   · rintro (h | h | h)
     · exact .inl (.inr h)
     · exact .inl (.inl h)
     · exact .inr h
theorem lI (l:List Val):pQ (gg l):=(lK l [] List.Pairwise.nil).1
theorem lJ (l:List Val) (x:Val):x∈gg l↔x∈l:=by
 have:=(lK l [] List.Pairwise.nil).2 x
 simpa [gg] using this
theorem lc {v:Val}:∀ {o:List Val},(insV o v).length≤o.length+1
 | []=>Nat.le_refl _
 | y::l=>by
   unfold insV
   split
   · omega
   · split
     · simp
     · have:=lc (v:=v) (o:=l)
       simp only[zl]; omega
theorem rE:∀ (l o:List Val),(l.foldl insV o).length≤o.length+l.length
 | [],o=>Nat.le_refl _
 | v::l,o=>by
   have:=rE l (insV o v)
   have:=lc (v:=v) (o:=o)
   rw[List.foldl_cons,zl]; omega
theorem rN {l:List Val} (hl:l.length<1000000):∃ s,zae l=some ((),s,())∧zaj s=some (gg l,()):=by
 obtain ⟨s,h1,h2,h3⟩:=rO (c:=cmpV) (key:=fun v:Val=>v) (cmp:=fun x y=>zbb x y) (xs:=l) e7 (fun x _ y _=>fc x y) (by omega)
 refine ⟨s,by unfold zae; rw[h1]; rfl,?_⟩
 rw[aew (by rw[h2.length_eq]; exact hl)]
 have:sqz s=gg l:=by
   refine dS e7 (key:=fun v:Val=>v) (rM e7 (fun a b=>(e7.zero a b).1) _ s rfl h3) (lI l) fun x => ?_
   rw[pF _ s rfl,lJ]
   exact h2.mem_iff
 rw[this]
def oi (l:List aV) (p:Path):List Val:=(atM l p 1).map fun x=>x.2.1.2.2.1
theorem uM {l:List aV}{p:Path} (hl:LowI l):zda l p=some (gg (oi l p)):=by
 unfold zda oi
 rw[at_t hl]
 have hlow:=(kl (p:=p) (leaf:=1) hl).len
 generalize atM l p 1=q at hlow
 simp only[zb]
 have:=eV (f:=wq q) (l:=q) (fun i o=>((i:Int),o,())) (fun x=>[x.2.1.2.2.1]) (fun o=>(.inl (o,()):(List Val×Unit)⊕List Val)) 1 (fun x _=>Nat.le_refl _) (fun i h o ho=>by
   unfold wq
   simp only[ae]
   rw[zp (by omega),aL h]
   simp only[zb]
   rw[wrap64 (by omega) (by omega),aY (by simp; omega)]; rfl) (fun o _=>by
   unfold wq
   simp only[ae]
   rw[zn (by omega)])
 rw[show ((0:Int),([]:List Val),())=(((0:Nat):Int),[],()) from rfl,this,aC]
 have e:(q.flatMap fun x=>[x.2.1.2.2.1])=q.map fun x=>x.2.1.2.2.1:=by
   clear this hlow
   induction q with
   | nil=>rfl
   | cons x q ih=>rw[List.flatMap_cons,List.map_cons,ih]; rfl
 obtain ⟨s,h1,h2⟩:=rN (l:=q.map fun x=>x.2.1.2.2.1) (by rw[List.length_map]; exact hlow)
 simp only[e]
 rw[h1]
 simp only[zb,h2]
theorem me {o:List Val}{v:Val} (ho:o.length<1000000) (hv:v.2.2.1.length<1000000) (hr:pQ o):zbt o v=some (insV o v):=by
 unfold zbt
 have loop:=aZ (S:=Bool×List Val) (f:=ru o v) (l:=o) (fun i s=>(s.1,(i:Int),s.2,())) (fun _ x s=>if cmpV v x=0 then .inr (.inr o) else .inl (s.1||decide (cmpV v x<0),(if cmpV v x<0∧s.1=false then s.2++[v] else s.2)++[x])) (fun s=>(.inl (s.1,s.2,()):(Bool×List Val×Unit)⊕List Val)) (fun i s=>s.2.length≤2*i) (fun i h s hs=>by
   have turn:ru o v (s.1,(i:Int),s.2,())=if cmpV v o[i]=0 then some (.inr (.inr o)) else some (.inl (s.1||decide (cmpV v o[i]<0),((i+1:Nat):Int),(if cmpV v o[i]<0∧s.1=false then s.2++[v] else s.2)++[o[i]],())):=by
     unfold ru
     simp only[ae]
     rw[zp (by omega),aL h]
     simp only[zb,pU hv]
     by_cases h0:cmpV v o[i]=0
     · rw[zp h0,zp h0]
     · rw[zn h0,zn h0,wrap64 (by omega) (by omega)]
       by_cases h1:cmpV v o[i]<0
       · rw[zp h1,zt h1,Bool.or_true]
         cases hs1:s.1 with
         | true =>
           simp only[Bool.not_true,cond_false,zb,bd]
           rw[aY (by simp; omega),zn (fun e=>by cases e.2)]; rfl
         | false =>
           simp only[Bool.not_false,cond_true,zb]
           rw[aY (by simp; omega)]
           simp only[zb,bd]
           rw[aY (by simp; omega),zp ⟨h1,trivial⟩]; rfl
       · rw[zn h1,zf h1,Bool.or_false]
         simp only[zb,bd]
         rw[aY (by simp; omega),zn (fun e=>h1 e.1)]; rfl
   by_cases h0:cmpV v o[i]=0
   · exact .inr ⟨_,by rw[zp h0],by rw[turn,zp h0]⟩
   · refine .inl ⟨_,by rw[zn h0],by rw[turn,zn h0],?_⟩
     split<;>simp<;>omega) (fun s _=>by
   unfold ru
   simp only[ae]
   rw[zn (by omega)]) (false,[]) (by simp)
 rw[show (false,(0:Int),([]:List Val),())=((false,([]:List Val)).1,((0:Nat):Int),(false,([]:List Val)).2,()) from rfl,loop]
 have gen1:∀ (l:List Val) (i:Nat) (q:List Val),(∀ x∈l,cmpV v x<0)→cq (S:=Bool×List Val) (fun _ x s=>if cmpV v x=0 then .inr (.inr o) else .inl (s.1||decide (cmpV v x<0),(if cmpV v x<0∧s.1=false then s.2++[v] else s.2)++[x])) (fun s=>(.inl (s.1,s.2,()):(Bool×List Val×Unit)⊕List Val)) i l (true,q) = .inl (true,q++l,()):=by
   intro l
   induction l with
   | nil=>intro i q _; simp[cq]
   | cons x l ih =>
     intro i q h
     unfold cq
     have hx:=h x (List.mem_cons_self ..)
     rw[zn (by omega)]
     simp only[Bool.true_or]
     rw[zn (fun e=>by cases e.2),ih (i+1) (q++[x]) (fun y hy=>h y (List.mem_cons_of_mem _ hy))]
     simp
 have gen2:∀ (l:List Val) (i:Nat) (q:List Val),q++l=o→pQ l→(∃ b r,cq (S:=Bool×List Val) (fun _ x s=>if cmpV v x=0 then .inr (.inr o) else .inl (s.1||decide (cmpV v x<0),(if cmpV v x<0∧s.1=false then s.2++[v] else s.2)++[x])) (fun s=>(.inl (s.1,s.2,()):(Bool×List Val×Unit)⊕List Val)) i l (false,q) = .inl (b,r,())∧(if b=true then r else r++[v])=q++insV l v∧r.length≤o.length+1)∨(cq (S:=Bool×List Val) (fun _ x s=>if cmpV v x=0 then .inr (.inr o) else .inl (s.1||decide (cmpV v x<0),(if cmpV v x<0∧s.1=false then s.2++[v] else s.2)++[x])) (fun s=>(.inl (s.1,s.2,()):(Bool×List Val×Unit)⊕List Val)) i l (false,q) = .inr o∧o=q++insV l v):=by
   intro l
   induction l with
   | nil =>
     intro i q hq _
     refine .inl ⟨false,q,rfl,rfl,?_⟩
     rw[← hq]; simp
   | cons x l ih =>
     intro i q hq hr
     have hr':=List.pairwise_cons.1 hr
     by_cases h0:cmpV v x=0
     · refine .inr ⟨?_,?_⟩
       · unfold cq; rw[zp h0]
       · unfold insV; rw[zp h0,hq]
     · by_cases h1:cmpV v x<0
       · refine .inl ⟨true,q++[v]++[x]++l,?_,?_,?_⟩
         · unfold cq
           rw[zn h0,zp ⟨h1,rfl⟩,zt h1,Bool.or_true]
           exact gen1 l (i+1) _ fun y hy=>e7.trans _ _ _ h1 (hr'.1 y hy)
         · unfold insV; rw[zn h0,zp h1]; simp
         · rw[← hq]; simp; omega
       · have e : cq (S := Bool × List Val) (fun _ x s => if cmpV v x = 0 then .inr (.inr o) else .inl (s.1 || decide (cmpV v x < 0), (if cmpV v x < 0 ∧ s.1 = false then s.2 ++ [v] else s.2) ++ [x])) (fun s => (.inl (s.1, s.2, ()) : (Bool × List Val × Unit) ⊕ List Val)) i (x :: l) (false, q) = cq (S := Bool × List Val) (fun _ x s => if cmpV v x = 0 then .inr (.inr o) else .inl (s.1 || decide (cmpV v x < 0), (if cmpV v x < 0 ∧ s.1 = false then s.2 ++ [v] else s.2) ++ [x])) (fun s => (.inl (s.1, s.2, ()) : (Bool × List Val × Unit) ⊕ List Val)) (i + 1) l (false, q ++ [x]) := by
           conv=>lhs; unfold cq
           rw[zn h0,zn (fun e=>h1 e.1),zf h1]; rfl
         have:=ih (i+1) (q++[x]) (by rw[← hq]; simp) hr'.2
         rw[e]
         have e2:q++insV (x::l) v=q++[x]++insV l v:=by
           conv=>lhs; unfold insV
           rw[zn h0,zn h1]; simp
         rw[e2]
         exact this
 rcases gen2 o 0 [] rfl hr with ⟨b,r,h1,h2,h3⟩ | ⟨h1,h2⟩
 · rw[h1,aC]
   rw[List.nil_append] at h2
   cases b with
   | true=>rw[zp rfl] at h2; rw[← h2]; rfl
   | false =>
     rw[zn (by simp)] at h2
     simp only[Bool.not_false,cond_true]
     rw[aY (by simp; omega),← h2]; rfl
 · rw[h1,aS]
   rw[List.nil_append] at h2
   rw[← h2]
theorem uN {l:List aV}{p:Path} (hl:LowI l) (hv:∀ x∈l,x.2.1.2.2.1.2.2.1.length<1000000):zbm l p=some (gg (oi l p)):=by
 unfold zbm oi
 rw[uV hl]
 have hlow:=(kl (p:=p) (leaf:=1) hl).len
 have hq:∀ x∈atM l p 1,x.2.1.2.2.1.2.2.1.length<1000000:=fun x hx=>hv x (List.mem_filter.1 hx).1
 generalize atM l p 1=q at hlow hq
 simp only[zb]
 have loop:=aZ (S:=List Val) (f:=wR q) (l:=q) (fun i o=>(o,(i:Int),())) (fun _ x o=>.inl (insV o x.2.1.2.2.1)) (fun o=>o) (fun i o=>pQ o∧o.length≤i) (fun i h o ho=>by
   refine .inl ⟨_,rfl,?_,hJ ho.1,by have:=lc (v:=q[i].2.1.2.2.1) (o:=o); have:=ho.2; omega⟩
   unfold wR
   simp only[ae]
   rw[zp (by omega),aL h]
   have:=ho.2
   simp only[zb,me (show o.length<1000000 by omega) (hq _ (zm h)) ho.1]
   rw[wrap64 (by omega) (by omega)]; rfl) (fun o _=>by
   unfold wR
   simp only[ae]
   rw[zn (by omega)]) [] ⟨List.Pairwise.nil,by simp⟩
 rw[show (([]:List Val),(0:Int),())=(([]:List Val),((0:Nat):Int),()) from rfl,loop,bV,gg,List.foldl_map]
structure LowP (l:List Txn1):Prop where
 low:Low l
 ops:∀ t∈l,∀ o∈t.2.2.2.2.1,(o.2.1.length<1000000∧∀ s∈o.2.1,s.length<1000000)∧o.2.2.1.2.2.1.length<1000000
theorem sH {p:Ref1→Bool}{t:Txn1}:∀ {l:List Op1}{k:Nat}{x:aV},x∈gz p t k l→∃ (j:Nat) (o:Op1),o∈l∧fj o.1=true∧p (t.1,(j:Int),())=false∧x=((t.1,(j:Int),()),o,t.2.2.1,())
 | [],_,x,h=>by cases h
 | o::l,k,x,h=>by
   unfold gz at h
   rcases List.mem_append.1 h with h | h
   · unfold jk at h
     split at h
     · rename_i hc
       rw[List.mem_singleton] at h
       exact ⟨k,o,List.mem_cons_self ..,hc.1,hc.2,h⟩
     · cases h
   · obtain ⟨j,o',h1,h2⟩:=sH h
     exact ⟨j,o',List.mem_cons_of_mem _ h1,h2⟩
theorem agY {l:List Txn1}{u:List Ref1}{x:aV} (h:x∈allM l u):∃ t∈l,∃ (j:Nat) (o:Op1),o∈t.2.2.2.2.1∧fj o.1=true∧fe u t.1=true∧covM l u (t.1,(j:Int),())=false∧x=((t.1,(j:Int),()),o,t.2.2.1,()):=by
 unfold allM at h
 obtain ⟨t,ht,hx⟩:=List.mem_flatMap.1 h
 split at hx
 · rename_i hs
   obtain ⟨j,o,h1,h2,h3,h4⟩:=sH hx
   exact ⟨t,ht,j,o,h1,h2,hs,h3,h4⟩
 · cases hx
theorem xT {A B:Type}{g:A→List B}{n:Nat}:∀ {l:List A},(∀ x∈l,(g x).length≤n)→(l.flatMap g).length≤l.length*n
 | [],_=>Nat.zero_le _
 | x::l,h=>by
   have:=xT (l:=l) fun y hy=>h y (List.mem_cons_of_mem _ hy)
   have:=h x (List.mem_cons_self ..)
   rw[List.flatMap_cons,List.length_append,zl,Nat.succ_mul]; omega
theorem pD {l:List Txn1}{n:Nat} (h:TxnsOk l n) (hn:n≤900):LowP l:=by
 refine ⟨⟨by have:=h.len; omega,fun t ht=>by have:=(h.all t ht).len; omega,fun t ht o ho => ?_⟩,fun t ht o ho => ?_⟩
 · have:=((h.all t ht).ops o ho).1.2.2.2; omega
 · have:=((h.all t ht).ops o ho).1
   exact ⟨⟨by have:=this.1; omega,fun s hs=>by have:=this.2.1 s hs; omega⟩,by have:=this.2.2.1; omega⟩
theorem o0 {u:List Ref1} (h:CountsOk u):LowU u:=⟨by have:=h.len; omega,h.rise⟩
abbrev bR:=Path×Int×Unit
def bB (a b:bR):Int:=orI (cmpP a.1 b.1) (cmpI a.2.1 b.2.1)
theorem awO:Cmp cmpP:=Cmp.list yd
theorem e8:Cmp bB:=by
 have:bB=fun a b=>cmpB cmpP cmpI ((fun x:bR=>(x.1,x.2.1)) a) ((fun x:bR=>(x.1,x.2.1)) b):=rfl
 rw[this]
 exact wg (awO.pair ng) _ fun a b h=>by
   obtain ⟨a1,a2,⟨⟩⟩:=a; obtain ⟨b1,b2,⟨⟩⟩:=b
   simp only[Prod.mk.injEq] at h
   rw[h.1,h.2]
theorem acI {a b:bR} (ha:a.1.length<1000000):zbp a b=some (bB a b):=by
 unfold zbp
 simp only[je ha,ju,or_t,zb]
 rfl
theorem adP {a b:bR} (ha:a.1.length<1000000):zbd a b=some (decide (a=b)):=by
 unfold zbd
 rw[acI ha]
 simp only[zb]
 by_cases h:a=b
 · rw[zt h,zt ((e8.zero _ _).2 h)]
 · rw[zf h,zf (fun e=>h ((e8.zero _ _).1 e))]
structure MidS (l w:List (List UInt8)) (i0 k i:Nat):Prop where
 len:w.length=l.length
 head:w.take i=sqz (l.take (i0+k))
 rest:∀ j,i0+k-1≤j→w[j]? = l[j]?
 low:i≤i0+k-1
structure MidL (l w:List bR) (i0 k i:Nat):Prop where
 len:w.length=l.length
 head:w.take i=sqz (l.take (i0+k))
 rest:∀ j,i0+k-1≤j→w[j]? = l[j]?
 low:i≤i0+k-1
theorem nT {l:List bR}{i0:Nat} (hl:l.length<1000000) (hE:∀ a b,a∈l→zbd a b=some (decide (a=b))) (h0:0<i0) (hi0:i0<l.length):∀ (n k i:Nat) (w:List bR),l.length-i0-k≤n→1≤k→k≤l.length-i0→MidL l w i0 k i →
   ∃ w' i',MidL l w' i0 (l.length-i0) i'∧aH ob ((i:Int),(i0,l.length-i0),(k:Int),w,())=some (.inl ((i':Int),w',())):=by
 intro n
 induction n with
 | zero =>
   intro k i w hn hk1 hk hm
   have e:k=l.length-i0:=by omega
   subst e
   refine ⟨w,i,hm,aw ?_⟩
   unfold ob
   simp only[ae]
   rw[zn (by omega)]
 | succ n ih =>
   intro k i w hn hk1 hk hm
   by_cases hlt:k<l.length-i0
   · have hwl:=hm.len
     have hw:0<w.length:=by omega
     have hk0:i0+k<l.length:=by omega
     have ea:w[i0+k]? = some (l[i0+k]):=by rw[hm.rest _ (by omega),zg hk0]
     have eb:w[i0+(k-1)]? = some (l[i0+k-1]'(by omega)):=by rw[show i0+(k-1)=i0+k-1 by omega,hm.rest _ (by omega),zg (by omega)]
     have hlow:=hm.low
     have hiw:i<w.length:=by omega
     have turn:ob ((i:Int),(i0,l.length-i0),(k:Int),w,())=if l[i0+k-1]'(by omega)=l[i0+k] then some (.inl ((i:Int),(i0,l.length-i0),((k+1:Nat):Int),w,())) else some (.inl (((i+1:Nat):Int),(i0,l.length-i0),((k+1:Nat):Int),w.set i l[i0+k],())):=by
       unfold ob
       simp only[ae]
       rw[zp (by omega),dV hw]
       simp only[cond_false]
       rw[bg hlt,wrap64 (n:=(k:Int)-1) (by omega) (by omega),show (k:Int)-1=((k-1:Nat):Int) by omega,bg (show k-1<l.length-i0 by omega)]
       simp only[zb]
       rw[ea,eb]
       simp only[zb,hE,zm]
       rw[wrap64 (by omega) (by omega),wrap64 (by omega) (by omega)]
       by_cases hx:l[i0+k]=l[i0+k-1]'(by omega)
       · rw[zp hx.symm]
         first | (rw[zt hx]; rfl) | (rw[zp hx])
       · rw[zn (fun e=>hx e.symm),zf hx,bg hiw]
         simp only[Bool.not_false,cond_true,zb]
         rw[zg hiw]
         rfl
     have hsq:=iY (l:=l) (i:=i0+k) hk0 (by omega)
     by_cases hx:l[i0+k-1]'(by omega)=l[i0+k]
     · rw[zp hx] at turn hsq
       rw[aD turn]
       exact ih (k+1) i w (by omega) (by omega) (by omega) ⟨hwl,by rw[hm.head,show i0+(k+1)=i0+k+1 by omega,hsq],fun j hj=>hm.rest j (by omega),by omega⟩
     · rw[zn hx] at turn hsq
       rw[aD turn]
       refine ih (k+1) (i+1) _ (by omega) (by omega) (by omega) ⟨by rw[List.length_set]; exact hwl,?_,fun j hj => ?_,by omega⟩
       · rw[show i0+(k+1)=i0+k+1 by omega,hsq,← hm.head,List.take_add_one,List.take_set_of_le (by omega),List.getElem?_set_self hiw]; rfl
       · rw[List.getElem?_set_ne (by omega)]
         exact hm.rest j (by omega)
   · have e:k=l.length-i0:=by omega
     subst e
     refine ⟨w,i,hm,aw ?_⟩
     unfold ob
     simp only[ae]
     rw[zn (by omega)]
theorem nS {l:List bR} (hl:l.length<1000000) (hE:∀ a b,a∈l→zbd a b=some (decide (a=b))):∀ (n i:Nat),l.length-i≤n→1≤i→i≤l.length→sqz (l.take i)=l.take i →
   aH lw ((i:Int),l,())=some (sqz l):=by
 intro n
 induction n with
 | zero =>
   intro i hn h1 hi hs
   have e:i=l.length:=by omega
   subst e
   rw[List.take_of_length_le (Nat.le_refl _)] at hs
   refine aw ?_
   unfold lw
   simp only[ae]
   rw[zn (by omega),hs]
 | succ n ih =>
   intro i hn h1 hi hs
   by_cases hlt:i<l.length
   · have hsq:=iY (l:=l) (i:=i) hlt (by omega)
     have he:l.isEmpty=false:=dV (by omega)
     by_cases hx:l[i-1]'(by omega)=l[i]
     · refine aw ?_
       unfold lw
       simp only[ae]
       rw[zp (by omega),bg hlt,wrap64 (by omega) (by omega),show (i:Int)-1=((i-1:Nat):Int) by omega,bg (show i-1<l.length by omega)]
       simp only[zb,zg hlt,zg (show i-1<l.length by omega),hE,zm]
       first | rw[zt hx.symm,cond_true] | rw[zp hx.symm]
       rw[he,cond_false,fp (by omega) (Nat.le_refl _)]
       simp only[zb]
       rw[zp hx] at hsq
       obtain ⟨w',i',hm,hrun⟩:=nT hl hE (by omega) hlt (l.length-i) 1 i l (by omega) (Nat.le_refl _) (by omega) ⟨rfl,by rw[hsq,hs],fun j _=>rfl,by omega⟩
       rw[show ((1:Int))=((1:Nat):Int) from rfl,hrun,aC]
       have hwl:=hm.len
       have hlow:=hm.low
       have hle:i'≤w'.length:=by omega
       have hw:0<w'.length:=by omega
       have e2:i+(l.length-i)=l.length:=by omega
       have hhead:w'.take i'=sqz l:=by rw[hm.head,e2,List.take_of_length_le (Nat.le_refl _)]
       simp only
       rw[dV hw,cond_false,fp hle (Nat.le_refl _)]
       simp only[zb,cond_false]
       rw[zp (by omega)]
       simp only[zb]
       have hlen2:(List.take i' w'++List.replicate (w'.length-i') (([],0,()):bR)++List.drop (i'+(w'.length-i')) w').length=w'.length:=by
         rw[List.length_append,List.length_append,List.length_take,List.length_replicate,List.length_drop]; omega
       rw[dV (by rw[hlen2]; exact hw),cond_false,hlen2,show ((0:Int))=((0:Nat):Int) from rfl,fp (Nat.zero_le _) hle]
       simp only[zb,cond_false]
       rw[zp (by omega)]
       simp only[Option.map_some,List.drop_zero,Nat.sub_zero]
       rw[List.append_assoc,List.take_append_of_le_length (by rw[List.length_take]; omega),List.take_take,Nat.min_self,hhead]
     · have turn : lw ((i : Int), l, ()) = some (.inl (((i + 1 : Nat) : Int), l, ())) := by
         unfold lw
         simp only[ae]
         rw[zp (by omega),bg hlt,wrap64 (by omega) (by omega),show (i:Int)-1=((i-1:Nat):Int) by omega,bg (show i-1<l.length by omega)]
         simp only[zb,zg hlt,zg (show i-1<l.length by omega),hE,zm]
         first | rw[zf (fun e=>hx e.symm),cond_false] | rw[zn (fun e=>hx e.symm)]
         rw[wrap64 (by omega) (by omega)]; rfl
       rw[aD turn]
       rw[zn hx,hs] at hsq
       refine ih (i+1) (by omega) (by omega) (by omega) ?_
       rw[hsq,List.take_add_one,zg hlt]; rfl
   · have e:i=l.length:=by omega
     subst e
     rw[List.take_of_length_le (Nat.le_refl _)] at hs
     refine aw ?_
     unfold lw
     simp only[ae]
     rw[zn (by omega),hs]
theorem aaq {l:List bR} (hl:l.length<1000000) (hE:∀ a b,a∈l→zbd a b=some (decide (a=b))):zad l=some (sqz l,()):=by
 unfold zad amo
 simp only[ae]
 match l,hl,hE with
 | [],_,_=>rfl
 | [x],_,_=>rfl
 | x::y::l,hl,hE =>
   rw[zn (by simp only[zl]; omega)]
   have:=nS hl hE (x::y::l).length 1 (by omega) (Nat.le_refl _) (by simp) rfl
   rw[show ((1:Int))=((1:Nat):Int) from rfl,this]
   rfl
def cJ (x:aV):bR:=(x.2.1.2.1,ji x.2.1.1,())
def cu (l:List aV):List bR:=uniq bB (l.map cJ)
theorem ags {l:List aV} (hl:LowI l):zck l=some (cu l):=by
 have hlen:=hl.len
 have:=eV (f:=wB l) (l:=l) (fun i o=>((i:Int),o,())) (fun x=>[cJ x]) (fun o=>(.inl (o,()):(List bR×Unit)⊕List bR)) 1 (fun x _=>Nat.le_refl _) (fun i h o ho=>by
   have hp:=(hl.path _ (zm h)).1
   unfold wB
   simp only[ae]
   rw[zp (by omega),aL h]
   have hc:zap l[i].2.1.2.1=some l[i].2.1.2.1:=by
     unfold zap iv
     rw[zp (by simp only[most]; omega)]
   simp only[zb,hc,xx]
   rw[wrap64 (by omega) (by omega),aY (by simp; omega)]; rfl) (fun o _=>by
   unfold wB
   simp only[ae]
   rw[zn (by omega)])
 unfold zck
 rw[show ((0:Int),([]:List bR),())=(((0:Nat):Int),[],()) from rfl,this,aC]
 have e:(l.flatMap fun x=>[cJ x])=l.map cJ:=by
   clear this hlen hl
   induction l with
   | nil=>rfl
   | cons x l ih=>rw[List.flatMap_cons,List.map_cons,ih]; rfl
 have hp:∀ x∈l.map cJ,x.1.length<1000000:=fun x hx=>by
   obtain ⟨y,hy,rfl⟩:=List.mem_map.1 hx
   exact (hl.path y hy).1
 obtain ⟨s,h1,h2,h3⟩:=rO (c:=bB) (key:=fun v:bR=>v) (cmp:=fun x y=>zbp x y) (xs:=l.map cJ) e8 (fun x hx y _=>acI (hp x hx)) (by rw[List.length_map]; omega)
 have hs:zaf (l.map cJ)=some ((),s,()):=by unfold zaf; rw[h1]; rfl
 simp only[e]
 rw[hs]
 simp only[zb]
 rw[aaq (by rw[h2.length_eq,List.length_map]; omega) (fun a b ha=>adP (hp a (h2.mem_iff.1 ha)))]
 simp only[zb]
 congr 1
 unfold cu
 refine dS e8 (key:=fun v:bR=>v) (rM e8 (fun a b=>(e8.zero a b).1) _ s rfl h3) (gN e8 _) fun x => ?_
 rw[pF _ s rfl,kV e8]
 exact h2.mem_iff
def vp (y:bR):Prop:=y.1.length<1000000∧(∀ s∈y.1,s.length<1000000)∧0≤y.2.1∧y.2.1≤3
theorem agu (k:Int):0≤ji k∧ji k≤3:=by unfold ji; split<;>(try split)<;>(try split)<;>omega
theorem oQ {l:List aV} (hl:LowI l) {x:aV} (hx:x∈l):vp (cJ x):=⟨(hl.path x hx).1,(hl.path x hx).2,agu _⟩
theorem xi {y x:bR} (hy:vp y) (hx:vp x):∃ r,zbf y x=some r∧(r<0↔bB y x<0)∧(r=0↔bB y x=0):=by
 unfold zbf bB orI
 rw[d5 hy.1 hy.2.1]
 simp only[zb,bW]
 by_cases h:cmpP y.1 x.1=0
 · rw[zp h,zp h]
   have:=hy.2.2; have:=hx.2.2
   refine ⟨_,rfl,?_,?_⟩<;>rw[wrap64 (by omega) (by omega)]<;>unfold cmpI<;>split<;>(try split)<;>omega
 · rw[zn h,zn h]
   exact ⟨_,rfl,Iff.rfl,Iff.rfl⟩
theorem vt {o:List bR}{x:bR} (ho:o.length<1000000) (hr:ec bB o) (hlo:∀ y∈o,vp y) (hx:vp x):∀ (n i:Nat),(loA bB x o).length-i≤n→i≤(loA bB x o).length →
   aH nZ ((i:Int),o,x,())=some (.inl (((loA bB x o).length:Int),o,x,())):=by
 have e:loA bB x o++hiA bB x o=o:=sA
 have el:(loA bB x o).length+(hiA bB x o).length=o.length:=by rw[← List.length_append,e]
 have turn:∀ i:Nat,i<o.length→nZ ((i:Int),o,x,())=if i<(loA bB x o).length then some (.inl (((i+1:Nat):Int),o,x,())) else some (.inr (.inl ((i:Int),o,x,()))):=fun i hi=>by
   unfold nZ
   simp only[ae]
   rw[zp (by omega),bg hi]
   simp only[zb,zg hi]
   obtain ⟨r,h1,h2,h3⟩:=xi (hlo _ (zm hi)) hx
   simp only[h1,zb]
   rw[wrap64 (by omega) (by omega)]
   by_cases hlt:i<(loA bB x o).length
   · rw[zp (h2.2 (an2 hi hlt)),zp hlt]; rfl
   · have:=an3 e8 (key:=fun v:bR=>v) hr hi (k:=x) (Nat.le_of_not_lt hlt)
     rw[zn (fun e=>by have:=h2.1 e; omega),zn hlt]
 intro n
 induction n with
 | zero =>
   intro i hn hi
   have e:i=(loA bB x o).length:=by omega
   refine aw ?_
   by_cases hlt:i<o.length
   · rw[turn i hlt,zn (by omega),e]
   · unfold nZ
     simp only[ae]
     rw[zn (by omega),e]
 | succ n ih =>
   intro i hn hi
   by_cases hlt:i<(loA bB x o).length
   · rw[aD (a:=((i:Int),o,x,())) (b:=(((i+1:Nat):Int),o,x,())) (by rw[turn i (by omega),zp hlt])]
     exact ih (i+1) (by omega) (by omega)
   · have e:i=(loA bB x o).length:=by omega
     refine aw ?_
     by_cases hlt:i<o.length
     · rw[turn i hlt,zn (by omega),e]
     · unfold nZ
       simp only[ae]
       rw[zn (by omega),e]
theorem nO {o:List bR}{x:bR}{v7:Int×List bR×bR×Unit}{at':Nat} (hv:v7.1=(at':Int)) (ho:o.length<1000000):∀ (k:Nat),at'≤k→k≤o.length →
   aH (iz v7) ((k:Int),cE o x k,x,())=some (.inl (cE o x at',x,())):=by
 intro k
 induction k with
 | zero =>
   intro h1 h2
   have e:at'=0:=by omega
   subst e
   refine aw ?_
   unfold iz
   simp only[ae,hv]
   rw[zn (by omega)]
 | succ k ih =>
   intro h1 h2
   by_cases hlt:at'<k+1
   · have hl:(cE o x (k+1)).length=o.length+1:=lP h2
     have turn:iz v7 (((k+1:Nat):Int),cE o x (k+1),x,())=some (.inl ((k:Int),cE o x k,x,())):=by
       unfold iz
       simp only[ae,hv]
       rw[zp (by omega),wrap64 (by omega) (by omega),show ((k+1:Nat):Int)-1=(k:Int) by omega,bg (show k<(cE o x (k+1)).length by omega)]
       simp only[zb]
       rw[afT (show k<o.length by omega)]
       simp only[zb]
       rw[bg (show k+1<(cE o x (k+1)).length by omega)]
       simp only[zb]
       rw[zg (show k+1<(cE o x (k+1)).length by omega)]
       simp only[zb]
       rw[zr (show k<o.length by omega)]
     rw[aD turn]
     exact ih (by omega) (by omega)
   · have e:at'=k+1:=by omega
     subst e
     refine aw ?_
     unfold iz
     simp only[ae,hv]
     rw[zn (by omega)]
theorem adL {l:List aV}{i:Nat}{o:List bR} (hl:LowI l) (h:i<l.length) (ho:o.length<1000000) (hr:ec bB o) (hlo:∀ y∈o,vp y) :
   rt l ((i:Int),o,())=some (.inl (((i+1:Nat):Int),putU bB o (cJ l[i]),())):=by
 have hlen:=hl.len
 have hx:=oQ hl (zm h)
 have e:loA bB (cJ l[i]) o++hiA bB (cJ l[i]) o=o:=sA
 have el:(loA bB (cJ l[i]) o).length+(hiA bB (cJ l[i]) o).length=o.length:=by rw[← List.length_append,e]
 have hat:=vt ho hr hlo hx _ 0 (Nat.le_refl _) (Nat.zero_le _)
 unfold rt
 simp only[ae]
 rw[zp (by omega),aL h]
 simp only[zb,md]
 have e1:((l[i].2.1.2.1,ji l[i].2.1.1,()):bR)=cJ l[i]:=rfl
 rw[e1,show ((0:Int),o,cJ l[i],())=(((0:Nat):Int),o,cJ l[i],()) from rfl,hat,aC]
 generalize hx1:cJ l[i]=x at *
 simp only
 rw[wrap64 (n:=(i:Int)+1) (by omega) (by omega)]
 have go : (∀ y q, hiA bB x o = y :: q → bB y x ≠ 0) → ((ch (o.length + ([x] : List bR).length)).bind fun u12 =>
     (aH (iz (((loA bB x o).length:Int),o,x,())) ((IntKind.wrap .i64 (((o++([x]:List bR)).length:Int)-1)),(o++([x]:List bR)),x,()):Option ((List bR×bR×Unit)⊕((Int×List bR×Unit)⊕List bR))).bind (aU fun v17 =>
     (inI v17.1.length ((loA bB x o).length:Int)).bind fun i18 =>
     (v17.1[i18]?).bind fun x19 =>
     some (.inl ((i:Int)+1,(v17.1.set i18 v17.2.1),()))))=some (.inl (((i+1:Nat):Int),putU bB o x,())):=fun hne=>by
   rw[aY (by simp; omega)]
   simp only[zb]
   rw[wrap64 (by rw[List.length_append,List.length_singleton]; omega) (by rw[List.length_append,List.length_singleton]; omega),show ((o++[x]).length:Int)-1=(o.length:Int) by simp,← uF,nO (at':=(loA bB x o).length) rfl ho o.length (by omega) (Nat.le_refl _),aC]
   have hsl:(cE o x (loA bB x o).length).length=o.length+1:=lP (by omega)
   simp only
   rw[bg (by omega)]
   simp only[zb]
   rw[zg (show (loA bB x o).length<(cE o x (loA bB x o).length).length by omega)]
   simp only[zb]
   rw[acV (by omega),awi hne]; rfl
 by_cases hlt:(loA bB x o).length<o.length
 · rw[zp (by omega),bg hlt]
   simp only[zb,zg hlt]
   cases hq:hiA bB x o with
   | nil=>rw[hq] at el; simp only[List.length_nil] at el; omega
   | cons y q =>
     have ey:o[(loA bB x o).length]=y:=by
       have:(loA bB x o++y::q)[(loA bB x o).length]? = some y:=by simp
       rw[← hq,e,zg hlt] at this
       exact Option.some.inj this
     rw[ey]
     have hy:y∈o:=by rw[← ey]; exact zm hlt
     obtain ⟨r,h1,h2,h3⟩:=xi (hlo y hy) hx
     simp only[h1,zb]
     by_cases h0:r=0
     · rw[zp h0,aS]
       have hp:putU bB o x=o:=by
         unfold putU
         rw[hq]
         exact zp (h3.1 h0)
       rw[hp]; rfl
     · rw[zn h0,aC]
       exact go (fun y' q' e'=>by rw[hq] at e'; cases e'; exact fun e=>h0 (h3.2 e))
 · rw[zn (by omega),aC]
   exact go (fun y' q' e'=>by rw[e'] at el; simp only[zl] at el; omega)
theorem uT {l:List aV} (hl:LowI l):zbw l=some (cu l):=by
 have hlen:=hl.len
 have loop:=aZ (S:=List bR) (f:=rt l) (l:=l) (fun i o=>((i:Int),o,())) (fun _ x o=>.inl (putU bB o (cJ x))) (fun o=>o) (fun i o=>ec bB o∧o.length≤i∧∀ y∈o,vp y) (fun i h o ho=>by
   refine .inl ⟨_,rfl,adL hl h (by omega) ho.1 ho.2.2,jS e8 ho.1,?_,fun y hy => ?_⟩
   · have:=xl (c:=bB) (o:=o) (v:=cJ l[i]); omega
   · rcases (xk e8).1 hy with e | hy
     · rw[e]; exact oQ hl (zm h)
     · exact ho.2.2 y hy) (fun o _=>by
   unfold rt
   simp only[ae]
   rw[zn (by omega)]) [] ⟨List.Pairwise.nil,Nat.le_refl _,fun y hy=>by cases hy⟩
 unfold zbw
 rw[show ((0:Int),([]:List bR),())=(((0:Nat):Int),[],()) from rfl,loop,bV]
 congr 1
 have:l.foldl (fun o x=>putU bB o (cJ x)) []=(l.map cJ).foldl (putU bB) []:=by rw[List.foldl_map]
 rw[this,xj e8]
 try rfl
theorem vr {l:List aV}{y:bR}:y∈cu l↔∃ x∈l,cJ x=y:=by
 unfold cu
 rw[kV e8,List.mem_map]
structure OpOk (o:Op1):Prop where
 kind:1≤o.1∧o.1≤5
 path:f8 o.2.1=0
 val:o.1≠3→o.1≠5→gp o.2.2.1=true
 noval:o.1=3∨o.1=5→o.2.2.1=zeroV
 num:o.1=3→o.2.2.2.1≠0∧o.2.2.2.1≤2147483647 ∧ -2147483647≤o.2.2.2.1
 nonum:o.1≠3→o.2.2.2.1=0
 noseen:o.1=2∨o.1=3→o.2.2.2.2.1=[]
 seen:o.2.2.2.2.1.length≤256∧nG o.2.2.2.2.1=true
theorem awn {o:Op1} (h:opM o=0):OpOk o:=by
 unfold opM at h
 by_cases a1:o.1<1∨5<o.1
 · rw[zp a1] at h; omega
 rw[zn a1] at h
 by_cases a2:f8 o.2.1≠0
 · rw[zp a2] at h; exact absurd h a2
 rw[zn a2] at h
 by_cases a3:(o.1=3∨o.1=5)∧o.2.2.1≠zeroV
 · rw[zp a3] at h; omega
 rw[zn a3] at h
 by_cases a4:¬ (o.1=3∨o.1=5)∧gp o.2.2.1=false
 · rw[zp a4] at h; omega
 rw[zn a4] at h
 by_cases a5:o.1≠3∧o.2.2.2.1≠0
 · rw[zp a5] at h; omega
 rw[zn a5] at h
 by_cases a6:o.1=3∧(o.2.2.2.1=0∨o.2.2.2.1>2147483647∨o.2.2.2.1 < -2147483647)
 · rw[zp a6] at h; omega
 rw[zn a6] at h
 by_cases a7:(o.1=2∨o.1=3)∧0<o.2.2.2.2.1.length
 · rw[zp a7] at h; omega
 rw[zn a7] at h
 by_cases a8:256<o.2.2.2.2.1.length
 · rw[zp a8] at h; omega
 rw[zn a8] at h
 by_cases a9:nG o.2.2.2.2.1=true
 · refine ⟨by omega,Classical.not_not.1 a2,fun h1 h2 => ?_,fun h1 => ?_,fun h1 => ?_,fun h1 => ?_,fun h1 => ?_,by omega,a9⟩
   · cases hr:gp o.2.2.1 with
     | true=>rfl
     | false=>exact absurd ⟨by omega,hr⟩ a4
   · exact Classical.not_not.1 fun h2=>a3 ⟨h1,h2⟩
   · exact ⟨fun h2=>a6 ⟨h1,.inl h2⟩,Int.not_lt.1 fun h2=>a6 ⟨h1,.inr (.inl h2)⟩,Int.not_lt.1 fun h2=>a6 ⟨h1,.inr (.inr h2)⟩⟩
   · exact Classical.not_not.1 fun h2=>a5 ⟨h1,h2⟩
   · exact List.length_eq_zero_iff.1 (by omega)
 · rw[zn a9] at h; omega
structure ItemsOk (l:List aV):Prop where
 len:l.length≤320
 op:∀ x∈l,OpOk x.2.1∧rR x.2.1∧fj x.2.1.1=true
theorem qq {l:List Txn1}{u:List Ref1} (h:TxnsOk l 20):ItemsOk (allM l u):=by
 constructor
 · have : (allM l u).length ≤ l.length * 16 := by
     unfold allM
     refine xT fun t ht => ?_
     split
     · exact Nat.le_trans jj (h.all t ht).len
     · simp
   have:=h.len; omega
 · intro x hx
   obtain ⟨t,ht,j,o,ho,hk,_,_,rfl⟩:=agY hx
   obtain ⟨h1,h2⟩:=(h.all t ht).ops o ho
   refine ⟨?_,h1,hk⟩
   rcases h2 with h2 | ⟨_,h2⟩
   · exact awn h2
   · unfold ka at h2
     unfold fj at hk
     simp only[decide_eq_true_eq] at h2 hk
     omega
theorem fL {l:List aV} (h:ItemsOk l):LowI l:=⟨by have:=h.len; omega,fun x hx=>by
 have:=(h.op x hx).2.1
 exact ⟨by have:=this.1; omega,fun s hs=>by have:=this.2.1 s hs; omega⟩⟩
theorem sI {l:List aV} (h:ItemsOk l):∀ x∈l,x.2.1.2.2.1.2.2.1.length<1000000:=fun x hx=>by
 have:=(h.op x hx).2.1.2.2.1; omega
theorem atOk {l:List aV}{p:Path}{k:Int} (h:ItemsOk l):ItemsOk (atM l p k):=⟨Nat.le_trans (List.length_filter_le ..) h.len,fun x hx=>h.op x (List.mem_filter.1 hx).1⟩
theorem adM {k:Int} (h:fj k=true):ji k=k:=by
 unfold fj at h
 simp only[decide_eq_true_eq] at h
 unfold ji
 split
 · omega
 · split
   · omega
   · split<;>omega
theorem aeK {l:List aV}{p:Path}{k:Int} (h:ItemsOk l):∀ x∈atM l p k,x.2.1.1=k∧x.2.1.2.1=p:=fun x hx=>by
 obtain ⟨h1,h2⟩:=List.mem_filter.1 hx
 unfold isAt at h2
 simp only[Bool.and_eq_true,decide_eq_true_eq] at h2
 exact ⟨by rw[← adM (h.op x h1).2.2]; exact h2.1,h2.2⟩
theorem anv {A:Type}{p q:List A}{y:A} (h:(p++q).length<1000000):insT (p++q) (p.length:Int) [y]=some (p++y::q):=by
 simp only[List.length_append] at h
 unfold insT
 rw[zp ⟨by omega,by simp only[List.length_append]; omega,by simp,by simp only[List.length_append,zl,List.length_nil]; unfold most; omega⟩]
 simp
theorem yY (l:List Val):gg l=uniq cmpV l:=by
 refine dS e7 (key:=fun v:Val=>v) (lI l) (gN e7 l) fun x => ?_
 rw[lJ,kV e7]
theorem rD {u:List Val}{d:Val} (hl:u.length<1000000) (hr:ec cmpV u):∀ (k i j:Nat),j-i≤k→i≤(loA cmpV d u).length→(loA cmpV d u).length≤j→j≤u.length →
   aH (od u d) ((i:Int),(j:Int),())=some (.inl (((loA cmpV d u).length:Int),())):=by
 intro k
 induction k with
 | zero =>
   intro i j hk h1 h2 h3
   refine aw ?_
   unfold od
   simp only[ae]
   rw[zn (by omega),show (loA cmpV d u).length=i by omega]
 | succ k ih =>
   intro i j hk h1 h2 h3
   by_cases hij:i<j
   · have hh:(i+j)/2<u.length:=by omega
     have turn:od u d ((i:Int),(j:Int),())=if cmpV u[(i+j)/2] d<0 then some (.inl ((((i+j)/2+1:Nat):Int),(j:Int),())) else some (.inl ((i:Int),(((i+j)/2:Nat):Int),())):=by
       unfold od
       simp only[ae]
       rw[zp (by omega),show (i:Int)+(j:Int)=((i+j:Nat):Int) by omega,ahF (by omega)]
       simp only[zb]
       rw[wrap64 (n:=(((i+j)/2:Nat):Int)) (by omega) (by omega),aL hh]
       simp only[zb,fc]
       rw[wrap64 (by omega) (by omega)]; rfl
     by_cases hn:(i+j)/2<(loA cmpV d u).length
     · rw[zp (an2 (c:=cmpV) (key:=fun v:Val=>v) hh hn)] at turn
       rw[aD turn]
       exact ih _ _ (by omega) (by omega) h2 h3
     · have:=an3 e7 (key:=fun v:Val=>v) hr hh (k:=d) (Nat.le_of_not_lt hn)
       rw[zn (by omega)] at turn
       rw[aD turn]
       exact ih _ _ (by omega) h1 (by omega) (by omega)
   · refine aw ?_
     unfold od
     simp only[ae]
     rw[zn (by omega),show (loA cmpV d u).length=i by omega]
def anz (q:List Val) (d:Val):Bool:=match q with
 | []=>false
 | x::_=>decide (cmpV x d=0)
theorem acF {u:List Val}{d:Val} (hl:u.length<1000000) (hr:ec cmpV u) :
   zab u d ()=some (((loA cmpV d u).length:Int),anz (hiA cmpV d u) d,()):=by
 have e2:loA cmpV d u++hiA cmpV d u=u:=sA
 have hlen:(loA cmpV d u).length+(hiA cmpV d u).length=u.length:=by rw[← List.length_append,e2]
 unfold zab
 have:=rD (d:=d) hl hr u.length 0 u.length (by omega) (by omega) (by omega) (by omega)
 rw[show ((0:Int),(u.length:Int),())=(((0:Nat):Int),(u.length:Int),()) from rfl,this,aC]
 simp only[ae]
 cases hq:hiA cmpV d u with
 | nil =>
   rw[hq] at hlen
   simp only[List.length_nil] at hlen
   rw[zn (by omega)]; rfl
 | cons x q =>
   rw[hq] at hlen e2
   simp only[zl] at hlen
   rw[zp (by omega),bD]
   have e3:u[(loA cmpV d u).length]? = some x:=by
     have:(loA cmpV d u++x::q)[(loA cmpV d u).length]? = some x:=by simp
     rw[e2] at this
     exact this
   rw[e3]
   simp only[zb,fc]
   rfl
def aav (l:List aV) (p:Path):List Val:=(atM l p 2).map fun x=>x.2.1.2.2.1
theorem vR {l:List aV}{p:Path} (hl:LowI l):zde l p=some (gg (aav l p)):=by
 unfold zde aav
 rw[at_t hl]
 have hlow:=(kl (p:=p) (leaf:=2) hl).len
 generalize atM l p 2=q at hlow
 simp only[zb]
 have loop:=aZ (S:=List Val) (f:=wn q) (l:=q) (fun i o=>((i:Int),o,())) (fun _ x o=>.inl (putU cmpV o x.2.1.2.2.1)) (fun o=>o) (fun i o=>ec cmpV o∧o.length≤i) (fun i h o ho=>by
   refine .inl ⟨_,rfl,?_,jS e7 ho.1,by have:=xl (c:=cmpV) (o:=o) (v:=q[i].2.1.2.2.1); have:=ho.2; omega⟩
   have ho2:=ho.2
   unfold wn
   simp only[ae]
   rw[zp (by omega),aL h]
   simp only[zb,acF (show o.length<1000000 by omega) ho.1]
   rw[wrap64 (by omega) (by omega)]
   generalize q[i].2.1.2.2.1=v
   have e:loA cmpV v o++hiA cmpV v o=o:=sA
   have ins:insT o ((loA cmpV v o).length:Int) [v]=some (loA cmpV v o++v::hiA cmpV v o):=by
     have:=anv (p:=loA cmpV v o) (q:=hiA cmpV v o) (y:=v) (by rw[e]; omega)
     rwa [e] at this
   unfold zak putU
   cases hq:hiA cmpV v o with
   | nil =>
     rw[hq] at ins
     simp only[anz,Bool.not_false,cond_true,ins,Option.map_some,zb]; rfl
   | cons y r =>
     rw[hq] at ins
     simp only[anz]
     by_cases h0:cmpV y v=0
     · rw[zt h0,Bool.not_true,cond_false,zp h0]; rfl
     · rw[zf h0,Bool.not_false,cond_true,zn h0,ins]; rfl) (fun o _=>by
   unfold wn
   simp only[ae]
   rw[zn (by omega)]) [] ⟨List.Pairwise.nil,by simp⟩
 rw[show ((0:Int),([]:List Val),())=(((0:Nat):Int),[],()) from rfl,loop,bV,yY,← xj e7,List.foldl_map]
theorem af7 {l:List aV}{p:Path} (hl:LowI l) (hv:∀ x∈l,x.2.1.2.2.1.2.2.1.length<1000000):zbn l p=some (gg (aav l p)):=by
 unfold zbn aav
 rw[uV hl]
 have hlow:=(kl (p:=p) (leaf:=2) hl).len
 have hq:∀ x∈atM l p 2,x.2.1.2.2.1.2.2.1.length<1000000:=fun x hx=>hv x (List.mem_filter.1 hx).1
 generalize atM l p 2=q at hlow hq
 simp only[zb]
 have loop:=aZ (S:=List Val) (f:=wQ q) (l:=q) (fun i o=>(o,(i:Int),())) (fun _ x o=>.inl (insV o x.2.1.2.2.1)) (fun o=>o) (fun i o=>pQ o∧o.length≤i) (fun i h o ho=>by
   refine .inl ⟨_,rfl,?_,hJ ho.1,by have:=lc (v:=q[i].2.1.2.2.1) (o:=o); have:=ho.2; omega⟩
   unfold wQ
   simp only[ae]
   rw[zp (by omega),aL h]
   have:=ho.2
   simp only[zb,me (show o.length<1000000 by omega) (hq _ (zm h)) ho.1]
   rw[wrap64 (by omega) (by omega)]; rfl) (fun o _=>by
   unfold wQ
   simp only[ae]
   rw[zn (by omega)]) [] ⟨List.Pairwise.nil,by simp⟩
 rw[show (([]:List Val),(0:Int),())=(([]:List Val),((0:Nat):Int),()) from rfl,loop,bV,gg,List.foldl_map]
def sumI (q:List aV):Int:=q.foldl (fun n x=>n+x.2.1.2.2.2.1) 0
def rQ (q:List aV):Prop:=∀ x∈q,-2147483647≤x.2.1.2.2.2.1∧x.2.1.2.2.2.1≤2147483647
theorem ay0 {l:List aV}{p:Path} (hl:LowI l) (hn:rQ (atM l p 3)):zdg l p=some (sumI (atM l p 3)):=by
 unfold zdg
 rw[at_t hl]
 have hlow:=(kl (p:=p) (leaf:=3) hl).len
 generalize atM l p 3=q at hlow hn
 simp only[zb]
 have loop:=aZ (S:=Int) (f:=wm q) (l:=q) (fun i n=>(n,(i:Int),())) (fun _ x n=>.inl (n+x.2.1.2.2.2.1)) (fun n=>n) (fun i n => -2147483648*(i:Int)≤n∧n≤2147483648*(i:Int)) (fun i h n hb=>by
   have hx:=hn _ (zm h)
   refine .inl ⟨_,rfl,?_,by constructor<;>omega⟩
   unfold wm
   simp only[ae]
   rw[zp (by omega),aL h]
   simp only[zb]
   rw[wrap64 (n:=(i:Int)+1) (by omega) (by omega),wrap64 (by omega) (by omega)]; rfl) (fun n _=>by
   unfold wm
   simp only[ae]
   rw[zn (by omega)]) 0 (by omega)
 rw[bV] at loop
 exact loop
def upI (q:List aV) (s:Int×Int):Int×Int:=q.foldl (fun s x=>(if x.2.1.2.2.2.1>0 then s.1+x.2.1.2.2.2.1 else s.1,if x.2.1.2.2.2.1<0 then s.2-x.2.1.2.2.2.1 else s.2)) s
theorem ahr:∀ (q:List aV) (a b n:Int),n=a-b→(upI q (a,b)).1-(upI q (a,b)).2=q.foldl (fun n x=>n+x.2.1.2.2.2.1) n
 | [],a,b,n,h=>by rw[h]; rfl
 | x::q,a,b,n,h=>by
   unfold upI
   rw[List.foldl_cons,List.foldl_cons]
   refine ahr q _ _ _ ?_
   split<;>split<;>omega
theorem ana {l:List aV}{p:Path} (hl:LowI l) (hn:rQ (atM l p 3)):∃ a b,zcg l p=some (a,b,((atM l p 3).length:Int),())∧a-b=sumI (atM l p 3)∧0≤a∧a≤2147483648*1000000∧0≤b∧b≤2147483648*1000000:=by
 unfold zcg
 rw[uV hl]
 have hlow:=(kl (p:=p) (leaf:=3) hl).len
 generalize atM l p 3=q at hlow hn
 simp only[zb]
 have loop:=aZ (S:=Int×Int) (f:=wD q) (l:=q) (fun i s=>(s.1,s.2,(i:Int),())) (fun _ x s=>.inl (if x.2.1.2.2.2.1>0 then s.1+x.2.1.2.2.2.1 else s.1,if x.2.1.2.2.2.1<0 then s.2-x.2.1.2.2.2.1 else s.2)) (fun s=>(.inl (s.1,s.2,()):(Int×Int×Unit)⊕(Int×Int×Int×Unit))) (fun i s=>(0≤s.1∧s.1≤2147483648*(i:Int))∧0≤s.2∧s.2≤2147483648*(i:Int)) (fun i h s hb=>by
   have hx:=hn _ (zm h)
   refine .inl ⟨_,rfl,?_,by simp only; constructor<;>split<;>omega⟩
   unfold wD
   simp only[ae]
   rw[zp (by omega),aL h]
   simp only[zb]
   rw[wrap64 (n:=(i:Int)+1) (by omega) (by omega)]
   by_cases h1:q[i].2.1.2.2.2.1>0
   · rw[zp h1,aC,zn (by omega),zp h1,zn (by omega),wrap64 (by omega) (by omega)]; rfl
   · rw[zn h1,aC,zn h1]
     by_cases h2:q[i].2.1.2.2.2.1<0
     · rw[zp h2,zp h2,wrap64 (by omega) (by omega)]; rfl
     · rw[zn h2,zn h2]; rfl) (fun s _=>by
   unfold wD
   simp only[ae]
   rw[zn (by omega)]) (0,0) (by simp)
 rw[bV] at loop
 have bound:∀ (q:List aV) (s:Int×Int) (k:Nat),rQ q→(0≤s.1∧s.1≤2147483648*(k:Int))→(0≤s.2∧s.2≤2147483648*(k:Int))→(0≤(upI q s).1∧(upI q s).1≤2147483648*((k+q.length:Nat):Int))∧(0≤(upI q s).2∧(upI q s).2≤2147483648*((k+q.length:Nat):Int)):=by
   intro q
   induction q with
   | nil=>intro s k _ h1 h2; exact ⟨h1,h2⟩
   | cons x q ih =>
     intro s k hn h1 h2
     have hx:=hn x (List.mem_cons_self ..)
     unfold upI
     rw[List.foldl_cons,zl,show k+(q.length+1)=(k+1)+q.length by omega]
     exact ih _ (k+1) (fun y hy=>hn y (List.mem_cons_of_mem _ hy)) (by simp only; split<;>omega) (by simp only; split<;>omega)
 have hb:=bound q (0,0) 0 hn (by simp) (by simp)
 refine ⟨(upI q (0,0)).1,(upI q (0,0)).2,?_,ahr q 0 0 0 rfl,hb.1.1,by omega,hb.2.1,by omega⟩
 rw[show ((0:Int),(0:Int),(0:Int),())=(((0,0):Int×Int).1,((0,0):Int×Int).2,((0:Nat):Int),()) from rfl,loop,aC]
 rfl
def entM (l:List aV) (p:Path) (k:Int):Ent:=(p,k,if k=1 then gg (oi l p) else if k=2 then gg (aav l p) else [],if k=3 then sumI (atM l p 3) else 0,())
theorem vi {l:List aV}{p:Path} (h:ItemsOk l):rQ (atM l p 3):=fun x hx=>by
 have h1:=(aeK h x hx).1
 have h2:=((atOk h).op x hx).1.num h1
 omega
theorem anW {p:Path} (hp:p.length<1000000):zap p=some p:=by
 unfold zap iv
 rw[zp (by simp only[most]; omega)]
theorem afI {l:List aV}{p:Path}{k:Int} (h:ItemsOk l) (hp:p.length<1000000):zdw l p k=some (entM l p k):=by
 have hl:=fL h
 unfold zdw entM
 rw[anW hp]
 simp only[zb,ae,uM hl,vR hl,ay0 hl (vi h)]
 by_cases h1:k=1
 · rw[zp h1,zp h1,zn (by omega)]
 · rw[zn h1,zn h1]
   by_cases h2:k=2
   · rw[zp h2,zp h2,zn (by omega)]
   · rw[zn h2,zn h2]
     by_cases h3:k=3
     · rw[zp h3,zp h3]
     · rw[zn h3,zn h3]
theorem af8 {l:List aV}{p:Path}{k:Int} (h:ItemsOk l):zdr l p k=some (entM l p k):=by
 have hl:=fL h
 have hv:=sI h
 obtain ⟨a,b,h1,h2,h3,h4,h5,h6⟩:=ana (p:=p) hl (vi h)
 unfold zdr entM
 simp only[zb,ae,uN hl hv,af7 hl hv,h1]
 by_cases k1:k=1
 · subst k1
   simp
 · rw[zn k1,zn k1,aC]
   by_cases k2:k=2
   · subst k2
     simp
   · rw[zn k2,zn k2,aC]
     by_cases k3:k=3
     · rw[zp k3,zp k3,wrap64 (by omega) (by omega),h2]
     · rw[zn k3,zn k3]
theorem dP {A B:Type}{g:A→B}:∀ {l:List A},(l.flatMap fun x=>[g x])=l.map g
 | []=>rfl
 | x::l=>by rw[List.flatMap_cons,List.map_cons,dP]; rfl
theorem oP {l:List aV} (h:ItemsOk l) {y:bR} (hy:y∈cu l):y.1.length≤12∧∀ s∈y.1,s.length≤120:=by
 obtain ⟨x,hx,rfl⟩:=vr.1 hy
 have:=(h.op x hx).2.1
 exact ⟨this.1,this.2.1⟩
theorem j0 {l:List aV} (h:ItemsOk l):(cu l).length≤320:=by
 have h1:=afK (c:=bB) (l.map cJ)
 rw[List.length_map] at h1
 have:=h.len
 unfold cu; omega
theorem oh {l:List aV}{p:Path}{k:Int} (h:ItemsOk l) (hk:k=1∨k=2):∀ v∈(atM l p k).map (fun x=>x.2.1.2.2.1),gp v=true:=fun v hv=>by
 obtain ⟨x,hx,rfl⟩:=List.mem_map.1 hv
 have h1:=(aeK h x hx).1
 exact ((atOk h).op x hx).1.val (by omega) (by omega)
theorem lH {q:List Val} (hq:q.length≤320) (hr:∀ v∈q,gp v=true):(gg q).length≤400∧∀ v∈gg q,gp v=true:=by
 constructor
 · have:=rE q []
   simp only[List.length_nil,Nat.zero_add] at this
   unfold gg; omega
 · intro v hv
   exact hr v ((lJ q v).1 hv)
theorem ahs:∀ (q:List aV) (n:Int) (k:Nat),rQ q→(-2147483647*(k:Int)≤n∧n≤2147483647*(k:Int)) → -2147483647*((k+q.length:Nat):Int)≤q.foldl (fun n x=>n+x.2.1.2.2.2.1) n∧q.foldl (fun n x=>n+x.2.1.2.2.2.1) n≤2147483647*((k+q.length:Nat):Int)
 | [],n,k,_,h=>h
 | x::q,n,k,hn,h=>by
   have hx:=hn x (List.mem_cons_self ..)
   rw[List.foldl_cons,zl,show k+(q.length+1)=(k+1)+q.length by omega]
   exact ahs q _ (k+1) (fun y hy=>hn y (List.mem_cons_of_mem _ hy)) (by omega)
theorem aei {l:List aV}{p:Path}{k:Int} (h:ItemsOk l) (hp:p.length≤12) (hs:∀ s∈p,s.length≤120):awd (entM l p k)∧inR (entM l p k).2.2.2.1:=by
 have hat:∀ k,(atM l p k).length≤320:=fun k=>(atOk h).len
 refine ⟨⟨hp,hs,?_⟩,?_⟩
 · unfold entM
   simp only
   by_cases h1:k=1
   · rw[zp h1]
     exact lH (by rw[oi,List.length_map]; exact hat 1) (oh h (.inl rfl))
   · rw[zn h1]
     by_cases h2:k=2
     · rw[zp h2]
       exact lH (by rw[aav,List.length_map]; exact hat 2) (oh h (.inr rfl))
     · rw[zn h2]
       exact ⟨by simp,fun v hv=>by cases hv⟩
 · unfold entM inR
   simp only
   have h1:=ahs (atM l p 3) 0 0 (vi h) (by simp)
   have:=hat 3
   unfold sumI
   split<;>omega
theorem anI {l:List aV}{p:Path}{k:Int} (h:ItemsOk l) (hp:p.length≤12) (hs:∀ s∈p,s.length≤120):lowE (entM l p k):=by
 have:=(aei (k:=k) h hp hs).1
 exact ⟨by have:=this.1; omega,by have:=this.2.2.1; omega⟩
theorem pB {l m:List Ent} (hl:l.length<1000000) (hs:∀ e∈l,lowE e):zdm l m=some (decide (l=m)):=by
 unfold zdm zaa
 by_cases hlen:l.length=m.length
 · rw[zt (by omega)]
   simp only[Bool.not_true,cond_false]
   have:=eD (f:=lz l m) (l:=l) (m:=m) (fun i=>((i:Int),())) (fun x y=>decide (x=y)) true false hlen (fun i h h'=>by
     unfold lz
     simp only[ae]
     rw[zp (by omega),aL h,aL h']
     simp only[zb,oe (hs _ (zm h)),bW]
     rw[wrap64 (by omega) (by omega)]
     by_cases e:l[i]=m[i]
     · rw[zp e,zp (zt e)]; rfl
     · rw[zn e,zn (by simpa using e)]) (by
     unfold lz
     simp only[ae]
     rw[zn (by omega)])
   rw[fa,ite_bool] at this
   rw[show ((0:Int),())=(((0:Nat):Int),()) from rfl,this]; rfl
 · rw[zf (by omega)]
   have:l≠m:=fun e=>hlen (by rw[e])
   rw[zf this]; rfl
theorem zq {p:Path}:(decide (p.length≤12)&&p.all fun x=>decide (x.length≤120))=true→p.length≤12∧∀ s∈p,s.length≤120:=by
 simp only[Bool.and_eq_true,decide_eq_true_eq,List.all_eq_true]
 exact id
def dW:List UInt8:=[42,42]
open Classical in
noncomputable def iK (s t:List UInt8):Bool:=match pat s,bl t with | some o,some x=>decide (Mt o x) | _,_=>false
def lowS (q:Path):Prop:=∀ s∈q,s.length<1000000
open Classical in
theorem vy {s t:List UInt8} (hs:s.length<1000000) (ht:t.length<1000000):zc0 s t=some (iK s t):=anh (p:=s) (s:=t) (by omega) (by omega)
noncomputable def cG (s:List UInt8):Bool:=decide (s=[]) || !(pat s).isSome
noncomputable def qcM (q:Path):Int:=if q.length=0 then 8 else if q.length>8 then 9 else if q.any cG=true then 8 else 0
theorem adr {s:List UInt8} (hs:s.length<1000000):zbi s=some (cG s):=by
 unfold zbi cG
 simp only[ae]
 by_cases h:s=[]
 · rw[zp h,zt h]; rfl
 · rw[zn h,zf h,am2 (by omega)]; rfl
theorem ahE {A:Type}{b:A→Bool}:∀ (l:List A) (i:Nat),cq (S:=Unit) (R:=Int) (fun i x _=>if b x=true then .inr (i:Int) else .inl ()) (fun _=>(-1:Int)) i l ()≥0↔l.any b=true
 | [],i=>by simp[cq]
 | x::l,i=>by
   unfold cq
   by_cases h:b x=true
   · rw[zp h,List.any_cons,h]
     simp
   · rw[zn h,List.any_cons,eq_false_of_ne_true h,Bool.false_or]
     exact ahE l (i+1)
theorem kw {q:Path} (hl:lowS q):zcd q=some (qcM q):=by
 unfold zcd qcM
 simp only[ae]
 by_cases h0:q.length=0
 · rw[zp (by omega),zp h0]
 rw[zn (by omega),zn h0]
 by_cases h8:q.length>8
 · rw[zp (by omega),zp h8]
 rw[zn (by omega),zn h8]
 have loop:=aZ (S:=Unit) (R:=Int) (f:=rA q) (l:=q) (fun i _=>((i:Int),())) (fun i x _=>if cG x=true then .inr (i:Int) else .inl ()) (fun _=>(-1:Int)) (fun _ _=>True) (fun i h s _=>by
   have turn:rA q ((i:Int),())=if cG q[i]=true then some (.inr (i:Int)) else some (.inl (((i+1:Nat):Int),())):=by
     unfold rA
     simp only[ae]
     rw[zp (by omega),aL h]
     simp only[zb,adr (hl _ (zm h))]
     rw[wrap64 (by omega) (by omega)]
     cases cG q[i] with
     | true=>rfl
     | false=>rfl
   by_cases hb:cG q[i]=true
   · exact .inr ⟨_,by rw[zp hb],by rw[turn,zp hb]⟩
   · exact .inl ⟨(),by rw[zn hb],by rw[turn,zn hb],trivial⟩) (fun s _=>by
   unfold rA
   simp only[ae]
   rw[zn (by omega)]) () trivial
 have hi:=ahE (b:=cG) q 0
 unfold zag zah
 rw[show ((0:Int),())=(((0:Nat):Int),()) from rfl,loop]
 simp only[zb]
 by_cases hb:q.any cG=true
 · rw[zp hb,zt (hi.2 hb)]; rfl
 · rw[zn hb,zf (fun e=>hb (hi.1 e))]; rfl
noncomputable def b7:Path→Path→Bool
 | [],p=>decide (p.length=0)
 | s::q,p=>if s=dW then (List.range' 0 (p.length+1)).any (fun i=>b7 q (p.drop i)) else match p with
   | []=>false
   | x::p'=>iK s x&&b7 q p'
theorem gZ {p:Path}:b7 [] p=decide (p.length=0):=by unfold b7; rfl
theorem mH {q p:Path}:b7 (dW::q) p=(List.range' 0 (p.length+1)).any (fun i=>b7 q (p.drop i)):=by
 conv=>lhs; unfold b7
 rw[zp rfl]
theorem mG {s:List UInt8}{q:Path} (h:s≠dW):b7 (s::q) []=false:=by
 conv=>lhs; unfold b7
 rw[zn h]
theorem iI {s x:List UInt8}{q p:Path} (h:s≠dW):b7 (s::q) (x::p)=(iK s x&&b7 q p):=by
 conv=>lhs; unfold b7
 rw[zn h]
def NS (G:Prop) {A:Type} (o:Option A) (b:A):Prop:=o=some b∨¬ G∧o=none
theorem NS.bind {G:Prop}{A B:Type}{o:Option A}{a:A}{f:A→Option B}{b:B} (h:NS G o a) (hf:NS G (f a) b):NS G (o.bind f) b:=by
 rcases h with h | ⟨h1,h2⟩
 · rw[h,zb]; exact hf
 · exact .inr ⟨h1,by rw[h2]; rfl⟩
theorem sx {A X:Type}{f:A→Option (A⊕X)}{a:A} (h:f a=none):aH f a=none:=by rw[qj,h]; rfl
abbrev Rec1:=(Path×Path×Unit)→Option Bool
theorem aep {G:Prop}{rec:Rec1}{s:List UInt8}{q p:Path} (hp:p.length<1000000) (hrec:∀ i,i≤p.length→NS G (rec (q,p.drop i,())) (b7 q (p.drop i))):∀ (k i:Nat),p.length+1-i≤k→i≤p.length+1 →
   NS G (aH (lq (s::q,p,()) rec) ((i:Int),())) (.inr (.inr (.inr ((List.range' i (p.length+1-i)).any fun j=>b7 q (p.drop j))))):=by
 have stop:∀ i,¬ i<p.length+1→i≤p.length+1→NS G (aH (lq (s::q,p,()) rec) ((i:Int),())) (.inr (.inr (.inr ((List.range' i (p.length+1-i)).any fun j=>b7 q (p.drop j))))):=fun i h1 h2=>by
   refine .inl (aw ?_)
   unfold lq
   simp only[ae]
   rw[wrap64 (by omega) (by omega),zn (by omega),show p.length+1-i=0 by omega]
   rfl
 intro k
 induction k with
 | zero=>intro i hk hi; exact stop i (by omega) hi
 | succ k ih =>
   intro i hk hi
   by_cases hlt:i<p.length+1
   · have e : lq (s :: q, p, ()) rec ((i : Int), ()) = (rec (q, p.drop i, ())).bind fun r4 => cond r4 (some (.inr (.inr (.inr (.inr true))))) (some (.inl (((i + 1 : Nat) : Int), ()))) := by
       unfold lq
       simp only[ae]
       rw[wrap64 (n:=(p.length:Int)+1) (by omega) (by omega),zp (by omega),sub1]
       simp only[zb]
       rw[gh (by omega)]
       simp only[zb]
       rw[wrap64 (by omega) (by omega)]; rfl
     rw[show p.length+1-i=(p.length+1-(i+1))+1 by omega,List.range'_succ,List.any_cons]
     rcases hrec i (by omega) with h | ⟨h1,h2⟩
     · rw[h,zb] at e
       cases hm:b7 q (p.drop i) with
       | true =>
         rw[hm] at e
         exact .inl (by rw[aw e]; rfl)
       | false =>
         rw[hm] at e
         rw[aD e,Bool.false_or]
         exact ih (i+1) (by omega) (by omega)
     · rw[h2] at e
       exact .inr ⟨h1,sx e⟩
   · exact stop i hlt hi
theorem z6 {rec:Rec1}{p:Path}:bT rec [] p=some (b7 [] p):=by
 unfold bT
 rw[aw (x:=(.inl (p,()):(Path×Unit)⊕Bool)) (by
   unfold lr
   simp only[ae]
   rw[zn (by simp)]),aC,gZ]
 show some (decide ((p.length:Int)=0))=some (decide (p.length=0))
 congr 1
 by_cases h:p.length=0
 · rw[zt h,zt (by omega)]
 · rw[zf h,zf (by omega)]
theorem mF {rec:Rec1}{s:List UInt8}{q p:Path} (hd:s=dW) {o:Option (Unit⊕((Path×Path×Unit)⊕((Path×Unit)⊕Bool)))} (ho:aH (lq (s::q,p,()) rec) ((0:Int),())=o) {b:Bool} (hb:o=some (.inr (.inr (.inr b)))∨o=none) :
   bT rec (s::q) p=if o=none then none else some b:=by
 unfold bT
 have e:lr rec (s::q,p,())=if o=none then none else some (.inr (.inr b)):=by
   unfold lr
   simp only
   rw[zt (show (((s::q).length:Int)>0) by simp only[zl]; omega),cond_true,at0]
   simp only[zb]
   rw[zt (show s=[42,42] from hd),cond_true,ho]
   rcases hb with h | h
   · rw[h,aS,zn (by simp)]
   · rw[h,zp rfl]; rfl
 rcases hb with h | h
 · rw[zn (by rw[h]; simp)] at e ⊢
   rw[aw e,aS]
 · rw[zp h] at e ⊢
   rw[sx e]; rfl
theorem vm {rec:Rec1}{s:List UInt8}{q:Path} (hd:s≠dW):bT rec (s::q) []=some false:=by
 unfold bT
 rw[aw (x:=(.inr false:(Path×Unit)⊕Bool)) (by
   unfold lr
   simp only
   rw[zt (show (((s::q).length:Int)>0) by simp only[zl]; omega),cond_true,at0]
   simp only[zb]
   rw[zf (show ¬ s=[42,42] from hd),cond_false,aC,zt (by simp),cond_true]),aS]
theorem zZ {rec:Rec1}{s x:List UInt8}{q p:Path}{b:Bool} (hd:s≠dW) (hg:zc0 s x=some b):lr rec (s::q,x::p,())=if b=true then some (.inl (q,p,())) else some (.inr (.inr false)):=by
 unfold lr
 simp only
 rw[zt (show (((s::q).length:Int)>0) by simp only[zl]; omega),cond_true,at0,zb,zf (show ¬ s=[42,42] from hd),cond_false,aC,zf (by simp only[zl]; omega),cond_false,at0,zb,zb,hg,zb,sub1,zb,sub1,zb]
 cases b
 · rw[zn (by simp)]; rfl
 · rw[zp rfl]; rfl
theorem vn {rec:Rec1}{s x:List UInt8}{q p:Path} (hd:s≠dW) (hs:s.length<1000000) (hx:x.length<1000000):bT rec (s::q) (x::p)=if iK s x=true then bT rec q p else some false:=by
 have e:=zZ (rec:=rec) (q:=q) (p:=p) hd (vy hs hx)
 generalize iK s x=b at e ⊢
 unfold bT
 cases b
 · rw[zn (by simp)] at e ⊢
   rw[aw e,aS]
 · rw[zp rfl] at e ⊢
   rw[aD e]
theorem oL {G:Prop}{rec:Rec1}:∀ (q p:Path),p.length<1000000→lowS q→lowS p→(∀ (q' p':Path),q'.length<q.length→p'.length<1000000→lowS q'→lowS p'→NS G (rec (q',p',())) (b7 q' p'))→NS G (bT rec q p) (b7 q p)
 | [],p,_,_,_,_=>.inl z6
 | s::q,p,hp,hq,hpl,hrec=>by
   have hq':lowS q:=fun x hx=>hq x (List.mem_cons_of_mem _ hx)
   by_cases hd:s=dW
   · have hl:=aep (G:=G) (rec:=rec) (s:=s) (q:=q) (p:=p) hp (fun i hi=>hrec q (p.drop i) (by simp) (by rw[List.length_drop]; omega) hq' (fun x hx=>hpl x (List.mem_of_mem_drop hx))) (p.length+1) 0 (by omega) (by omega)
     have hm:b7 (s::q) p=(List.range' 0 (p.length+1-0)).any (fun j=>b7 q (p.drop j)):=by rw[hd,mH,Nat.sub_zero]
     rw[hm]
     generalize (List.range' 0 (p.length+1-0)).any (fun j=>b7 q (p.drop j))=b at hl ⊢
     rcases hl with h | ⟨h1,h2⟩
     · exact .inl (by rw[mF hd h (.inl rfl),zn (by simp)])
     · exact .inr ⟨h1,by rw[mF (b:=b) hd h2 (.inr rfl),zp rfl]⟩
   · match p,hp,hpl with
     | [],_,_=>exact .inl (by rw[vm hd,mG hd])
     | x::p,hp,hpl =>
       rw[vn hd (hq s (List.mem_cons_self ..)) (hpl x (List.mem_cons_self ..)),iI hd]
       by_cases hg:iK s x=true
       · rw[zp hg,hg,Bool.true_and]
         exact oL q p (by simp only[zl] at hp; omega) hq' (fun y hy=>hpl y (List.mem_cons_of_mem _ hy)) (fun q' p' h=>hrec q' p' (by simp only[zl]; omega))
       · rw[zn hg,eq_false_of_ne_true hg,Bool.false_and]
         exact .inl rfl
theorem qf (G:Prop):∀ (n:Nat) (q p:Path),p.length<1000000→lowS q→lowS p→(G→q.length<n)→NS G (itT (fun (rec:Rec1) v=>bT rec v.1 v.2.1) n (q,p,())) (b7 q p)
 | 0,q,p,_,_,_,h=>.inr ⟨fun g=>by have:=h g; omega,rfl⟩
 | n+1,q,p,hp,hq,hpl,h=>by
   have e:itT (fun (rec:Rec1) v=>bT rec v.1 v.2.1) (n+1) (q,p,())=bT (itT (fun (rec:Rec1) v=>bT rec v.1 v.2.1) n) q p:=rfl
   rw[e]
   exact oL q p hp hq hpl fun q' p' h1 h2 h3 h4=>qf G n q' p' h2 h3 h4 fun g=>by have:=h g; omega
theorem aga {q p:Path} (hp:p.length<1000000) (hq:lowS q) (hpl:lowS p):zb5 q p=some (b7 q p):=by
 unfold zb5 gt
 refine awD (fun n => ?_) ⟨q.length+1,?_⟩
 · rcases qf False n q p hp hq hpl (fun h=>h.elim) with h | ⟨_,h⟩
   · exact .inr h
   · exact .inl h
 · rcases qf True (q.length+1) q p hp hq hpl (fun _=>by omega) with h | ⟨h,_⟩
   · exact h
   · exact absurd trivial h
noncomputable def kc (q p:Path):Bool:=decide (qcM q=0)&&b7 q p
theorem sj {q p:Path} (hp:p.length<1000000) (hq:lowS q) (hpl:lowS p):zb0 q p=some (kc q p):=by
 unfold zb0 kc
 rw[kw hq]
 simp only[zb,aga hp hq hpl]
 by_cases h:qcM q=0
 · rw[zt h]; rfl
 · rw[zf h]; rfl
noncomputable def selM (l:List aV) (q:Path):List bR:=(cu l).filter fun y=>kc q y.1
theorem mN {l:List aV} (h:ItemsOk l) {y:bR} (hy:y∈cu l):y.1.length<1000000∧lowS y.1:=by
 have:=oP h hy
 exact ⟨by omega,fun s hs=>by have:=this.2 s hs; omega⟩
theorem afV {l:List aV}{q:Path} (h:ItemsOk l) (hq:lowS q):zbu l q=some (selM l q):=by
 have hlen:=j0 h
 unfold zbu
 rw[ags (fL h)]
 simp only[zb]
 have this:=eV (f:=wL q (cu l)) (l:=cu l) (fun i o=>((i:Int),o,())) (fun y=>if kc q y.1=true then [y] else []) (fun o=>o) 1 (fun x _=>by split<;>simp) (fun i hi o ho=>by
   have hs:=mN h (zm hi)
   unfold wL
   simp only[ae]
   rw[zp (by omega),aL hi]
   simp only[zb,sj hs.1 hq hs.2]
   rw[wrap64 (by omega) (by omega),aY (by simp; omega)]
   by_cases hb:kc q (cu l)[i].1=true
   · rw[hb,cond_true,zp rfl]; rfl
   · rw[zn hb,eq_false_of_ne_true hb,cond_false,List.append_nil]; rfl) (fun o _=>by
   unfold wL
   simp only[ae]
   rw[zn (by omega)])
 rw[show ((0:Int),([]:List bR),())=(((0:Nat):Int),[],()) from rfl,this]
 congr 1
 exact hX (q:=fun y:bR=>kc q y.1)
theorem acY {l:List aV}{q:Path}{y:bR} (h:y∈selM l q):y∈cu l:=(List.mem_filter.1 h).1
theorem acZ {l:List aV}{q:Path} (h:ItemsOk l):(selM l q).length≤320:=Nat.le_trans (List.length_filter_le ..) (j0 h)
noncomputable def cm (l:List aV) (q:Path):List Ent:=(selM l q).map fun y=>entM l y.1 y.2.1
theorem mn {l:List aV}{q:Path} (h:ItemsOk l) (hq:lowS q):zcp l q=some (cm l q):=by
 have hlen:=acZ (q:=q) h
 unfold zcp
 rw[afV h hq]
 simp only[zb]
 have this:=eV (f:=wx l (selM l q)) (l:=selM l q) (fun i o=>((i:Int),o,())) (fun y=>[entM l y.1 y.2.1]) (fun o=>o) 1 (fun x _=>Nat.le_refl _) (fun i hi o ho=>by
   have hs:=mN h (acY (zm hi))
   unfold wx
   simp only[ae]
   rw[zp (by omega),aL hi]
   simp only[zb,afI h hs.1]
   rw[wrap64 (by omega) (by omega),aY (by simp; omega)]; rfl) (fun o _=>by
   unfold wx
   simp only[ae]
   rw[zn (by omega)])
 rw[show ((0:Int),([]:List Ent),())=(((0:Nat):Int),[],()) from rfl,this,dP]
 rfl
theorem lS {a:UInt8} (h:a.toNat<128):bl [a]=some [(a.toNat:Int)]:=by rw[rW h,b9]; rfl
theorem ado {a:UInt8} (h:a.toNat<128) (hw:fv (a.toNat:Int)=false):pat [a]=some [(a.toNat:Int)]:=by
 unfold pat
 rw[lS h,zb,zn (by simp),gu hw]; rfl
open Classical in
theorem ad4 {a b:UInt8} (ha:a.toNat<128) (hb:b.toNat<128) (hw:fv (a.toNat:Int)=false):iK [a] [b]=decide (a.toNat=b.toNat):=by
 unfold iK
 rw[ado ha hw,lS hb]
 show decide (Mt [(a.toNat:Int)] [(b.toNat:Int)])=_
 rw[decide_eq_decide,kM (by omega)]
 constructor
 · rintro ⟨x,t,h1,h2,h3⟩
   injection h1 with h1 h4
   rcases h2 with h2 | h2<;>omega
 · intro h
   exact ⟨_,[],rfl,.inr (by omega),rfl⟩
theorem ve {a:UInt8} (h:a.toNat<128) (hw:fv (a.toNat:Int)=false):cG [a]=false:=by
 unfold cG
 rw[ado h hw]; rfl
theorem am6 {q:Path} (h1:q.length≠0) (h2:q.length≤8) (h3:q.any cG=false):qcM q=0:=by
 unfold qcM
 rw[zn h1,zn (by omega),h3,zn (by simp)]
theorem ahP {q:Path} (h:qcM q=0):q.length≠0∧q.length≤8∧q.any cG=false:=by
 unfold qcM at h
 split at h
 · omega
 rename_i h1
 split at h
 · omega
 rename_i h2
 split at h
 · omega
 rename_i h3
 exact ⟨h1,by omega,by simpa using h3⟩
def oneQ (s:List UInt8) (a:Path):Prop:=if s=dW then True else ∃ x,a=[x]∧iK s x=true
def MQ:Path→Path→Prop
 | [],t=>t=[]
 | s::q,t=>∃ a b,t=a++b∧oneQ s a∧MQ q b
theorem pn:∀ {o o' t:Path},MQ (o++o') t↔∃ a b,t=a++b∧MQ o a∧MQ o' b
 | [],o',t=>by
   constructor
   · intro h; exact ⟨[],t,rfl,rfl,h⟩
   · rintro ⟨a,b,rfl,rfl,h⟩; exact h
 | c::o,o',t=>by
   constructor
   · rintro ⟨a,b,rfl,h1,h2⟩
     obtain ⟨a',b',rfl,h3,h4⟩:=pn.1 h2
     exact ⟨a++a',b',by simp,⟨a,a',rfl,h1,h3⟩,h4⟩
   · rintro ⟨a,b,rfl,⟨a',b',rfl,h1,h2⟩,h3⟩
     exact ⟨a',b'++b,by simp,h1,pn.2 ⟨b',b,rfl,h2,h3⟩⟩
theorem mB {a:Path}:oneQ dW a:=by unfold oneQ; rw[zp rfl]; trivial
theorem aoa {o t:Path}:MQ (dW::o) t↔∃ j,MQ o (t.drop j):=by
 constructor
 · rintro ⟨a,b,rfl,h1,h2⟩; exact ⟨a.length,by simpa using h2⟩
 · rintro ⟨j,h⟩; exact ⟨t.take j,t.drop j,by simp,mB,h⟩
theorem yw {s:List UInt8}{o t:Path} (hc:s≠dW):MQ (s::o) t↔∃ x b,t=x::b∧iK s x=true∧MQ o b:=by
 have e:∀ a,oneQ s a↔∃ x,a=[x]∧iK s x=true:=fun a=>by unfold oneQ; rw[zn hc]
 constructor
 · rintro ⟨a,b,rfl,h1,h2⟩
   obtain ⟨x,rfl,h3⟩:=(e a).1 h1
   exact ⟨x,b,rfl,h3,h2⟩
 · rintro ⟨x,b,rfl,h1,h2⟩
   exact ⟨[x],b,rfl,(e _).2 ⟨x,rfl,h1⟩,h2⟩
theorem awU {t:Path}:MQ [] t↔t=[]:=Iff.rfl
theorem bS:∀ (q p:Path),b7 q p=true↔MQ q p
 | [],p=>by rw[gZ,decide_eq_true_eq,List.length_eq_zero_iff]; exact Iff.rfl
 | s::q,p=>by
   by_cases hd:s=dW
   · rw[hd,mH,aoa,List.any_eq_true]
     constructor
     · rintro ⟨i,_,h⟩; exact ⟨i,(bS q _).1 h⟩
     · rintro ⟨j,h⟩
       by_cases hj:j≤p.length
       · exact ⟨j,by simp[List.mem_range'_1]; omega,(bS q _).2 h⟩
       · refine ⟨p.length,by simp[List.mem_range'_1],(bS q _).2 ?_⟩
         rw[List.drop_eq_nil_of_le (by omega)] at h
         rw[List.drop_length]; exact h
   · rw[yw hd]
     cases p with
     | nil =>
       rw[mG hd]
       constructor
       · intro h; cases h
       · rintro ⟨x,b,h,_⟩; cases h
     | cons x p =>
       rw[iI hd,Bool.and_eq_true,bS q p]
       constructor
       · rintro ⟨h1,h2⟩; exact ⟨x,p,rfl,h1,h2⟩
       · rintro ⟨y,b,h,h1,h2⟩
         cases h; exact ⟨h1,h2⟩
theorem tO {P t:Path}{i:Nat}:MQ (P++[dW]) (t.take (i+1))↔MQ P (t.take (i+1))∨MQ (P++[dW]) (t.take i):=by
 have key:∀ i:Nat,MQ (P++[dW]) (t.take i)↔∃ j,j≤i∧MQ P (t.take j):=by
   intro i
   rw[pn]
   constructor
   · rintro ⟨a,b,h1,h2,h3⟩
     by_cases hl:a.length≤i
     · refine ⟨a.length,hl,?_⟩
       have:t.take a.length=a:=by
         have:=congrArg (List.take a.length) h1
         rw[List.take_take,Nat.min_eq_left hl,List.take_left] at this
         exact this
       rw[this]; exact h2
     · exfalso
       have:=congrArg List.length h1
       simp only[List.length_append,List.length_take] at this
       omega
   · rintro ⟨j,hj,h⟩
     refine ⟨t.take j,(t.take i).drop j,?_,h,⟨(t.take i).drop j,[],by simp,mB,rfl⟩⟩
     have:=List.take_append_drop j (t.take i)
     rw[List.take_take,Nat.min_eq_left hj] at this
     exact this.symm
 rw[key,key]
 constructor
 · rintro ⟨j,hj,h⟩
   by_cases e:j=i+1
   · subst e; exact Or.inl h
   · exact Or.inr ⟨j,by omega,h⟩
 · rintro (h | ⟨j,hj,h⟩)
   · exact ⟨i+1,Nat.le_refl _,h⟩
   · exact ⟨j,by omega,h⟩
theorem qX {P:Path}:MQ (P++[dW]) []↔MQ P []:=by
 rw[pn]
 constructor
 · rintro ⟨a,b,h1,h2,h3⟩
   have:=List.append_eq_nil_iff.1 h1.symm
   rw[this.1] at h2; exact h2
 · intro h; exact ⟨[],[],rfl,h,[],[],rfl,mB,rfl⟩
theorem we {P t:Path}{i:Nat}{c:List UInt8} (hc:c≠dW) (hi:i<t.length):MQ (P++[c]) (t.take (i+1))↔MQ P (t.take i)∧iK c t[i]=true:=by
 have e:t.take (i+1)=t.take i++[t[i]]:=by rw[List.take_add_one,zg hi]; rfl
 rw[pn,e]
 constructor
 · rintro ⟨a,b,h1,h2,h3⟩
   rw[yw hc] at h3
   obtain ⟨x,b',rfl,h4,h5⟩:=h3
   cases (awU.1 h5)
   obtain ⟨h6,h7⟩:=List.append_inj' h1 rfl
   cases h7
   rw[h6]; exact ⟨h2,h4⟩
 · rintro ⟨h1,h2⟩
   exact ⟨_,_,rfl,h1,(yw hc).2 ⟨_,[],rfl,h2,rfl⟩⟩
theorem tP {P:Path}{c:List UInt8} (hc:c≠dW):¬ MQ (P++[c]) []:=by
 rw[pn]
 rintro ⟨a,b,h1,h2,h3⟩
 rw[yw hc] at h3
 obtain ⟨x,b',rfl,h4,h5⟩:=h3
 have:=List.append_eq_nil_iff.1 h1.symm
 cases this.2
noncomputable def gQ (P t:Path) (i:Nat):Bool:=b7 P (t.take i)
theorem anC {P t:Path}{i:Nat}:gQ (P++[dW]) t (i+1)=(gQ P t (i+1)||gQ (P++[dW]) t i):=by
 unfold gQ
 rw[Bool.eq_iff_iff,Bool.or_eq_true,bS,bS,bS]; exact tO
theorem agE {P t:Path}:gQ (P++[dW]) t 0=gQ P t 0:=by
 unfold gQ
 rw[Bool.eq_iff_iff,bS,bS,List.take_zero]; exact qX
theorem awA {P t:Path}{i:Nat}{c:List UInt8} (hc:c≠dW) (hi:i<t.length):gQ (P++[c]) t (i+1)=(gQ P t i&&iK c t[i]):=by
 unfold gQ
 rw[Bool.eq_iff_iff,Bool.and_eq_true,bS,bS]; exact we hc hi
theorem anD {P t:Path}{c:List UInt8} (hc:c≠dW):gQ (P++[c]) t 0=false:=by
 unfold gQ
 rw[← Bool.not_eq_true,bS,List.take_zero]; exact tP hc
open Classical in
theorem ac9 {s t:List UInt8} (hs:s.length<1000000) (ht:t.length<1000000):zcj s t=some (iK s t):=zK (p:=s) (s:=t) (by omega) (by omega)
theorem aww {o t:Path} (ho:o.length<1000000) (ht:t.length<1000000) (hol:lowS o) (htl:lowS t) {k:Nat} (hk:k<o.length) {y8:Int×List Bool×Unit} (hy:y8.1=k) {row:List Bool} (hr:RowM t.length (gQ (o.take k) t) row) :
   ∀ (m i:Nat) (nx:List Bool),t.length+1-i≤m→i≤t.length+1→nx.length=t.length+1→(∀ j,j<i→nx[j]? = some (gQ (o.take (k+1)) t j)) →
     ∃ nx',RowM t.length (gQ (o.take (k+1)) t) nx'∧aH (jK y8 o t) ((i:Int),row,nx,())=some (.inl (((k+1:Nat):Int),nx',())):=by
 have hok:o[k]? = some o[k]:=zg hk
 have hkl:o[k].length<1000000:=hol _ (zm hk)
 have htk:o.take (k+1)=o.take k++[o[k]]:=by rw[List.take_add_one,hok]; rfl
 have fin : ∀ (i : Nat) (nx : List Bool), ¬ i ≤ t.length → nx.length = t.length + 1 → (∀ j, j < i → nx[j]? = some (gQ (o.take (k + 1)) t j)) →
     ∃ nx',RowM t.length (gQ (o.take (k+1)) t) nx'∧aH (jK y8 o t) ((i:Int),row,nx,())=some (.inl (((k+1:Nat):Int),nx',())):=by
   intro i nx hi hl hn
   refine ⟨nx,⟨hl,fun j hj=>hn j (by omega)⟩,aw ?_⟩
   unfold jK
   rw[ae,zn (by omega),hy,wrap64 (by omega) (by omega)]; rfl
 intro m
 induction m with
 | zero=>intro i nx hm hi hl hn; exact fin i nx (by omega) hl hn
 | succ m ih =>
   intro i nx hm hi hl hn
   by_cases hlt:i≤t.length
   · have go : jK y8 o t ((i : Int), row, nx, ()) = some (.inl (((i + 1 : Nat) : Int), row, nx.set i (gQ (o.take (k + 1)) t i), ())) := by
       have w1:IntKind.wrap .i64 ((i:Int)+1)=((i+1:Nat):Int):=by rw[wrap64 (by omega) (by omega)]; rfl
       have hri:=hr.2 i hlt
       obtain ⟨b0,hb0⟩:∃ b0,nx[i]? = some b0:=⟨_,zg (by omega)⟩
       have hin:inI nx.length (i:Int)=some i:=bg (by omega)
       have hir:inI row.length (i:Int)=some i:=bg (by have:=hr.1; omega)
       unfold jK
       rw[ae,zp (by omega)]
       simp only[hy,bD,hok,zb,ae,w1,hri,hin,hir,hb0]
       by_cases hc:o[k]=dW
       · rw[zp (show o[k]=[42,42] from hc)]
         cases i with
         | zero =>
           rw[zn (by omega)]
           have hin0:inI nx.length 0=some 0:=hin
           rw[htk,hc,agE]
           cases gQ (o.take k) t 0<;>rfl
         | succ i =>
           have hg:((i+1:Nat):Int)>0:=by omega
           have w2:IntKind.wrap .i64 (((i+1:Nat):Int)-1)=(i:Int):=by rw[wrap64 (by omega) (by omega)]; omega
           have hni:=hn i (by omega)
           have hin':inI nx.length (i:Int)=some i:=bg (by omega)
           rw[zp hg,w2,hin',zb,hni,zb]
           have hgs:gQ (o.take (k+1)) t (i+1)=(gQ (o.take k) t (i+1)||gQ (o.take (k+1)) t i):=by rw[htk,hc]; exact anC
           rw[hgs]
           cases gQ (o.take k) t (i+1)<;>rfl
       · rw[zn (show ¬ o[k]=[42,42] from hc)]
         cases i with
         | zero =>
           rw[zn (by omega),htk,anD hc]
           simp only[zb,cond_false]
           have hin0:inI nx.length 0=some 0:=hin
           rw[show ((0:Nat):Int)=0 from rfl] at *
           rw[hin0,zb,hb0,zb]
         | succ i =>
           have hg:((i+1:Nat):Int)>0:=by omega
           have w2:IntKind.wrap .i64 (((i+1:Nat):Int)-1)=(i:Int):=by rw[wrap64 (by omega) (by omega)]; omega
           have hri':=hr.2 i (by omega)
           have hir':inI row.length (i:Int)=some i:=bg (by have:=hr.1; omega)
           have hti:t[i]? = some t[i]:=zg (by omega)
           have hgs:gQ (o.take (k+1)) t (i+1)=(gQ (o.take k) t i&&iK o[k] t[i]):=by rw[htk]; exact awA hc (by omega)
           rw[zp hg,w2,hir',zb,hri',zb,hgs]
           simp only[zb]
           cases gQ (o.take k) t i with
           | false=>rw[cond_false,Bool.false_and,hin,zb,hb0,zb]
           | true=>rw[cond_true,Bool.true_and,bD,hti,zb,ac9 hkl (htl _ (zm (by omega))),zb,hin,zb,hb0,zb]
     obtain ⟨a1,a2⟩:=acX hl hn hlt
     rw[aD go]
     exact ih (i+1) _ (by omega) (by omega) a1 a2
   · exact fin i nx hlt hl hn
theorem awl {o t:Path} (ho:o.length<1000000) (ht:t.length<1000000) (hol:lowS o) (htl:lowS t) :
   ∀ (m k:Nat) (row:List Bool),o.length-k≤m→k≤o.length→RowM t.length (gQ (o.take k) t) row →
     ∃ row',RowM t.length (gQ o t) row'∧aH (nX o t) ((k:Int),row,())=some (.inl (row',())):=by
 have fin : ∀ (k : Nat) (row : List Bool), ¬ k < o.length → RowM t.length (gQ (o.take k) t) row →
     ∃ row',RowM t.length (gQ o t) row'∧aH (nX o t) ((k:Int),row,())=some (.inl (row',())):=by
   intro k row hk hr
   refine ⟨row,by rw[List.take_of_length_le (by omega)] at hr; exact hr,aw ?_⟩
   unfold nX
   rw[ae,zn (by omega)]
 intro m
 induction m with
 | zero=>intro k row hm hk hr; exact fin k row (by omega) hr
 | succ m ih =>
   intro k row hm hk hr
   by_cases hlt:k<o.length
   · have w:IntKind.wrap .i64 ((t.length:Int)+1)=((t.length+1:Nat):Int):=by rw[wrap64 (by omega) (by omega)]; rfl
     obtain ⟨nx',a1,a2⟩:=aww ho ht hol htl hlt (y8:=((k:Int),row,())) rfl hr (t.length+1) 0 (List.replicate (t.length+1) false) (by omega) (by omega) (by simp) (by intro j hj; omega)
     obtain ⟨row',b1,b2⟩:=ih (k+1) nx' (by omega) (by omega) a1
     refine ⟨row',b1,?_⟩
     rw[aD (b:=(((k+1:Nat):Int),nx',())),b2]
     unfold nX
     rw[ae,zp (by omega),w,qd (by omega),zb,Int.toNat_natCast]
     exact a2
   · exact fin k row hlt hr
theorem af3 {q p:Path} (hp:p.length<1000000) (hq:q.length<1000000) (hql:lowS q) (hpl:lowS p) :
   ∃ row',RowM p.length (gQ q p) row'∧aH (nX q p) (0,((List.replicate (p.length+1) false).set 0 true),())=some (.inl (row',())):=by
 have hrow:RowM p.length (gQ (q.take 0) p) ((List.replicate (p.length+1) false).set 0 true):=by
   refine ⟨by simp,?_⟩
   intro j hj
   unfold gQ
   rw[List.take_zero,gZ,List.length_take,Nat.min_eq_left hj]
   cases j with
   | zero=>rw[List.getElem?_set_self (by simp)]; rfl
   | succ j=>rw[List.getElem?_set_ne (by omega),List.getElem?_replicate,zp (by omega),zf (by omega)]
 exact awl hq hp hql hpl q.length 0 _ (by omega) (by omega) hrow
theorem xR {A R:Type}{b:A→Bool}{yes no:R}:∀ (l:List A) (i:Nat),cq (S:=Unit) (R:=R) (fun _ x _=>if b x=true then .inr yes else .inl ()) (fun _=>no) i l ()=if l.any b=true then yes else no
 | [],i=>by simp[cq]
 | x::l,i=>by
   unfold cq
   by_cases h:b x=true
   · rw[zp h,List.any_cons,h,Bool.true_or,zp rfl]
   · rw[zn h,List.any_cons,eq_false_of_ne_true h,Bool.false_or]
     exact xR l (i+1)
theorem mf {q:Path} (hl:lowS q):zca q=some (qcM q):=by
 unfold zca qcM
 simp only[ae]
 by_cases h0:q.length=0
 · rw[zp (by omega),zp h0]
 rw[zn (by omega),zn h0]
 by_cases h8:q.length>8
 · rw[zp (by omega),zp h8]
 rw[zn (by omega),zn h8]
 have loop:=aZ (S:=Unit) (R:=Int) (f:=rq q) (l:=q) (fun i _=>((i:Int),())) (fun _ x _=>if cG x=true then .inr 8 else .inl ()) (fun _=>(0:Int)) (fun _ _=>True) (fun i h s _=>by
   have turn:rq q ((i:Int),())=if cG q[i]=true then some (.inr 8) else some (.inl (((i+1:Nat):Int),())):=by
     have hs:=hl _ (zm h)
     unfold rq
     simp only[ae]
     rw[zp (by omega),aL h]
     simp only[zb,oC (show q[i].length<4294967296 by omega)]
     rw[wrap64 (by omega) (by omega)]
     unfold cG
     cases pat q[i] with
     | none =>
       by_cases hn:q[i]=[]
       · rw[zp hn,zp (by simp)]
       · rw[zn hn,zp (by simp)]; rfl
     | some o =>
       by_cases hn:q[i]=[]
       · rw[zp hn,zp (by simp[hn])]
       · rw[zn hn,zn (by simp[hn])]; rfl
   by_cases hb:cG q[i]=true
   · exact .inr ⟨_,by rw[zp hb],by rw[turn,zp hb]⟩
   · exact .inl ⟨(),by rw[zn hb],by rw[turn,zn hb],trivial⟩) (fun s _=>by
   unfold rq
   simp only[ae]
   rw[zn (by omega)]) () trivial
 rw[show ((0:Int),())=(((0:Nat):Int),()) from rfl,loop,xR]
theorem uS {q p:Path} (hp:p.length<1000000) (hq:lowS q) (hpl:lowS p):zcf q p=some (kc q p):=by
 unfold zcf kc
 rw[mf hq,zb]
 by_cases h:qcM q=0
 · have h8:=(ahP h).2.1
   rw[zt h,Bool.not_true,cond_false,Bool.true_and]
   have w:IntKind.wrap .i64 ((p.length:Int)+1)=((p.length+1:Nat):Int):=by rw[wrap64 (by omega) (by omega)]; rfl
   obtain ⟨row',b1,b2⟩:=af3 hp (show q.length<1000000 by omega) hq hpl
   rw[w,qd (by omega),zb,Int.toNat_natCast,List.length_replicate]
   have i0:inI (p.length+1) 0=some 0:=bg (i:=0) (by omega)
   rw[i0,zb,List.getElem?_replicate,zp (by omega),zb,b2,zb,bd]
   simp only[]
   rw[bg (by have:=b1.1; omega),zb,b1.2 _ (Nat.le_refl _),zb]
   unfold gQ
   rw[List.take_length]
 · rw[zf h]; rfl
theorem sW {A B:Type}{b:A→Bool}{g:A→B}:∀ {l:List A},(l.flatMap fun y=>if b y=true then [g y] else [])=(l.filter b).map g
 | []=>rfl
 | x::l=>by
   rw[List.flatMap_cons,sW,List.filter_cons]
   by_cases h:b x=true
   · rw[zp h,zp h]; rfl
   · rw[zn h,zn h]; rfl
theorem zJ {l:List aV}{q:Path} (h:ItemsOk l) (hq:lowS q):zdc l q=some (cm l q):=by
 have hlen:=j0 h
 unfold zdc
 rw[uT (fL h)]
 simp only[zb]
 have this:=eV (f:=wo l q (cu l)) (l:=cu l) (fun i o=>((i:Int),o,())) (fun y=>if kc q y.1=true then [entM l y.1 y.2.1] else []) (fun o=>o) 1 (fun x _=>by split<;>simp) (fun i hi o ho=>by
   have hs:=mN h (zm hi)
   unfold wo
   simp only[ae]
   rw[zp (by omega),aL hi]
   simp only[zb,uS hs.1 hq hs.2,af8 h]
   rw[wrap64 (by omega) (by omega),aY (by simp; omega)]
   by_cases hb:kc q (cu l)[i].1=true
   · rw[hb,cond_true,zp rfl]; rfl
   · rw[zn hb,eq_false_of_ne_true hb,cond_false,List.append_nil]; rfl) (fun o _=>by
   unfold wo
   simp only[ae]
   rw[zn (by omega)])
 rw[show ((0:Int),([]:List Ent),())=(((0:Nat):Int),[],()) from rfl,this,sW]
 rfl
abbrev Chg:=Int×Ent×Ent×Unit
theorem eK {a b:Ent} (ha:a.1.length<1000000):za8 a b=some (cmpK (keyE a) (keyE b)):=by
 unfold za8
 simp only[je ha,ju,or_t,zb]
 rfl
theorem fh {a b:Ent} (ha:a.1.length<1000000) (hs:∀ x∈a.1,x.length<1000000):zba a b=some (cmpK (keyE a) (keyE b)):=by
 unfold zba cmpK cmpB keyE
 simp only[d5 ha hs,zb,ae]
 by_cases h0:cmpP a.1 b.1=0
 · rw[zt h0,zp h0]
   simp only[Bool.not_true,cond_false]
   unfold cmpI
   by_cases h1:a.2.1<b.2.1
   · rw[zp h1,zp h1]
   · by_cases h2:a.2.1>b.2.1
     · rw[zn h1,zp h2,zn h1,zp h2]
     · rw[zn h1,zn h2,zn h1,zn h2]
 · rw[zf h0,zn h0]
   simp only[Bool.not_false,cond_true]
instance decC:DecidableEq Chg:=fun a b => @instDecidableEqProd Int (Ent×Ent×Unit) inferInstance decC2 a b
theorem tx {a b:Ent} (ha:lowE a):zcb a b=some (decide (a=b)):=by
 unfold zcb zdm zaa
 simp only[zl,List.length_nil,decide_true,Bool.not_true,cond_false]
 have:=eD (f:=lz [a] [b]) (l:=[a]) (m:=[b]) (fun i=>((i:Int),())) (fun x y=>decide (x=y)) true false rfl (fun i h h'=>by
   have hi:i=0:=by simpa using h
   subst hi
   unfold lz
   simp only[ae]
   rw[zp (by simp),aL h,aL h']
   simp only[zb,List.getElem_cons_zero,oe ha]
   by_cases hab:a=b
   · simp only[zt hab,Bool.not_true,cond_false,if_true]; rw[wrap64 (by omega) (by omega)]; rfl
   · simp only[zf hab,Bool.not_false,cond_true,Bool.false_eq_true,if_false]) (by
   unfold lz
   simp only[ae]
   rw[zn (by simp)])
 rw[fa,ite_bool] at this
 rw[show (0:Int)=((0:Nat):Int) from rfl,this]
 simp
theorem uQ {a b:Ent} (ha:lowE a):zdb a b=some (decide (a=b)):=by
 unfold zdb
 rw[iE (by simp) (fun e he=>by simp at he; subst he; exact ha)]
 simp
def lowC (c:Chg):Prop:=lowE c.2.1∧lowE c.2.2.1
theorem hY {e:Ent} (h:lowE e):zbl e=some e:=by
 unfold zbl zap zam iv
 have h1:e.1.length<most:=by unfold most; have:=h.1; omega
 have h2:e.2.2.1.length<most:=by unfold most; have:=h.2; omega
 rw[zp h1,zp h2]
 rfl
theorem xa {l:List Ent} (hl:l.length<1000000):zbr l=some l:=by
 have:=eV (f:=wM l) (l:=l) (fun i o=>((i:Int),o,())) (fun x=>[x]) (fun o=>o) 1 (fun x _=>by simp) (fun i h o ho=>by
   unfold wM
   simp only[ae]
   rw[zp (by omega),aL h]
   simp only[zb]
   rw[aY (by simp; omega),wrap64 (by omega) (by omega)]
   rfl) (fun o ho=>by
   unfold wM
   simp only[ae]
   rw[zn (by omega)])
 unfold zbr
 rw[List.flatMap_singleton'] at this
 exact this
def sQ (x:Ent):Chg:=(2,x,re,())
def sw (y:Ent):Chg:=(1,re,y,())
def uB (x y:Ent):Chg:=(3,x,y,())
def kP (c:Chg):Ent:=if c.1=1 then c.2.2.1 else c.2.1
def j3 (c:Chg):Path×Int:=keyE (kP c)
def dM:List Ent→List Ent→List Chg:=cr cmpK keyE kO sQ sw uB
theorem awM:∀ (n:Nat) (a b:List Ent),a.length+b.length≤n→(dM a b).length≤a.length+b.length:=by
 intro n
 induction n with
 | zero =>
   intro a b h
   have e1:a=[]:=List.eq_nil_of_length_eq_zero (by omega)
   have e2:b=[]:=List.eq_nil_of_length_eq_zero (by omega)
   subst e1; subst e2
   simp[dM,cr]
 | succ n ih =>
   intro a b h
   match a,b,h with
   | [],b,h=>simp[dM,cr]
   | x::a,[],h=>simp[dM,cr]
   | x::a,y::b,h =>
     simp only[zl] at h
     have i1:=ih a (y::b) (by simp only[zl]; omega)
     have i2:=ih (x::a) b (by simp only[zl]; omega)
     have i3:=ih a b (by omega)
     simp only[zl] at i1 i2
     unfold dM at i1 i2 i3 ⊢
     rw[cr.eq_def]
     simp only
     split
     · simp only[zl]; omega
     · split
       · simp only[zl]; omega
       · rw[List.length_append]
         have:(if kO x y=true then [] else [uB x y]).length≤1:=by split<;>simp
         simp only[zl]; omega
theorem aeo:∀ (n:Nat) (a b:List Ent) (o:List Chg),a.length+b.length≤n→a.length+b.length+o.length<1000000→(∀ e∈a,lowE e)→(∀ e∈b,lowE e)→aH iQ (a,b,o,())=some (o++dM a b):=by
 intro n
 induction n with
 | zero =>
   intro a b o h _ _ _
   have e1:a=[]:=List.eq_nil_of_length_eq_zero (by omega)
   have e2:b=[]:=List.eq_nil_of_length_eq_zero (by omega)
   subst e1; subst e2
   refine aw ?_
   unfold iQ
   simp[dM,cr]
 | succ n ih =>
   intro a b o h hb la lb
   match a,b,h,hb,la,lb with
   | [],[],h,hb,la,lb =>
     refine aw ?_
     unfold iQ
     simp[dM,cr]
   | [],y::b,h,hb,la,lb =>
     simp only[zl,List.length_nil] at h hb
     rw[aD (b:=([],b,o++[sw y],())),ih [] b _ (by simp<;>omega) (by simp<;>omega) (fun e he=>by cases he) (fun e he=>lb e (List.mem_cons_of_mem _ he))]
     · simp[dM,cr]
     · unfold iQ
       simp only[ae]
       rw[zn (by simp),zp (by simp<;>omega),aC]
       simp only[]
       rw[zn (by simp<;>omega),zn (by simp),aC]
       simp only[]
       rw[zn (by omega),zp (by omega),at0]
       simp only[zb,hY (lb y (List.mem_cons_self ..))]
       rw[aY (by simp<;>omega)]
       simp only[zb]
       rw[sub1]
       rfl
   | x::a,[],h,hb,la,lb =>
     simp only[zl,List.length_nil] at h hb
     rw[aD (b:=(a,[],o++[sQ x],())),ih a [] _ (by simp<;>omega) (by simp<;>omega) (fun e he=>la e (List.mem_cons_of_mem _ he)) (fun e he=>by cases he)]
     · cases a<;>simp[dM,cr]
     · unfold iQ
       simp only[ae]
       rw[zp (by simp<;>omega),aC]
       simp only[]
       rw[zp (by simp),aC]
       simp only[]
       rw[zp (by omega),at0]
       simp only[zb,hY (la x (List.mem_cons_self ..))]
       rw[aY (by simp<;>omega)]
       simp only[zb]
       rw[sub1]
       rfl
   | x::a,y::b,h,hb,la,lb =>
     simp only[zl] at h hb
     have lx:=la x (List.mem_cons_self ..)
     have ly:=lb y (List.mem_cons_self ..)
     have la':∀ e∈a,lowE e:=fun e he=>la e (List.mem_cons_of_mem _ he)
     have lb':∀ e∈b,lowE e:=fun e he=>lb e (List.mem_cons_of_mem _ he)
     have hd:dM (x::a) (y::b)=if cmpK (keyE x) (keyE y)<0 then sQ x::dM a (y::b) else if cmpK (keyE x) (keyE y)>0 then sw y::dM (x::a) b else (if kO x y then [] else [uB x y])++dM a b:=by
       unfold dM
       rw[cr.eq_def]
     rw[hd]
     by_cases h1:cmpK (keyE x) (keyE y)<0
     · rw[zp h1,aD (b:=(a,y::b,o++[sQ x],())),ih a (y::b) _ (by simp only[zl]; omega) (by simp<;>omega) la' lb]
       · simp
       · unfold iQ
         simp only[ae]
         rw[zp (by simp<;>omega),aC]
         simp only[]
         rw[zn (by simp<;>omega),zp (by simp<;>omega),at0,at0]
         simp only[zb,eK lx.1,aU]
         rw[zp h1]
         simp only[zb,hY lx]
         rw[aY (by simp<;>omega)]
         simp only[zb]
         rw[sub1]
         rfl
     · rw[zn h1]
       by_cases h2:cmpK (keyE x) (keyE y)>0
       · rw[zp h2,aD (b:=(x::a,b,o++[sw y],())),ih (x::a) b _ (by simp only[zl]; omega) (by simp<;>omega) la lb']
         · simp
         · unfold iQ
           simp only[ae]
           rw[zp (by simp<;>omega),aC]
           simp only[]
           rw[zn (by simp<;>omega),zp (by simp<;>omega),at0,at0]
           simp only[zb,eK lx.1,aU]
           rw[zn h1,zp h2]
           simp only[zb,hY ly]
           rw[aY (by simp<;>omega)]
           simp only[zb]
           rw[sub1]
           rfl
       · rw [zn h2, aD (b := (a, b, o ++ (if kO x y then [] else [uB x y]), ())), ih a b _ (by omega) (by
           rw[List.length_append]
           have:(if kO x y=true then [] else [uB x y]).length≤1:=by split<;>simp
           omega) la' lb']
         · simp
         · unfold iQ
           simp only[ae]
           rw[zp (by simp<;>omega),aC]
           simp only[]
           rw[zn (by simp<;>omega),zp (by simp<;>omega),at0,at0]
           simp only[zb,eK lx.1,aU]
           rw[zn h1,zn h2]
           simp only[zb,tx lx,hY lx,hY ly]
           unfold kO
           by_cases hxy:x=y
           · simp only[zt hxy,Bool.not_true,cond_false,if_true,List.append_nil]
             rw[aC,sub1,sub1]
             rfl
           · simp only[zf hxy,Bool.not_false,cond_true,Bool.false_eq_true,if_false]
             rw[aY (by simp<;>omega)]
             simp only[zb,aU]
             rw[sub1,sub1]
             rfl
theorem awH {a b:List Ent} (h:a.length+b.length<1000000) (la:∀ e∈a,lowE e) (lb:∀ e∈b,lowE e):zch a b=some (dM a b):=by
 have:=aeo _ a b [] (Nat.le_refl _) (by simpa using h) la lb
 simpa [zch] using this
theorem aec {l:List Ent}{e:Ent} (hl:l.length<1000000) (hs:∀ x∈l,kg x):∀ (k i:Nat),l.length-i≤k→i≤l.length →
   ∃ r,aH (nV l e) ((i:Int),())=some r∧((r<0∧(l.drop i).find? (fun x=>decide (cmpK (keyE x) (keyE e)=0))=none)∨∃ (j:Nat) (y:Ent),r=(j:Int)∧l[j]? = some y∧(l.drop i).find? (fun x=>decide (cmpK (keyE x) (keyE e)=0))=some y):=by
 intro k
 have fin:∀ i:Nat,i=l.length→∃ r,aH (nV l e) ((i:Int),())=some r∧((r<0∧(l.drop i).find? (fun x=>decide (cmpK (keyE x) (keyE e)=0))=none)∨∃ (j:Nat) (y:Ent),r=(j:Int)∧l[j]? = some y∧(l.drop i).find? (fun x=>decide (cmpK (keyE x) (keyE e)=0))=some y):=by
   intro i hi
   refine ⟨-1,aw ?_,.inl ⟨by omega,by rw[List.drop_eq_nil_of_le (by omega)]; rfl⟩⟩
   unfold nV
   simp only[ae]
   rw[zn (by omega)]
 induction k with
 | zero=>intro i hk hi; exact fin i (by omega)
 | succ k ih =>
   intro i hk hi
   by_cases hlt:i<l.length
   · rw[List.drop_eq_getElem_cons hlt,List.find?_cons]
     have hx:=hs _ (zm hlt)
     have turn:nV l e ((i:Int),())=if cmpK (keyE l[i]) (keyE e)=0 then some (.inr (i:Int)) else some (.inl (((i+1:Nat):Int),())):=by
       unfold nV
       simp only[ae]
       rw[zp (by omega),aL hlt]
       simp only[zb,fh hx.1.1 hx.2]
       rw[wrap64 (by omega) (by omega)]; rfl
     by_cases hz:cmpK (keyE l[i]) (keyE e)=0
     · rw[zp hz] at turn
       refine ⟨_,aw turn,.inr ⟨i,l[i],rfl,zg hlt,?_⟩⟩
       rw[zt hz]
     · rw[zn hz] at turn
       rw[aD turn,zf hz]
       exact ih (i+1) (by omega) (by omega)
   · exact fin i (by omega)
theorem ahG {l:List Ent}{e:Ent} (hl:l.length<1000000) (hs:∀ x∈l,kg x) :
   ∃ r,zdf l e=some r∧((r<0∧l.find? (fun x=>decide (cmpK (keyE x) (keyE e)=0))=none)∨∃ (j:Nat) (y:Ent),r=(j:Int)∧l[j]? = some y∧l.find? (fun x=>decide (cmpK (keyE x) (keyE e)=0))=some y):=by
 have:=aec (e:=e) hl hs l.length 0 (by omega) (by omega)
 simpa [zdf] using this
theorem ahC (c:Chg):zc2 c=some (kP c):=by
 unfold zc2 kP
 simp only[ae]
 by_cases h:c.1=1
 · rw[zp h,zp h]
 · rw[zn h,zn h]
def insC:Chg→List Chg→List Chg:=ins cmpK j3
theorem sK {v e:Chg}{l:List Chg}:insC v (e::l)=if cmpK (j3 v) (j3 e)<0 then v::e::l else e::insC v l:=by unfold insC; rw[ins]
theorem hP:∀ {v:Chg}{l:List Chg},(insC v l).length=l.length+1
 | v,[]=>rfl
 | v,e::l=>by
   rw[sK]
   split
   · rfl
   · simp only[zl,hP]
theorem vv {l:List Chg}{v:Chg} (hl:l.length<1000000) (hv:kg (kP v)):∀ (k i:Nat) (laid:Bool) (o:List Chg),l.length-i≤k→i≤l.length→o.length≤2*i →
   ((aH (gf l v) (laid,(i:Int),o,()):Option ((Bool×List Chg×Unit)⊕List Chg)).bind (aU fun v9=>cond (!v9.1) ((ch (v9.2.1.length+([v]:List Chg).length)).bind fun u10=>some (v9.2.1++([v]:List Chg))) (some v9.2.1)))=some (if laid=true then o++l.drop i else o++insC v (l.drop i)):=by
 intro k
 have fin:∀ (i:Nat) (laid:Bool) (o:List Chg),i=l.length→o.length≤2*i→((aH (gf l v) (laid,(i:Int),o,()):Option ((Bool×List Chg×Unit)⊕List Chg)).bind (aU fun v9=>cond (!v9.1) ((ch (v9.2.1.length+([v]:List Chg).length)).bind fun u10=>some (v9.2.1++([v]:List Chg))) (some v9.2.1)))=some (if laid=true then o++l.drop i else o++insC v (l.drop i)):=by
   intro i laid o hi ho
   have:aH (gf l v) (laid,(i:Int),o,())=some (.inl (laid,o,())):=by
     refine aw ?_
     unfold gf
     simp only[ae]
     rw[zn (by omega)]
   rw[this,aC,List.drop_eq_nil_of_le (by omega)]
   cases laid with
   | true=>simp
   | false =>
     simp only[Bool.not_false,cond_true,Bool.false_eq_true,if_false]
     rw[aY (by simp<;>omega)]
     rfl
 induction k with
 | zero=>intro i laid o hk hi ho; exact fin i laid o (by omega) ho
 | succ k ih =>
   intro i laid o hk hi ho
   by_cases hlt:i<l.length
   · have w1:IntKind.wrap .i64 ((i:Int)+1)=((i+1:Nat):Int):=by rw[wrap64 (by omega) (by omega)]; rfl
     rw[List.drop_eq_getElem_cons hlt]
     cases laid with
     | true =>
       have turn:gf l v (true,(i:Int),o,())=some (.inl (true,((i+1:Nat):Int),o++[l[i]],())):=by
         unfold gf
         simp only[ae]
         rw[zp (by omega)]
         simp only[Bool.not_true,cond_false,zb,aU]
         rw[aL hlt]
         simp only[zb]
         rw[aY (by simp<;>omega),w1]
         rfl
       rw[aD turn,ih (i+1) true _ (by omega) (by omega) (by simp<;>omega)]
       simp
     | false =>
       simp only[Bool.false_eq_true,if_false]
       rw[sK]
       by_cases hc:cmpK (j3 v) (j3 l[i])<0
       · have turn : gf l v (false, (i : Int), o, ()) = some (.inl (true, ((i + 1 : Nat) : Int), o ++ [v] ++ [l[i]], ())) := by
           unfold gf
           simp only[ae]
           rw[zp (by omega),aL hlt]
           simp only[Bool.not_false,cond_true,ahC,zb,fh hv.1.1 hv.2]
           rw[zp (show cmpK (keyE (kP v)) (keyE (kP l[i]))<0 from hc),aY (by simp<;>omega)]
           simp only[zb,aU]
           rw[aY (by simp<;>omega),w1]
           rfl
         rw[aD turn,ih (i+1) true _ (by omega) (by omega) (by simp<;>omega),zp hc]
         simp
       · have turn : gf l v (false, (i : Int), o, ()) = some (.inl (false, ((i + 1 : Nat) : Int), o ++ [l[i]], ())) := by
           unfold gf
           simp only[ae]
           rw[zp (by omega),aL hlt]
           simp only[Bool.not_false,cond_true,ahC,zb,fh hv.1.1 hv.2]
           rw[zn (show ¬ cmpK (keyE (kP v)) (keyE (kP l[i]))<0 from hc)]
           simp only[zb,aU]
           rw[aY (by simp<;>omega),w1]
           rfl
         rw[aD turn,ih (i+1) false _ (by omega) (by omega) (by simp<;>omega),zn hc]
         simp
   · exact fin i laid o (by omega) ho
theorem qr {l:List Chg}{v:Chg} (hl:l.length<1000000) (hv:kg (kP v)):zbk l v=some (insC v l):=by
 have:=vv hl hv l.length 0 false [] (by omega) (by omega) (by simp)
 simpa [zbk] using this
def iA (b:List Ent):List Chg→Ent→List Chg:=insA cmpK keyE kO sQ uB j3 b
def iB (a:List Ent):List Chg→Ent→List Chg:=insB cmpK keyE sw j3 a
theorem ada {a b:List Ent} (ha:a.length≤1000) (hb:b.length≤1000) (ea:∀ e∈a,kg e) (eb:∀ e∈b,kg e):zcw a b=some (b.foldl (iB a) (a.foldl (iA b) [])):=by
 have l1:=aZ (f:=rg a b) (l:=a) (S:=List Chg) (fun i o=>(o,(i:Int),())) (fun _ x o=>.inl (iA b o x)) (fun o=>(.inl (o,()):(List Chg×Unit)⊕List Chg)) (fun i o=>o.length≤i) (fun i h o ho=>.inl ⟨_,rfl,by
   have hx:=ea _ (zm h)
   obtain ⟨r,hr,hcase⟩:=ahG (l:=b) (e:=a[i]) (by omega) eb
   have w1:IntKind.wrap .i64 ((i:Int)+1)=((i+1:Nat):Int):=by rw[wrap64 (by omega) (by omega)]; rfl
   have turn:rg a b (o,(i:Int),())=some (.inl (iA b o a[i],((i+1:Nat):Int),())):=by
     unfold rg
     simp only[ae]
     rw[zp (by omega),aL h]
     simp only[zb,hr,w1]
     unfold iA insA oneA
     rcases hcase with ⟨h1,h2⟩ | ⟨j,y,rfl,h1,h2⟩
     · rw[zp h1,h2,qr (by omega) (show kg (kP (2,(a[i].1,a[i].2.1,a[i].2.2.1,a[i].2.2.2.1,()),([],0,[],0,()),())) from hx)]
       rfl
     · rw[zn (by omega),h2,bD,h1]
       simp only[zb,uQ hx.1]
       by_cases hs:a[i]=y
       · have:kO a[i] y=true:=by unfold kO; exact zt hs
         rw[zt hs,this]
         simp
       · have:kO a[i] y=false:=by unfold kO; exact zf hs
         rw[zf hs,this]
         simp only[Bool.not_false,cond_true,Bool.false_eq_true,if_false]
         rw[qr (by omega) (show kg (kP (3,a[i],y,())) from hx)]
         rfl
   exact turn,by
   unfold iA insA oneA
   split
   · simp only[List.foldl_cons,List.foldl_nil]
     have:(ins cmpK j3 (sQ a[i]) o).length=o.length+1:=hP
     omega
   · split
     · simp; omega
     · simp only[List.foldl_cons,List.foldl_nil]
       have:∀ v,(ins cmpK j3 v o).length=o.length+1:=fun v=>hP
       rw[this]; omega⟩) (fun o ho=>by
   unfold rg
   simp only[ae]
   rw[zn (by omega)]) [] (by simp)
 rw[bV] at l1
 have hlen:∀ (l:List Ent) (o:List Chg),(l.foldl (iA b) o).length≤o.length+l.length:=by
   intro l
   induction l with
   | nil=>intro o; simp
   | cons x l ihl =>
     intro o
     rw[List.foldl_cons]
     have h1:=ihl (iA b o x)
     have h2:(iA b o x).length≤o.length+1:=by
       unfold iA insA oneA
       split
       · simp only[List.foldl_cons,List.foldl_nil]
         have:(ins cmpK j3 (sQ x) o).length=o.length+1:=hP
         omega
       · split
         · simp
         · simp only[List.foldl_cons,List.foldl_nil]
           have:∀ v,(ins cmpK j3 v o).length=o.length+1:=fun v=>hP
           rw[this]; omega
     simp only[zl]; omega
 have l2:=aZ (f:=lm a b) (l:=b) (S:=List Chg) (fun i o=>(o,(i:Int),())) (fun _ y o=>.inl (iB a o y)) (fun o=>o) (fun i o=>o.length≤1000+i) (fun i h o ho=>.inl ⟨_,rfl,by
   have hx:=eb _ (zm h)
   obtain ⟨r,hr,hcase⟩:=ahG (l:=a) (e:=b[i]) (by omega) ea
   have w1:IntKind.wrap .i64 ((i:Int)+1)=((i+1:Nat):Int):=by rw[wrap64 (by omega) (by omega)]; rfl
   have turn:lm a b (o,(i:Int),())=some (.inl (iB a o b[i],((i+1:Nat):Int),())):=by
     unfold lm
     simp only[ae]
     rw[zp (by omega),aL h]
     simp only[zb,hr,w1]
     unfold iB insB
     rcases hcase with ⟨h1,h2⟩ | ⟨j,y,rfl,h1,h2⟩
     · rw[zp h1,h2,qr (by omega) (show kg (kP (1,([],0,[],0,()),(b[i].1,b[i].2.1,b[i].2.2.1,b[i].2.2.2.1,()),())) from hx)]
       rfl
     · rw[zn (by omega),h2]
       rfl
   exact turn,by
   unfold iB insB
   split
   · have:(ins cmpK j3 (sw b[i]) o).length=o.length+1:=hP
     omega
   · omega⟩) (fun o ho=>by
   unfold lm
   simp only[ae]
   rw[zn (by omega)]) (a.foldl (iA b) []) (by
   have:=hlen a []
   simp at this ⊢
   omega)
 rw[bV] at l2
 unfold zcw
 rw[show ((0:Int))=((0:Nat):Int) from rfl,l1,aC]
 exact l2
theorem anL {a b:List Ent} (ha:a.length≤1000) (hb:b.length≤1000) (ea:∀ e∈a,kg e) (eb:∀ e∈b,kg e) (ra:cT cmpK keyE a) (rb:cT cmpK keyE b):zcw a b=some (dM a b):=by
 rw[ada ha hb ea eb]
 congr 1
 exact agO (key:=keyE) (same:=kO) (G:=sQ) (M:=sw) (T:=uB) (leaf:=j3) aeB (fun x=>rfl) (fun x=>rfl) (fun x y=>rfl) ra rb
theorem awK:∀ (n:Nat) (a b:List Ent),a.length+b.length≤n→∀ c∈dM a b,(c.2.1∈a∨c.2.1=re)∧(c.2.2.1∈b∨c.2.2.1=re):=by
 intro n
 have nilB:∀ b:List Ent,∀ c∈dM [] b,(c.2.1∈([]:List Ent)∨c.2.1=re)∧(c.2.2.1∈b∨c.2.2.1=re):=by
   intro b c hc
   unfold dM at hc
   rw[cr.eq_def] at hc
   simp only[List.mem_map] at hc
   obtain ⟨y,hy,rfl⟩:=hc
   exact ⟨.inr rfl,.inl hy⟩
 induction n with
 | zero =>
   intro a b h
   have e1:a=[]:=List.eq_nil_of_length_eq_zero (by omega)
   subst e1
   exact nilB b
 | succ n ih =>
   intro a b h
   match a,b,h with
   | [],b,h=>exact nilB b
   | x::a,[],h =>
     intro c hc
     unfold dM at hc
     rw[cr.eq_def] at hc
     simp only[List.mem_map] at hc
     obtain ⟨y,hy,rfl⟩:=hc
     exact ⟨.inl hy,.inr rfl⟩
   | x::a,y::b,h =>
     simp only[zl] at h
     intro c hc
     have i1:=ih a (y::b) (by simp only[zl]; omega)
     have i2:=ih (x::a) b (by simp only[zl]; omega)
     have i3:=ih a b (by omega)
     unfold dM at hc i1 i2 i3
     rw[cr.eq_def] at hc
     simp only at hc
     split at hc
     · rcases List.mem_cons.1 hc with rfl | hc
       · exact ⟨.inl (List.mem_cons_self ..),.inr rfl⟩
       · have:=i1 c hc
         exact ⟨this.1.imp_left (List.mem_cons_of_mem _),this.2⟩
     · split at hc
       · rcases List.mem_cons.1 hc with rfl | hc
         · exact ⟨.inr rfl,.inl (List.mem_cons_self ..)⟩
         · have:=i2 c hc
           exact ⟨this.1,this.2.imp_left (List.mem_cons_of_mem _)⟩
       · rcases List.mem_append.1 hc with hc | hc
         · split at hc
           · cases hc
           · simp at hc
             subst hc
             exact ⟨.inl (List.mem_cons_self ..),.inl (List.mem_cons_self ..)⟩
         · have:=i3 c hc
           exact ⟨this.1.imp_left (List.mem_cons_of_mem _),this.2.imp_left (List.mem_cons_of_mem _)⟩
open Classical in
abbrev af0:List Ent→Prop:=cT cmpK keyE
def seen (q:List Ent) (k:Path×Int):Bool:=match q with
 | x::_=>decide (cmpK (keyE x) k=0)
 | []=>false
theorem awL {a b:List Ent} (sa:∀ e∈a,lowE e) (sb:∀ e∈b,lowE e):∀ c∈dM a b,lowC c:=fun c hc=>by
 obtain ⟨h1,h2⟩:=awK _ a b (Nat.le_refl _) c hc
 refine ⟨?_,?_⟩
 · rcases h1 with h1 | h1
   · exact sa _ h1
   · rw[h1]; exact rc.1
 · rcases h2 with h2 | h2
   · exact sb _ h2
   · rw[h2]; exact rc.1
theorem aer {a b:List Ent} (ra:af0 a) (rb:af0 b):dM a b=[]↔a=b:=by
 constructor
 · exact agN aeB (z:=re) ra rb
 · rintro rfl
   exact th aeB a
end Go.Proofs.YtnbgkhdcidbkaaaGreatDoor.Q
