import Derived.Test.YtgfpkhlabdcbmaaDoorW
import Derived.Test.YtgfpkhlabdcbmaaDoorT14
import Derived.Test.YtgfpkhlabdcbmaaDoorT29
set_option linter.unusedVariables false
set_option linter.unusedSimpArgs false
set_option maxRecDepth 100000
namespace Go.Proofs.YtgfpkhlabdcbmaaDoor.Q
open Go.EM Go.TY Go.Proofs Go.Proofs.YtgfpkhlabdcbmaaDoor.Y
def charM:List UInt8→Int×Nat
 | []=>(0,0)
 | a::t =>
   if a.toNat<128 then (a.toNat,1)
   else if 194≤a.toNat∧a.toNat<224 then (match t with
     | b::_=>if 128≤b.toNat∧b.toNat≤191 then (64*((a.toNat:Int)-192)+b.toNat-128,2) else (0,0)
     | _=>(0,0))
   else if 224≤a.toNat∧a.toNat<240 then (match t with
     | b :: c :: _ => if (128 ≤ b.toNat ∧ b.toNat ≤ 191) ∧ (128 ≤ c.toNat ∧ c.toNat ≤ 191) then
         let r:Int:=64*(64*((a.toNat:Int)-224)+b.toNat-128)+c.toNat-128
         if r<2048∨(55296≤r∧r≤57343) then (0,0) else (r,3)
       else (0,0)
     | _=>(0,0))
   else if 240≤a.toNat∧a.toNat<245 then (match t with
     | b :: c :: d :: _ => if (128 ≤ b.toNat ∧ b.toNat ≤ 191) ∧ (128 ≤ c.toNat ∧ c.toNat ≤ 191) ∧ (128 ≤ d.toNat ∧ d.toNat ≤ 191) then
         let r:Int:=64*(64*(64*((a.toNat:Int)-240)+b.toNat-128)+c.toNat-128)+d.toNat-128
         if r<65536∨1114111<r then (0,0) else (r,4)
       else (0,0)
     | _=>(0,0))
   else (0,0)
theorem turn17 {s:List UInt8}{q:Int×Int×Int×Unit}{x:Int}{i:Nat}{b:UInt8} (hi:(i:Int)<q.2.1) (hi4:i≤4) (h:s[i]? = some b) (hx:0≤x) (hx2:x≤100000000) :
   zbf_l17 s q (x,(i:Int),())=if 128≤b.toNat∧b.toNat≤191 then some (.inl (64*x+b.toNat-128,((i+1:Nat):Int),())) else some (.inr (.inr (0,0,()))):=by
 have hb:b.toNat<256:=b.toNat_lt
 simp only[zbf_l17,atI_nat,h,zb,cond_dec,zp hi]
 rw[wrap64 (n:=64*x) (by omega) (by omega),wrap64 (n:=(b.toNat:Int)) (by omega) (by omega),wrap64 (n:=64*x+b.toNat) (by omega) (by omega),wrap64 (n:=64*x+b.toNat-128) (by omega) (by omega),wrap64 (n:=(i:Int)+1) (by omega) (by omega)]
 by_cases h1:b.toNat<128
 · rw[zp (by omega),zn (by omega)]
 · rw[zn (by omega)]
   by_cases h2:b.toNat>191
   · rw[zp (by omega),zn (by omega)]
   · rw[zn (by omega),zp (by omega)]; rfl
theorem stop17 {s:List UInt8}{q:Int×Int×Int×Unit}{x:Int}{i:Nat} (hi:¬ (i:Int)<q.2.1):zbf_l17 s q (x,(i:Int),())=some (.inr (.inl (x,()))):=by
 simp only[zbf_l17,cond_dec,zn hi]
theorem loop17_2 {a b:UInt8}{t:List UInt8}{l:Int}{c x:Int} (hx:0≤x) (hx2:x≤1000) :
   loopT (zbf_l17 (a::b::t) (c,2,l,())) (x,1,())=if 128≤b.toNat∧b.toNat≤191 then some (.inl (64*x+b.toNat-128,())) else some (.inr (0,0,())):=by
 have h:=turn17 (s:=a::b::t) (q:=(c,2,l,())) (i:=1) (b:=b) (x:=x) (by simp) (by omega) rfl hx (by omega)
 by_cases hb:128≤b.toNat∧b.toNat≤191
 · rw[zp hb] at h ⊢
   exact (loopT_inl h).trans (loopT_inr (stop17 (by simp)))
 · rw[zn hb] at h ⊢
   exact loopT_inr h
theorem loop17_3 {a b d:UInt8}{t:List UInt8}{l:Int}{c x:Int} (hx:0≤x) (hx2:x≤1000) :
   loopT (zbf_l17 (a::b::d::t) (c,3,l,())) (x,1,())=if (128≤b.toNat∧b.toNat≤191)∧(128≤d.toNat∧d.toNat≤191) then some (.inl (64*(64*x+b.toNat-128)+d.toNat-128,())) else some (.inr (0,0,())):=by
 have hb':=b.toNat_lt
 have h:=turn17 (s:=a::b::d::t) (q:=(c,3,l,())) (i:=1) (b:=b) (x:=x) (by simp) (by omega) rfl hx (by omega)
 by_cases hb:128≤b.toNat∧b.toNat≤191
 · rw[zp hb] at h
   have h2:=turn17 (s:=a::b::d::t) (q:=(c,3,l,())) (i:=2) (b:=d) (x:=64*x+b.toNat-128) (by simp) (by omega) rfl (by omega) (by omega)
   by_cases hd:128≤d.toNat∧d.toNat≤191
   · rw[zp hd] at h2
     rw[zp ⟨hb,hd⟩]
     exact ((loopT_inl h).trans (loopT_inl h2)).trans (loopT_inr (stop17 (by simp)))
   · rw[zn hd] at h2
     rw[zn (fun e=>hd e.2)]
     exact (loopT_inl h).trans (loopT_inr h2)
 · rw[zn hb] at h
   rw[zn (fun e=>hb e.1)]
   exact loopT_inr h
theorem loop17_4 {a b d e:UInt8}{t:List UInt8}{l:Int}{c x:Int} (hx:0≤x) (hx2:x≤1000) :
   loopT (zbf_l17 (a::b::d::e::t) (c,4,l,())) (x,1,())=if (128≤b.toNat∧b.toNat≤191)∧(128≤d.toNat∧d.toNat≤191)∧(128≤e.toNat∧e.toNat≤191) then some (.inl (64*(64*(64*x+b.toNat-128)+d.toNat-128)+e.toNat-128,())) else some (.inr (0,0,())):=by
 have hb':=b.toNat_lt
 have hd':=d.toNat_lt
 have h:=turn17 (s:=a::b::d::e::t) (q:=(c,4,l,())) (i:=1) (b:=b) (x:=x) (by simp) (by omega) rfl hx (by omega)
 by_cases hb:128≤b.toNat∧b.toNat≤191
 · rw[zp hb] at h
   have h2:=turn17 (s:=a::b::d::e::t) (q:=(c,4,l,())) (i:=2) (b:=d) (x:=64*x+b.toNat-128) (by simp) (by omega) rfl (by omega) (by omega)
   by_cases hd:128≤d.toNat∧d.toNat≤191
   · rw[zp hd] at h2
     have h3:=turn17 (s:=a::b::d::e::t) (q:=(c,4,l,())) (i:=3) (b:=e) (x:=64*(64*x+b.toNat-128)+d.toNat-128) (by simp) (by omega) rfl (by omega) (by omega)
     by_cases he:128≤e.toNat∧e.toNat≤191
     · rw[zp he] at h3
       rw[zp ⟨hb,hd,he⟩]
       exact (((loopT_inl h).trans (loopT_inl h2)).trans (loopT_inl h3)).trans (loopT_inr (stop17 (by simp)))
     · rw[zn he] at h3
       rw[zn (fun q=>he q.2.2)]
       exact ((loopT_inl h).trans (loopT_inl h2)).trans (loopT_inr h3)
   · rw[zn hd] at h2
     rw[zn (fun q=>hd q.2.1)]
     exact (loopT_inl h).trans (loopT_inr h2)
 · rw[zn hb] at h
   rw[zn (fun q=>hb q.1)]
   exact loopT_inr h
theorem char_t (s:List UInt8):zbf s=some ((charM s).1,((charM s).2:Int),()):=by
 cases s with
 | nil=>simp[zbf,charM]
 | cons a t =>
   have ha:a.toNat<256:=a.toNat_lt
   have h0:¬ (((a::t).length:Int)=0):=by simp only[zl]; omega
   have hi:atI (a::t) 0=some a:=by simp[atI]
   unfold zbf
   simp only[cond_dec,zn h0,hi,zb,and_join,ite_and2,ite_or2]
   rw[wrap64 (n:=(a.toNat:Int)) (by omega) (by omega)]
   by_cases c1:a.toNat<128
   · rw[zp (by omega)]
     simp only[bind_join_inr,charM,zp c1]; rfl
   rw[zn (by omega)]
   by_cases c2:194≤a.toNat∧a.toNat<224
   · rw[zp (by omega),wrap64 (by omega) (by omega)]
     simp only[bind_join_inl]
     match t with
     | []=>simp[charM,c1,c2]
     | b::t =>
       rw[zn (by simp only[zl]; omega),loop17_2 (by omega) (by omega)]
       by_cases hb:128≤b.toNat∧b.toNat≤191
       · rw[zp hb]
         simp only[bind_join_inl]
         rw[guard_join,zn (by omega)]
         simp only[charM,c1,c2,hb,if_true,if_false,and_self]; rfl
       · rw[zn hb]
         simp only[bind_join_inr]
         simp[charM,c1,c2,hb]
   rw[zn (by omega)]
   by_cases c3:224≤a.toNat∧a.toNat<240
   · rw[zp (by omega),wrap64 (by omega) (by omega)]
     simp only[bind_join_inl]
     match t with
     | []=>simp[charM,c1,c2,c3]
     | [b]=>simp[charM,c1,c2,c3]
     | b::c::t =>
       have hb:=b.toNat_lt
       have hc:=c.toNat_lt
       rw[zn (by simp only[zl]; omega),loop17_3 (by omega) (by omega)]
       by_cases hb':(128≤b.toNat∧b.toNat≤191)∧(128≤c.toNat∧c.toNat≤191)
       · rw[zp hb']
         simp only[bind_join_inl]
         rw[guard_join]
         simp only[charM,c1,c2,c3,hb',if_true,if_false,and_self]
         by_cases hr:64*(64*((a.toNat:Int)-224)+b.toNat-128)+c.toNat-128<2048∨(55296≤64*(64*((a.toNat:Int)-224)+b.toNat-128)+c.toNat-128∧64*(64*((a.toNat:Int)-224)+b.toNat-128)+c.toNat-128≤57343)
         · rw[zp (by omega),zp hr]; rfl
         · rw[zn (by omega),zn hr]; rfl
       · rw[zn hb']
         simp only[bind_join_inr]
         simp[charM,c1,c2,c3,hb']
   rw[zn (by omega)]
   by_cases c4:240≤a.toNat∧a.toNat<245
   · rw[zp (by omega),wrap64 (by omega) (by omega)]
     simp only[bind_join_inl]
     match t with
     | []=>simp[charM,c1,c2,c3,c4]
     | [b]=>simp[charM,c1,c2,c3,c4]
     | [b,c]=>simp[charM,c1,c2,c3,c4]
     | b::c::d::t =>
       have hb:=b.toNat_lt
       have hc:=c.toNat_lt
       have hd:=d.toNat_lt
       rw[zn (by simp only[zl]; omega),loop17_4 (by omega) (by omega)]
       by_cases hb':(128≤b.toNat∧b.toNat≤191)∧(128≤c.toNat∧c.toNat≤191)∧(128≤d.toNat∧d.toNat≤191)
       · rw[zp hb']
         simp only[bind_join_inl]
         rw[guard_join]
         simp only[charM,c1,c2,c3,c4,hb',if_true,if_false,and_self]
         by_cases hr:64*(64*(64*((a.toNat:Int)-240)+b.toNat-128)+c.toNat-128)+d.toNat-128<65536∨1114111<64*(64*(64*((a.toNat:Int)-240)+b.toNat-128)+c.toNat-128)+d.toNat-128
         · rw[zp (by omega),zp hr]; rfl
         · rw[zn (by omega),zn hr]; rfl
       · rw[zn hb']
         simp only[bind_join_inr]
         simp[charM,c1,c2,c3,c4,hb']
   rw[zn (by omega)]
   simp only[bind_join_inr]
   simp[charM,c1,c2,c3,c4]
theorem charM_le (s:List UInt8):(charM s).2≤s.length:=by
 unfold charM
 repeat' split
 all_goals (try simp only[])
 all_goals (try split)
 all_goals (try simp only[zl])
 all_goals omega
theorem charM_int (s:List UInt8):0≤(charM s).1∧(charM s).1≤1114111:=by
 unfold charM
 repeat' split
 all_goals (try simp only[])
 all_goals (try split)
 all_goals (try simp only[])
 all_goals omega
def runesM (s:List UInt8):Option (List Int) :=
 if h:s=[] then some []
 else if h0:(charM s).2=0 then none
 else (runesM (s.drop (charM s).2)).map fun l=>(charM s).1::l
termination_by s.length
decreasing_by
 have:s.length≠0:=fun e=>h (List.eq_nil_of_length_eq_zero e)
 simp only[List.length_drop]; omega
theorem runesM_nil:runesM []=some []:=by rw[runesM,dif_pos rfl]
theorem runesM_none {s:List UInt8} (h:s≠[]) (h0:(charM s).2=0):runesM s=none:=by rw[runesM,dif_neg h,dif_pos h0]
theorem runesM_step {s:List UInt8} (h:s≠[]) (h0:(charM s).2≠0):runesM s=(runesM (s.drop (charM s).2)).map fun l=>(charM s).1::l:=by rw[runesM,dif_neg h,dif_neg h0]
def runesR (s:List UInt8) (out:List Int):List Int×Bool×Unit :=
 match runesM s with
 | some m=>(out++m,true,())
 | none=>([],false,())
theorem runes_loop {s:List UInt8} (hs:s.length<4294967296):∀ (k i:Nat) (l:List Int),s.length-i≤k→i≤s.length→l.length≤i→loopT (za2_l3 s) ((i:Int),l,())=some (runesR (s.drop i) l):=by
 intro k
 have fin:∀ (i:Nat) (l:List Int),¬ i<s.length→loopT (za2_l3 s) ((i:Int),l,())=some (runesR (s.drop i) l):=by
   intro i l hi
   rw[List.drop_eq_nil_of_le (by omega),loopT_inr (x:=(l,true,())) (by simp only[za2_l3,cond_dec]; rw[zn (by omega)])]
   simp[runesR,runesM_nil]
 induction k with
 | zero=>intro i l hk hi hl; exact fin i l (by omega)
 | succ k ih =>
   intro i l hk hi hl
   by_cases hlt:i<s.length
   · have hne:s.drop i≠[]:=fun e=>by have:=congrArg List.length e; simp at this; omega
     have hle:=charM_le (s.drop i)
     simp only[List.length_drop] at hle
     by_cases h0:(charM (s.drop i)).2=0
     · rw[loopT_inr (x:=([],false,()))]
       · simp only[runesR,runesM_none hne h0]
       · simp only[za2_l3,cond_dec]
         rw[zp (by omega),subI_from (by omega)]
         simp only[zb,char_t]
         rw[zp (by omega)]
     · rw[loopT_inl (b:=(((i+(charM (s.drop i)).2:Nat):Int),l++[(charM (s.drop i)).1],()))]
       · rw[ih _ _ (by omega) (by omega) (by simp; omega)]
         simp only[runesR,runesM_step hne h0,List.drop_drop]
         cases runesM (s.drop (i+(charM (s.drop i)).2))<;>simp
       · simp only[za2_l3,cond_dec]
         rw[zp (by omega),subI_from (by omega)]
         simp only[zb,char_t]
         rw[zn (by omega),roomT_lt (by simp; omega)]
         simp only[zb]
         rw[wrap64 (by omega) (by omega)]
         simp
   · exact fin i l hlt
theorem runes_t {s:List UInt8} (hs:s.length<4294967296):za2 s=some (runesR s []):=by
 have:=runes_loop hs s.length 0 [] (by omega) (by omega) (by simp)
 simpa [za2] using this
def decN (l:List UInt8):Nat×Nat:=if (charM l).2=0 then (65533,1) else ((charM l).1.toNat,(charM l).2)
theorem get_at {s:List UInt8}{i:Nat}{b:UInt8} (h:s[i]? = some b):(⟨s.toArray⟩:ByteArray).get! i=b:=by
 have:(⟨s.toArray⟩:ByteArray).get! i=s.toArray[i]! := rfl
 rw[this]
 simp[h]
theorem cont_no {s:List UInt8}{i:Nat} (h:s.length≤i):decide (i<(⟨s.toArray⟩:ByteArray).size)=false:=by
 have:(⟨s.toArray⟩:ByteArray).size=s.length:=by simp[ByteArray.size]
 rw[this]; simp; omega
theorem cont_yes {s:List UInt8}{i:Nat} (h:i<s.length):decide (i<(⟨s.toArray⟩:ByteArray).size)=true:=by
 have:(⟨s.toArray⟩:ByteArray).size=s.length:=by simp[ByteArray.size]
 rw[this]; simp; omega
theorem drop_at {s t:List UInt8}{i k:Nat}{b:UInt8} (h:s.drop i=t) (hb:t[k]? = some b):s[i+k]? = some b:=by
 rw[← h,List.getElem?_drop] at hb; exact hb
theorem drop_len {s t:List UInt8}{i:Nat} (h:s.drop i=t) (hi:i≤s.length):s.length=i+t.length:=by
 rw[← h,List.length_drop]; omega
def decV (b0:Nat) (b1 b2 b3:Option Nat):Nat×Nat :=
 let cont (b:Option Nat):Bool:=match b with
   | some b=>b/64==2
   | none=>false
 if b0<0x80 then (b0,1)
 else if b0/32==6&&cont b1 then
   let c:=(b0%32)*64+b1.getD 0%64
   if c≥0x80 then (c,2) else (65533,1)
 else if b0/16==14&&cont b1&&cont b2 then
   let c:=(b0%16)*4096+(b1.getD 0%64)*64+b2.getD 0%64
   if c≥0x800&&Utf8.valid c then (c,3) else (65533,1)
 else if b0/8==30&&cont b1&&cont b2&&cont b3 then
   let c:=(b0%8)*262144+(b1.getD 0%64)*4096+(b2.getD 0%64)*64+b3.getD 0%64
   if c≥0x10000&&Utf8.valid c then (c,4) else (65533,1)
 else (65533,1)
theorem decode_V {s t:List UInt8}{i:Nat}{a:UInt8} (h:s.drop i=a::t) (hi:i≤s.length):Utf8.decode ⟨s.toArray⟩ i=decV a.toNat (t[0]?.map (·.toNat)) (t[1]?.map (·.toNat)) (t[2]?.map (·.toNat)):=by
 have hlen:=drop_len h hi
 have g0:(⟨s.toArray⟩:ByteArray).get! (i+0)=a:=get_at (drop_at h rfl)
 have gk:∀ k b,t[k]? = some b→(⟨s.toArray⟩:ByteArray).get! (i+(k+1))=b:=fun k b hb=>get_at (drop_at h (by simpa using hb))
 have cy:∀ k b,t[k]? = some b→decide (i+(k+1)<(⟨s.toArray⟩:ByteArray).size)=true:=fun k b hb=>cont_yes (by
   rcases Nat.lt_or_ge k t.length with h' | h'
   · simp only[zl] at hlen; omega
   · rw[List.getElem?_eq_none h'] at hb; cases hb)
 have cn:∀ k,t[k]? = none→decide (i+(k+1)<(⟨s.toArray⟩:ByteArray).size)=false:=fun k hb=>cont_no (by
   rw[List.getElem?_eq_none_iff] at hb
   simp only[zl] at hlen; omega)
 unfold Utf8.decode decV
 simp only[g0]
 have e:Utf8.runeError=65533:=rfl
 cases h1:t[0]? with
 | none =>
   have c1:=cn 0 h1
   have h2:t[1]? = none:=by rw[List.getElem?_eq_none_iff] at h1 ⊢; omega
   have h3:t[2]? = none:=by rw[List.getElem?_eq_none_iff] at h1 ⊢; omega
   simp only[Nat.zero_add] at c1
   simp[c1,h2,h3,e]
 | some b =>
   have c1:=cy 0 b h1
   have d1:=gk 0 b h1
   simp only[Nat.zero_add] at c1 d1
   cases h2:t[1]? with
   | none =>
     have c2:=cn 1 h2
     have h3:t[2]? = none:=by rw[List.getElem?_eq_none_iff] at h2 ⊢; omega
     simp only[Nat.reduceAdd] at c2
     simp[c1,c2,d1,h3,e]
   | some c =>
     have c2:=cy 1 c h2
     have d2:=gk 1 c h2
     simp only[Nat.reduceAdd] at c2 d2
     cases h3:t[2]? with
     | none =>
       have c3:=cn 2 h3
       simp only[Nat.reduceAdd] at c3
       simp[c1,c2,c3,d1,d2,e]
     | some d =>
       have c3:=cy 2 d h3
       have d3:=gk 2 d h3
       simp only[Nat.reduceAdd] at c3 d3
       simp[c1,c2,c3,d1,d2,d3,e]
theorem div64 {b:Nat}:(b/64==2)=decide (128≤b∧b≤191):=by
 rw[Bool.eq_iff_iff]; simp; omega
theorem decV_N (a:UInt8) (t:List UInt8):decV a.toNat (t[0]?.map (·.toNat)) (t[1]?.map (·.toNat)) (t[2]?.map (·.toNat))=decN (a::t):=by
 have ha:=a.toNat_lt
 unfold decV decN
 by_cases c1:a.toNat<128
 · simp[charM,c1]
 have c1':¬ a.toNat<0x80:=c1
 simp only[zn c1']
 by_cases c2:a.toNat/32=6
 · have e2:(a.toNat/32==6)=true:=by simp[c2]
   match t with
   | [] =>
     have e3:¬ a.toNat/16=14:=by omega
     have e4:¬ a.toNat/8=30:=by omega
     have d3:¬ (224≤a.toNat∧a.toNat<240):=by omega
     have d4:¬ (240≤a.toNat∧a.toNat<245):=by omega
     simp[charM,c1,e3,e4,d3,d4]
   | b::t =>
     have hb:=b.toNat_lt
     have e3:¬ a.toNat/16=14:=by omega
     have e4:¬ a.toNat/8=30:=by omega
     have d3:¬ (224≤a.toNat∧a.toNat<240):=by omega
     have d4:¬ (240≤a.toNat∧a.toNat<245):=by omega
     simp only[List.getElem?_cons_zero,Option.map_some,e2,div64,Bool.true_and,Option.getD_some]
     by_cases hb':128≤b.toNat∧b.toNat≤191
     · rw[zp (by simpa using hb')]
       by_cases c3:194≤a.toNat
       · rw[zp (by omega)]
         have q:194≤a.toNat∧a.toNat<224:=by omega
         simp only[charM,zn c1,zp q,zp hb']
         rw[zn (by omega)]
         congr 1
         omega
       · rw[zn (by omega)]
         have q:¬ (194≤a.toNat∧a.toNat<224):=by omega
         simp[charM,c1,q,d3,d4]
     · rw[zn (by simpa using hb')]
       have x3:(a.toNat/16==14)=false:=by simp[e3]
       have x4:(a.toNat/8==30)=false:=by simp[e4]
       simp only[x3,x4,Bool.false_and,Bool.false_eq_true,if_false]
       by_cases c3:194≤a.toNat∧a.toNat<224
       · simp[charM,c1,c3,hb']
       · simp[charM,c1,c3,d3,d4]
 have e2:(a.toNat/32==6)=false:=by simp[c2]
 simp only[e2,Bool.false_and,Bool.false_eq_true,if_false]
 have d2:¬ (194≤a.toNat∧a.toNat<224):=by omega
 by_cases c3:a.toNat/16=14
 · have e3:(a.toNat/16==14)=true:=by simp[c3]
   have d3:(224≤a.toNat∧a.toNat<240):=by omega
   have x4:(a.toNat/8==30)=false:=by simp; omega
   simp only[e3,x4,Bool.true_and,Bool.false_and,Bool.false_eq_true,if_false]
   match t with
   | []=>simp[charM,c1,d2,d3]
   | [b]=>simp[charM,c1,d2,d3]
   | b::c::t =>
     have hb:=b.toNat_lt
     have hc:=c.toNat_lt
     simp only[List.getElem?_cons_zero,List.getElem?_cons_succ,Option.map_some,div64,Option.getD_some]
     by_cases hb':(128≤b.toNat∧b.toNat≤191)∧(128≤c.toNat∧c.toNat≤191)
     · rw[zp (by simp only[Bool.and_eq_true,decide_eq_true_eq]; exact hb')]
       simp only[charM,zn c1,zn d2,zp d3,zp hb']
       by_cases hr:64*(64*((a.toNat:Int)-224)+b.toNat-128)+c.toNat-128<2048∨(55296≤64*(64*((a.toNat:Int)-224)+b.toNat-128)+c.toNat-128∧64*(64*((a.toNat:Int)-224)+b.toNat-128)+c.toNat-128≤57343)
       · rw [zp hr, zn (by
           simp only[Utf8.valid,Bool.and_eq_true,Bool.or_eq_true,decide_eq_true_eq]; omega)]
         rfl
       · rw [zn hr, zp (by
           simp only[Utf8.valid,Bool.and_eq_true,Bool.or_eq_true,decide_eq_true_eq]; omega),zn (by simp)]
         congr 1
         omega
     · rw[zn (by simp only[Bool.and_eq_true,decide_eq_true_eq]; exact hb')]
       simp only[charM,zn c1,zn d2,zp d3,zn hb']
       rfl
 have e3:(a.toNat/16==14)=false:=by simp[c3]
 have d3:¬ (224≤a.toNat∧a.toNat<240):=by omega
 simp only[e3,Bool.false_and,Bool.false_eq_true,if_false]
 by_cases c4:a.toNat/8=30
 · have e4:(a.toNat/8==30)=true:=by simp[c4]
   simp only[e4,Bool.true_and]
   match t with
   | []=>simp[charM,c1,d2,d3]
   | [b]=>simp[charM,c1,d2,d3]
   | [b,c]=>simp[charM,c1,d2,d3]
   | b::c::d::t =>
     have hb:=b.toNat_lt
     have hc:=c.toNat_lt
     have hd:=d.toNat_lt
     simp only[List.getElem?_cons_zero,List.getElem?_cons_succ,Option.map_some,div64,Option.getD_some]
     by_cases hb':(128≤b.toNat∧b.toNat≤191)∧(128≤c.toNat∧c.toNat≤191)∧(128≤d.toNat∧d.toNat≤191)
     · rw[zp (by simp only[Bool.and_eq_true,decide_eq_true_eq]; exact ⟨⟨hb'.1,hb'.2.1⟩,hb'.2.2⟩)]
       by_cases d4:(240≤a.toNat∧a.toNat<245)
       · simp only[charM,zn c1,zn d2,zn d3,zp d4,zp hb']
         by_cases hr:64*(64*(64*((a.toNat:Int)-240)+b.toNat-128)+c.toNat-128)+d.toNat-128<65536∨1114111<64*(64*(64*((a.toNat:Int)-240)+b.toNat-128)+c.toNat-128)+d.toNat-128
         · rw [zp hr, zn (by
             simp only[Utf8.valid,Bool.and_eq_true,Bool.or_eq_true,decide_eq_true_eq]; omega)]
           rfl
         · rw [zn hr, zp (by
             simp only[Utf8.valid,Bool.and_eq_true,Bool.or_eq_true,decide_eq_true_eq]; omega),zn (by simp)]
           congr 1
           omega
       · rw [zn (by
           simp only[Utf8.valid,Bool.and_eq_true,Bool.or_eq_true,decide_eq_true_eq]; omega)]
         simp only[charM,zn c1,zn d2,zn d3,zn d4]
         rfl
     · rw[zn (by simp only[Bool.and_eq_true,decide_eq_true_eq]; exact fun e=>hb' ⟨e.1.1,e.1.2,e.2⟩)]
       by_cases d4:(240≤a.toNat∧a.toNat<245)
       · simp only[charM,zn c1,zn d2,zn d3,zp d4,zn hb']
         rfl
       · simp only[charM,zn c1,zn d2,zn d3,zn d4]
         rfl
 · have e4:(a.toNat/8==30)=false:=by simp[c4]
   have d4:¬ (240≤a.toNat∧a.toNat<245):=by omega
   simp[e4,charM,c1,d2,d3,d4]
theorem decode_N {s:List UInt8}{i:Nat} (hi:i<s.length):Utf8.decode ⟨s.toArray⟩ i=decN (s.drop i):=by
 cases h:s.drop i with
 | nil=>have:=congrArg List.length h; simp at this; omega
 | cons a t=>rw[decode_V h (by omega),decV_N]
def cmpI (a b:Int):Int:=if a<b then -1 else if a>b then 1 else 0
theorem compare_t (a b:Int):zam a b=some (cmpI a b):=by
 unfold zam zar cmpI
 simp only[zb,decide_true,Bool.not_true,cond_false,cond_dec]
 by_cases h1:a<b
 · simp[h1]
 · by_cases h2:a>b<;>simp[h1,h2]
def orI (a b:Int):Int:=if a=0 then b else a
theorem or_t (a b:Int):zbr [a,b]=some (orI a b):=by
 unfold zbr orI
 by_cases h1:a=0
 · rw[zp h1]
   have t0:zbr_l3 [a,b] (0,())=some (.inl (1,())):=by
     unfold zbr_l3
     simp only[cond_dec,zl,List.length_nil]
     rw[zp (by decide)]
     simp[atI,h1,wrap64]
   rw[loopT_inl t0]
   by_cases h2:b=0
   · have t1 : zbr_l3 [a, b] (1, ()) = some (.inl (2, ())) := by
       unfold zbr_l3
       simp only[cond_dec,zl,List.length_nil]
       rw[zp (by decide)]
       simp[atI,h2,wrap64]
     rw[loopT_inl t1,h2]
     refine loopT_inr ?_
     unfold zbr_l3
     simp only[cond_dec,zl,List.length_nil]
     rw[zn (by decide)]
   · refine loopT_inr ?_
     unfold zbr_l3
     simp only[cond_dec,zl,List.length_nil]
     rw[zp (by decide)]
     simp[atI,h2]
 · rw[zn h1]
   refine loopT_inr ?_
   unfold zbr_l3
   simp only[cond_dec,zl,List.length_nil]
   rw[zp (by decide)]
   simp[atI,h1]
def cmpD (a b:Int×Int×Unit):Int:=orI (cmpI a.1 b.1) (cmpI a.2.1 b.2.1)
def rightM (d:Int×Int×Unit):Bool:=decide (0≤d.1∧d.1≤15∧1≤d.2.1∧d.2.1≤1048576)
def Good (c:Int):Prop:=∃ s,(charM s).2≠0∧(charM s).1=c
abbrev Val:=Int×Int×List UInt8×Unit
theorem eqVal (a b:Val):eqV (.agg (.cons (.int .i64) (.cons (.int .i64) (.cons .str .unit)))) a b=decide (a=b):=by
 obtain ⟨k,n,s,⟨⟩⟩:=a
 obtain ⟨k',n',s',⟨⟩⟩:=b
 simp only[eqV,Bool.and_true]
 rw[Bool.eq_iff_iff]
 simp
theorem charM_one {s:List UInt8} (h:(charM s).2=1):(charM s).1<128:=by
 revert h
 unfold charM
 repeat' split
 all_goals (try simp only[])
 all_goals (try split)
 all_goals (try simp only[])
 all_goals omega
theorem decGo {s:List UInt8} (h:s≠[]):zak s=some (((decN s).1:Int),((decN s).2:Int),()):=by
 have hl:0<s.length:=by cases s with | nil=>exact absurd rfl h | cons _ _=>simp
 have hz:¬ (⟨s.toArray⟩:ByteArray).size=0:=by show ¬ s.toArray.size=0; simp; exact h
 unfold zak decodeT Lib.decodeGo
 rw[zn hz,decode_N hl,List.drop_zero]
theorem nrunes_loop {s:List UInt8} (hs:s.length<1000000):∀ (k i:Nat) (l:List Int),s.length-i≤k→i≤s.length→l.length≤i→loopT (zbi_l3 s) (i,l,())=some (runesR (s.drop i) l):=by
 intro k
 have fin:∀ (i:Nat) (l:List Int),¬ i<s.length→loopT (zbi_l3 s) (i,l,())=some (runesR (s.drop i) l):=by
   intro i l hi
   rw[List.drop_eq_nil_of_le (by omega),loopT_inr (x:=(l,true,())) (by simp only[zbi_l3,cond_dec]; rw[zn (by omega)])]
   simp[runesR,runesM_nil]
 induction k with
 | zero=>intro i l hk hi hl; exact fin i l (by omega)
 | succ k ih =>
   intro i l hk hi hl
   by_cases hlt:i<s.length
   · have hne:s.drop i≠[]:=fun e=>by have:=congrArg List.length e; simp at this; omega
     have hle:=charM_le (s.drop i)
     simp only[List.length_drop] at hle
     have hci:=charM_int (s.drop i)
     by_cases h0:(charM (s.drop i)).2=0
     · rw[loopT_inr (x:=([],false,()))]
       · simp only[runesR,runesM_none hne h0]
       · unfold zbi_l3
         rw[cond_dec,zp (by simp only[]; exact hlt)]
         simp only[decode_N hlt,decN,zp h0]
         rw[zt (by omega)]
         simp only[cond_true]
         rw[subI_from (by omega)]
         simp only[zb,decGo hne,decN,zp h0,cond_dec]
         rw[zp (by omega)]
         rfl
     · rw[loopT_inl (b:=(i+(charM (s.drop i)).2,l++[(charM (s.drop i)).1],()))]
       · rw[ih _ _ (by omega) (by omega) (by simp; omega)]
         simp only[runesR,runesM_step hne h0,List.drop_drop]
         cases runesM (s.drop (i+(charM (s.drop i)).2))<;>simp
       · unfold zbi_l3
         rw[cond_dec,zp (by simp only[]; exact hlt)]
         simp only[decode_N hlt,decN,zn h0]
         have hnat:(((charM (s.drop i)).1.toNat:Nat):Int)=(charM (s.drop i)).1:=by omega
         simp only[hnat]
         have h1:=charM_one (s:=s.drop i)
         by_cases hc:(charM (s.drop i)).1=65533
         · rw[zt hc]
           simp only[cond_true]
           rw[subI_from (by omega)]
           simp only[zb,decGo hne,decN,zn h0,cond_dec]
           rw[zn (by omega),bind_join_inl]
           simp only[]
           rw[roomT_lt (by simp; omega)]
           rfl
         · rw[zf hc]
           simp only[cond_false]
           rw[bind_join_inl]
           simp only[]
           rw[roomT_lt (by simp; omega)]
           rfl
   · exact fin i l hlt
theorem nrunes_t {s:List UInt8} (hs:s.length<1000000):zbi s=some (runesR s []):=by
 have:=nrunes_loop hs s.length 0 [] (by omega) (by omega) (by simp)
 simpa [zbi] using this
theorem runesR_ok {s:List UInt8}:(runesR s []).2.1=(runesM s).isSome:=by
 unfold runesR; cases runesM s<;>rfl
def rightV (v:Val):Bool:=decide ((v.1=1∧v.2.2.1=[] ∧ -2147483647≤v.2.1∧v.2.1≤2147483647)∨(v.1=2∧v.2.1=0∧(runesM v.2.2.1).isSome=true∧v.2.2.1.length≤64)∨(v.1=3∧v.2.2.1=[]∧0≤v.2.1∧v.2.1≤1))
theorem refRight9_t {v:Val} (hv:v.2.2.1.length<4294967296):zaw v=some (rightV v):=by
 unfold zaw rightV
 simp only[runes_t (s:=v.2.2.1) (by omega),zb,runesR_ok,cond_dec]
 by_cases h1:v.1=1
 · rw[zp h1]
   by_cases h2:v.2.2.1=[]
   · by_cases h3:v.2.1 ≥ -2147483647
     · simp only[h1,h2,h3]; simp<;>omega
     · simp only[h1,h2]; simp[h3]<;>omega
   · simp[h1,h2]
 rw[zn h1]
 by_cases h2:v.1=2
 · rw[zp h2]
   cases hr:(runesM v.2.2.1).isSome with
   | true =>
     by_cases h3:v.2.1=0
     · simp only[h2,h3]; simp<;>omega
     · simp[h2,h3]
   | false=>by_cases h3:v.2.1=0<;>simp[h2,h3]
 rw[zn h2]
 by_cases h3:v.1=3
 · rw[zp h3]
   by_cases h4:v.2.2.1=[]
   · by_cases h5:v.2.1≥0
     · simp only[h3,h4]; simp[h5]<;>omega
     · simp only[h3,h4]; simp[h5]<;>omega
   · simp[h3,h4]
 rw[zn h3]
 simp[h1,h2,h3]
abbrev Path:=List (List UInt8)
abbrev Ent:=Path×Int×List Val×Int×Unit
theorem ci_cmp:Cmp cmpI where
 one a b:=by
   unfold cmpI
   split
   · omega
   · split<;>omega
 neg a b:=by
   unfold cmpI
   by_cases h1:a<b
   · rw[zn (by omega),zp (by omega),zp h1]; rfl
   · by_cases h2:a>b
     · rw[zp (by omega),zn h1,zp h2]
     · rw[zn (by omega),zn (by omega),zn h1,zn h2]; rfl
 zero a b:=by
   unfold cmpI
   by_cases h1:a<b
   · rw[zp h1]; constructor<;>intro h<;>omega
   · by_cases h2:a>b
     · rw[zn h1,zp h2]; constructor<;>intro h<;>omega
     · rw[zn h1,zn h2]; constructor<;>intro h<;>omega
 trans a b d h1 h2:=by
   unfold cmpI at h1 h2 ⊢
   have e1:a<b:=by
     by_cases h:a<b
     · exact h
     · rw[zn h] at h1; split at h1<;>omega
   have e2:b<d:=by
     by_cases h:b<d
     · exact h
     · rw[zn h] at h2; split at h2<;>omega
   rw[zp (by omega)]; omega
def mayM (c:Int):Bool:=decide (32≤c∧(c<127∨159<c)∧c≠65533)
theorem may_t (c:Int):zb7 c=some (mayM c):=by
 unfold zb7 mayM
 simp only[cond_dec]
 by_cases h1:c<32
 · rw[zp h1,zp h1,zf (by omega)]
 rw[zn h1]
 by_cases h2:c≥127
 · rw[zp h2]
   by_cases h3:c<160
   · rw[zp h3,zf (by omega)]
   · rw[zn h3]
     by_cases h4:c=65533
     · rw[zt h4,zf (by omega)]; rfl
     · rw[zf h4,zt (by omega)]; rfl
 · rw[zn h2]
   rw[zf (by omega:¬ c=65533),zt (by omega)]; rfl
theorem refMay_t (c:Int):zb0 c=some (mayM c):=by
 unfold zb0 mayM
 simp only[cond_dec]
 by_cases h1:c≥32
 · rw[zp h1]
   by_cases h2:c<127
   · rw[zp h2,zf (by omega:¬ c=65533),zt (by omega)]; rfl
   · rw[zn h2]
     by_cases h3:c>159
     · rw[zp h3]
       by_cases h4:c=65533
       · rw[zt h4,zf (by omega)]; rfl
       · rw[zf h4,zt (by omega)]; rfl
     · rw[zn h3,zf (by omega)]
 · rw[zn h1,zf (by omega)]
theorem runes_len:∀ {s:List UInt8}{l:List Int},runesM s=some l→l.length≤s.length:=by
 have key:∀ (n:Nat) (s:List UInt8) (l:List Int),s.length≤n→runesM s=some l→l.length≤s.length:=by
   intro n
   induction n with
   | zero =>
     intro s l hn h
     have:s=[]:=List.eq_nil_of_length_eq_zero (by omega)
     subst this
     rw[runesM_nil] at h; cases h; simp
   | succ n ih =>
     intro s l hn h
     by_cases hs:s=[]
     · subst hs
       rw[runesM_nil] at h; cases h; simp
     · have hl:s.length≠0:=fun e=>hs (List.eq_nil_of_length_eq_zero e)
       by_cases h0:(charM s).2=0
       · rw[runesM_none hs h0] at h; cases h
       · rw[runesM_step hs h0,Option.map_eq_some_iff] at h
         obtain ⟨l',hl',rfl⟩:=h
         have:=ih _ l' (by rw[List.length_drop]; omega) hl'
         rw[List.length_drop] at this
         simp only[zl]; omega
 intro s l h
 exact key s.length s l (Nat.le_refl _) h
def nameM (s:List UInt8):Bool:=match runesM s with
 | some l=>decide (1≤l.length∧l.length≤24)&&l.all mayM
 | none=>false
theorem nameRight_t {s:List UInt8} (hs:s.length<1000000):zbh s=some (nameM s):=by
 unfold zbh nameM
 rw[nrunes_t hs]
 simp only[zb]
 cases hr:runesM s with
 | none=>simp[runesR,hr]
 | some l =>
   have e:runesR s []=(l,true,()):=by unfold runesR; rw[hr]; rfl
   rw[e]
   simp only[Bool.not_true,cond_false,cond_dec]
   by_cases h0:(l.length:Int)=0
   · rw[zp h0,zf (by omega)]; rfl
   rw[zn h0]
   by_cases h1:(l.length:Int)>24
   · rw[zp h1,zf (by omega)]; rfl
   rw[zn h1,zt (by omega),Bool.true_and]
   have:=loop_all (f:=zbh_l5 (l,true,())) (l:=l) (fun i=>((i:Int),())) mayM true false (fun i h=>by
     unfold zbh_l5
     simp only[cond_dec]
     rw[zp (by omega),atI_lt h]
     simp only[zb,may_t]
     cases mayM l[i] with
     | true=>simp only[Bool.not_true,cond_false,if_true]; rw[wrap64 (by omega) (by omega)]; rfl
     | false=>rfl) (by
     unfold zbh_l5
     simp only[cond_dec]
     rw[zn (by omega)])
   rw[show ((0:Int),())=(((0:Nat):Int),()) from rfl,this]
   cases l.all mayM<;>rfl
theorem refNameRight_t {s:List UInt8} (hs:s.length<1000000):za7 s=some (nameM s):=by
 unfold za7 nameM
 rw[runes_t (by omega)]
 simp only[zb]
 have gen:∀ (l:List Int) (ok:Bool),l.length<1000000→loopT (za7_l3 (l,ok,())) ((0:Int),())=some (if l.all mayM=true then .inl () else .inr false):=by
   intro l ok hl
   have:=loop_all (f:=za7_l3 (l,ok,())) (l:=l) (fun i=>((i:Int),())) mayM (.inl ()) (.inr false) (fun i h=>by
     unfold za7_l3
     simp only[cond_dec]
     rw[zp (by omega),atI_lt h]
     simp only[zb,refMay_t]
     cases mayM l[i] with
     | true=>simp only[Bool.not_true,cond_false,if_true]; rw[wrap64 (by omega) (by omega)]; rfl
     | false=>rfl) (by
     unfold za7_l3
     simp only[cond_dec]
     rw[zn (by omega)])
   exact this
 cases hr:runesM s with
 | none =>
   have e:runesR s []=([],false,()):=by unfold runesR; rw[hr]
   rw[e,gen [] false (by simp)]
   rfl
 | some l =>
   have e:runesR s []=(l,true,()):=by unfold runesR; rw[hr]; rfl
   have hl:l.length≤s.length:=runes_len hr
   rw[e,gen l true (by omega)]
   cases hm:l.all mayM with
   | false =>
     simp only[Bool.false_eq_true,if_false,bind_join_inr,hm,Bool.and_false]
   | true =>
     simp only[if_true,bind_join_inl,cond_true,hm,Bool.and_true,cond_dec]
     by_cases h1:(l.length:Int)≥1
     · rw[zp h1]
       congr 1
       rw[decide_eq_decide]; omega
     · rw[zn h1,zf (by omega)]
def checkM (p:Path):Int:=if p.length=0 then 8 else if p.length>8 then 9 else if p.all nameM=true then 0 else 8
theorem check_t {p:Path} (hs:∀ x∈p,x.length<1000000):zbq p=some (checkM p):=by
 unfold zbq checkM
 simp only[cond_dec]
 by_cases h1:(p.length:Int)=0
 · rw[zp h1,zp (show p.length=0 by omega)]
 rw[zn h1,zn (show ¬ p.length=0 by omega)]
 by_cases h2:(p.length:Int)>8
 · rw[zp h2,zp (show p.length>8 by omega)]
 rw[zn h2,zn (show ¬ p.length>8 by omega)]
 unfold zae zaf
 have gen:=loop_list (f:=zaf_l2 p) (l:=p) (S:=Unit) (fun i _=>((i:Int),())) (fun i x _=>if nameM x=true then .inl () else .inr (i:Int)) (fun _ => -1) (fun _ _=>True) (fun i h s _=>by
   have turn:zaf_l2 p ((i:Int),())=if nameM p[i]=true then some (.inl (((i+1:Nat):Int),())) else some (.inr (i:Int)):=by
     unfold zaf_l2 zat
     simp only[cond_dec]
     rw[zp (by omega),atI_lt h]
     simp only[zb,nameRight_t (hs _ (zm h))]
     cases nameM p[i] with
     | true=>simp only[Bool.not_true,cond_false,if_true]; rw[wrap64 (by omega) (by omega)]; rfl
     | false=>rfl
   by_cases hn:nameM p[i]=true
   · rw[zp hn] at turn ⊢
     exact .inl ⟨(),rfl,turn,trivial⟩
   · rw[zn hn] at turn ⊢
     exact .inr ⟨_,rfl,turn⟩) (fun s _=>by
   unfold zaf_l2
   simp only[cond_dec]
   rw[zn (by omega)]) () trivial
 have val:∀ (l:Path) (i:Nat),(foldE (S:=Unit) (fun i x _=>if nameM x=true then .inl () else .inr (i:Int)) (fun _=>(-1:Int)) i l ()≥0)↔¬ l.all nameM=true:=by
   intro l
   induction l with
   | nil=>intro i; simp[foldE]
   | cons x l ih =>
     intro i
     by_cases hn:nameM x=true
     · simp only[foldE,hn,if_true,List.all_cons,Bool.true_and]
       exact ih (i+1)
     · simp[foldE,hn]
 rw[show ((0:Int),())=(((0:Nat):Int),()) from rfl,gen]
 simp only[zb]
 by_cases ha:p.all nameM=true
 · rw[zf (fun h=>(val p 0).1 h ha),zp ha]; rfl
 · rw[zt ((val p 0).2 ha),zn ha]; rfl
theorem refCheck_t {p:Path} (hs:∀ x∈p,x.length<1000000):za0 p=some (checkM p):=by
 unfold za0 checkM
 simp only[cond_dec]
 by_cases h1:(p.length:Int)=0
 · rw[zp h1,zp (show p.length=0 by omega)]
 rw[zn h1,zn (show ¬ p.length=0 by omega)]
 by_cases h2:(p.length:Int)>8
 · rw[zp h2,zp (show p.length>8 by omega)]
 rw[zn h2,zn (show ¬ p.length>8 by omega)]
 have:=loop_all (f:=za0_l6 p) (l:=p) (fun i=>((i:Int),())) nameM (0:Int) 8 (fun i h=>by
   unfold za0_l6
   simp only[cond_dec]
   rw[zp (by omega),atI_lt h]
   simp only[zb,refNameRight_t (hs _ (zm h))]
   cases nameM p[i] with
   | true=>simp only[Bool.not_true,cond_false,if_true]; rw[wrap64 (by omega) (by omega)]; rfl
   | false=>rfl) (by
   unfold za0_l6
   simp only[cond_dec]
   rw[zn (by omega)])
 exact this
instance decE1:DecidableEq (List Val×Int×Unit):=fun a b => @instDecidableEqProd (List Val) (Int×Unit) inferInstance inferInstance a b
instance decE2:DecidableEq (Int×List Val×Int×Unit):=fun a b => @instDecidableEqProd Int (List Val×Int×Unit) inferInstance decE1 a b
instance decE:DecidableEq Ent:=fun a b => @instDecidableEqProd Path (Int×List Val×Int×Unit) inferInstance decE2 a b
instance decC1:DecidableEq (Ent×Unit):=fun a b => @instDecidableEqProd Ent Unit decE inferInstance a b
instance decC2:DecidableEq (Ent×Ent×Unit):=fun a b => @instDecidableEqProd Ent (Ent×Unit) decE decC1 a b
theorem ite_bool {b:Bool}:(if b=true then true else false)=b:=by cases b<;>rfl
theorem strsEq_t {a b:Path} (ha:a.length<1000000):zaj a b=some (decide (a=b)):=by
 unfold zaj
 by_cases hl:a.length=b.length
 · rw[zt (by omega)]
   simp only[Bool.not_true,cond_false]
   have:=loop_all2 (f:=zaj_l4 a b) (l:=a) (m:=b) (fun i=>((i:Int),())) (fun x y=>decide (x=y)) true false hl (fun i h h'=>by
     unfold zaj_l4
     simp only[cond_dec]
     rw[zp (by omega),atI_lt h,atI_lt h']
     simp only[zb]
     cases decide (a[i]=b[i]) with
     | true=>simp only[Bool.not_true,cond_false,if_true]; rw[wrap64 (by omega) (by omega)]; rfl
     | false=>rfl) (by
     unfold zaj_l4
     simp only[cond_dec]
     rw[zn (by omega)])
   rw[all2_dec,ite_bool] at this
   exact this
 · rw[zf (by omega)]
   have:a≠b:=fun e=>hl (by rw[e])
   rw[zf this]; rfl
theorem pathSame_t {a b:Path} (ha:a.length<1000000):zbw a b=some (decide (a=b)):=by
 unfold zbw
 rw[strsEq_t ha]; rfl
theorem shortP_t {p:Path}:zaz p=some (decide (p.length≤12)&&p.all fun x=>decide (x.length≤120)):=by
 unfold zaz
 simp only[cond_dec]
 by_cases h1:(p.length:Int)>12
 · rw[zp h1,zf (by omega)]; rfl
 rw[zn h1,zt (by omega),Bool.true_and]
 have:=loop_all (f:=zaz_l4 p) (l:=p) (fun i=>((i:Int),())) (fun x=>decide (x.length≤120)) true false (fun i h=>by
   unfold zaz_l4
   simp only[cond_dec]
   rw[zp (by omega),atI_lt h]
   simp only[zb]
   by_cases h2:(p[i].length:Int)>120
   · rw[zp h2,zn (by simp; omega)]
   · rw[zn h2,zp (by simp; omega),wrap64 (by omega) (by omega)]; rfl) (by
   unfold zaz_l4
   simp only[cond_dec]
   rw[zn (by omega)])
 rw[ite_bool] at this
 exact this
theorem foldE_inl {R X S:Type}{g:S→X→S}{fin:S→R}:∀ (l:List X) (i:Nat) (s:S),foldE (fun _ x s=>.inl (g s x)) fin i l s=fin (l.foldl g s)
 | [],_,s=>rfl
 | x::l,i,s=>by simp only[foldE,List.foldl_cons]; exact foldE_inl l (i+1) (g s x)
theorem half_t {n:Nat} (h:n<9000000):shrT .u64 (IntKind.wrap .u64 (IntKind.wrap .i64 (n:Int))) 1=some ((n/2:Nat):Int):=by
 rw[wrap64 (by omega) (by omega)]
 have w:IntKind.wrap .u64 (n:Int)=(n:Int):=by simp[IntKind.wrap,IntKind.bits,IntKind.signed]; omega
 rw[w]
 unfold shrT
 rw[zn (by omega)]
 have e:(2:Int) ^ min (Int.toNat 1) (IntKind.bits .u64)=2:=by decide
 rw[e,Int.fdiv_eq_ediv_of_nonneg _ (by omega)]
 congr 1
theorem valueRight_t {v:Val} (hv:v.2.2.1.length<1000000):za3 v=some (rightV v):=by
 unfold za3 rightV
 simp only[nrunes_t hv,zb,runesR_ok,cond_dec]
 by_cases h1:v.1=1
 · rw[zp h1]
   by_cases h2:v.2.2.1=[]
   · by_cases h3:v.2.1 ≥ -2147483647
     · simp only[h1,h2,h3]; simp<;>omega
     · simp only[h1,h2]; simp[h3]<;>omega
   · simp[h1,h2]
 rw[zn h1]
 by_cases h2:v.1=2
 · rw[zp h2]
   cases hr:(runesM v.2.2.1).isSome with
   | true =>
     by_cases h3:v.2.1=0
     · simp only[h2,h3]; simp<;>omega
     · simp[h2,h3]
   | false=>simp[h2]
 rw[zn h2]
 by_cases h3:v.1=3
 · rw[zp h3]
   by_cases h4:v.2.2.1=[]
   · by_cases h5:v.2.1=0
     · simp[h3,h4,h5]
     · simp only[h3,h4,zn h5,if_true,Option.some.injEq,decide_eq_decide,true_and,false_and,and_true,false_or,or_false,decide_true,cond_true]
       omega
   · simp[h3,h4]
 rw[zn h3]
 simp[h1,h2,h3]
abbrev Dot1:=Int×Int×Unit
abbrev Ref1:=Dot1×Int×Unit
abbrev Op1:=Int×Path×Val×Int×List Ref1×Unit
abbrev Txn1:=Dot1×Int×Int×Bool×List Op1×Unit
abbrev Item1:=Ref1×Op1×Int×Unit
abbrev tyRef:Ty:=.agg (.cons (.agg (.cons (.int .i64) (.cons (.int .i64) .unit))) (.cons (.int .i64) .unit))
theorem Cmp_map {K L:Type}{c:K→K→Int} (h:Cmp c) (f:L→K) (hf:∀ a b,f a=f b→a=b):Cmp fun a b=>c (f a) (f b) where
 one a b:=h.one _ _
 neg a b:=h.neg _ _
 zero a b:=⟨fun e=>hf _ _ ((h.zero _ _).1 e),fun e=>(h.zero _ _).2 (by rw[e])⟩
 trans a b d:=h.trans _ _ _
theorem cd_cmp:Cmp cmpD:=by
 have:cmpD=fun a b=>cmpB cmpI cmpI ((fun x:Dot1=>(x.1,x.2.1)) a) ((fun x:Dot1=>(x.1,x.2.1)) b):=rfl
 rw[this]
 exact Cmp_map (ci_cmp.pair ci_cmp) _ fun a b h=>by
   obtain ⟨a1,a2,⟨⟩⟩:=a; obtain ⟨b1,b2,⟨⟩⟩:=b
   simp only[Prod.mk.injEq] at h
   rw[h.1,h.2]
def cmpR (a b:Ref1):Int:=orI (cmpD a.1 b.1) (cmpI a.2.1 b.2.1)
theorem cr_cmp:Cmp cmpR:=by
 have:cmpR=fun a b=>cmpB cmpD cmpI ((fun x:Ref1=>(x.1,x.2.1)) a) ((fun x:Ref1=>(x.1,x.2.1)) b):=rfl
 rw[this]
 exact Cmp_map (cd_cmp.pair ci_cmp) _ fun a b h=>by
   obtain ⟨a1,a2,⟨⟩⟩:=a; obtain ⟨b1,b2,⟨⟩⟩:=b
   simp only[Prod.mk.injEq] at h
   rw[h.1,h.2]
theorem ints4_t (a b:Int):zbs a b=some (cmpI a b):=by
 unfold zbs cmpI
 simp only[cond_dec]
 by_cases h1:a<b
 · rw[zp h1,zp h1]
 · by_cases h2:a>b
   · rw[zn h1,zp h2,zn h1,zp h2]
   · rw[zn h1,zn h2,zn h1,zn h2]
theorem cmpI_zero (a b:Int):cmpI a b=0↔a=b:=ci_cmp.zero a b
theorem refDot_t (a b:Dot1):zao a b=some (cmpD a b):=by
 unfold zao cmpD orI
 simp only[ints4_t,zb,cond_ndec]
 by_cases h:a.1=b.1
 · rw[zp h,zp ((cmpI_zero _ _).2 h)]
 · rw[zn h,zn (fun e=>h ((cmpI_zero _ _).1 e))]
theorem refRef_t (a b:Ref1):zbm a b=some (cmpR a b):=by
 unfold zbm cmpR orI
 simp only[refDot_t,ints4_t,zb,cond_ndec]
 by_cases h:cmpD a.1 b.1=0
 · rw[zp h,zp h]
 · rw[zn h,zn h]
theorem dotC_t (a b:Dot1):za4 a b=some (cmpD a b):=by
 unfold za4
 simp only[compare_t,or_t,zb]
 rfl
theorem refRight_t (d:Dot1):zay d=some (rightM d):=by
 unfold zay rightM
 simp only[cond_dec]
 by_cases h1:d.1≥0<;>by_cases h2:d.1≤15<;>by_cases h3:d.2.1≥1<;>by_cases h4:d.2.1≤1048576<;>simp[h1,h2,h3,h4]<;>omega
theorem rises_adj {A K:Type}{c:K→K→Int}{key:A→K} (hc:Cmp c):∀ {l:List A},(∀ i,(h:i+1<l.length)→c (key l[i]) (key l[i+1])<0)→Rises c key l
 | [],_=>List.Pairwise.nil
 | [x],_=>List.pairwise_singleton ..
 | x::y::l,h=>by
   have ih:=rises_adj hc (l:=y::l) (fun i hi=>h (i+1) (by simpa using hi))
   have h0:=h 0 (by simp)
   refine List.pairwise_cons.2 ⟨fun z hz => ?_,ih⟩
   rcases List.mem_cons.1 hz with e | hz'
   · subst e; exact h0
   · exact hc.trans _ _ _ h0 ((List.pairwise_cons.1 ih).1 z hz')
theorem eqRef (a b:Ref1):eqV tyRef a b=decide (a=b):=by
 obtain ⟨⟨a1,a2,⟨⟩⟩,a3,⟨⟩⟩:=a
 obtain ⟨⟨b1,b2,⟨⟩⟩,b3,⟨⟩⟩:=b
 simp only[eqV,Prod.mk.injEq,and_true]
 by_cases h1:a1=b1<;>by_cases h2:a2=b2<;>by_cases h3:a3=b3<;>simp[h1,h2,h3]
def refOk (x:Ref1):Bool:=rightM x.1&&decide (0≤x.2.1∧x.2.1≤15)
def refsAt (l:List Ref1) (i:Nat):Bool :=
 match l[i]? with
 | some x=>refOk x&&(decide (i=0)||match l[i-1]? with
   | some y=>decide (cmpR y x = -1)
   | none=>false)
 | none=>false
open Classical in
noncomputable def refsM (l:List Ref1):Bool:=if (∀ i,i<l.length→refsAt l i=true) then true else false
theorem refRefs_t {l:List Ref1} (hl:l.length<1000000):zbc l=some (refsM l):=by
 have:=loop_allI (f:=zbc_l2 l) l.length (fun i=>((i:Int),())) (refsAt l) true false (fun i h=>by
   unfold zbc_l2 refsAt refOk
   rw[zg h]
   simp only[cond_dec]
   rw[zp (by omega),atI_lt h]
   simp only[zb,refRight_t]
   by_cases h0:rightM l[i].1=true
   · simp only[h0,Bool.not_true,cond_false,Bool.true_and]
     by_cases h1:l[i].2.1<0
     · rw[zp h1,zf (by omega)]; rfl
     rw[zn h1]
     by_cases h2:l[i].2.1>15
     · rw[zp h2,zf (by omega)]; rfl
     rw[zn h2,zt (by omega),Bool.true_and]
     by_cases h3:i=0
     · subst h3
       rw[zn (by omega),wrap64 (by omega) (by omega)]; rfl
     · rw[zp (by omega),wrap64 (by omega) (by omega),show (i:Int)-1=((i-1:Nat):Int) by omega,atI_lt (by omega),zg (show i-1<l.length by omega)]
       simp only[zb,refRef_t,cond_ndec]
       by_cases h4:cmpR l[i-1] l[i] = -1
       · rw[zp h4,wrap64 (by omega) (by omega)]; simp[h3,h4]
       · rw[zn h4]; simp[h3,h4]
   · have h0:rightM l[i].1=false:=by simpa using h0
     simp only[h0,Bool.not_false,cond_true,Bool.false_and]; rfl) (by
   unfold zbc_l2
   simp only[cond_dec]
   rw[zn (by omega)])
 unfold zbc refsM
 rw[show ((0:Int),())=(((0:Nat):Int),()) from rfl,this]
def zeroV:Val:=(0,0,[],())
noncomputable def opM (o:Op1):Int :=
 if o.1<1∨5<o.1 then 18 else if checkM o.2.1≠0 then checkM o.2.1
 else if (o.1=3∨o.1=5)∧o.2.2.1≠zeroV then 2
 else if ¬ (o.1=3∨o.1=5)∧rightV o.2.2.1=false then 2
 else if o.1≠3∧o.2.2.2.1≠0 then 2
 else if o.1=3∧(o.2.2.2.1=0∨o.2.2.2.1>2147483647∨o.2.2.2.1 < -2147483647) then 2
 else if (o.1=2∨o.1=3)∧0<o.2.2.2.2.1.length then 2
 else if 256<o.2.2.2.2.1.length then 7
 else if refsM o.2.2.2.2.1=true then 0 else 2
def shortO (o:Op1):Prop:=o.2.1.length≤12∧(∀ x∈o.2.1,x.length≤120)∧o.2.2.1.2.2.1.length≤200∧o.2.2.2.2.1.length≤300
theorem refOp_t {o:Op1} (h:shortO o):za9 o=some (opM o):=by
 obtain ⟨s1,s2,s3,s4⟩:=h
 obtain ⟨k,p,v,n,sn,⟨⟩⟩:=o
 simp only at s1 s2 s3 s4
 unfold za9 opM
 simp only[cond_dec,cond_ndec,eqVal,refCheck_t (p:=p) (fun x hx=>by have:=s2 x hx; omega),refRight9_t (v:=v) (by omega),refRefs_t (l:=sn) (by omega),zb]
 have ez:((0,0,[],()):Val)=zeroV:=rfl
 simp only[ez]
 by_cases a1:k<1
 · rw[zp a1,zp (.inl a1)]
 rw[zn a1]
 by_cases a2:k>5
 · rw[zp a2,zp (.inr a2)]
 rw[zn a2]
 rw[zn (show ¬ (k<1∨5<k) by omega)]
 by_cases a3:¬ checkM p=0
 · rw[zn a3,zp (show checkM p≠0 from a3)]
 have a3:checkM p=0:=Classical.not_not.1 a3
 rw[zp a3,zn (show ¬ checkM p≠0 from fun e=>e a3)]
 have hlen:((sn.length:Int)>0)↔0<sn.length:=by omega
 have hlen2:((sn.length:Int)>256)↔256<sn.length:=by omega
 simp only[hlen,hlen2]
 have last:(cond (!refsM sn) (some (2:Int)) (some 0))=some (if refsM sn=true then 0 else 2):=by cases refsM sn<;>rfl
 by_cases k3:k=3
 · subst k3
   by_cases hz:v=zeroV
   · by_cases n0:n=0
     · simp[hz,n0]
     · by_cases n1:n>2147483647
       · simp[hz,n0,n1]
       · by_cases n2:n < -2147483647
         · simp[hz,n0,n1,n2]
         · by_cases l0:0<sn.length
           · simp[hz,n0,n1,n2,l0]
           · by_cases l2:256<sn.length
             · omega
             · simp[hz,n0,n1,n2,l0,l2,last]
   · simp[hz]
 · by_cases k5:k=5
   · subst k5
     by_cases hz:v=zeroV
     · by_cases n0:n=0
       · by_cases l2:256<sn.length
         · simp[hz,n0,l2]
         · simp[hz,n0,l2,last]
       · simp[hz,n0]
     · simp[hz]
   · cases hr:rightV v with
     | false=>simp[k3,k5,hr]
     | true =>
       by_cases n0:n=0
       · by_cases k2:k=2
         · subst k2
           by_cases l0:0<sn.length
           · simp[n0,l0]
           · by_cases l2:256<sn.length
             · omega
             · simp[n0,l0,l2,last]
         · by_cases l2:256<sn.length
           · simp[k2,k3,k5,n0,l2]
           · simp[k2,k3,k5,n0,l2,last]
       · simp[k3,k5,n0]
def goneM (o:Op1):Bool:=decide (o.1=0∧o.2.1=[]∧o.2.2.1=zeroV∧o.2.2.2.1=0∧o.2.2.2.2.1=[])
theorem gone_t (o:Op1):zbe o=some (goneM o):=by
 obtain ⟨k,p,v,n,sn,⟨⟩⟩:=o
 unfold zbe goneM
 simp only[cond_dec,eqVal]
 have ez:((0,0,[],()):Val)=zeroV:=rfl
 simp only[ez]
 have e1:((p.length:Int)=0)↔p=[]:=by rw[show ((p.length:Int)=0)↔p.length=0 by omega,List.length_eq_zero_iff]
 have e2:((sn.length:Int)=0)↔sn=[]:=by rw[show ((sn.length:Int)=0)↔sn.length=0 by omega,List.length_eq_zero_iff]
 simp only[e1,e2]
 by_cases h1:k=0<;>by_cases h2:p=[]<;>by_cases h3:v=zeroV<;>by_cases h4:n=0<;>by_cases h5:sn=[]<;>simp[h1,h2,h3,h4,h5]
def shortB (o:Op1):Bool:=decide (o.2.1.length≤12)&&(o.2.1.all fun x=>decide (x.length≤120))&&decide (o.2.2.1.2.2.1.length≤200)&&decide (o.2.2.2.2.1.length≤300)
theorem shortOp_t (o:Op1):zav o=some (shortB o):=by
 unfold zav shortB
 simp only[shortP_t,zb,cond_dec]
 cases (decide (o.2.1.length≤12)&&o.2.1.all fun x=>decide (x.length≤120)) with
 | false=>rfl
 | true =>
   rw[cond_true,Bool.true_and]
   by_cases h3:((o.2.2.1.2.2.1.length:Int)≤200)
   · rw[zp h3,zt (show o.2.2.1.2.2.1.length≤200 by omega),Bool.true_and]
     congr 1
     by_cases h4:((o.2.2.2.2.1.length:Int)≤300)
     · rw[zt h4,zt (by omega)]
     · rw[zf h4,zf (by omega)]
   · rw[zn h3,zf (show ¬ o.2.2.1.2.2.1.length≤200 by omega)]; rfl
theorem shortB_iff {o:Op1}:shortB o=true↔shortO o:=by
 unfold shortB shortO
 simp only[Bool.and_eq_true,decide_eq_true_eq,List.all_eq_true]
 exact ⟨fun h=>⟨h.1.1.1,h.1.1.2,h.1.2,h.2⟩,fun h=>⟨⟨⟨h.1,h.2.1⟩,h.2.2.1⟩,h.2.2.2⟩⟩
noncomputable def shortT (t:Txn1):Bool:=decide (t.2.2.2.2.1.length≤20)&&t.2.2.2.2.1.all shortB
theorem shortTxn_t (t:Txn1):zba t=some (shortT t):=by
 unfold zba shortT
 simp only[cond_dec]
 by_cases h1:(t.2.2.2.2.1.length:Int)>20
 · rw[zp h1,zf (by omega)]; rfl
 rw[zn h1,zt (by omega),Bool.true_and]
 have:=loop_all (f:=zba_l4 t) (l:=t.2.2.2.2.1) (fun i=>((i:Int),())) shortB true false (fun i h=>by
   unfold zba_l4
   simp only[cond_dec]
   rw[zp (by omega),atI_lt h]
   simp only[zb,shortOp_t]
   by_cases hs:shortB t.2.2.2.2.1[i]=true
   · rw[hs,Bool.not_true,cond_false,zp rfl,wrap64 (by omega) (by omega)]; rfl
   · rw[zn hs,eq_false_of_ne_true hs]; rfl) (by
   unfold zba_l4
   simp only[cond_dec]
   rw[zn (by omega)])
 rw[ite_bool] at this
 exact this
noncomputable def opsM (thin:Bool):List Op1→Int
 | []=>0
 | o::l=>if opM o≠0∧¬ (thin=true∧goneM o=true) then opM o else opsM thin l
noncomputable def txnM (t:Txn1):Int :=
 if rightM t.1=false∨t.2.1<0∨7<t.2.1∨t.2.2.1<1∨1099511627776<t.2.2.1 then 2
 else if t.2.2.2.2.1.length=0 then 11 else if 16<t.2.2.2.2.1.length then 7 else opsM t.2.2.2.1 t.2.2.2.2.1
theorem opsM_fold {thin:Bool}:∀ (l:List Op1) (i:Nat),foldE (S:=Unit) (fun _ o _=>if opM o≠0∧¬ (thin=true∧goneM o=true) then .inr (opM o) else .inl ()) (fun _=>(0:Int)) i l ()=opsM thin l
 | [],_=>rfl
 | o::l,i=>by
   unfold foldE opsM
   by_cases h:opM o≠0∧¬ (thin=true∧goneM o=true)
   · rw[zp h,zp h]
   · rw[zn h,zn h]; exact opsM_fold l (i+1)
theorem txnCheck_t {t:Txn1} (h:shortT t=true):za1 t=some (txnM t):=by
 unfold shortT at h
 simp only[Bool.and_eq_true,decide_eq_true_eq,List.all_eq_true] at h
 obtain ⟨h1,h2⟩:=h
 have loop:=loop_list (S:=Unit) (R:=Int) (f:=za1_l8 t) (l:=t.2.2.2.2.1) (fun i _=>((i:Int),())) (fun _ o _=>if opM o≠0∧¬ (t.2.2.2.1=true∧goneM o=true) then .inr (opM o) else .inl ()) (fun _=>(0:Int)) (fun _ _=>True) (fun i h s _=>by
   have turn:za1_l8 t ((i:Int),())=if opM t.2.2.2.2.1[i]≠0∧¬ (t.2.2.2.1=true∧goneM t.2.2.2.2.1[i]=true) then some (.inr (opM t.2.2.2.2.1[i])) else some (.inl (((i+1:Nat):Int),())):=by
     unfold za1_l8
     simp only[cond_dec,cond_ndec]
     rw[zp (by omega),atI_lt h]
     simp only[zb,refOp_t (shortB_iff.1 (h2 _ (zm h))),gone_t]
     rw[wrap64 (by omega) (by omega),show (i:Int)+1=((i+1:Nat):Int) by omega]
     by_cases a:opM t.2.2.2.2.1[i]=0
     · rw[zp a,zn (fun e=>e.1 a)]
     · rw[zn a]
       cases ht:t.2.2.2.1 with
       | false=>rw[cond_false,zp ⟨a,by simp⟩]
       | true =>
         rw[cond_true]
         by_cases hg:goneM t.2.2.2.2.1[i]=true
         · rw[hg,Bool.not_true,cond_false,zn (by simp)]
         · rw[eq_false_of_ne_true hg,Bool.not_false,cond_true,zp ⟨a,by simp⟩]
   by_cases hc:opM t.2.2.2.2.1[i]≠0∧¬ (t.2.2.2.1=true∧goneM t.2.2.2.2.1[i]=true)
   · exact .inr ⟨_,by rw[zp hc],by rw[turn,zp hc]⟩
   · exact .inl ⟨(),by rw[zn hc],by rw[turn,zn hc],trivial⟩) (fun s _=>by
   unfold za1_l8
   simp only[cond_dec]
   rw[zn (by omega)]) () trivial
 rw[opsM_fold] at loop
 rw[show (((0:Nat):Int),())=((0:Int),()) from rfl] at loop
 unfold za1 txnM
 simp only[cond_dec,refRight_t,zb]
 by_cases a1:rightM t.1=true
 · rw[a1,Bool.not_true,cond_false]
   simp only[zb]
   by_cases a2:t.2.1<0
   · rw[zt a2,cond_true,zp (.inr (.inl a2))]
   rw[zf a2,cond_false]
   by_cases a3:t.2.1>7
   · rw[zp a3,zp (.inr (.inr (.inl a3)))]
   rw[zn a3]
   by_cases a4:t.2.2.1<1
   · rw[zp a4,zp (.inr (.inr (.inr (.inl a4))))]
   rw[zn a4]
   by_cases a5:t.2.2.1>1099511627776
   · rw[zp a5,zp (.inr (.inr (.inr (.inr a5))))]
   have nn:¬ (true=false∨t.2.1<0∨7<t.2.1∨t.2.2.1<1∨1099511627776<t.2.2.1):=by
     rintro (h | h | h | h | h)
     · cases h
     · exact a2 h
     · exact a3 h
     · exact a4 h
     · exact a5 h
   rw[zn a5,zn nn]
   by_cases a6:t.2.2.2.2.1.length=0
   · rw[zp (show (t.2.2.2.2.1.length:Int)=0 by omega),zp a6]
   rw[zn (show ¬ (t.2.2.2.2.1.length:Int)=0 by omega),zn a6]
   by_cases a7:16<t.2.2.2.2.1.length
   · rw[zp (show (t.2.2.2.2.1.length:Int)>16 by omega),zp a7]
   rw[zn (show ¬ (t.2.2.2.2.1.length:Int)>16 by omega),zn a7]
   exact loop
 · have a1:rightM t.1=false:=by simpa using a1
   rw[zp (show rightM t.1=false∨t.2.1<0∨7<t.2.1∨t.2.2.1<1∨1099511627776<t.2.2.1 from .inl a1),a1]
   rfl
noncomputable def risesB {A:Type} (key:A→Dot1) (l:List A) (i:Nat):Bool:=match l[i]?,l[i+1]? with
 | some x,some y=>decide (cmpD (key x) (key y) = -1)
 | _,_=>true
theorem risesB_law {A:Type}{key:A→Dot1}{l:List A} (h:∀ i,i<l.length-1→risesB key l i=true):Rises cmpD key l:=by
 refine rises_adj cd_cmp fun i hi => ?_
 have:=h i (by omega)
 unfold risesB at this
 rw[zg hi,zg (show i<l.length by omega)] at this
 simp only[decide_eq_true_eq] at this
 omega
open Classical in
theorem rises12_t {l:List Txn1} (hl:l.length<1000000):za5 l=some (if (∀ i,i<l.length-1→risesB (·.1) l i=true) then true else false):=by
 have:=loop_allI (f:=za5_l2 l) (l.length-1) (fun i=>(((i+1:Nat):Int),())) (risesB (·.1) l) true false (fun i h=>by
   unfold za5_l2 risesB
   rw[zg (show i<l.length by omega),zg (show i+1<l.length by omega)]
   simp only[cond_dec,cond_ndec]
   rw[zp (by omega),wrap64 (by omega) (by omega),show ((i+1:Nat):Int)-1=(i:Int) by omega,atI_lt (show i<l.length by omega),atI_lt (show i+1<l.length by omega)]
   simp only[zb,refDot_t,decide_eq_true_eq]
   rw[wrap64 (by omega) (by omega)]
   by_cases h4:cmpD l[i].1 l[i+1].1 = -1
   · rw[zp h4,zp h4]; rfl
   · rw[zn h4,zn h4]) (by
   unfold za5_l2
   simp only[cond_dec]
   rw[zn (by omega)])
 exact this
def oneM (x:Ref1):Bool:=rightM x.1&&decide (1≤x.2.1∧x.2.1≤64)
theorem one_t (x:Ref1):zbv x=some (oneM x):=by
 unfold zbv oneM
 simp only[refRight_t,zb,cond_dec]
 cases rightM x.1 with
 | false=>rfl
 | true =>
   rw[cond_true,Bool.true_and]
   by_cases h1:x.2.1≥1<;>by_cases h2:x.2.1≤64<;>simp[h1,h2]<;>omega
def countAt (l:List Ref1) (i:Nat):Bool:=match l[i]? with
 | some x=>oneM x&&(decide (i=0)||match l[i-1]? with
   | some y=>decide (cmpD y.1 x.1 = -1)
   | none=>false)
 | none=>false
open Classical in
theorem right8_t {l:List Ref1} (hl:l.length<1000000):za6 l=some (if (∀ i,i<l.length→countAt l i=true) then true else false):=by
 have:=loop_allI (f:=za6_l2 l) l.length (fun i=>((i:Int),())) (countAt l) true false (fun i h=>by
   unfold za6_l2 countAt
   rw[zg h]
   simp only[cond_dec]
   rw[zp (by omega),atI_lt h]
   simp only[zb,one_t]
   by_cases h0:oneM l[i]=true
   · simp only[h0,Bool.not_true,cond_false,Bool.true_and]
     by_cases h3:i=0
     · subst h3
       rw[zn (by omega),wrap64 (by omega) (by omega)]; rfl
     · rw[zp (by omega),wrap64 (by omega) (by omega),show (i:Int)-1=((i-1:Nat):Int) by omega,atI_lt (by omega),zg (show i-1<l.length by omega)]
       simp only[zb,refDot_t,cond_ndec]
       by_cases h4:cmpD l[i-1].1 l[i].1 = -1
       · rw[zp h4,wrap64 (by omega) (by omega)]; simp[h3,h4]
       · rw[zn h4]; simp[h3,h4]
   · have h0:oneM l[i]=false:=by simpa using h0
     simp only[h0,Bool.not_false,cond_true,Bool.false_and]; rfl) (by
   unfold za6_l2
   simp only[cond_dec]
   rw[zn (by omega)])
 exact this
abbrev riseU (u:List Ref1):Prop:=Rises cmpD (·.1) u
structure CountsOk (u:List Ref1):Prop where
 len:u.length≤100
 rise:riseU u
 one:∀ x∈u,oneM x=true
theorem counts_of {l:List Ref1} (hl:l.length≤100) (h:∀ i,i<l.length→countAt l i=true):CountsOk l where
 len:=hl
 rise:=rises_adj cd_cmp fun i hi=>by
   have:=h (i+1) hi
   unfold countAt at this
   rw[zg hi,Nat.add_sub_cancel,zg (show i<l.length by omega)] at this
   simp only[Bool.and_eq_true,Bool.or_eq_true,decide_eq_true_eq] at this
   omega
 one x hx:=by
   obtain ⟨i,hi,rfl⟩:=List.mem_iff_getElem.1 hx
   have:=h i hi
   unfold countAt at this
   rw[zg hi] at this
   simp only[Bool.and_eq_true] at this
   exact this.1
structure TxnOk (t:Txn1):Prop where
 len:t.2.2.2.2.1.length≤16
 pos:0<t.2.2.2.2.1.length
 ops:∀ o∈t.2.2.2.2.1,shortO o∧(opM o=0∨t.2.2.2.1=true∧goneM o=true)
 dot:rightM t.1=true
 user:0≤t.2.1∧t.2.1≤7
 time:1≤t.2.2.1∧t.2.2.1≤1099511627776
theorem opsM_mem {thin:Bool}:∀ {l:List Op1},opsM thin l=0→∀ o∈l,opM o=0∨thin=true∧goneM o=true
 | [],_,o,h=>by cases h
 | p::l,h,o,ho=>by
   unfold opsM at h
   by_cases hc:opM p≠0∧¬ (thin=true∧goneM p=true)
   · rw[zp hc] at h; exact absurd h hc.1
   · rw[zn hc] at h
     rcases List.mem_cons.1 ho with e | ho
     · subst e
       by_cases h1:opM o=0
       · exact .inl h1
       · exact .inr (Classical.not_not.1 fun h2=>hc ⟨h1,h2⟩)
     · exact opsM_mem h o ho
theorem txn_of {t:Txn1} (h1:shortT t=true) (h2:txnM t=0):TxnOk t:=by
 unfold shortT at h1
 simp only[Bool.and_eq_true,decide_eq_true_eq,List.all_eq_true] at h1
 unfold txnM at h2
 by_cases a:rightM t.1=false∨t.2.1<0∨7<t.2.1∨t.2.2.1<1∨1099511627776<t.2.2.1
 · rw[zp a] at h2; omega
 rw[zn a] at h2
 by_cases b:t.2.2.2.2.1.length=0
 · rw[zp b] at h2; omega
 rw[zn b] at h2
 by_cases c:16<t.2.2.2.2.1.length
 · rw[zp c] at h2; omega
 rw[zn c] at h2
 refine ⟨by omega,by omega,fun o ho=>⟨shortB_iff.1 (h1.2 o ho),opsM_mem h2 o ho⟩,?_,?_,?_⟩
 · cases hr:rightM t.1 with
   | true=>rfl
   | false=>exact absurd (.inl hr) a
 · constructor
   · exact Int.not_lt.1 fun h=>a (.inr (.inl h))
   · exact Int.not_lt.1 fun h=>a (.inr (.inr (.inl h)))
 · constructor
   · exact Int.not_lt.1 fun h=>a (.inr (.inr (.inr (.inl h))))
   · exact Int.not_lt.1 fun h=>a (.inr (.inr (.inr (.inr h))))
abbrev riseT (l:List Txn1):Prop:=Rises cmpD (·.1) l
structure TxnsOk (l:List Txn1) (n:Nat):Prop where
 len:l.length≤n
 rise:riseT l
 all:∀ t∈l,TxnOk t
open Classical in
theorem txnsGood_t {l:List Txn1}{n:Nat} (hn:n<1000000):∃ b,zbd l (n:Int)=some b∧(b=true→TxnsOk l n):=by
 unfold zbd
 simp only[cond_dec]
 by_cases h1:(l.length:Int)>(n:Int)
 · exact ⟨false,by rw[zp h1],fun h=>by cases h⟩
 rw[zn h1,rises12_t (by omega)]
 simp only[zb]
 by_cases h2:∀ i,i<l.length-1→risesB (·.1) l i=true
 · rw[zp h2,Bool.not_true,cond_false]
   have:=loop_all (f:=zbd_l4 l) (l:=l) (fun i=>((i:Int),())) (fun t=>shortT t&&decide (txnM t=0)) true false (fun i h=>by
     unfold zbd_l4
     simp only[cond_dec]
     rw[zp (by omega),atI_lt h]
     simp only[zb,shortTxn_t]
     by_cases hs:shortT l[i]=true
     · simp only[hs,Bool.not_true,cond_false,txnCheck_t hs,zb,Bool.true_and,cond_ndec,decide_eq_true_eq]
       by_cases hz:txnM l[i]=0
       · rw[zp hz,zp hz,wrap64 (by omega) (by omega)]; rfl
       · rw[zn hz,zn hz]
     · have hs:shortT l[i]=false:=by simpa using hs
       simp only[hs,Bool.not_false,cond_true,Bool.false_and]; rfl) (by
     unfold zbd_l4
     simp only[cond_dec]
     rw[zn (by omega)])
   rw[ite_bool] at this
   refine ⟨_,this,fun h=>⟨by omega,risesB_law h2,fun t ht => ?_⟩⟩
   have:=List.all_eq_true.1 h t ht
   simp only[Bool.and_eq_true,decide_eq_true_eq] at this
   exact txn_of this.1 this.2
 · rw[zn h2]
   exact ⟨false,rfl,fun h=>by cases h⟩
theorem countsGood_t (u:List Ref1):∃ b,zbp u=some b∧(b=true→CountsOk u):=by
 unfold zbp
 simp only[cond_dec]
 by_cases h1:(u.length:Int)≤100
 · rw[zp h1,right8_t (by omega)]
   simp only[zb]
   refine ⟨_,rfl,fun h=>counts_of (by omega) ?_⟩
   by_cases h2:∀ i,i<u.length→countAt u i=true
   · exact h2
   · rw[zn h2] at h; cases h
 · exact ⟨false,by rw[zn h1],fun h=>by cases h⟩
theorem good13_t (l:List Txn1) (u:List Ref1):∃ b,zbl l u=some b∧(b=true→TxnsOk l 20∧CountsOk u):=by
 unfold zbl
 obtain ⟨b,h1,h2⟩:=txnsGood_t (l:=l) (n:=20) (by omega)
 rw[show ((20:Nat):Int)=20 from rfl] at h1
 rw[h1]
 simp only[zb]
 cases b with
 | false=>exact ⟨false,rfl,fun h=>by cases h⟩
 | true =>
   obtain ⟨c,h3,h4⟩:=countsGood_t u
   rw[cond_true,h3]
   exact ⟨c,rfl,fun h=>⟨h2 rfl,h4 h⟩⟩
def getM (u:List Ref1) (d:Dot1):Int:=match u with
 | []=>0
 | x::u=>if x.1=d then x.2.1 else getM u d
abbrev loU (d:Dot1) (u:List Ref1):List Ref1:=lo cmpD (·.1) d u
abbrev hiU (d:Dot1) (u:List Ref1):List Ref1:=hi cmpD (·.1) d u
theorem getM_none {d:Dot1}:∀ {u:List Ref1},(∀ x∈u,x.1≠d)→getM u d=0
 | [],_=>rfl
 | x::u,h=>by
   unfold getM
   rw[zn (h x (List.mem_cons_self ..))]
   exact getM_none fun y hy=>h y (List.mem_cons_of_mem _ hy)
theorem getM_app {d:Dot1}:∀ {p q:List Ref1},(∀ x∈p,x.1≠d)→getM (p++q) d=getM q d
 | [],_,_=>rfl
 | x::p,q,h=>by
   rw[List.cons_append]
   conv=>lhs; unfold getM
   rw[zn (h x (List.mem_cons_self ..))]
   exact getM_app fun y hy=>h y (List.mem_cons_of_mem _ hy)
theorem tallyC_t (a b:Ref1):zap a b=some (cmpD a.1 b.1):=by
 unfold zap
 rw[dotC_t]; rfl
theorem tsearch_loop {u:List Ref1}{d:Ref1} (hl:u.length<1000000) (hr:riseU u):∀ (k i j:Nat),j-i≤k→i≤(loU d.1 u).length→(loU d.1 u).length≤j→j≤u.length →
   loopT (zab_l3 u d) ((i:Int),(j:Int),())=some (.inl (((loU d.1 u).length:Int),())):=by
 intro k
 induction k with
 | zero =>
   intro i j hk h1 h2 h3
   refine loopT_inr ?_
   unfold zab_l3
   simp only[cond_dec]
   rw[zn (by omega),show (loU d.1 u).length=i by omega]
 | succ k ih =>
   intro i j hk h1 h2 h3
   by_cases hij:i<j
   · have hh:(i+j)/2<u.length:=by omega
     have turn:zab_l3 u d ((i:Int),(j:Int),())=if cmpD u[(i+j)/2].1 d.1<0 then some (.inl ((((i+j)/2+1:Nat):Int),(j:Int),())) else some (.inl ((i:Int),(((i+j)/2:Nat):Int),())):=by
       unfold zab_l3
       simp only[cond_dec]
       rw[zp (by omega),show (i:Int)+(j:Int)=((i+j:Nat):Int) by omega,half_t (by omega)]
       simp only[zb]
       rw[wrap64 (n:=(((i+j)/2:Nat):Int)) (by omega) (by omega),atI_lt hh]
       simp only[zb,tallyC_t]
       rw[wrap64 (by omega) (by omega)]; rfl
     by_cases hn:(i+j)/2<(loU d.1 u).length
     · rw[zp (at_lo hh hn)] at turn
       rw[loopT_inl turn]
       exact ih _ _ (by omega) (by omega) h2 h3
     · have:=at_hi cd_cmp hr hh (k:=d.1) (Nat.le_of_not_lt hn)
       rw[zn (by omega)] at turn
       rw[loopT_inl turn]
       exact ih _ _ (by omega) h1 (by omega) (by omega)
   · refine loopT_inr ?_
     unfold zab_l3
     simp only[cond_dec]
     rw[zn (by omega),show (loU d.1 u).length=i by omega]
theorem cmpD_ne {a b:Dot1} (h:cmpD a b≠0):a≠b:=fun e=>h ((cd_cmp.zero _ _).2 e)
def hereU (q:List Ref1) (d:Dot1):Bool:=match q with
 | []=>false
 | x::_=>decide (cmpD x.1 d=0)
theorem tsearch_t {u:List Ref1}{d:Ref1} (hl:u.length<1000000) (hr:riseU u) :
   zab u d ()=some (((loU d.1 u).length:Int),hereU (hiU d.1 u) d.1,()):=by
 have e2:loU d.1 u++hiU d.1 u=u:=lohi
 have hlen:(loU d.1 u).length+(hiU d.1 u).length=u.length:=by rw[← List.length_append,e2]
 unfold zab
 have:=tsearch_loop (d:=d) hl hr u.length 0 u.length (by omega) (by omega) (by omega) (by omega)
 rw[show ((0:Int),(u.length:Int),())=(((0:Nat):Int),(u.length:Int),()) from rfl,this,bind_join_inl]
 simp only[cond_dec]
 cases hq:hiU d.1 u with
 | nil =>
   rw[hq] at hlen
   simp only[List.length_nil] at hlen
   rw[zn (by omega)]; rfl
 | cons x q =>
   rw[hq] at hlen e2
   simp only[zl] at hlen
   rw[zp (by omega),atI_nat]
   have e3:u[(loU d.1 u).length]? = some x:=by
     have:(loU d.1 u++x::q)[(loU d.1 u).length]? = some x:=by simp
     rw[e2] at this
     exact this
   rw[e3]
   simp only[zb,tallyC_t]
   rfl
theorem lo_neU {u:List Ref1}{d:Dot1}{x:Ref1} (hx:x∈loU d u):x.1≠d:=by
 have h:=lo_below (c:=cmpD) (key:=fun y:Ref1=>y.1) (k:=d) (l:=u) x hx
 exact cmpD_ne (fun e=>by rw[e] at h; omega)
theorem tallyGet_t {u:List Ref1}{d:Dot1} (hl:u.length<1000000) (hr:riseU u):zby u d=some (getM u d):=by
 have e2:loU d u++hiU d u=u:=lohi
 have hlo:∀ x∈loU d u,x.1≠d:=fun x hx=>lo_neU hx
 unfold zby zb3
 rw[tsearch_t (d:=(d,0,())) hl hr]
 simp only[zb]
 have hg:getM u d=getM (hiU d u) d:=by
   conv=>lhs; rw[← e2]
   exact getM_app hlo
 rw[hg]
 cases hq:hiU d u with
 | nil=>rfl
 | cons x q =>
   have hab:=hi_above cd_cmp hr hq
   unfold hereU
   simp only[cond_dec]
   by_cases h0:cmpD x.1 d=0
   · rw[zp h0,atI_nat]
     have e3:u[(loU d u).length]? = some x:=by
       have:(loU d u++x::q)[(loU d u).length]? = some x:=by simp
       rw[← hq,e2] at this
       exact this
     rw[e3]
     simp only[zb]
     unfold getM
     rw[zp ((cd_cmp.zero _ _).1 h0)]
   · rw[zn h0,getM_none]
     intro y hy
     rcases List.mem_cons.1 hy with e | hy
     · subst e; exact cmpD_ne h0
     · exact cmpD_ne (by have:=hab.2 y hy; omega)
def seenM (u:List Ref1) (d:Dot1):Bool:=match remT (getM u d) 2 with
 | some x=>decide (x=0)
 | none=>false
theorem rem2 (a:Int):∃ x,remT a 2=some x:=⟨_,by unfold remT; rw[zn (by omega)]⟩
theorem tallySeen_t {u:List Ref1}{d:Dot1} (hl:u.length<1000000) (hr:riseU u):zbj u d=some (seenM u d):=by
 unfold zbj seenM
 rw[tallyGet_t hl hr]
 obtain ⟨x,hx⟩:=rem2 (getM u d)
 simp only[zb,hx]
theorem find_put {x y:Ref1}{v:Bool}:∀ {m:List (Ref1×Bool)},findK tyRef x (putK tyRef y v m)=if x=y then some v else findK tyRef x m
 | []=>by
   unfold putK findK
   rw[eqRef,cond_dec]
   unfold findK
   rfl
 | e::m=>by
   unfold putK
   rw[eqRef]
   by_cases hy:y=e.1
   · rw[zt hy,cond_true]
     conv=>lhs; unfold findK
     conv=>rhs; rhs; unfold findK
     rw[eqRef,eqRef,cond_dec,cond_dec,← hy]
     by_cases hx:x=y
     · rw[zp hx,zp hx]
     · rw[zn hx,zn hx,zn hx]
   · rw[zf hy,cond_false]
     conv=>lhs; unfold findK
     conv=>rhs; rhs; unfold findK
     rw[eqRef,cond_dec,cond_dec,find_put]
     by_cases hx:x=e.1
     · rw[zp hx,zn (fun e'=>hy (by rw[← e',hx])),zp hx]
     · rw[zn hx,zn hx]
def hasK (x:Ref1) (m:List (Ref1×Bool)):Bool:=(getK tyRef false x m).1
theorem has_put {x y:Ref1}{m:List (Ref1×Bool)}:hasK x (putK tyRef y true m)=(decide (x=y)||hasK x m):=by
 unfold hasK getK
 rw[find_put]
 by_cases h:x=y
 · rw[zp h,zt h]; rfl
 · rw[zn h,zf h,Bool.false_or]
def putAll (m:List (Ref1×Bool)) (l:List Ref1):List (Ref1×Bool):=l.foldl (fun m x=>putK tyRef x true m) m
theorem has_all {x:Ref1}:∀ {l:List Ref1}{m:List (Ref1×Bool)},hasK x (putAll m l)=(l.any (fun y=>decide (x=y))||hasK x m)
 | [],m=>rfl
 | y::l,m=>by
   have:=has_all (x:=x) (l:=l) (m:=putK tyRef y true m)
   unfold putAll at this ⊢
   rw[List.foldl_cons,this,has_put,List.any_cons]
   cases decide (x=y)<;>cases l.any (fun y=>decide (x=y))<;>rfl
def coverO (o:Op1) (x:Ref1):Bool:=o.2.2.2.2.1.any fun y=>decide (x=y)
def covT (m:List (Ref1×Bool)) (l:List Op1):List (Ref1×Bool):=l.foldl (fun m o=>putAll m o.2.2.2.2.1) m
theorem has_covT {x:Ref1}:∀ {l:List Op1}{m:List (Ref1×Bool)},hasK x (covT m l)=(l.any (fun o=>coverO o x)||hasK x m)
 | [],m=>rfl
 | o::l,m=>by
   have:=has_covT (x:=x) (l:=l) (m:=putAll m o.2.2.2.2.1)
   unfold covT at this ⊢
   rw[List.foldl_cons,this,has_all,List.any_cons]
   unfold coverO
   cases o.2.2.2.2.1.any (fun y=>decide (x=y))<;>cases l.any (fun o=>o.2.2.2.2.1.any fun y=>decide (x=y))<;>rfl
def covL (u:List Ref1) (m:List (Ref1×Bool)) (l:List Txn1):List (Ref1×Bool):=l.foldl (fun m t=>if seenM u t.1=true then covT m t.2.2.2.2.1 else m) m
def covM (l:List Txn1) (u:List Ref1) (x:Ref1):Bool:=l.any fun t=>seenM u t.1&&t.2.2.2.2.1.any fun o=>coverO o x
theorem has_covL {x:Ref1}{u:List Ref1}:∀ {l:List Txn1}{m:List (Ref1×Bool)},hasK x (covL u m l)=(covM l u x||hasK x m)
 | [],m=>rfl
 | t::l,m=>by
   have:=has_covL (x:=x) (u:=u) (l:=l) (m:=if seenM u t.1=true then covT m t.2.2.2.2.1 else m)
   unfold covL at this ⊢
   rw[List.foldl_cons,this]
   unfold covM
   rw[List.any_cons]
   by_cases hs:seenM u t.1=true
   · rw[zp hs,has_covT,hs,Bool.true_and]
     cases t.2.2.2.2.1.any (fun o=>coverO o x)<;>cases l.any (fun t=>seenM u t.1&&t.2.2.2.2.1.any fun o=>coverO o x)<;>rfl
   · rw[zn hs,eq_false_of_ne_true hs,Bool.false_and,Bool.false_or]
structure Low (l:List Txn1):Prop where
 len:l.length≤1000
 ops:∀ t∈l,t.2.2.2.2.1.length≤1000
 seen:∀ t∈l,∀ o∈t.2.2.2.2.1,o.2.2.2.2.1.length<1000000
structure LowU (u:List Ref1):Prop where
 len:u.length<1000000
 rise:riseU u
theorem covered_t {l:List Txn1}{u:List Ref1} (hl:Low l) (hu:LowU u):zas l u=some (covL u [] l):=by
 have outer:=loop_list (S:=List (Ref1×Bool)) (f:=zas_l3 l u) (l:=l) (fun i m=>((i:Int),m,())) (fun _ t m=>.inl (if seenM u t.1=true then covT m t.2.2.2.2.1 else m)) (fun m=>m) (fun _ _=>True) (fun i h m _=>by
   refine .inl ⟨_,rfl,?_,trivial⟩
   have hi:=hl.len
   unfold zas_l3
   simp only[cond_dec]
   rw[zp (by omega),atI_lt h]
   simp only[zb,tallySeen_t hu.len hu.rise]
   have hops:=hl.ops _ (zm h)
   by_cases hs:seenM u l[i].1=true
   · rw[hs,Bool.not_true,cond_false,zp rfl]
     have mid:=loop_list (S:=List (Ref1×Bool)) (f:=zas_l7 ((i:Int),m,()) l[i]) (l:=l[i].2.2.2.2.1) (fun k m=>((k:Int),m,())) (fun _ o m=>.inl (putAll m o.2.2.2.2.1)) (fun m'=>(.inl (((i+1:Nat):Int),m',()):(Int×List (Ref1×Bool)×Unit)⊕List (Ref1×Bool))) (fun _ _=>True) (fun k hk m' _=>by
       refine .inl ⟨_,rfl,?_,trivial⟩
       have hseen:=hl.seen _ (zm h) _ (zm hk)
       unfold zas_l7
       simp only[cond_dec]
       rw[zp (by omega),atI_lt hk]
       simp only[zb]
       have inner:=loop_list (S:=List (Ref1×Bool)) (f:=zas_l10 ((k:Int),m',()) l[i].2.2.2.2.1[k]) (l:=l[i].2.2.2.2.1[k].2.2.2.2.1) (fun j m=>((j:Int),m,())) (fun _ x m=>.inl (putK tyRef x true m)) (fun m''=>(.inl (((k+1:Nat):Int),m'',()):(Int×List (Ref1×Bool)×Unit)⊕((Int×List (Ref1×Bool)×Unit)⊕List (Ref1×Bool)))) (fun _ _=>True) (fun j hj m'' _=>by
         refine .inl ⟨_,rfl,?_,trivial⟩
         unfold zas_l10
         simp only[cond_dec]
         rw[zp (by omega),atI_lt hj]
         simp only[zb]
         rw[wrap64 (by omega) (by omega)]; rfl) (fun m'' _=>by
         unfold zas_l10
         simp only[cond_dec]
         rw[zn (by omega),wrap64 (by omega) (by omega)]; rfl) m' trivial
       rw[show ((0:Int),m',())=(((0:Nat):Int),m',()) from rfl,inner,foldE_inl]
       rfl) (fun m' _=>by
       unfold zas_l7
       simp only[cond_dec]
       rw[zn (by omega),wrap64 (by omega) (by omega)]; rfl) m trivial
     rw[show ((0:Int),m,())=(((0:Nat):Int),m,()) from rfl,mid,foldE_inl]
     rfl
   · rw[zn hs,eq_false_of_ne_true hs,Bool.not_false,cond_true,wrap64 (by omega) (by omega)]; rfl) (fun m _=>by
   unfold zas_l3
   simp only[cond_dec]
   rw[zn (by omega)]) [] trivial
 unfold zas
 rw[show ((0:Int),([]:List (Ref1×Bool)),())=(((0:Nat):Int),[],()) from rfl,outer,foldE_inl]
 rfl
def putKind (k:Int):Bool:=decide (1≤k∧k≤3)
def itemAt (p:Ref1→Bool) (t:Txn1) (k:Nat) (o:Op1):List Item1:=if putKind o.1=true∧p (t.1,(k:Int),())=false then [((t.1,(k:Int),()),o,t.2.2.1,())] else []
def itemsM (p:Ref1→Bool) (t:Txn1):Nat→List Op1→List Item1
 | _,[]=>[]
 | k,o::l=>itemAt p t k o++itemsM p t (k+1) l
def allM (l:List Txn1) (u:List Ref1):List Item1:=l.flatMap fun t=>if seenM u t.1=true then itemsM (covM l u) t 0 t.2.2.2.2.1 else []
theorem itemAt_len {p:Ref1→Bool}{t:Txn1}{k:Nat}{o:Op1}:(itemAt p t k o).length≤1:=by
 unfold itemAt; split<;>simp
theorem items_len {p:Ref1→Bool}{t:Txn1}:∀ {l:List Op1}{k:Nat},(itemsM p t k l).length≤l.length
 | [],_=>Nat.le_refl _
 | o::l,k=>by
   have:=items_len (p:=p) (t:=t) (l:=l) (k:=k+1)
   have:=itemAt_len (p:=p) (t:=t) (k:=k) (o:=o)
   unfold itemsM
   rw[List.length_append,zl]; omega
theorem items_fold {R:Type}{p:Ref1→Bool}{t:Txn1}{fin:List Item1→R}:∀ (l:List Op1) (k:Nat) (o:List Item1),foldE (fun k x o=>.inl (o++itemAt p t k x)) fin k l o=fin (o++itemsM p t k l)
 | [],k,o=>by simp[foldE,itemsM]
 | x::l,k,o=>by
   unfold foldE itemsM
   simp only
   rw[items_fold l (k+1),List.append_assoc]
theorem flat_fold {A B R:Type}{g:A→List B}{fin:List B→R}:∀ (l:List A) (i:Nat) (o:List B),foldE (fun _ x o=>.inl (o++g x)) fin i l o=fin (o++l.flatMap g)
 | [],i,o=>by simp[foldE]
 | x::l,i,o=>by
   unfold foldE
   simp only
   rw[flat_fold l (i+1),List.flatMap_cons,List.append_assoc]
theorem all_t {l:List Txn1}{u:List Ref1} (hl:Low l) (hu:LowU u):zb4 l u=some (allM l u):=by
 unfold zb4
 rw[covered_t hl hu,zb]
 have hp:(fun x=>hasK x (covL u [] l))=covM l u:=by
   funext x
   rw[has_covL]
   exact Bool.or_false _
 generalize hm:covL u [] l=m at hp ⊢
 have outer:=loop_list (S:=List Item1) (f:=zb4_l4 l u) (l:=l) (fun i o=>((i:Int),m,o,())) (fun _ t o=>.inl (o++if seenM u t.1=true then itemsM (covM l u) t 0 t.2.2.2.2.1 else [])) (fun o=>o) (fun i o=>o.length≤i*1000) (fun i h o ho=>by
   have hi:=hl.len
   have hops:=hl.ops _ (zm h)
   refine .inl ⟨_,rfl,?_,?_⟩
   · unfold zb4_l4
     simp only[cond_dec]
     rw[zp (by omega),atI_lt h]
     simp only[zb,tallySeen_t hu.len hu.rise]
     by_cases hs:seenM u l[i].1=true
     · rw[hs,Bool.not_true,cond_false,zp rfl]
       have inner:=loop_list (S:=List Item1) (f:=zb4_l8 ((i:Int),m,o,()) l[i]) (l:=l[i].2.2.2.2.1) (fun k o=>((k:Int),m,o,l[i],())) (fun k x o=>.inl (o++itemAt (covM l u) l[i] k x)) (fun o'=>(.inl (((i+1:Nat):Int),m,o',()):(Int×List (Ref1×Bool)×List Item1×Unit)⊕List Item1)) (fun k o'=>o'.length≤i*1000+k) (fun k hk o' ho'=>by
         refine .inl ⟨_,rfl,?_,?_⟩
         · have hget:(getK tyRef false (l[i].1,(k:Int),()) m).1=covM l u (l[i].1,(k:Int),()):=by rw[← hp]; rfl
           unfold zb4_l8 itemAt
           simp only[cond_dec]
           rw[zp (by omega),atI_lt hk]
           simp only[zb]
           have hget:(getK (.agg (.cons (.agg (.cons (.int .i64) (.cons (.int .i64) .unit))) (.cons (.int .i64) .unit))) false (l[i].1,(k:Int),()) m).1=covM l u (l[i].1,(k:Int),()):=hget
           rw[hget,wrap64 (by omega) (by omega),roomT_lt (by simp; omega)]
           simp only[zb]
           have hk':putKind l[i].2.2.2.2.1[k].1=true↔(l[i].2.2.2.2.1[k].1=1∨l[i].2.2.2.2.1[k].1=2∨l[i].2.2.2.2.1[k].1=3):=by unfold putKind; simp only[decide_eq_true_eq]; omega
           by_cases hc:covM l u (l[i].1,(k:Int),())=true
           · rw[hc]
             simp only[Bool.not_true,cond_false,Bool.true_eq_false,and_false,if_false,List.append_nil]
             split
             · rfl
             · split
               · rfl
               · split<;>rfl
           · rw[eq_false_of_ne_true hc]
             simp only[Bool.not_false,cond_true,and_true]
             by_cases h1:l[i].2.2.2.2.1[k].1=1
             · rw[zp h1,zp (hk'.2 (.inl h1))]; rfl
             · by_cases h2:l[i].2.2.2.2.1[k].1=2
               · rw[zn h1,zp h2,zp (hk'.2 (.inr (.inl h2)))]; rfl
               · by_cases h3:l[i].2.2.2.2.1[k].1=3
                 · rw[zn h1,zn h2,zp h3,zp (hk'.2 (.inr (.inr h3)))]; rfl
                 · rw[zn h1,zn h2,zn h3,zn (fun e=>by rcases hk'.1 e with e | e | e; exact h1 e; exact h2 e; exact h3 e),List.append_nil]; rfl
         · have:=itemAt_len (p:=covM l u) (t:=l[i]) (k:=k) (o:=l[i].2.2.2.2.1[k])
           rw[List.length_append]; omega) (fun o' ho'=>by
         unfold zb4_l8
         simp only[cond_dec]
         rw[zn (by omega),wrap64 (by omega) (by omega)]; rfl) o (by omega)
       rw[show ((0:Int),m,o,l[i],())=(((0:Nat):Int),m,o,l[i],()) from rfl,inner,items_fold]
     · rw[zn hs,eq_false_of_ne_true hs,Bool.not_false,cond_true,wrap64 (by omega) (by omega),List.append_nil]; rfl
   · have:=items_len (p:=covM l u) (t:=l[i]) (l:=l[i].2.2.2.2.1) (k:=0)
     rw[List.length_append,Nat.succ_mul]
     split
     · omega
     · simp; omega) (fun o _=>by
   unfold zb4_l4
   simp only[cond_dec]
   rw[zn (by omega)]) [] (by simp)
 rw[show ((0:Int),m,([]:List Item1),())=(((0:Nat):Int),m,[],()) from rfl,outer,flat_fold]
 rfl
def leafM (k:Int):Int:=if k=1 then 1 else if k=2∨k=4 then 2 else if k=3 then 3 else 0
theorem opLeaf_t (k:Int):zcb k=some (leafM k):=by
 unfold zcb leafM
 simp only[cond_dec]
 by_cases h1:k=1
 · rw[zp h1,zp h1]
 · by_cases h2:k=2
   · subst h2; rfl
   · by_cases h4:k=4
     · subst h4; rfl
     · by_cases h3:k=3
       · subst h3; rfl
       · simp[h1,h2,h3,h4]
theorem refLeaf11_t (k:Int):zbk k=some (leafM k):=by
 unfold zbk leafM
 simp only[cond_dec]
 by_cases h1:k=1
 · rw[zp h1,zp h1]
 · by_cases h2:k=2
   · subst h2; rfl
   · by_cases h4:k=4
     · subst h4; rfl
     · by_cases h3:k=3
       · subst h3; rfl
       · simp[h1,h2,h3,h4]
def isAt (p:Path) (leaf:Int) (x:Item1):Bool:=decide (leafM x.2.1.1=leaf)&&decide (x.2.1.2.1=p)
def atM (l:List Item1) (p:Path) (leaf:Int):List Item1:=l.filter (isAt p leaf)
theorem flatMap_if {A:Type}{q:A→Bool}:∀ {l:List A},(l.flatMap fun x=>if q x=true then [x] else [])=l.filter q
 | []=>rfl
 | x::l=>by
   rw[List.flatMap_cons,flatMap_if,List.filter_cons]
   split<;>rfl
structure LowI (l:List Item1):Prop where
 len:l.length<1000000
 path:∀ x∈l,x.2.1.2.1.length<1000000∧∀ s∈x.2.1.2.1,s.length<1000000
theorem at_t {l:List Item1}{p:Path}{leaf:Int} (hl:LowI l):zca l p leaf=some (atM l p leaf):=by
 have hlen:=hl.len
 have:=loop_map (f:=zca_l3 l p leaf) (l:=l) (fun i o=>((i:Int),o,())) (fun x=>if isAt p leaf x=true then [x] else []) (fun o=>o) 1 (fun x _=>by split<;>simp) (fun i h o ho=>by
   have hp:=(hl.path _ (zm h)).1
   unfold zca_l3 isAt
   simp only[cond_dec]
   rw[zp (by omega),atI_lt h]
   simp only[zb,opLeaf_t,pathSame_t hp]
   rw[wrap64 (by omega) (by omega),roomT_lt (by simp; omega)]
   simp only[zb,cond_dec]
   by_cases h1:leafM l[i].2.1.1=leaf
   · rw[zp h1,zt h1,Bool.true_and]
     by_cases h2:l[i].2.1.2.1=p
     · rw[zp h2,zt h2]; rfl
     · rw[zn h2,zf h2]; simp
   · rw[zn h1,zf h1]; simp) (fun o _=>by
   unfold zca_l3
   simp only[cond_dec]
   rw[zn (by omega)])
 unfold zca atM
 rw[show ((0:Int),([]:List Item1),())=(((0:Nat):Int),[],()) from rfl,this,flatMap_if]
theorem atM_low {l:List Item1}{p:Path}{leaf:Int} (hl:LowI l):LowI (atM l p leaf):=⟨Nat.lt_of_le_of_lt (List.length_filter_le ..) hl.len,fun x hx=>hl.path x (List.mem_filter.1 hx).1⟩
theorem dotRefs_t (a b:Ref1):zb5 a b=some (cmpR a b):=by
 unfold zb5
 simp only[dotC_t,compare_t,or_t,zb]
 rfl
structure Mid (l w:List Val) (i0 k i:Nat):Prop where
 len:w.length=l.length
 head:w.take i=sqz (l.take (i0+k))
 rest:∀ j,i0+k-1≤j→w[j]? = l[j]?
 low:i≤i0+k-1
structure LowP (l:List Txn1):Prop where
 low:Low l
 ops:∀ t∈l,∀ o∈t.2.2.2.2.1,(o.2.1.length<1000000∧∀ s∈o.2.1,s.length<1000000)∧o.2.2.1.2.2.1.length<1000000
theorem items_mem {p:Ref1→Bool}{t:Txn1}:∀ {l:List Op1}{k:Nat}{x:Item1},x∈itemsM p t k l→∃ (j:Nat) (o:Op1),o∈l∧putKind o.1=true∧p (t.1,(j:Int),())=false∧x=((t.1,(j:Int),()),o,t.2.2.1,())
 | [],_,x,h=>by cases h
 | o::l,k,x,h=>by
   unfold itemsM at h
   rcases List.mem_append.1 h with h | h
   · unfold itemAt at h
     split at h
     · rename_i hc
       rw[List.mem_singleton] at h
       exact ⟨k,o,List.mem_cons_self ..,hc.1,hc.2,h⟩
     · cases h
   · obtain ⟨j,o',h1,h2⟩:=items_mem h
     exact ⟨j,o',List.mem_cons_of_mem _ h1,h2⟩
theorem allM_mem {l:List Txn1}{u:List Ref1}{x:Item1} (h:x∈allM l u):∃ t∈l,∃ (j:Nat) (o:Op1),o∈t.2.2.2.2.1∧putKind o.1=true∧seenM u t.1=true∧covM l u (t.1,(j:Int),())=false∧x=((t.1,(j:Int),()),o,t.2.2.1,()):=by
 unfold allM at h
 obtain ⟨t,ht,hx⟩:=List.mem_flatMap.1 h
 split at hx
 · rename_i hs
   obtain ⟨j,o,h1,h2,h3,h4⟩:=items_mem hx
   exact ⟨t,ht,j,o,h1,h2,hs,h3,h4⟩
 · cases hx
theorem flat_len {A B:Type}{g:A→List B}{n:Nat}:∀ {l:List A},(∀ x∈l,(g x).length≤n)→(l.flatMap g).length≤l.length*n
 | [],_=>Nat.zero_le _
 | x::l,h=>by
   have:=flat_len (l:=l) fun y hy=>h y (List.mem_cons_of_mem _ hy)
   have:=h x (List.mem_cons_self ..)
   rw[List.flatMap_cons,List.length_append,zl,Nat.succ_mul]; omega
theorem txns_low {l:List Txn1}{n:Nat} (h:TxnsOk l n) (hn:n≤900):LowP l:=by
 refine ⟨⟨by have:=h.len; omega,fun t ht=>by have:=(h.all t ht).len; omega,fun t ht o ho => ?_⟩,fun t ht o ho => ?_⟩
 · have:=((h.all t ht).ops o ho).1.2.2.2; omega
 · have:=((h.all t ht).ops o ho).1
   exact ⟨⟨by have:=this.1; omega,fun s hs=>by have:=this.2.1 s hs; omega⟩,by have:=this.2.2.1; omega⟩
theorem counts_low {u:List Ref1} (h:CountsOk u):LowU u:=⟨by have:=h.len; omega,h.rise⟩
abbrev Leaf1:=Path×Int×Unit
structure MidS (l w:List (List UInt8)) (i0 k i:Nat):Prop where
 len:w.length=l.length
 head:w.take i=sqz (l.take (i0+k))
 rest:∀ j,i0+k-1≤j→w[j]? = l[j]?
 low:i≤i0+k-1
structure MidL (l w:List Leaf1) (i0 k i:Nat):Prop where
 len:w.length=l.length
 head:w.take i=sqz (l.take (i0+k))
 rest:∀ j,i0+k-1≤j→w[j]? = l[j]?
 low:i≤i0+k-1
def underM (q p:Path):Bool:=decide (q.take p.length=p)
theorem under_len {q p:Path} (h:underM q p=true):p.length≤q.length:=by
 unfold underM at h
 rw[decide_eq_true_eq] at h
 have:=congrArg List.length h
 rw[List.length_take] at this; omega
theorem pathUnder_t {q p:Path} (hq:q.length<1000000):zbo q p=some (underM q p):=by
 unfold zbo
 simp only[cond_dec]
 by_cases h:p.length≤q.length
 · rw[zp (by omega),show (0:Int)=((0:Nat):Int) from rfl,subI_nat (Nat.zero_le _) h,List.drop_zero]
   simp only[zb]
   rw[strsEq_t (by rw[List.length_take]; omega)]
   rfl
 · rw[zn (by omega)]
   cases hu:underM q p with
   | false=>rfl
   | true=>exact absurd (under_len hu) h
structure OpOk (o:Op1):Prop where
 kind:1≤o.1∧o.1≤5
 path:checkM o.2.1=0
 val:o.1≠3→o.1≠5→rightV o.2.2.1=true
 noval:o.1=3∨o.1=5→o.2.2.1=zeroV
 num:o.1=3→o.2.2.2.1≠0∧o.2.2.2.1≤2147483647 ∧ -2147483647≤o.2.2.2.1
 nonum:o.1≠3→o.2.2.2.1=0
 noseen:o.1=2∨o.1=3→o.2.2.2.2.1=[]
 seen:o.2.2.2.2.1.length≤256∧refsM o.2.2.2.2.1=true
theorem opM_ok {o:Op1} (h:opM o=0):OpOk o:=by
 unfold opM at h
 by_cases a1:o.1<1∨5<o.1
 · rw[zp a1] at h; omega
 rw[zn a1] at h
 by_cases a2:checkM o.2.1≠0
 · rw[zp a2] at h; exact absurd h a2
 rw[zn a2] at h
 by_cases a3:(o.1=3∨o.1=5)∧o.2.2.1≠zeroV
 · rw[zp a3] at h; omega
 rw[zn a3] at h
 by_cases a4:¬ (o.1=3∨o.1=5)∧rightV o.2.2.1=false
 · rw[zp a4] at h; omega
 rw[zn a4] at h
 by_cases a5:o.1≠3∧o.2.2.2.1≠0
 · rw[zp a5] at h; omega
 rw[zn a5] at h
 by_cases a6:o.1=3∧(o.2.2.2.1=0∨o.2.2.2.1>2147483647∨o.2.2.2.1 < -2147483647)
 · rw[zp a6] at h; omega
 rw[zn a6] at h
 by_cases a7:(o.1=2∨o.1=3)∧0<o.2.2.2.2.1.length
 · rw[zp a7] at h; omega
 rw[zn a7] at h
 by_cases a8:256<o.2.2.2.2.1.length
 · rw[zp a8] at h; omega
 rw[zn a8] at h
 by_cases a9:refsM o.2.2.2.2.1=true
 · refine ⟨by omega,Classical.not_not.1 a2,fun h1 h2 => ?_,fun h1 => ?_,fun h1 => ?_,fun h1 => ?_,fun h1 => ?_,by omega,a9⟩
   · cases hr:rightV o.2.2.1 with
     | true=>rfl
     | false=>exact absurd ⟨by omega,hr⟩ a4
   · exact Classical.not_not.1 fun h2=>a3 ⟨h1,h2⟩
   · exact ⟨fun h2=>a6 ⟨h1,.inl h2⟩,Int.not_lt.1 fun h2=>a6 ⟨h1,.inr (.inl h2)⟩,Int.not_lt.1 fun h2=>a6 ⟨h1,.inr (.inr h2)⟩⟩
   · exact Classical.not_not.1 fun h2=>a5 ⟨h1,h2⟩
   · exact List.length_eq_zero_iff.1 (by omega)
 · rw[zn a9] at h; omega
structure ItemsOk (l:List Item1):Prop where
 len:l.length≤320
 op:∀ x∈l,OpOk x.2.1∧shortO x.2.1∧putKind x.2.1.1=true
theorem items_ok {l:List Txn1}{u:List Ref1} (h:TxnsOk l 20):ItemsOk (allM l u):=by
 constructor
 · have : (allM l u).length ≤ l.length * 16 := by
     unfold allM
     refine flat_len fun t ht => ?_
     split
     · exact Nat.le_trans items_len (h.all t ht).len
     · simp
   have:=h.len; omega
 · intro x hx
   obtain ⟨t,ht,j,o,ho,hk,_,_,rfl⟩:=allM_mem hx
   obtain ⟨h1,h2⟩:=(h.all t ht).ops o ho
   refine ⟨?_,h1,hk⟩
   rcases h2 with h2 | ⟨_,h2⟩
   · exact opM_ok h2
   · unfold goneM at h2
     unfold putKind at hk
     simp only[decide_eq_true_eq] at h2 hk
     omega
theorem itemsOk_low {l:List Item1} (h:ItemsOk l):LowI l:=⟨by have:=h.len; omega,fun x hx=>by
 have:=(h.op x hx).2.1
 exact ⟨by have:=this.1; omega,fun s hs=>by have:=this.2.1 s hs; omega⟩⟩
theorem clone_t {p:Path} (hp:p.length<1000000):zai p=some p:=by
 unfold zai cloneT
 rw[zp (by simp only[most]; omega)]
theorem flat_one {A B:Type}{g:A→B}:∀ {l:List A},(l.flatMap fun x=>[g x])=l.map g
 | []=>rfl
 | x::l=>by rw[List.flatMap_cons,List.map_cons,flat_one]; rfl
theorem valued_t {o:Op1} (hv:o.2.2.1.2.2.1.length<1000000):zbu o=some (if o.1=3∨o.1=5 then decide (o.2.2.1=zeroV) else rightV o.2.2.1):=by
 unfold zbu
 simp only[cond_dec,eqVal,valueRight_t hv,zb]
 have ez:((0,0,[],()):Val)=zeroV:=rfl
 simp only[ez]
 by_cases h3:o.1=3
 · rw[zp h3,zp (.inl h3)]
 · by_cases h5:o.1=5
   · rw[zn h3,zp h5,zp (.inr h5)]
   · rw[zn h3,zn h5,zn (by omega)]
theorem amount_t (o:Op1):zbz o=some (if o.1=3 then decide (o.2.2.2.1≠0 ∧ -2147483647≤o.2.2.2.1∧o.2.2.2.1≤2147483647) else decide (o.2.2.2.1=0)):=by
 unfold zbz
 simp only[cond_dec,cond_ndec]
 by_cases h3:o.1=3
 · rw[zp h3,zp h3]
   by_cases h0:o.2.2.2.1=0
   · rw[zp h0,zf (by omega)]
   · rw[zn h0]
     by_cases h1:o.2.2.2.1 ≥ -2147483647
     · rw[zp h1]
       congr 1
       rw[decide_eq_decide]; omega
     · rw[zn h1,zf (by omega)]
 · rw[zn h3,zn h3]
theorem opRefs_nil:zb9 []=some true:=by
 unfold zb9
 exact loopT_inr (by unfold zb9_l2; simp only[cond_dec]; rw[zn (by simp)])
theorem refsM_nil:refsM []=true:=by
 unfold refsM
 rw[zp (by intro i h; simp at h)]
theorem opCheck_t {o:Op1} (h:shortO o) (hs:o.2.2.2.2.1=[]):zb6 o=some (opM o):=by
 obtain ⟨s1,s2,s3,s4⟩:=h
 have hv:=valued_t (o:=o) (by omega)
 have ha:=amount_t o
 obtain ⟨k,p,v,n,sn,⟨⟩⟩:=o
 simp only at s1 s2 s3 s4 hs hv ha
 subst hs
 unfold zb6 opM
 simp only[cond_dec,cond_ndec,check_t (p:=p) (fun x hx=>by have:=s2 x hx; omega),hv,ha,opRefs_nil,refsM_nil,zb]
 by_cases a1:k<1
 · rw[zp a1,zp (.inl a1)]
 rw[zn a1]
 by_cases a2:k>5
 · rw[zp a2,zp (.inr a2)]
 rw[zn a2]
 rw[zn (show ¬ (k<1∨5<k) by omega)]
 by_cases a3:¬ checkM p=0
 · rw[zn a3,zp (show checkM p≠0 from a3)]
 have a3:checkM p=0:=Classical.not_not.1 a3
 rw[zp a3,zn (show ¬ checkM p≠0 from fun e=>e a3)]
 have fl:∀ b:Bool,((cond (!b) (some (decide ((([]:List Ref1).length:Int)>0),())) (some (false,()))):Option (Bool×Unit))=some (false,()):=by intro b; cases b<;>rfl
 have ff:∀ f:Bool×Unit→Option Int,((if k=1 then some (true,()) else some (decide (k=4),()):Option (Bool×Unit)).bind fun v2=>(cond v2.1 (some (true,())) (some (decide (k=5),())):Option (Bool×Unit)).bind f)=f (decide (k=1)||decide (k=4)||decide (k=5),()):=by
   intro f
   by_cases h1:k=1
   · rw[zp h1,zt h1]; rfl
   · rw[zn h1,zf h1]
     cases h4:decide (k=4)<;>rfl
 rw[ff]
 simp only[fl,zb]
 by_cases k3:k=3
 · subst k3
   by_cases hz:v=zeroV
   · by_cases hn:n≠0 ∧ -2147483647≤n∧n≤2147483647
     · have h2:¬ (n=0∨n>2147483647∨n < -2147483647):=by omega
       simp[hz,hn,h2]
     · have h2:n=0∨n>2147483647∨n < -2147483647:=by omega
       simp[hz,hn,h2]
   · simp[hz]
 · by_cases k5:k=5
   · subst k5
     by_cases hz:v=zeroV
     · by_cases n0:n=0
       · simp[hz,n0]
       · simp[hz,n0]
     · simp[hz]
   · cases hr:rightV v with
     | false=>simp[k3,k5,hr]
     | true =>
       by_cases n0:n=0
       · simp[k3,k5,hr,n0]
       · simp[k3,k5,hr,n0]
def clashM (p:Path) (a:Int) (q:Path) (b:Int):Bool:=if p=q then !decide (a=b) else underM p q||underM q p
theorem clash1_t {x:Item1}{o:Op1}{k:Int} (hx:x.2.1.2.1.length<1000000) (ho:o.2.1.length<1000000):zaq x o k=some (clashM x.2.1.2.1 (leafM x.2.1.1) o.2.1 k):=by
 unfold zaq clashM
 rw[pathSame_t hx]
 simp only[zb,opLeaf_t,pathUnder_t hx,pathUnder_t ho,cond_dec]
 by_cases h:x.2.1.2.1=o.2.1
 · rw[zp h,zp h]
 · rw[zn h,zn h]
   cases underM x.2.1.2.1 o.2.1<;>rfl
theorem idx_ge {A:Type}{b:A→Bool}:∀ (l:List A) (i:Nat),foldE (S:=Unit) (R:=Int) (fun i x _=>if b x=true then .inr (i:Int) else .inl ()) (fun _=>(-1:Int)) i l ()≥0↔l.any b=true
 | [],i=>by simp[foldE]
 | x::l,i=>by
   unfold foldE
   by_cases h:b x=true
   · rw[zp h,List.any_cons,h]
     simp
   · rw[zn h,List.any_cons,eq_false_of_ne_true h,Bool.false_or]
     exact idx_ge l (i+1)
theorem item_path {x:List Item1} (h:ItemsOk x) {y:Item1} (hy:y∈x):y.2.1.2.1.length<1000000∧∀ s∈y.2.1.2.1,s.length<1000000:=by
 have:=(h.op y hy).2.1
 exact ⟨by have:=this.1; omega,fun s hs=>by have:=this.2.1 s hs; omega⟩
def wayM (o:Op1) (y:Item1):Bool:=clashM y.2.1.2.1 (leafM y.2.1.1) o.2.1 (leafM o.1)
def clashesM (x:List Item1) (o:Op1):Bool:=decide (leafM o.1≠0)&&x.any (wayM o)
theorem clash_t {x:List Item1}{o:Op1} (h:ItemsOk x) (ho:o.2.1.length<1000000):zbb x o=some (clashesM x o):=by
 have hlen:=h.len
 unfold zbb clashesM
 rw[opLeaf_t]
 simp only[zb,cond_ndec]
 by_cases h0:leafM o.1=0
 · rw[zp h0,zf (by simpa using h0)]; rfl
 rw[zn h0,zt h0,Bool.true_and]
 have loop:=loop_list (S:=Unit) (R:=Int) (f:=zad_l2 x (o,leafM o.1,())) (l:=x) (fun i _=>((i:Int),())) (fun i y _=>if wayM o y=true then .inr (i:Int) else .inl ()) (fun _=>(-1:Int)) (fun _ _=>True) (fun i hi s _=>by
   have turn:zad_l2 x (o,leafM o.1,()) ((i:Int),())=if wayM o x[i]=true then some (.inr (i:Int)) else some (.inl (((i+1:Nat):Int),())):=by
     unfold zad_l2
     simp only[cond_dec]
     rw[zp (by omega),atI_lt hi]
     simp only[zb]
     rw[clash1_t (item_path h (zm hi)).1 ho]
     simp only[zb]
     rw[wrap64 (by omega) (by omega),show clashM x[i].2.1.2.1 (leafM x[i].2.1.1) o.2.1 (leafM o.1)=wayM o x[i] from rfl]
     cases wayM o x[i]<;>rfl
   by_cases hb:wayM o x[i]=true
   · exact .inr ⟨_,by rw[zp hb],by rw[turn,zp hb]⟩
   · exact .inl ⟨(),by rw[zn hb],by rw[turn,zn hb],trivial⟩) (fun s _=>by
   unfold zad_l2
   simp only[cond_dec]
   rw[zn (by omega)]) () trivial
 have hi:=idx_ge (b:=wayM o) x 0
 unfold zac zad
 rw[show ((0:Int),())=(((0:Nat):Int),()) from rfl,loop]
 simp only[zb]
 by_cases hb:x.any (wayM o)=true
 · rw[hb,zt (hi.2 hb)]
 · rw[eq_false_of_ne_true hb,zf (fun e=>hb (hi.1 e))]
def zeroO:Op1:=(0,[],(0,0,[],()),0,[],())
def coversM (o:Op1) (y:Item1):Bool :=
 if o.1=1 then decide (o.2.1=y.2.1.2.1)&&decide (y.2.1.1=1)
 else if o.1=4 then decide (o.2.1=y.2.1.2.1)&&decide (y.2.1.1=2)&&decide (y.2.1.2.2.1=o.2.2.1)
 else if o.1=5 then underM y.2.1.2.1 o.2.1 else false
theorem flat_pick {A B:Type}{b:A→Bool}{g:A→B}:∀ {l:List A},(l.flatMap fun y=>if b y=true then [g y] else [])=(l.filter b).map g
 | []=>rfl
 | x::l=>by
   rw[List.flatMap_cons,flat_pick,List.filter_cons]
   by_cases h:b x=true
   · rw[zp h,zp h]; rfl
   · rw[zn h,zn h]; rfl
theorem liveRefs_t {m:List Item1} (h:m.length<1000000):zbx m=some (m.map (·.1)):=by
 have this:=loop_map (f:=zbx_l3 m) (l:=m) (fun i o=>((i:Int),o,())) (fun y=>[y.1]) (fun o=>o) 1 (fun x _=>Nat.le_refl _) (fun i hi o ho=>by
   unfold zbx_l3
   simp only[cond_dec]
   rw[zp (by omega),atI_lt hi]
   simp only[zb]
   rw[wrap64 (by omega) (by omega),roomT_lt (by simp; omega)]; rfl) (fun o _=>by
   unfold zbx_l3
   simp only[cond_dec]
   rw[zn (by omega)])
 unfold zbx
 rw[show ((0:Int),([]:List Ref1),())=(((0:Nat):Int),[],()) from rfl,this,flat_one (g:=fun y:Item1=>y.1)]
theorem bagAdds_t {x:List Item1}{p:Path}{v:Val} (hl:LowI x):zb2 x p v=some (((atM x p 2).filter fun y=>decide (y.2.1.2.2.1=v)).map (·.1)):=by
 have hlen:=(atM_low (p:=p) (leaf:=2) hl).len
 unfold zb2
 rw[at_t hl]
 simp only[zb]
 have this:=loop_map (f:=zb2_l3 v (atM x p 2)) (l:=atM x p 2) (fun i o=>((i:Int),o,())) (fun y=>if decide (y.2.1.2.2.1=v)=true then [y.1] else []) (fun o=>o) 1 (fun x _=>by split<;>simp) (fun i hi o ho=>by
   unfold zb2_l3
   simp only[cond_dec,eqVal]
   rw[zp (by omega),atI_lt hi]
   simp only[zb]
   rw[wrap64 (by omega) (by omega),roomT_lt (by simp; omega)]
   by_cases hb:(atM x p 2)[i].2.1.2.2.1=v
   · rw[zp hb,zp (zt hb)]; rfl
   · rw[zn hb,zn (by simpa using hb),List.append_nil]; rfl) (fun o _=>by
   unfold zb2_l3
   simp only[cond_dec]
   rw[zn (by omega)])
 rw[show ((0:Int),([]:List Ref1),())=(((0:Nat):Int),[],()) from rfl,this,flat_pick (b:=fun y:Item1=>decide (y.2.1.2.2.1=v)) (g:=fun y:Item1=>y.1)]
theorem underIt_t {x:List Item1}{p:Path} (h:ItemsOk x):zbg x p=some (x.filter fun y=>underM y.2.1.2.1 p):=by
 have hlen:=h.len
 have this:=loop_map (f:=zbg_l3 x p) (l:=x) (fun i o=>((i:Int),o,())) (fun y=>if underM y.2.1.2.1 p=true then [y] else []) (fun o=>o) 1 (fun x _=>by split<;>simp) (fun i hi o ho=>by
   unfold zbg_l3
   simp only[cond_dec]
   rw[zp (by omega),atI_lt hi]
   simp only[zb]
   rw[pathUnder_t (item_path h (zm hi)).1]
   simp only[zb]
   rw[wrap64 (by omega) (by omega),roomT_lt (by simp; omega)]
   by_cases hb:underM x[i].2.1.2.1 p=true
   · rw[hb,cond_true,zp rfl]; rfl
   · rw[zn hb,eq_false_of_ne_true hb,cond_false,List.append_nil]; rfl) (fun o _=>by
   unfold zbg_l3
   simp only[cond_dec]
   rw[zn (by omega)])
 unfold zbg
 rw[show ((0:Int),([]:List Item1),())=(((0:Nat):Int),[],()) from rfl,this,flatMap_if (q:=fun y:Item1=>underM y.2.1.2.1 p)]
def selR (x:List Item1) (o:Op1):List Ref1:=(x.filter (coversM o)).map (·.1)
theorem leaf_one {k:Int}:leafM k=1↔k=1:=by unfold leafM; split<;>(try split)<;>(try split)<;>omega
theorem leaf_two {k:Int} (h:putKind k=true):leafM k=2↔k=2:=by
 unfold putKind at h
 rw[decide_eq_true_eq] at h
 unfold leafM; split<;>(try split)<;>(try split)<;>omega
theorem covered_list {x:List Item1}{o:Op1} (h:ItemsOk x) :
   (cond (decide (o.1=1)) ((zca x o.2.1 1).bind fun r1=>(zbx r1).bind fun n2=>some (.inl (n2,()))) (cond (decide (o.1=4)) ((zb2 x o.2.1 o.2.2.1).bind fun n3=>some (.inl (n3,()))) (cond (decide (o.1=5)) ((zbg x o.2.1).bind fun r4=>(zbx r4).bind fun n5=>some (.inl (n5,()))) (some (.inl ([],()))))):Option ((List Ref1×Unit)⊕List Ref1))=some (.inl (selR x o,())):=by
 have hlen:=h.len
 have hl:=itemsOk_low h
 have hf:∀ b:Item1→Bool,(x.filter b).length<1000000:=fun b=>by have:=List.length_filter_le b x; omega
 simp only[cond_dec]
 unfold selR
 by_cases h1:o.1=1
 · rw[zp h1,at_t hl]
   simp only[zb]
   rw[liveRefs_t (show (atM x o.2.1 1).length<1000000 from hf _)]
   simp only[zb]
   congr 4
   unfold atM
   refine List.filter_congr fun y hy => ?_
   unfold isAt coversM
   rw[zp h1,Bool.and_comm]
   congr 1
   · rw[decide_eq_decide]; exact ⟨fun e=>e.symm,fun e=>e.symm⟩
   · rw[decide_eq_decide]; exact leaf_one
 rw[zn h1]
 by_cases h4:o.1=4
 · rw[zp h4,bagAdds_t hl]
   simp only[zb]
   congr 4
   unfold atM
   rw[List.filter_filter]
   refine List.filter_congr fun y hy => ?_
   have hk:=leaf_two (h.op y hy).2.2
   unfold isAt coversM
   rw[zn h1,zp h4]
   rw[Bool.eq_iff_iff]
   simp only[Bool.and_eq_true,decide_eq_true_eq]
   rw[hk]
   constructor
   · rintro ⟨a,b,c⟩; exact ⟨⟨c.symm,b⟩,a⟩
   · rintro ⟨⟨a,b⟩,c⟩; exact ⟨c,b,a.symm⟩
 rw[zn h4]
 by_cases h5:o.1=5
 · rw[zp h5,underIt_t h]
   simp only[zb]
   rw[liveRefs_t (hf _)]
   simp only[zb]
   congr 4
   refine List.filter_congr fun y hy => ?_
   unfold coversM
   rw[zn h1,zn h4,zp h5]
 · rw[zn h5]
   have:x.filter (coversM o)=[]:=List.filter_eq_nil_iff.2 fun y _=>by
     unfold coversM
     rw[zn h1,zn h4,zn h5]; simp
   rw[this]; rfl
theorem sel_len {x:List Item1}{o:Op1} (h:ItemsOk x):(selR x o).length≤320:=by
 unfold selR
 rw[List.length_map]
 have:=List.length_filter_le (coversM o) x
 have:=h.len; omega
theorem checkCovered_t {x:List Item1}{o:Op1} (h:ItemsOk x):∃ l,zan x o=some l∧l.Perm (selR x o)∧l.Pairwise fun a b=>cmpR a b≤0:=by
 have hlen:=sel_len (o:=o) h
 obtain ⟨l,h1,h2,h3⟩:=sortT_law (key:=fun a:Ref1=>a) cr_cmp (cmp:=fun a b=>zb5 a b) (xs:=selR x o) (fun a _ b _=>dotRefs_t a b) (by omega)
 refine ⟨l,?_,h2,h3⟩
 unfold zan
 rw[covered_list h,bind_join_inl]
 simp only
 unfold zag
 rw[h1]; rfl
def seenR (x:List Item1) (o:Op1):List Ref1:=(selR x o).foldl (putU cmpR) []
theorem sel_nodup {x:List Item1}{o:Op1} (hn:(x.map (·.1)).Nodup):(selR x o).Nodup:=List.Nodup.sublist ((List.filter_sublist (l:=x)).map _) hn
theorem seen_rises {x:List Item1}{o:Op1}:riseA cmpR (seenR x o):=by
 unfold seenR
 rw[put_uniq cr_cmp]
 exact uniq_rises cr_cmp _
theorem seen_mem {x:List Item1}{o:Op1}{r:Ref1}:r∈seenR x o↔r∈selR x o:=by
 unfold seenR
 rw[put_uniq cr_cmp]
 exact uniq_mem cr_cmp _ _
theorem covered_seen {x:List Item1}{o:Op1} (h:ItemsOk x) (hn:(x.map (·.1)).Nodup):zan x o=some (seenR x o):=by
 obtain ⟨l,h1,h2,h3⟩:=checkCovered_t (o:=o) h
 rw[h1]
 congr 1
 have hl:l.Nodup:=h2.nodup_iff.2 (sel_nodup hn)
 refine rises_unique (key:=fun v:Ref1=>v) cr_cmp ?_ seen_rises (fun r=>by rw[seen_mem]; exact h2.mem_iff)
 refine (h3.and hl).imp fun {a b} hab => ?_
 have h0:cmpR a b≠0:=fun e=>hab.2 ((cr_cmp.zero ..).1 e)
 have:=hab.1
 show cmpR a b<0
 omega
noncomputable def makeM (x:List Item1) (o:Op1):Op1×Int×Unit :=
 if opM o≠0 then (zeroO,opM o,()) else if clashesM x o=true then (zeroO,10,())
 else if (seenR x o).length=0∧(o.1=4∨o.1=5) then (zeroO,11,())
 else if (seenR x o).length>256 then (zeroO,7,())
 else ((o.1,o.2.1,o.2.2.1,o.2.2.2.1,seenR x o,()),0,())
theorem checkMake_t {x:List Item1}{k:Int}{p:Path}{v1 v2:Int}{v3:List UInt8}{n:Int}{s:List Ref1} (hx:ItemsOk x) (hn:(x.map (·.1)).Nodup) (ho:shortO (k,p,(v1,v2,v3,()),n,[],())):zbn x (k,p,(v1,v2,v3,()),n,s,())=some (makeM x (k,p,(v1,v2,v3,()),n,[],())):=by
 have hp:p.length<1000000:=by have:=ho.1; simp only at this; omega
 unfold zbn makeM
 simp only
 rw[opCheck_t ho rfl]
 simp only[zb,cond_dec,cond_ndec]
 by_cases h0:opM (k,p,(v1,v2,v3,()),n,[],())=0
 · rw[zp h0,zn (show ¬ opM (k,p,(v1,v2,v3,()),n,[],())≠0 from fun e=>e h0),clash_t hx hp]
   simp only[zb]
   cases hc:clashesM x (k,p,(v1,v2,v3,()),n,[],()) with
   | true=>rw[cond_true,zp rfl]; rfl
   | false =>
     rw[cond_false,zn (by simp),clone_t hp]
     simp only[zb]
     rw[covered_seen hx hn]
     simp only[zb]
     by_cases hl:(seenR x (k,p,(v1,v2,v3,()),n,[],())).length=0
     · rw[zp (by omega)]
       by_cases h4:k=4
       · rw[zp h4,zp ⟨hl,.inl h4⟩]; rfl
       · rw[zn h4]
         by_cases h5:k=5
         · rw[zp h5,zp ⟨hl,.inr h5⟩]; rfl
         · rw[zn h5,zn (show ¬ (_∧(k=4∨k=5)) from fun e=>by omega),zn (by omega),zn (by omega)]
     · rw[zn (by omega)]
       by_cases h2:(seenR x (k,p,(v1,v2,v3,()),n,[],())).length>256
       · rw[zp (show ((seenR x (k,p,(v1,v2,v3,()),n,[],())).length:Int)>256 by omega),zn (show ¬ ((seenR x (k,p,(v1,v2,v3,()),n,[],())).length=0∧(k=4∨k=5)) from fun e=>hl e.1),zp h2]; rfl
       · rw[zn (show ¬ ((seenR x (k,p,(v1,v2,v3,()),n,[],())).length:Int)>256 by omega),zn (show ¬ ((seenR x (k,p,(v1,v2,v3,()),n,[],())).length=0∧(k=4∨k=5)) from fun e=>hl e.1),zn h2]
 · rw[zn h0,zp h0]; rfl
theorem items_names {p:Ref1→Bool}{t:Txn1}:∀ (l:List Op1) (k:Nat),((itemsM p t k l).map (·.1)).Nodup∧∀ r∈(itemsM p t k l).map (·.1),r.1=t.1∧(k:Int)≤r.2.1∧r.2.1<(k:Int)+l.length
 | [],k=>⟨List.nodup_nil,fun r hr=>by cases hr⟩
 | o::l,k=>by
   obtain ⟨h1,h2⟩:=items_names (p:=p) (t:=t) l (k+1)
   unfold itemsM itemAt
   split
   · rw[List.map_append]
     constructor
     · refine List.nodup_append.2 ⟨by simp,h1,fun a ha b hb e => ?_⟩
       have:=h2 b hb
       simp only[List.map_cons,List.map_nil,List.mem_singleton] at ha
       rw[← e,ha] at this
       simp only at this
       omega
     · intro r hr
       rcases List.mem_append.1 hr with hr | hr
       · simp only[List.map_cons,List.map_nil,List.mem_singleton] at hr
         rw[hr]
         have:(o::l).length=l.length+1:=rfl
         exact ⟨rfl,Int.le_refl _,by show (k:Int)<_; omega⟩
       · have:=h2 r hr
         simp only[zl]
         exact ⟨this.1,by omega,by omega⟩
   · rw[List.nil_append]
     refine ⟨h1,fun r hr => ?_⟩
     have:=h2 r hr
     simp only[zl]
     exact ⟨this.1,by omega,by omega⟩
theorem flat_names {p:Ref1→Bool}{u:List Ref1}:∀ (m:List Txn1),riseT m→((m.flatMap fun t=>if seenM u t.1=true then itemsM p t 0 t.2.2.2.2.1 else []).map (·.1)).Nodup∧∀ r∈(m.flatMap fun t=>if seenM u t.1=true then itemsM p t 0 t.2.2.2.2.1 else []).map (·.1),∃ t∈m,r.1=t.1∧0≤r.2.1∧r.2.1<(t.2.2.2.2.1.length:Int)
 | [],_=>⟨List.nodup_nil,fun r hr=>by cases hr⟩
 | t::m,h=>by
   have h':=List.pairwise_cons.1 h
   obtain ⟨g1,g2⟩:=flat_names (p:=p) (u:=u) m h'.2
   have hd:((if seenM u t.1=true then itemsM p t 0 t.2.2.2.2.1 else []).map (·.1)).Nodup∧∀ r∈(if seenM u t.1=true then itemsM p t 0 t.2.2.2.2.1 else []).map (·.1),r.1=t.1∧0≤r.2.1∧r.2.1<(t.2.2.2.2.1.length:Int):=by
     split
     · obtain ⟨k1,k2⟩:=items_names (p:=p) (t:=t) t.2.2.2.2.1 0
       exact ⟨k1,fun r hr=>by have:=k2 r hr; exact ⟨this.1,by omega,by omega⟩⟩
     · exact ⟨List.nodup_nil,fun r hr=>by cases hr⟩
   rw[List.flatMap_cons,List.map_append]
   constructor
   · refine List.nodup_append.2 ⟨hd.1,g1,fun a ha b hb e => ?_⟩
     obtain ⟨t',ht',k1,_⟩:=g2 b hb
     have h1:cmpD t.1 t'.1<0:=h'.1 t' ht'
     have h2:=(hd.2 a ha).1
     rw[← h2,e,k1] at h1
     have h0:cmpD t'.1 t'.1=0:=(cd_cmp.zero ..).2 rfl
     simp only[h0] at h1
     omega
   · intro r hr
     rcases List.mem_append.1 hr with hr | hr
     · exact ⟨t,List.mem_cons_self ..,hd.2 r hr⟩
     · obtain ⟨t',ht',k⟩:=g2 r hr
       exact ⟨t',List.mem_cons_of_mem _ ht',k⟩
theorem all_names {l:List Txn1}{u:List Ref1} (h:riseT l):((allM l u).map (·.1)).Nodup∧∀ r∈(allM l u).map (·.1),∃ t∈l,r.1=t.1∧0≤r.2.1∧r.2.1<(t.2.2.2.2.1.length:Int):=flat_names l h
theorem cmpR_neg {a b:Ref1} (h:cmpR a b<0):cmpR a b = -1:=by
 unfold cmpR orI cmpD orI cmpI at h ⊢
 split at h<;>split at h<;>(try split at h)<;>(try split at h)<;>(try omega)<;>simp_all
theorem refsM_rise {s:List Ref1} (h1:∀ r∈s,refOk r=true) (h2:riseA cmpR s):refsM s=true:=by
 unfold refsM
 rw[zp]
 intro i hi
 unfold refsAt
 rw[zg hi]
 simp only[h1 _ (zm hi),Bool.true_and]
 by_cases h0:i=0
 · rw[zt h0,Bool.true_or]
 · rw[zf h0,Bool.false_or,zg (show i-1<s.length by omega)]
   simp only
   have:cmpR s[i-1] s[i]<0:=(List.pairwise_iff_getElem.1 h2) (i-1) i (by omega) hi (by omega)
   exact zt (cmpR_neg this)
theorem opM_seen {k:Int}{p:Path}{v:Val}{n:Int}{s:List Ref1} (h0:opM (k,p,v,n,[],())=0) (h1:k=2∨k=3→s=[]) (h2:s.length≤256) (h3:refsM s=true):opM (k,p,v,n,s,())=0:=by
 by_cases hk:k=2∨k=3
 · rw[h1 hk]; exact h0
 · have : opM (k, p, v, n, s, ()) = opM (k, p, v, n, [], ()) := by
     unfold opM
     simp only[hk,false_and,if_false,h3,refsM_nil,if_true,List.length_nil,show ¬ 256<s.length by omega,show ¬ 256<0 by omega]
   rw[this]; exact h0
theorem seen_ok {l:List Txn1}{u:List Ref1}{o:Op1} (h:TxnsOk l 20):∀ r∈seenR (allM l u) o,refOk r=true:=fun r hr=>by
 have h1:r∈(allM l u).map (·.1):=by
   obtain ⟨y,hy,e⟩:=List.mem_map.1 (seen_mem.1 hr)
   exact List.mem_map.2 ⟨y,(List.mem_filter.1 hy).1,e⟩
 obtain ⟨t,ht,e,h2,h3⟩:=(all_names (u:=u) h.rise).2 r h1
 have ok:=h.all t ht
 unfold refOk
 rw[e,ok.dot,Bool.true_and]
 exact zt ⟨h2,by have:=ok.len; omega⟩
theorem seen_none {x:List Item1}{o:Op1} (h:o.1=2∨o.1=3):seenR x o=[]:=by
 have:x.filter (coversM o)=[]:=List.filter_eq_nil_iff.2 fun y _=>by
   unfold coversM
   rw[zn (by omega),zn (by omega),zn (by omega)]; simp
 unfold seenR selR
 rw[this]; rfl
theorem make_cases {l:List Txn1}{u:List Ref1}{k:Int}{p:Path}{v:Val}{n:Int} (h:TxnsOk l 20) (ho:shortO (k,p,v,n,[],())) :
   (∃ e,e≠0∧makeM (allM l u) (k,p,v,n,[],())=(zeroO,e,())) ∨
   (∃ m,makeM (allM l u) (k,p,v,n,[],())=(m,0,())∧opM m=0∧shortO m):=by
 unfold makeM
 by_cases h0:opM (k,p,v,n,[],())≠0
 · rw[zp h0]; exact .inl ⟨_,h0,rfl⟩
 rw[zn h0]
 by_cases hc:clashesM (allM l u) (k,p,v,n,[],())=true
 · rw[zp hc]; exact .inl ⟨10,by omega,rfl⟩
 rw[zn hc]
 by_cases h1:(seenR (allM l u) (k,p,v,n,[],())).length=0∧((k,p,v,n,([]:List Ref1),()).1=4∨(k,p,v,n,([]:List Ref1),()).1=5)
 · rw[zp h1]; exact .inl ⟨11,by omega,rfl⟩
 rw[zn h1]
 by_cases h2:(seenR (allM l u) (k,p,v,n,[],())).length>256
 · rw[zp h2]; exact .inl ⟨7,by omega,rfl⟩
 rw[zn h2]
 refine .inr ⟨_,rfl,opM_seen (Classical.not_not.1 h0) (fun hk=>seen_none hk) (by omega) (refsM_rise (seen_ok h) seen_rises),?_⟩
 obtain ⟨a,b,c,d⟩:=ho
 exact ⟨a,b,c,by show (seenR _ _).length≤300; omega⟩
theorem short_nil {k:Int}{p:Path}{v:Val}{n:Int}{s:List Ref1} (h:shortO (k,p,v,n,s,())):shortO (k,p,v,n,[],()):=⟨h.1,h.2.1,h.2.2.1,by simp⟩
theorem runes1 {a:UInt8} (h:a.toNat<128):runesM [a]=some [(a.toNat:Int)]:=by
 have hc:charM [a]=((a.toNat:Int),1):=by simp only[charM]; rw[zp h]
 rw[runesM_step (by simp) (by rw[hc]; simp),hc]
 show (runesM []).map _=_
 rw[runesM_nil]; rfl
theorem name1 {a:UInt8} (h:a.toNat<128) (hm:mayM (a.toNat:Int)=true):nameM [a]=true:=by
 unfold nameM
 rw[runes1 h]
 simp[hm]
theorem check97:checkM [[97]]=0:=by
 unfold checkM
 simp[name1 (a:=97) (by decide) (by decide)]
theorem check98:checkM [[98]]=0:=by
 unfold checkM
 simp[name1 (a:=98) (by decide) (by decide)]
theorem check97k:checkM [[97],[107]]=0:=by
 unfold checkM
 simp[name1 (a:=97) (by decide) (by decide),name1 (a:=107) (by decide) (by decide)]
theorem put_ok {p:Path} (h:checkM p=0):opM (1,p,(1,1,[],()),0,[],())=0:=by
 unfold opM
 simp[h,rightV,refsM_nil]
abbrev inc0:Op1:=(3,[[97]],(0,0,[],()),1,[],())
theorem inc_ok:opM inc0=0:=by
 unfold opM
 simp[check97,zeroV,refsM_nil]
abbrev txn0:Txn1:=((0,1,()),0,1,false,[inc0],())
theorem txns0:TxnsOk [txn0] 20 where
 len:=by simp
 rise:=List.pairwise_singleton ..
 all t ht:=by
   rw[List.mem_singleton.1 ht]
   exact ⟨by simp,by simp,fun o ho=>by rw[List.mem_singleton.1 ho]; exact ⟨⟨by simp,by simp,by simp,by simp⟩,.inl inc_ok⟩,by decide,by decide,by decide⟩
theorem all0:allM [txn0] []=[(((0,1,()),0,()),inc0,1,())]:=rfl
theorem awake19:zax=some true:=by
 have hp:=txns_low txns0 (by omega)
 have hu:LowU []:=⟨by simp,List.Pairwise.nil⟩
 have hi:=items_ok (u:=[]) txns0
 have hn:=(all_names (u:=[]) txns0.rise).1
 unfold zax
 rw[show ([((0,1,()),0,1,false,([(3,([[97]]:Path),(0,0,[],()),1,[],())]:List Op1),())]:List Txn1)=[txn0] from rfl,all_t hp.low hu]
 simp only[zb]
 rw[checkMake_t hi hn ⟨by simp,by simp,by simp,by simp⟩,checkMake_t hi hn ⟨by simp,by simp,by simp,by simp⟩,checkMake_t hi hn ⟨by simp,by simp,by simp,by simp⟩]
 simp only[zb]
 have m1:makeM (allM [txn0] []) (1,[[97]],(1,1,[],()),0,[],())=(zeroO,10,()):=by
   unfold makeM
   rw[zn (fun e=>e (put_ok check97)),zp (by rw[all0]; decide)]
 have m2:makeM (allM [txn0] []) (1,[[97],[107]],(1,1,[],()),0,[],())=(zeroO,10,()):=by
   unfold makeM
   rw[zn (fun e=>e (put_ok check97k)),zp (by rw[all0]; decide)]
 have m3:(makeM (allM [txn0] []) (1,[[98]],(1,1,[],()),0,[],())).2.1=0:=by
   have hs:seenR (allM [txn0] []) (1,[[98]],(1,1,[],()),0,[],())=[]:=by rw[all0]; decide
   unfold makeM
   rw[zn (fun e=>e (put_ok check98)),zn (by rw[all0]; decide),hs,zn (by simp),zn (by simp)]
 rw[m1,m2,m3]
 rfl
end Go.Proofs.YtgfpkhlabdcbmaaDoor.Q
