import Derived.Test.YtgfpkhlabdcbmaaGreatDoorW
import Derived.Test.YtgfpkhlabdcbmaaGreatDoorT14
import Derived.Test.YtgfpkhlabdcbmaaGreatDoorT29
set_option linter.unusedVariables false
set_option linter.unusedSimpArgs false
set_option maxRecDepth 100000
namespace Go.Proofs.YtgfpkhlabdcbmaaGreatDoor.Q
open Go.EM Go.TY Go.Proofs Go.Proofs.YtgfpkhlabdcbmaaGreatDoor.Y
def charM:List UInt8→Int×Nat
 | []=>(0,0)
 | a::t =>
   if a.toNat<128 then (a.toNat,1)
   else if 194≤a.toNat∧a.toNat<224 then (match t with
     | b::_=>if 128≤b.toNat∧b.toNat≤191 then (64*((a.toNat:Int)-192)+b.toNat-128,2) else (0,0)
     | _=>(0,0))
   else if 224≤a.toNat∧a.toNat<240 then (match t with
     | b :: c :: _ => if (128 ≤ b.toNat ∧ b.toNat ≤ 191) ∧ (128 ≤ c.toNat ∧ c.toNat ≤ 191) then
         let r:Int:=64*(64*((a.toNat:Int)-224)+b.toNat-128)+c.toNat-128
         if r<2048∨(55296≤r∧r≤57343) then (0,0) else (r,3)
       else (0,0)
     | _=>(0,0))
   else if 240≤a.toNat∧a.toNat<245 then (match t with
     | b :: c :: d :: _ => if (128 ≤ b.toNat ∧ b.toNat ≤ 191) ∧ (128 ≤ c.toNat ∧ c.toNat ≤ 191) ∧ (128 ≤ d.toNat ∧ d.toNat ≤ 191) then
         let r:Int:=64*(64*(64*((a.toNat:Int)-240)+b.toNat-128)+c.toNat-128)+d.toNat-128
         if r<65536∨1114111<r then (0,0) else (r,4)
       else (0,0)
     | _=>(0,0))
   else (0,0)
theorem turn17 {s:List UInt8}{q:Int×Int×Int×Unit}{x:Int}{i:Nat}{b:UInt8} (hi:(i:Int)<q.2.1) (hi4:i≤4) (h:s[i]? = some b) (hx:0≤x) (hx2:x≤100000000) :
   zbs_l17 s q (x,(i:Int),())=if 128≤b.toNat∧b.toNat≤191 then some (.inl (64*x+b.toNat-128,((i+1:Nat):Int),())) else some (.inr (.inr (0,0,()))):=by
 have hb:b.toNat<256:=b.toNat_lt
 simp only[zbs_l17,atI_nat,h,zb,cond_dec,zp hi]
 rw[wrap64 (n:=64*x) (by omega) (by omega),wrap64 (n:=(b.toNat:Int)) (by omega) (by omega),wrap64 (n:=64*x+b.toNat) (by omega) (by omega),wrap64 (n:=64*x+b.toNat-128) (by omega) (by omega),wrap64 (n:=(i:Int)+1) (by omega) (by omega)]
 by_cases h1:b.toNat<128
 · rw[zp (by omega),zn (by omega)]
 · rw[zn (by omega)]
   by_cases h2:b.toNat>191
   · rw[zp (by omega),zn (by omega)]
   · rw[zn (by omega),zp (by omega)]; rfl
theorem stop17 {s:List UInt8}{q:Int×Int×Int×Unit}{x:Int}{i:Nat} (hi:¬ (i:Int)<q.2.1):zbs_l17 s q (x,(i:Int),())=some (.inr (.inl (x,()))):=by
 simp only[zbs_l17,cond_dec,zn hi]
theorem loop17_2 {a b:UInt8}{t:List UInt8}{l:Int}{c x:Int} (hx:0≤x) (hx2:x≤1000) :
   loopT (zbs_l17 (a::b::t) (c,2,l,())) (x,1,())=if 128≤b.toNat∧b.toNat≤191 then some (.inl (64*x+b.toNat-128,())) else some (.inr (0,0,())):=by
 have h:=turn17 (s:=a::b::t) (q:=(c,2,l,())) (i:=1) (b:=b) (x:=x) (by simp) (by omega) rfl hx (by omega)
 by_cases hb:128≤b.toNat∧b.toNat≤191
 · rw[zp hb] at h ⊢
   exact (loopT_inl h).trans (loopT_inr (stop17 (by simp)))
 · rw[zn hb] at h ⊢
   exact loopT_inr h
theorem loop17_3 {a b d:UInt8}{t:List UInt8}{l:Int}{c x:Int} (hx:0≤x) (hx2:x≤1000) :
   loopT (zbs_l17 (a::b::d::t) (c,3,l,())) (x,1,())=if (128≤b.toNat∧b.toNat≤191)∧(128≤d.toNat∧d.toNat≤191) then some (.inl (64*(64*x+b.toNat-128)+d.toNat-128,())) else some (.inr (0,0,())):=by
 have hb':=b.toNat_lt
 have h:=turn17 (s:=a::b::d::t) (q:=(c,3,l,())) (i:=1) (b:=b) (x:=x) (by simp) (by omega) rfl hx (by omega)
 by_cases hb:128≤b.toNat∧b.toNat≤191
 · rw[zp hb] at h
   have h2:=turn17 (s:=a::b::d::t) (q:=(c,3,l,())) (i:=2) (b:=d) (x:=64*x+b.toNat-128) (by simp) (by omega) rfl (by omega) (by omega)
   by_cases hd:128≤d.toNat∧d.toNat≤191
   · rw[zp hd] at h2
     rw[zp ⟨hb,hd⟩]
     exact ((loopT_inl h).trans (loopT_inl h2)).trans (loopT_inr (stop17 (by simp)))
   · rw[zn hd] at h2
     rw[zn (fun e=>hd e.2)]
     exact (loopT_inl h).trans (loopT_inr h2)
 · rw[zn hb] at h
   rw[zn (fun e=>hb e.1)]
   exact loopT_inr h
theorem loop17_4 {a b d e:UInt8}{t:List UInt8}{l:Int}{c x:Int} (hx:0≤x) (hx2:x≤1000) :
   loopT (zbs_l17 (a::b::d::e::t) (c,4,l,())) (x,1,())=if (128≤b.toNat∧b.toNat≤191)∧(128≤d.toNat∧d.toNat≤191)∧(128≤e.toNat∧e.toNat≤191) then some (.inl (64*(64*(64*x+b.toNat-128)+d.toNat-128)+e.toNat-128,())) else some (.inr (0,0,())):=by
 have hb':=b.toNat_lt
 have hd':=d.toNat_lt
 have h:=turn17 (s:=a::b::d::e::t) (q:=(c,4,l,())) (i:=1) (b:=b) (x:=x) (by simp) (by omega) rfl hx (by omega)
 by_cases hb:128≤b.toNat∧b.toNat≤191
 · rw[zp hb] at h
   have h2:=turn17 (s:=a::b::d::e::t) (q:=(c,4,l,())) (i:=2) (b:=d) (x:=64*x+b.toNat-128) (by simp) (by omega) rfl (by omega) (by omega)
   by_cases hd:128≤d.toNat∧d.toNat≤191
   · rw[zp hd] at h2
     have h3:=turn17 (s:=a::b::d::e::t) (q:=(c,4,l,())) (i:=3) (b:=e) (x:=64*(64*x+b.toNat-128)+d.toNat-128) (by simp) (by omega) rfl (by omega) (by omega)
     by_cases he:128≤e.toNat∧e.toNat≤191
     · rw[zp he] at h3
       rw[zp ⟨hb,hd,he⟩]
       exact (((loopT_inl h).trans (loopT_inl h2)).trans (loopT_inl h3)).trans (loopT_inr (stop17 (by simp)))
     · rw[zn he] at h3
       rw[zn (fun q=>he q.2.2)]
       exact ((loopT_inl h).trans (loopT_inl h2)).trans (loopT_inr h3)
   · rw[zn hd] at h2
     rw[zn (fun q=>hd q.2.1)]
     exact (loopT_inl h).trans (loopT_inr h2)
 · rw[zn hb] at h
   rw[zn (fun q=>hb q.1)]
   exact loopT_inr h
theorem char_t (s:List UInt8):zbs s=some ((charM s).1,((charM s).2:Int),()):=by
 cases s with
 | nil=>simp[zbs,charM]
 | cons a t =>
   have ha:a.toNat<256:=a.toNat_lt
   have h0:¬ (((a::t).length:Int)=0):=by simp only[zl]; omega
   have hi:atI (a::t) 0=some a:=by simp[atI]
   unfold zbs
   simp only[cond_dec,zn h0,hi,zb,and_join,ite_and2,ite_or2]
   rw[wrap64 (n:=(a.toNat:Int)) (by omega) (by omega)]
   by_cases c1:a.toNat<128
   · rw[zp (by omega)]
     simp only[bind_join_inr,charM,zp c1]; rfl
   rw[zn (by omega)]
   by_cases c2:194≤a.toNat∧a.toNat<224
   · rw[zp (by omega),wrap64 (by omega) (by omega)]
     simp only[bind_join_inl]
     match t with
     | []=>simp[charM,c1,c2]
     | b::t =>
       rw[zn (by simp only[zl]; omega),loop17_2 (by omega) (by omega)]
       by_cases hb:128≤b.toNat∧b.toNat≤191
       · rw[zp hb]
         simp only[bind_join_inl]
         rw[guard_join,zn (by omega)]
         simp only[charM,c1,c2,hb,if_true,if_false,and_self]; rfl
       · rw[zn hb]
         simp only[bind_join_inr]
         simp[charM,c1,c2,hb]
   rw[zn (by omega)]
   by_cases c3:224≤a.toNat∧a.toNat<240
   · rw[zp (by omega),wrap64 (by omega) (by omega)]
     simp only[bind_join_inl]
     match t with
     | []=>simp[charM,c1,c2,c3]
     | [b]=>simp[charM,c1,c2,c3]
     | b::c::t =>
       have hb:=b.toNat_lt
       have hc:=c.toNat_lt
       rw[zn (by simp only[zl]; omega),loop17_3 (by omega) (by omega)]
       by_cases hb':(128≤b.toNat∧b.toNat≤191)∧(128≤c.toNat∧c.toNat≤191)
       · rw[zp hb']
         simp only[bind_join_inl]
         rw[guard_join]
         simp only[charM,c1,c2,c3,hb',if_true,if_false,and_self]
         by_cases hr:64*(64*((a.toNat:Int)-224)+b.toNat-128)+c.toNat-128<2048∨(55296≤64*(64*((a.toNat:Int)-224)+b.toNat-128)+c.toNat-128∧64*(64*((a.toNat:Int)-224)+b.toNat-128)+c.toNat-128≤57343)
         · rw[zp (by omega),zp hr]; rfl
         · rw[zn (by omega),zn hr]; rfl
       · rw[zn hb']
         simp only[bind_join_inr]
         simp[charM,c1,c2,c3,hb']
   rw[zn (by omega)]
   by_cases c4:240≤a.toNat∧a.toNat<245
   · rw[zp (by omega),wrap64 (by omega) (by omega)]
     simp only[bind_join_inl]
     match t with
     | []=>simp[charM,c1,c2,c3,c4]
     | [b]=>simp[charM,c1,c2,c3,c4]
     | [b,c]=>simp[charM,c1,c2,c3,c4]
     | b::c::d::t =>
       have hb:=b.toNat_lt
       have hc:=c.toNat_lt
       have hd:=d.toNat_lt
       rw[zn (by simp only[zl]; omega),loop17_4 (by omega) (by omega)]
       by_cases hb':(128≤b.toNat∧b.toNat≤191)∧(128≤c.toNat∧c.toNat≤191)∧(128≤d.toNat∧d.toNat≤191)
       · rw[zp hb']
         simp only[bind_join_inl]
         rw[guard_join]
         simp only[charM,c1,c2,c3,c4,hb',if_true,if_false,and_self]
         by_cases hr:64*(64*(64*((a.toNat:Int)-240)+b.toNat-128)+c.toNat-128)+d.toNat-128<65536∨1114111<64*(64*(64*((a.toNat:Int)-240)+b.toNat-128)+c.toNat-128)+d.toNat-128
         · rw[zp (by omega),zp hr]; rfl
         · rw[zn (by omega),zn hr]; rfl
       · rw[zn hb']
         simp only[bind_join_inr]
         simp[charM,c1,c2,c3,c4,hb']
   rw[zn (by omega)]
   simp only[bind_join_inr]
   simp[charM,c1,c2,c3,c4]
theorem charM_le (s:List UInt8):(charM s).2≤s.length:=by
 unfold charM
 repeat' split
 all_goals (try simp only[])
 all_goals (try split)
 all_goals (try simp only[zl])
 all_goals omega
theorem charM_int (s:List UInt8):0≤(charM s).1∧(charM s).1≤1114111:=by
 unfold charM
 repeat' split
 all_goals (try simp only[])
 all_goals (try split)
 all_goals (try simp only[])
 all_goals omega
def runesM (s:List UInt8):Option (List Int) :=
 if h:s=[] then some []
 else if h0:(charM s).2=0 then none
 else (runesM (s.drop (charM s).2)).map fun l=>(charM s).1::l
termination_by s.length
decreasing_by
 have:s.length≠0:=fun e=>h (List.eq_nil_of_length_eq_zero e)
 simp only[List.length_drop]; omega
theorem runesM_nil:runesM []=some []:=by rw[runesM,dif_pos rfl]
theorem runesM_none {s:List UInt8} (h:s≠[]) (h0:(charM s).2=0):runesM s=none:=by rw[runesM,dif_neg h,dif_pos h0]
theorem runesM_step {s:List UInt8} (h:s≠[]) (h0:(charM s).2≠0):runesM s=(runesM (s.drop (charM s).2)).map fun l=>(charM s).1::l:=by rw[runesM,dif_neg h,dif_neg h0]
def runesR (s:List UInt8) (out:List Int):List Int×Bool×Unit :=
 match runesM s with
 | some m=>(out++m,true,())
 | none=>([],false,())
theorem runes_loop {s:List UInt8} (hs:s.length<4294967296):∀ (k i:Nat) (l:List Int),s.length-i≤k→i≤s.length→l.length≤i→loopT (zbm_l3 s) ((i:Int),l,())=some (runesR (s.drop i) l):=by
 intro k
 have fin:∀ (i:Nat) (l:List Int),¬ i<s.length→loopT (zbm_l3 s) ((i:Int),l,())=some (runesR (s.drop i) l):=by
   intro i l hi
   rw[List.drop_eq_nil_of_le (by omega),loopT_inr (x:=(l,true,())) (by simp only[zbm_l3,cond_dec]; rw[zn (by omega)])]
   simp[runesR,runesM_nil]
 induction k with
 | zero=>intro i l hk hi hl; exact fin i l (by omega)
 | succ k ih =>
   intro i l hk hi hl
   by_cases hlt:i<s.length
   · have hne:s.drop i≠[]:=fun e=>by have:=congrArg List.length e; simp at this; omega
     have hle:=charM_le (s.drop i)
     simp only[List.length_drop] at hle
     by_cases h0:(charM (s.drop i)).2=0
     · rw[loopT_inr (x:=([],false,()))]
       · simp only[runesR,runesM_none hne h0]
       · simp only[zbm_l3,cond_dec]
         rw[zp (by omega),subI_from (by omega)]
         simp only[zb,char_t]
         rw[zp (by omega)]
     · rw[loopT_inl (b:=(((i+(charM (s.drop i)).2:Nat):Int),l++[(charM (s.drop i)).1],()))]
       · rw[ih _ _ (by omega) (by omega) (by simp; omega)]
         simp only[runesR,runesM_step hne h0,List.drop_drop]
         cases runesM (s.drop (i+(charM (s.drop i)).2))<;>simp
       · simp only[zbm_l3,cond_dec]
         rw[zp (by omega),subI_from (by omega)]
         simp only[zb,char_t]
         rw[zn (by omega),roomT_lt (by simp; omega)]
         simp only[zb]
         rw[wrap64 (by omega) (by omega)]
         simp
   · exact fin i l hlt
theorem runes_t {s:List UInt8} (hs:s.length<4294967296):zbm s=some (runesR s []):=by
 have:=runes_loop hs s.length 0 [] (by omega) (by omega) (by simp)
 simpa [zbm] using this
def decN (l:List UInt8):Nat×Nat:=if (charM l).2=0 then (65533,1) else ((charM l).1.toNat,(charM l).2)
theorem get_at {s:List UInt8}{i:Nat}{b:UInt8} (h:s[i]? = some b):(⟨s.toArray⟩:ByteArray).get! i=b:=by
 have:(⟨s.toArray⟩:ByteArray).get! i=s.toArray[i]! := rfl
 rw[this]
 simp[h]
theorem cont_no {s:List UInt8}{i:Nat} (h:s.length≤i):decide (i<(⟨s.toArray⟩:ByteArray).size)=false:=by
 have:(⟨s.toArray⟩:ByteArray).size=s.length:=by simp[ByteArray.size]
 rw[this]; simp; omega
theorem cont_yes {s:List UInt8}{i:Nat} (h:i<s.length):decide (i<(⟨s.toArray⟩:ByteArray).size)=true:=by
 have:(⟨s.toArray⟩:ByteArray).size=s.length:=by simp[ByteArray.size]
 rw[this]; simp; omega
theorem drop_at {s t:List UInt8}{i k:Nat}{b:UInt8} (h:s.drop i=t) (hb:t[k]? = some b):s[i+k]? = some b:=by
 rw[← h,List.getElem?_drop] at hb; exact hb
theorem drop_len {s t:List UInt8}{i:Nat} (h:s.drop i=t) (hi:i≤s.length):s.length=i+t.length:=by
 rw[← h,List.length_drop]; omega
def decV (b0:Nat) (b1 b2 b3:Option Nat):Nat×Nat :=
 let cont (b:Option Nat):Bool:=match b with
   | some b=>b/64==2
   | none=>false
 if b0<0x80 then (b0,1)
 else if b0/32==6&&cont b1 then
   let c:=(b0%32)*64+b1.getD 0%64
   if c≥0x80 then (c,2) else (65533,1)
 else if b0/16==14&&cont b1&&cont b2 then
   let c:=(b0%16)*4096+(b1.getD 0%64)*64+b2.getD 0%64
   if c≥0x800&&Utf8.valid c then (c,3) else (65533,1)
 else if b0/8==30&&cont b1&&cont b2&&cont b3 then
   let c:=(b0%8)*262144+(b1.getD 0%64)*4096+(b2.getD 0%64)*64+b3.getD 0%64
   if c≥0x10000&&Utf8.valid c then (c,4) else (65533,1)
 else (65533,1)
theorem decode_V {s t:List UInt8}{i:Nat}{a:UInt8} (h:s.drop i=a::t) (hi:i≤s.length):Utf8.decode ⟨s.toArray⟩ i=decV a.toNat (t[0]?.map (·.toNat)) (t[1]?.map (·.toNat)) (t[2]?.map (·.toNat)):=by
 have hlen:=drop_len h hi
 have g0:(⟨s.toArray⟩:ByteArray).get! (i+0)=a:=get_at (drop_at h rfl)
 have gk:∀ k b,t[k]? = some b→(⟨s.toArray⟩:ByteArray).get! (i+(k+1))=b:=fun k b hb=>get_at (drop_at h (by simpa using hb))
 have cy:∀ k b,t[k]? = some b→decide (i+(k+1)<(⟨s.toArray⟩:ByteArray).size)=true:=fun k b hb=>cont_yes (by
   rcases Nat.lt_or_ge k t.length with h' | h'
   · simp only[zl] at hlen; omega
   · rw[List.getElem?_eq_none h'] at hb; cases hb)
 have cn:∀ k,t[k]? = none→decide (i+(k+1)<(⟨s.toArray⟩:ByteArray).size)=false:=fun k hb=>cont_no (by
   rw[List.getElem?_eq_none_iff] at hb
   simp only[zl] at hlen; omega)
 unfold Utf8.decode decV
 simp only[g0]
 have e:Utf8.runeError=65533:=rfl
 cases h1:t[0]? with
 | none =>
   have c1:=cn 0 h1
   have h2:t[1]? = none:=by rw[List.getElem?_eq_none_iff] at h1 ⊢; omega
   have h3:t[2]? = none:=by rw[List.getElem?_eq_none_iff] at h1 ⊢; omega
   simp only[Nat.zero_add] at c1
   simp[c1,h2,h3,e]
 | some b =>
   have c1:=cy 0 b h1
   have d1:=gk 0 b h1
   simp only[Nat.zero_add] at c1 d1
   cases h2:t[1]? with
   | none =>
     have c2:=cn 1 h2
     have h3:t[2]? = none:=by rw[List.getElem?_eq_none_iff] at h2 ⊢; omega
     simp only[Nat.reduceAdd] at c2
     simp[c1,c2,d1,h3,e]
   | some c =>
     have c2:=cy 1 c h2
     have d2:=gk 1 c h2
     simp only[Nat.reduceAdd] at c2 d2
     cases h3:t[2]? with
     | none =>
       have c3:=cn 2 h3
       simp only[Nat.reduceAdd] at c3
       simp[c1,c2,c3,d1,d2,e]
     | some d =>
       have c3:=cy 2 d h3
       have d3:=gk 2 d h3
       simp only[Nat.reduceAdd] at c3 d3
       simp[c1,c2,c3,d1,d2,d3,e]
theorem div64 {b:Nat}:(b/64==2)=decide (128≤b∧b≤191):=by
 rw[Bool.eq_iff_iff]; simp; omega
theorem decV_N (a:UInt8) (t:List UInt8):decV a.toNat (t[0]?.map (·.toNat)) (t[1]?.map (·.toNat)) (t[2]?.map (·.toNat))=decN (a::t):=by
 have ha:=a.toNat_lt
 unfold decV decN
 by_cases c1:a.toNat<128
 · simp[charM,c1]
 have c1':¬ a.toNat<0x80:=c1
 simp only[zn c1']
 by_cases c2:a.toNat/32=6
 · have e2:(a.toNat/32==6)=true:=by simp[c2]
   match t with
   | [] =>
     have e3:¬ a.toNat/16=14:=by omega
     have e4:¬ a.toNat/8=30:=by omega
     have d3:¬ (224≤a.toNat∧a.toNat<240):=by omega
     have d4:¬ (240≤a.toNat∧a.toNat<245):=by omega
     simp[charM,c1,e3,e4,d3,d4]
   | b::t =>
     have hb:=b.toNat_lt
     have e3:¬ a.toNat/16=14:=by omega
     have e4:¬ a.toNat/8=30:=by omega
     have d3:¬ (224≤a.toNat∧a.toNat<240):=by omega
     have d4:¬ (240≤a.toNat∧a.toNat<245):=by omega
     simp only[List.getElem?_cons_zero,Option.map_some,e2,div64,Bool.true_and,Option.getD_some]
     by_cases hb':128≤b.toNat∧b.toNat≤191
     · rw[zp (by simpa using hb')]
       by_cases c3:194≤a.toNat
       · rw[zp (by omega)]
         have q:194≤a.toNat∧a.toNat<224:=by omega
         simp only[charM,zn c1,zp q,zp hb']
         rw[zn (by omega)]
         congr 1
         omega
       · rw[zn (by omega)]
         have q:¬ (194≤a.toNat∧a.toNat<224):=by omega
         simp[charM,c1,q,d3,d4]
     · rw[zn (by simpa using hb')]
       have x3:(a.toNat/16==14)=false:=by simp[e3]
       have x4:(a.toNat/8==30)=false:=by simp[e4]
       simp only[x3,x4,Bool.false_and,Bool.false_eq_true,if_false]
       by_cases c3:194≤a.toNat∧a.toNat<224
       · simp[charM,c1,c3,hb']
       · simp[charM,c1,c3,d3,d4]
 have e2:(a.toNat/32==6)=false:=by simp[c2]
 simp only[e2,Bool.false_and,Bool.false_eq_true,if_false]
 have d2:¬ (194≤a.toNat∧a.toNat<224):=by omega
 by_cases c3:a.toNat/16=14
 · have e3:(a.toNat/16==14)=true:=by simp[c3]
   have d3:(224≤a.toNat∧a.toNat<240):=by omega
   have x4:(a.toNat/8==30)=false:=by simp; omega
   simp only[e3,x4,Bool.true_and,Bool.false_and,Bool.false_eq_true,if_false]
   match t with
   | []=>simp[charM,c1,d2,d3]
   | [b]=>simp[charM,c1,d2,d3]
   | b::c::t =>
     have hb:=b.toNat_lt
     have hc:=c.toNat_lt
     simp only[List.getElem?_cons_zero,List.getElem?_cons_succ,Option.map_some,div64,Option.getD_some]
     by_cases hb':(128≤b.toNat∧b.toNat≤191)∧(128≤c.toNat∧c.toNat≤191)
     · rw[zp (by simp only[Bool.and_eq_true,decide_eq_true_eq]; exact hb')]
       simp only[charM,zn c1,zn d2,zp d3,zp hb']
       by_cases hr:64*(64*((a.toNat:Int)-224)+b.toNat-128)+c.toNat-128<2048∨(55296≤64*(64*((a.toNat:Int)-224)+b.toNat-128)+c.toNat-128∧64*(64*((a.toNat:Int)-224)+b.toNat-128)+c.toNat-128≤57343)
       · rw [zp hr, zn (by
           simp only[Utf8.valid,Bool.and_eq_true,Bool.or_eq_true,decide_eq_true_eq]; omega)]
         rfl
       · rw [zn hr, zp (by
           simp only[Utf8.valid,Bool.and_eq_true,Bool.or_eq_true,decide_eq_true_eq]; omega),zn (by simp)]
         congr 1
         omega
     · rw[zn (by simp only[Bool.and_eq_true,decide_eq_true_eq]; exact hb')]
       simp only[charM,zn c1,zn d2,zp d3,zn hb']
       rfl
 have e3:(a.toNat/16==14)=false:=by simp[c3]
 have d3:¬ (224≤a.toNat∧a.toNat<240):=by omega
 simp only[e3,Bool.false_and,Bool.false_eq_true,if_false]
 by_cases c4:a.toNat/8=30
 · have e4:(a.toNat/8==30)=true:=by simp[c4]
   simp only[e4,Bool.true_and]
   match t with
   | []=>simp[charM,c1,d2,d3]
   | [b]=>simp[charM,c1,d2,d3]
   | [b,c]=>simp[charM,c1,d2,d3]
   | b::c::d::t =>
     have hb:=b.toNat_lt
     have hc:=c.toNat_lt
     have hd:=d.toNat_lt
     simp only[List.getElem?_cons_zero,List.getElem?_cons_succ,Option.map_some,div64,Option.getD_some]
     by_cases hb':(128≤b.toNat∧b.toNat≤191)∧(128≤c.toNat∧c.toNat≤191)∧(128≤d.toNat∧d.toNat≤191)
     · rw[zp (by simp only[Bool.and_eq_true,decide_eq_true_eq]; exact ⟨⟨hb'.1,hb'.2.1⟩,hb'.2.2⟩)]
       by_cases d4:(240≤a.toNat∧a.toNat<245)
       · simp only[charM,zn c1,zn d2,zn d3,zp d4,zp hb']
         by_cases hr:64*(64*(64*((a.toNat:Int)-240)+b.toNat-128)+c.toNat-128)+d.toNat-128<65536∨1114111<64*(64*(64*((a.toNat:Int)-240)+b.toNat-128)+c.toNat-128)+d.toNat-128
         · rw [zp hr, zn (by
             simp only[Utf8.valid,Bool.and_eq_true,Bool.or_eq_true,decide_eq_true_eq]; omega)]
           rfl
         · rw [zn hr, zp (by
             simp only[Utf8.valid,Bool.and_eq_true,Bool.or_eq_true,decide_eq_true_eq]; omega),zn (by simp)]
           congr 1
           omega
       · rw [zn (by
           simp only[Utf8.valid,Bool.and_eq_true,Bool.or_eq_true,decide_eq_true_eq]; omega)]
         simp only[charM,zn c1,zn d2,zn d3,zn d4]
         rfl
     · rw[zn (by simp only[Bool.and_eq_true,decide_eq_true_eq]; exact fun e=>hb' ⟨e.1.1,e.1.2,e.2⟩)]
       by_cases d4:(240≤a.toNat∧a.toNat<245)
       · simp only[charM,zn c1,zn d2,zn d3,zp d4,zn hb']
         rfl
       · simp only[charM,zn c1,zn d2,zn d3,zn d4]
         rfl
 · have e4:(a.toNat/8==30)=false:=by simp[c4]
   have d4:¬ (240≤a.toNat∧a.toNat<245):=by omega
   simp[e4,charM,c1,d2,d3,d4]
theorem decode_N {s:List UInt8}{i:Nat} (hi:i<s.length):Utf8.decode ⟨s.toArray⟩ i=decN (s.drop i):=by
 cases h:s.drop i with
 | nil=>have:=congrArg List.length h; simp at this; omega
 | cons a t=>rw[decode_V h (by omega),decV_N]
def cmpI (a b:Int):Int:=if a<b then -1 else if a>b then 1 else 0
theorem compare_t (a b:Int):zas a b=some (cmpI a b):=by
 unfold zas za0 cmpI
 simp only[zb,decide_true,Bool.not_true,cond_false,cond_dec]
 by_cases h1:a<b
 · simp[h1]
 · by_cases h2:a>b<;>simp[h1,h2]
def orI (a b:Int):Int:=if a=0 then b else a
theorem or_t (a b:Int):zb4 [a,b]=some (orI a b):=by
 unfold zb4 orI
 by_cases h1:a=0
 · rw[zp h1]
   have t0:zb4_l3 [a,b] (0,())=some (.inl (1,())):=by
     unfold zb4_l3
     simp only[cond_dec,zl,List.length_nil]
     rw[zp (by decide)]
     simp[atI,h1,wrap64]
   rw[loopT_inl t0]
   by_cases h2:b=0
   · have t1 : zb4_l3 [a, b] (1, ()) = some (.inl (2, ())) := by
       unfold zb4_l3
       simp only[cond_dec,zl,List.length_nil]
       rw[zp (by decide)]
       simp[atI,h2,wrap64]
     rw[loopT_inl t1,h2]
     refine loopT_inr ?_
     unfold zb4_l3
     simp only[cond_dec,zl,List.length_nil]
     rw[zn (by decide)]
   · refine loopT_inr ?_
     unfold zb4_l3
     simp only[cond_dec,zl,List.length_nil]
     rw[zp (by decide)]
     simp[atI,h2]
 · rw[zn h1]
   refine loopT_inr ?_
   unfold zb4_l3
   simp only[cond_dec,zl,List.length_nil]
   rw[zp (by decide)]
   simp[atI,h1]
def cmpD (a b:Int×Int×Unit):Int:=orI (cmpI a.1 b.1) (cmpI a.2.1 b.2.1)
def rightM (d:Int×Int×Unit):Bool:=decide (0≤d.1∧d.1≤15∧1≤d.2.1∧d.2.1≤1048576)
def Good (c:Int):Prop:=∃ s,(charM s).2≠0∧(charM s).1=c
abbrev Val:=Int×Int×List UInt8×Unit
theorem cb_neg:∀ a b:List UInt8,Lib.compareBytes b a = - Lib.compareBytes a b
 | [],[]=>rfl
 | [],_::_=>rfl
 | _::_,[]=>rfl
 | x::a,y::b=>by
   simp only[Lib.compareBytes,UInt8.lt_iff_toNat_lt]
   by_cases h1:x.toNat<y.toNat
   · have h2:¬ y.toNat<x.toNat:=by omega
     simp only[zp h1,zn h2]
     rfl
   · by_cases h2:y.toNat<x.toNat
     · simp only[zp h2,zn h1]
     · simp only[zn h2,zn h1]; exact cb_neg a b
theorem cb_zero:∀ a b:List UInt8,Lib.compareBytes a b=0↔a=b
 | [],[]=>by simp[Lib.compareBytes]
 | [],_::_=>by simp[Lib.compareBytes]
 | _::_,[]=>by simp[Lib.compareBytes]
 | x::a,y::b=>by
   simp only[Lib.compareBytes,UInt8.lt_iff_toNat_lt]
   by_cases h1:x.toNat<y.toNat
   · rw[zp h1]
     constructor
     · intro h; cases h
     · intro h; cases h; omega
   · rw[zn h1]
     by_cases h2:y.toNat<x.toNat
     · rw[zp h2]
       constructor
       · intro h; cases h
       · intro h; cases h; omega
     · rw[zn h2,cb_zero a b]
       have:x=y:=UInt8.toNat_inj.1 (by omega)
       subst this
       simp
theorem cb_one:∀ a b:List UInt8,Lib.compareBytes a b = -1∨Lib.compareBytes a b=0∨Lib.compareBytes a b=1
 | [],[]=>.inr (.inl rfl)
 | [],_::_=>.inl rfl
 | _::_,[]=>.inr (.inr rfl)
 | x::a,y::b=>by
   simp only[Lib.compareBytes]
   split
   · exact .inl rfl
   · split
     · exact .inr (.inr rfl)
     · exact cb_one a b
theorem cb_trans:∀ a b c:List UInt8,Lib.compareBytes a b≤0→Lib.compareBytes b c≤0→Lib.compareBytes a c≤0
 | [],b,[],_,_=>by simp[Lib.compareBytes]
 | [],b,_::_,_,_=>by simp[Lib.compareBytes]
 | _::_,[],_,h,_=>by simp[Lib.compareBytes] at h
 | x::a,y::b,[],_,h=>by simp[Lib.compareBytes] at h
 | x::a,y::b,z::c,h,k=>by
   simp only[Lib.compareBytes,UInt8.lt_iff_toNat_lt] at h k ⊢
   by_cases h1:x.toNat<y.toNat
   · by_cases k1:y.toNat<z.toNat
     · rw[zp (by omega)]; omega
     · rw[zn k1] at k
       by_cases k2:z.toNat<y.toNat
       · rw[zp k2] at k; omega
       · rw[zp (by omega)]; omega
   · rw[zn h1] at h
     by_cases h2:y.toNat<x.toNat
     · rw[zp h2] at h; omega
     · rw[zn h2] at h
       by_cases k1:y.toNat<z.toNat
       · rw[zp (by omega)]; omega
       · rw[zn k1] at k
         by_cases k2:z.toNat<y.toNat
         · rw[zp k2] at k; omega
         · rw[zn k2] at k
           rw[zn (by omega),zn (by omega)]
           exact cb_trans a b c h k
theorem eqVal (a b:Val):eqV (.agg (.cons (.int .i64) (.cons (.int .i64) (.cons .str .unit)))) a b=decide (a=b):=by
 obtain ⟨k,n,s,⟨⟩⟩:=a
 obtain ⟨k',n',s',⟨⟩⟩:=b
 simp only[eqV,Bool.and_true]
 rw[Bool.eq_iff_iff]
 simp
theorem ints9_t (a b:Int):zbz a b=some (cmpI a b):=by
 unfold zbz cmpI
 simp only[cond_dec]
 by_cases h1:a<b
 · simp[h1]
 · by_cases h2:a>b<;>simp[h1,h2]
theorem dropC {A:Type}{s:List A}{i:Nat} (h:i<s.length):s.drop i=s[i]::s.drop (i+1):=List.drop_eq_getElem_cons h
theorem texts_loop {a b:List UInt8} (ha:a.length<1000000):∀ (k i:Nat),a.length-i≤k→i≤a.length→i≤b.length →
   ((loopT (zbn_l2 a b) ((i:Int),()):Option (Unit⊕Int)).bind (joinS fun _=>some (cmpI (a.length:Int) (b.length:Int))))=some (Lib.compareBytes (a.drop i) (b.drop i)):=by
 intro k
 have fin:∀ i:Nat,i≤a.length→i≤b.length→¬ (i<a.length∧i<b.length)→((loopT (zbn_l2 a b) ((i:Int),()):Option (Unit⊕Int)).bind (joinS fun _=>some (cmpI (a.length:Int) (b.length:Int))))=some (Lib.compareBytes (a.drop i) (b.drop i)):=by
   intro i h1 h2 h3
   have hl:loopT (zbn_l2 a b) ((i:Int),())=some (.inl ()):=by
     refine loopT_inr ?_
     unfold zbn_l2
     simp only[cond_dec]
     by_cases h4:(i:Int)<(a.length:Int)
     · rw[zp h4,zn (by omega)]
     · rw[zn h4]
   rw[hl,bind_join_inl]
   congr 1
   unfold cmpI
   by_cases h4:i<a.length
   · have e:b.drop i=[]:=List.drop_eq_nil_of_le (by omega)
     rw[e,dropC h4]
     simp only[Lib.compareBytes]
     rw[zn (by omega),zp (by omega)]
   · have e:a.drop i=[]:=List.drop_eq_nil_of_le (by omega)
     rw[e]
     by_cases h5:i<b.length
     · rw[dropC h5]
       simp only[Lib.compareBytes]
       rw[zp (by omega)]
     · have e:b.drop i=[]:=List.drop_eq_nil_of_le (by omega)
       rw[e]
       simp only[Lib.compareBytes]
       rw[zn (by omega),zn (by omega)]
 induction k with
 | zero=>intro i hk h1 h2; exact fin i h1 h2 (by omega)
 | succ k ih =>
   intro i hk h1 h2
   by_cases h3:i<a.length∧i<b.length
   · obtain ⟨h3,h4⟩:=h3
     rw[dropC h3,dropC h4]
     simp only[Lib.compareBytes,UInt8.lt_iff_toNat_lt]
     by_cases he:a[i].toNat=b[i].toNat
     · rw[zn (by omega),zn (by omega),← ih (i+1) (by omega) (by omega) (by omega)]
       rw[loopT_inl (b:=(((i+1:Nat):Int),()))]
       unfold zbn_l2
       simp only[cond_dec]
       rw[zp (by omega),zp (by omega),atI_lt h3,atI_lt h4]
       simp only[zb]
       rw[zt (by omega)]
       simp only[Bool.not_true,cond_false]
       rw[wrap64 (by omega) (by omega)]; rfl
     · have ba:=a[i].toNat_lt
       have bb:=b[i].toNat_lt
       have hl:loopT (zbn_l2 a b) ((i:Int),())=some (.inr (cmpI (a[i].toNat:Int) (b[i].toNat:Int))):=by
         refine loopT_inr ?_
         unfold zbn_l2
         simp only[cond_dec]
         rw[zp (by omega),zp (by omega),atI_lt h3,atI_lt h4]
         simp only[zb]
         rw[zf (by omega)]
         simp only[Bool.not_false,cond_true,ints9_t,zb]
         rw[wrap64 (by omega) (by omega),wrap64 (by omega) (by omega)]
       rw[hl,bind_join_inr]
       congr 1
       unfold cmpI
       by_cases h5:a[i].toNat<b[i].toNat
       · rw[zp (by omega),zp h5]
       · rw[zn (by omega),zn h5,zp (by omega),zp (by omega)]
   · exact fin i h1 h2 h3
theorem texts_t {a b:List UInt8} (ha:a.length<1000000):zbn a b=some (Lib.compareBytes a b):=by
 have:=texts_loop (b:=b) ha a.length 0 (by omega) (by omega) (by omega)
 simp only[List.drop_zero] at this
 unfold zbn
 simp only[ints9_t,zb]
 exact this
theorem charM_one {s:List UInt8} (h:(charM s).2=1):(charM s).1<128:=by
 revert h
 unfold charM
 repeat' split
 all_goals (try simp only[])
 all_goals (try split)
 all_goals (try simp only[])
 all_goals omega
theorem decGo {s:List UInt8} (h:s≠[]):zao s=some (((decN s).1:Int),((decN s).2:Int),()):=by
 have hl:0<s.length:=by cases s with | nil=>exact absurd rfl h | cons _ _=>simp
 have hz:¬ (⟨s.toArray⟩:ByteArray).size=0:=by show ¬ s.toArray.size=0; simp; exact h
 unfold zao decodeT Lib.decodeGo
 rw[zn hz,decode_N hl,List.drop_zero]
theorem nrunes_loop {s:List UInt8} (hs:s.length<1000000):∀ (k i:Nat) (l:List Int),s.length-i≤k→i≤s.length→l.length≤i→loopT (zbw_l3 s) (i,l,())=some (runesR (s.drop i) l):=by
 intro k
 have fin:∀ (i:Nat) (l:List Int),¬ i<s.length→loopT (zbw_l3 s) (i,l,())=some (runesR (s.drop i) l):=by
   intro i l hi
   rw[List.drop_eq_nil_of_le (by omega),loopT_inr (x:=(l,true,())) (by simp only[zbw_l3,cond_dec]; rw[zn (by omega)])]
   simp[runesR,runesM_nil]
 induction k with
 | zero=>intro i l hk hi hl; exact fin i l (by omega)
 | succ k ih =>
   intro i l hk hi hl
   by_cases hlt:i<s.length
   · have hne:s.drop i≠[]:=fun e=>by have:=congrArg List.length e; simp at this; omega
     have hle:=charM_le (s.drop i)
     simp only[List.length_drop] at hle
     have hci:=charM_int (s.drop i)
     by_cases h0:(charM (s.drop i)).2=0
     · rw[loopT_inr (x:=([],false,()))]
       · simp only[runesR,runesM_none hne h0]
       · unfold zbw_l3
         rw[cond_dec,zp (by simp only[]; exact hlt)]
         simp only[decode_N hlt,decN,zp h0]
         rw[zt (by omega)]
         simp only[cond_true]
         rw[subI_from (by omega)]
         simp only[zb,decGo hne,decN,zp h0,cond_dec]
         rw[zp (by omega)]
         rfl
     · rw[loopT_inl (b:=(i+(charM (s.drop i)).2,l++[(charM (s.drop i)).1],()))]
       · rw[ih _ _ (by omega) (by omega) (by simp; omega)]
         simp only[runesR,runesM_step hne h0,List.drop_drop]
         cases runesM (s.drop (i+(charM (s.drop i)).2))<;>simp
       · unfold zbw_l3
         rw[cond_dec,zp (by simp only[]; exact hlt)]
         simp only[decode_N hlt,decN,zn h0]
         have hnat:(((charM (s.drop i)).1.toNat:Nat):Int)=(charM (s.drop i)).1:=by omega
         simp only[hnat]
         have h1:=charM_one (s:=s.drop i)
         by_cases hc:(charM (s.drop i)).1=65533
         · rw[zt hc]
           simp only[cond_true]
           rw[subI_from (by omega)]
           simp only[zb,decGo hne,decN,zn h0,cond_dec]
           rw[zn (by omega),bind_join_inl]
           simp only[]
           rw[roomT_lt (by simp; omega)]
           rfl
         · rw[zf hc]
           simp only[cond_false]
           rw[bind_join_inl]
           simp only[]
           rw[roomT_lt (by simp; omega)]
           rfl
   · exact fin i l hlt
theorem nrunes_t {s:List UInt8} (hs:s.length<1000000):zbw s=some (runesR s []):=by
 have:=nrunes_loop hs s.length 0 [] (by omega) (by omega) (by simp)
 simpa [zbw] using this
theorem runesR_ok {s:List UInt8}:(runesR s []).2.1=(runesM s).isSome:=by
 unfold runesR; cases runesM s<;>rfl
def rightV (v:Val):Bool:=decide ((v.1=1∧v.2.2.1=[] ∧ -2147483647≤v.2.1∧v.2.1≤2147483647)∨(v.1=2∧v.2.1=0∧(runesM v.2.2.1).isSome=true∧v.2.2.1.length≤64)∨(v.1=3∧v.2.2.1=[]∧0≤v.2.1∧v.2.1≤1))
theorem refRight9_t {v:Val} (hv:v.2.2.1.length<4294967296):za8 v=some (rightV v):=by
 unfold za8 rightV
 simp only[runes_t (s:=v.2.2.1) (by omega),zb,runesR_ok,cond_dec]
 by_cases h1:v.1=1
 · rw[zp h1]
   by_cases h2:v.2.2.1=[]
   · by_cases h3:v.2.1 ≥ -2147483647
     · simp only[h1,h2,h3]; simp<;>omega
     · simp only[h1,h2]; simp[h3]<;>omega
   · simp[h1,h2]
 rw[zn h1]
 by_cases h2:v.1=2
 · rw[zp h2]
   cases hr:(runesM v.2.2.1).isSome with
   | true =>
     by_cases h3:v.2.1=0
     · simp only[h2,h3]; simp<;>omega
     · simp[h2,h3]
   | false=>by_cases h3:v.2.1=0<;>simp[h2,h3]
 rw[zn h2]
 by_cases h3:v.1=3
 · rw[zp h3]
   by_cases h4:v.2.2.1=[]
   · by_cases h5:v.2.1≥0
     · simp only[h3,h4]; simp[h5]<;>omega
     · simp only[h3,h4]; simp[h5]<;>omega
   · simp[h3,h4]
 rw[zn h3]
 simp[h1,h2,h3]
abbrev Path:=List (List UInt8)
abbrev Ent:=Path×Int×List Val×Int×Unit
theorem cb_cmp:Cmp Lib.compareBytes where
 one a b:=by have:=cb_one a b; omega
 neg a b:=cb_neg a b
 zero a b:=cb_zero a b
 trans a b d h1 h2:=by
   have h3:=cb_trans a b d (by omega) (by omega)
   rcases Int.lt_or_eq_of_le h3 with h | h
   · exact h
   · have e:=(cb_zero a d).1 h
     subst e
     have:=cb_neg a b
     omega
theorem ci_cmp:Cmp cmpI where
 one a b:=by
   unfold cmpI
   split
   · omega
   · split<;>omega
 neg a b:=by
   unfold cmpI
   by_cases h1:a<b
   · rw[zn (by omega),zp (by omega),zp h1]; rfl
   · by_cases h2:a>b
     · rw[zp (by omega),zn h1,zp h2]
     · rw[zn (by omega),zn (by omega),zn h1,zn h2]; rfl
 zero a b:=by
   unfold cmpI
   by_cases h1:a<b
   · rw[zp h1]; constructor<;>intro h<;>omega
   · by_cases h2:a>b
     · rw[zn h1,zp h2]; constructor<;>intro h<;>omega
     · rw[zn h1,zn h2]; constructor<;>intro h<;>omega
 trans a b d h1 h2:=by
   unfold cmpI at h1 h2 ⊢
   have e1:a<b:=by
     by_cases h:a<b
     · exact h
     · rw[zn h] at h1; split at h1<;>omega
   have e2:b<d:=by
     by_cases h:b<d
     · exact h
     · rw[zn h] at h2; split at h2<;>omega
   rw[zp (by omega)]; omega
theorem less_cb:∀ a b:List UInt8,Op.bytesLess a b=decide (Lib.compareBytes a b<0)
 | [],[]=>rfl
 | _::_,[]=>rfl
 | [],_::_=>rfl
 | x::a,y::b=>by
   simp only[Op.bytesLess,Lib.compareBytes]
   by_cases h1:x<y
   · simp[h1]
   · by_cases h2:y<x
     · have h3:x≠y:=fun e=>by subst e; exact h1 h2
       simp[h1,h2,h3]
     · have h3:x=y:=UInt8.toNat_inj.1 (by rw[UInt8.lt_iff_toNat_lt] at h1 h2; omega)
       subst h3
       simp[h1,less_cb a b]
theorem strCompare_t (a b:List UInt8):zap a b=some (Lib.compareBytes a b):=by
 unfold zap zar
 simp only[decide_true,Bool.not_true,zb,cond_false,less_cb]
 have h1:=cb_one a b
 have h0:=cb_zero a b
 by_cases h2:Lib.compareBytes a b<0
 · rw[zt h2]
   simp only[cond_true]
   congr 1; omega
 · rw[zf h2]
   simp only[cond_false,Bool.false_or]
   by_cases h3:a=b
   · rw[zt h3]
     simp only[Bool.not_true,cond_false]
     rw[h0.2 h3]
   · rw[zf h3]
     simp only[Bool.not_false,cond_true]
     congr 1
     have:Lib.compareBytes a b≠0:=fun e=>h3 (h0.1 e)
     omega
def cmpP:Path→Path→Int:=cmpL Lib.compareBytes
theorem cmpP_cons {x y:List UInt8}{a b:Path}:cmpP (x::a) (y::b)=if Lib.compareBytes x y=0 then cmpP a b else Lib.compareBytes x y:=by unfold cmpP; rw[cmpL]
theorem pathCmp_loop {a b:Path} (ha:a.length<1000000):∀ (k i:Nat),a.length-i≤k→i≤a.length→i≤b.length →
   ((loopT (zal_l2 a b) ((i:Int),()):Option (Unit⊕Int)).bind (joinS fun _=>cond (decide ((a.length:Int)<(b.length:Int))) (some (-1)) (some 0)))=some (cmpP (a.drop i) (b.drop i)):=by
 intro k
 have fin:∀ i:Nat,i=a.length→i≤b.length→((loopT (zal_l2 a b) ((i:Int),()):Option (Unit⊕Int)).bind (joinS fun _=>cond (decide ((a.length:Int)<(b.length:Int))) (some (-1)) (some 0)))=some (cmpP (a.drop i) (b.drop i)):=by
   intro i hi h2
   have hl:loopT (zal_l2 a b) ((i:Int),())=some (.inl ()):=by
     refine loopT_inr ?_
     unfold zal_l2
     simp only[cond_dec]
     rw[zn (by omega)]
   rw[hl,bind_join_inl,List.drop_eq_nil_of_le (by omega:a.length≤i)]
   rw[cond_dec]
   by_cases h5:i<b.length
   · rw[List.drop_eq_getElem_cons h5,zp (by omega)]; rfl
   · rw[List.drop_eq_nil_of_le (by omega),zn (by omega)]; rfl
 induction k with
 | zero=>intro i hk h1 h2; exact fin i (by omega) h2
 | succ k ih =>
   intro i hk h1 h2
   by_cases h3:i<a.length
   · rw[List.drop_eq_getElem_cons h3]
     by_cases h4:i<b.length
     · rw[List.drop_eq_getElem_cons h4,cmpP_cons]
       have turn:zal_l2 a b ((i:Int),())=if Lib.compareBytes a[i] b[i]=0 then some (.inl (((i+1:Nat):Int),())) else some (.inr (.inr (Lib.compareBytes a[i] b[i]))):=by
         unfold zal_l2
         simp only[cond_dec]
         rw[zp (by omega),atI_lt h3]
         simp only[zb]
         rw[zn (by omega),atI_lt h4]
         simp only[zb,strCompare_t]
         by_cases hz:Lib.compareBytes a[i] b[i]=0
         · rw[zt hz,zp hz]
           simp only[Bool.not_true,cond_false]
           rw[wrap64 (by omega) (by omega)]; rfl
         · rw[zf hz,zn hz]
           simp only[Bool.not_false,cond_true]
       by_cases hz:Lib.compareBytes a[i] b[i]=0
       · rw[zp hz] at turn ⊢
         rw[loopT_inl turn]
         exact ih (i+1) (by omega) (by omega) (by omega)
       · rw[zn hz] at turn ⊢
         rw[loopT_inr turn,bind_join_inr]
     · have hl : loopT (zal_l2 a b) ((i : Int), ()) = some (.inr 1) := by
         refine loopT_inr ?_
         unfold zal_l2
         simp only[cond_dec]
         rw[zp (by omega),atI_lt h3]
         simp only[zb]
         rw[zp (by omega)]
       rw[hl,bind_join_inr,List.drop_eq_nil_of_le (by omega:b.length≤i)]; rfl
   · exact fin i (by omega) h2
theorem pathCompare_t {a b:Path} (ha:a.length<1000000):za3 a b=some (cmpP a b):=by
 have:=pathCmp_loop (b:=b) ha a.length 0 (by omega) (by omega) (by omega)
 simp only[List.drop_zero] at this
 rw[show (((0:Nat):Int))=0 from rfl] at this
 unfold za3 zal
 rw[this]; rfl
theorem refCmp_loop {a b:Path} (ha:a.length<1000000) (hs:∀ x∈a,x.length<1000000):∀ (k i:Nat),a.length-i≤k→i≤a.length→i≤b.length →
   ((loopT (zav_l2 a b) ((i:Int),()):Option (Unit⊕Int)).bind (joinS fun _=>cond (decide ((a.length:Int)<(b.length:Int))) (some (-1)) (cond (decide ((a.length:Int)>(b.length:Int))) (some 1) (some 0))))=some (cmpP (a.drop i) (b.drop i)):=by
 intro k
 have fin:∀ i:Nat,i≤a.length→i≤b.length→¬ (i<a.length∧i<b.length)→((loopT (zav_l2 a b) ((i:Int),()):Option (Unit⊕Int)).bind (joinS fun _=>cond (decide ((a.length:Int)<(b.length:Int))) (some (-1)) (cond (decide ((a.length:Int)>(b.length:Int))) (some 1) (some 0))))=some (cmpP (a.drop i) (b.drop i)):=by
   intro i h1 h2 h3
   have hl:loopT (zav_l2 a b) ((i:Int),())=some (.inl ()):=by
     refine loopT_inr ?_
     unfold zav_l2
     simp only[cond_dec]
     by_cases h4:(i:Int)<(a.length:Int)
     · rw[zp h4,zn (by omega)]
     · rw[zn h4]
   rw[hl,bind_join_inl]
   simp only[cond_dec]
   by_cases h4:i<a.length
   · rw[List.drop_eq_nil_of_le (by omega:b.length≤i),List.drop_eq_getElem_cons h4,zn (by omega),zp (by omega)]; rfl
   · rw[List.drop_eq_nil_of_le (by omega:a.length≤i)]
     by_cases h5:i<b.length
     · rw[List.drop_eq_getElem_cons h5,zp (by omega)]; rfl
     · rw[List.drop_eq_nil_of_le (by omega),zn (by omega),zn (by omega)]; rfl
 induction k with
 | zero=>intro i hk h1 h2; exact fin i h1 h2 (by omega)
 | succ k ih =>
   intro i hk h1 h2
   by_cases h3:i<a.length∧i<b.length
   · obtain ⟨h3,h4⟩:=h3
     rw[List.drop_eq_getElem_cons h3,List.drop_eq_getElem_cons h4,cmpP_cons]
     have turn:zav_l2 a b ((i:Int),())=if Lib.compareBytes a[i] b[i]=0 then some (.inl (((i+1:Nat):Int),())) else some (.inr (.inr (Lib.compareBytes a[i] b[i]))):=by
       unfold zav_l2
       simp only[cond_dec]
       rw[zp (by omega),zp (by omega),atI_lt h3,atI_lt h4]
       simp only[zb,texts_t (hs _ (zm h3))]
       by_cases hz:Lib.compareBytes a[i] b[i]=0
       · rw[zt hz,zp hz]
         simp only[Bool.not_true,cond_false]
         rw[wrap64 (by omega) (by omega)]; rfl
       · rw[zf hz,zn hz]
         simp only[Bool.not_false,cond_true]
     by_cases hz:Lib.compareBytes a[i] b[i]=0
     · rw[zp hz] at turn ⊢
       rw[loopT_inl turn]
       exact ih (i+1) (by omega) (by omega) (by omega)
     · rw[zn hz] at turn ⊢
       rw[loopT_inr turn,bind_join_inr]
   · exact fin i h1 h2 h3
theorem refPathCompare_t {a b:Path} (ha:a.length<1000000) (hs:∀ x∈a,x.length<1000000):zav a b=some (cmpP a b):=by
 have:=refCmp_loop (b:=b) ha hs a.length 0 (by omega) (by omega) (by omega)
 simp only[List.drop_zero] at this
 rw[show (((0:Nat):Int))=0 from rfl] at this
 unfold zav
 exact this
def mayM (c:Int):Bool:=decide (32≤c∧(c<127∨159<c)∧c≠65533)
theorem may_t (c:Int):zch c=some (mayM c):=by
 unfold zch mayM
 simp only[cond_dec]
 by_cases h1:c<32
 · rw[zp h1,zp h1,zf (by omega)]
 rw[zn h1]
 by_cases h2:c≥127
 · rw[zp h2]
   by_cases h3:c<160
   · rw[zp h3,zf (by omega)]
   · rw[zn h3]
     by_cases h4:c=65533
     · rw[zt h4,zf (by omega)]; rfl
     · rw[zf h4,zt (by omega)]; rfl
 · rw[zn h2]
   rw[zf (by omega:¬ c=65533),zt (by omega)]; rfl
theorem refMay_t (c:Int):zcg c=some (mayM c):=by
 unfold zcg mayM
 simp only[cond_dec]
 by_cases h1:c≥32
 · rw[zp h1]
   by_cases h2:c<127
   · rw[zp h2,zf (by omega:¬ c=65533),zt (by omega)]; rfl
   · rw[zn h2]
     by_cases h3:c>159
     · rw[zp h3]
       by_cases h4:c=65533
       · rw[zt h4,zf (by omega)]; rfl
       · rw[zf h4,zt (by omega)]; rfl
     · rw[zn h3,zf (by omega)]
 · rw[zn h1,zf (by omega)]
theorem runes_len:∀ {s:List UInt8}{l:List Int},runesM s=some l→l.length≤s.length:=by
 have key:∀ (n:Nat) (s:List UInt8) (l:List Int),s.length≤n→runesM s=some l→l.length≤s.length:=by
   intro n
   induction n with
   | zero =>
     intro s l hn h
     have:s=[]:=List.eq_nil_of_length_eq_zero (by omega)
     subst this
     rw[runesM_nil] at h; cases h; simp
   | succ n ih =>
     intro s l hn h
     by_cases hs:s=[]
     · subst hs
       rw[runesM_nil] at h; cases h; simp
     · have hl:s.length≠0:=fun e=>hs (List.eq_nil_of_length_eq_zero e)
       by_cases h0:(charM s).2=0
       · rw[runesM_none hs h0] at h; cases h
       · rw[runesM_step hs h0,Option.map_eq_some_iff] at h
         obtain ⟨l',hl',rfl⟩:=h
         have:=ih _ l' (by rw[List.length_drop]; omega) hl'
         rw[List.length_drop] at this
         simp only[zl]; omega
 intro s l h
 exact key s.length s l (Nat.le_refl _) h
def nameM (s:List UInt8):Bool:=match runesM s with
 | some l=>decide (1≤l.length∧l.length≤24)&&l.all mayM
 | none=>false
theorem nameRight_t {s:List UInt8} (hs:s.length<1000000):zb5 s=some (nameM s):=by
 unfold zb5 nameM
 rw[nrunes_t hs]
 simp only[zb]
 cases hr:runesM s with
 | none=>simp[runesR,hr]
 | some l =>
   have e:runesR s []=(l,true,()):=by unfold runesR; rw[hr]; rfl
   rw[e]
   simp only[Bool.not_true,cond_false,cond_dec]
   by_cases h0:(l.length:Int)=0
   · rw[zp h0,zf (by omega)]; rfl
   rw[zn h0]
   by_cases h1:(l.length:Int)>24
   · rw[zp h1,zf (by omega)]; rfl
   rw[zn h1,zt (by omega),Bool.true_and]
   have:=loop_all (f:=zb5_l5 (l,true,())) (l:=l) (fun i=>((i:Int),())) mayM true false (fun i h=>by
     unfold zb5_l5
     simp only[cond_dec]
     rw[zp (by omega),atI_lt h]
     simp only[zb,may_t]
     cases mayM l[i] with
     | true=>simp only[Bool.not_true,cond_false,if_true]; rw[wrap64 (by omega) (by omega)]; rfl
     | false=>rfl) (by
     unfold zb5_l5
     simp only[cond_dec]
     rw[zn (by omega)])
   rw[show ((0:Int),())=(((0:Nat):Int),()) from rfl,this]
   cases l.all mayM<;>rfl
theorem refNameRight_t {s:List UInt8} (hs:s.length<1000000):zbf s=some (nameM s):=by
 unfold zbf nameM
 rw[runes_t (by omega)]
 simp only[zb]
 have gen:∀ (l:List Int) (ok:Bool),l.length<1000000→loopT (zbf_l3 (l,ok,())) ((0:Int),())=some (if l.all mayM=true then .inl () else .inr false):=by
   intro l ok hl
   have:=loop_all (f:=zbf_l3 (l,ok,())) (l:=l) (fun i=>((i:Int),())) mayM (.inl ()) (.inr false) (fun i h=>by
     unfold zbf_l3
     simp only[cond_dec]
     rw[zp (by omega),atI_lt h]
     simp only[zb,refMay_t]
     cases mayM l[i] with
     | true=>simp only[Bool.not_true,cond_false,if_true]; rw[wrap64 (by omega) (by omega)]; rfl
     | false=>rfl) (by
     unfold zbf_l3
     simp only[cond_dec]
     rw[zn (by omega)])
   exact this
 cases hr:runesM s with
 | none =>
   have e:runesR s []=([],false,()):=by unfold runesR; rw[hr]
   rw[e,gen [] false (by simp)]
   rfl
 | some l =>
   have e:runesR s []=(l,true,()):=by unfold runesR; rw[hr]; rfl
   have hl:l.length≤s.length:=runes_len hr
   rw[e,gen l true (by omega)]
   cases hm:l.all mayM with
   | false =>
     simp only[Bool.false_eq_true,if_false,bind_join_inr,hm,Bool.and_false]
   | true =>
     simp only[if_true,bind_join_inl,cond_true,hm,Bool.and_true,cond_dec]
     by_cases h1:(l.length:Int)≥1
     · rw[zp h1]
       congr 1
       rw[decide_eq_decide]; omega
     · rw[zn h1,zf (by omega)]
def checkM (p:Path):Int:=if p.length=0 then 8 else if p.length>8 then 9 else if p.all nameM=true then 0 else 8
theorem check_t {p:Path} (hs:∀ x∈p,x.length<1000000):zbq p=some (checkM p):=by
 unfold zbq checkM
 simp only[cond_dec]
 by_cases h1:(p.length:Int)=0
 · rw[zp h1,zp (show p.length=0 by omega)]
 rw[zn h1,zn (show ¬ p.length=0 by omega)]
 by_cases h2:(p.length:Int)>8
 · rw[zp h2,zp (show p.length>8 by omega)]
 rw[zn h2,zn (show ¬ p.length>8 by omega)]
 unfold zag zah
 have gen:=loop_list (f:=zah_l2 p) (l:=p) (S:=Unit) (fun i _=>((i:Int),())) (fun i x _=>if nameM x=true then .inl () else .inr (i:Int)) (fun _ => -1) (fun _ _=>True) (fun i h s _=>by
   have turn:zah_l2 p ((i:Int),())=if nameM p[i]=true then some (.inl (((i+1:Nat):Int),())) else some (.inr (i:Int)):=by
     unfold zah_l2 za2
     simp only[cond_dec]
     rw[zp (by omega),atI_lt h]
     simp only[zb,nameRight_t (hs _ (zm h))]
     cases nameM p[i] with
     | true=>simp only[Bool.not_true,cond_false,if_true]; rw[wrap64 (by omega) (by omega)]; rfl
     | false=>rfl
   by_cases hn:nameM p[i]=true
   · rw[zp hn] at turn ⊢
     exact .inl ⟨(),rfl,turn,trivial⟩
   · rw[zn hn] at turn ⊢
     exact .inr ⟨_,rfl,turn⟩) (fun s _=>by
   unfold zah_l2
   simp only[cond_dec]
   rw[zn (by omega)]) () trivial
 have val:∀ (l:Path) (i:Nat),(foldE (S:=Unit) (fun i x _=>if nameM x=true then .inl () else .inr (i:Int)) (fun _=>(-1:Int)) i l ()≥0)↔¬ l.all nameM=true:=by
   intro l
   induction l with
   | nil=>intro i; simp[foldE]
   | cons x l ih =>
     intro i
     by_cases hn:nameM x=true
     · simp only[foldE,hn,if_true,List.all_cons,Bool.true_and]
       exact ih (i+1)
     · simp[foldE,hn]
 rw[show ((0:Int),())=(((0:Nat):Int),()) from rfl,gen]
 simp only[zb]
 by_cases ha:p.all nameM=true
 · rw[zf (fun h=>(val p 0).1 h ha),zp ha]; rfl
 · rw[zt ((val p 0).2 ha),zn ha]; rfl
theorem refCheck_t {p:Path} (hs:∀ x∈p,x.length<1000000):zbl p=some (checkM p):=by
 unfold zbl checkM
 simp only[cond_dec]
 by_cases h1:(p.length:Int)=0
 · rw[zp h1,zp (show p.length=0 by omega)]
 rw[zn h1,zn (show ¬ p.length=0 by omega)]
 by_cases h2:(p.length:Int)>8
 · rw[zp h2,zp (show p.length>8 by omega)]
 rw[zn h2,zn (show ¬ p.length>8 by omega)]
 have:=loop_all (f:=zbl_l6 p) (l:=p) (fun i=>((i:Int),())) nameM (0:Int) 8 (fun i h=>by
   unfold zbl_l6
   simp only[cond_dec]
   rw[zp (by omega),atI_lt h]
   simp only[zb,refNameRight_t (hs _ (zm h))]
   cases nameM p[i] with
   | true=>simp only[Bool.not_true,cond_false,if_true]; rw[wrap64 (by omega) (by omega)]; rfl
   | false=>rfl) (by
   unfold zbl_l6
   simp only[cond_dec]
   rw[zn (by omega)])
 exact this
instance decE1:DecidableEq (List Val×Int×Unit):=fun a b => @instDecidableEqProd (List Val) (Int×Unit) inferInstance inferInstance a b
instance decE2:DecidableEq (Int×List Val×Int×Unit):=fun a b => @instDecidableEqProd Int (List Val×Int×Unit) inferInstance decE1 a b
instance decE:DecidableEq Ent:=fun a b => @instDecidableEqProd Path (Int×List Val×Int×Unit) inferInstance decE2 a b
instance decC1:DecidableEq (Ent×Unit):=fun a b => @instDecidableEqProd Ent Unit decE inferInstance a b
instance decC2:DecidableEq (Ent×Ent×Unit):=fun a b => @instDecidableEqProd Ent (Ent×Unit) decE decC1 a b
theorem dec_ite {p:Prop} [Decidable p]:(if decide p=true then true else false)=decide p:=by cases decide p<;>rfl
theorem ite_bool {b:Bool}:(if b=true then true else false)=b:=by cases b<;>rfl
theorem strsEq_t {a b:Path} (ha:a.length<1000000):zan a b=some (decide (a=b)):=by
 unfold zan
 by_cases hl:a.length=b.length
 · rw[zt (by omega)]
   simp only[Bool.not_true,cond_false]
   have:=loop_all2 (f:=zan_l4 a b) (l:=a) (m:=b) (fun i=>((i:Int),())) (fun x y=>decide (x=y)) true false hl (fun i h h'=>by
     unfold zan_l4
     simp only[cond_dec]
     rw[zp (by omega),atI_lt h,atI_lt h']
     simp only[zb]
     cases decide (a[i]=b[i]) with
     | true=>simp only[Bool.not_true,cond_false,if_true]; rw[wrap64 (by omega) (by omega)]; rfl
     | false=>rfl) (by
     unfold zan_l4
     simp only[cond_dec]
     rw[zn (by omega)])
   rw[all2_dec,ite_bool] at this
   exact this
 · rw[zf (by omega)]
   have:a≠b:=fun e=>hl (by rw[e])
   rw[zf this]; rfl
theorem pathSame_t {a b:Path} (ha:a.length<1000000):zce a b=some (decide (a=b)):=by
 unfold zce
 rw[strsEq_t ha]; rfl
theorem shortP_t {p:Path}:za6 p=some (decide (p.length≤12)&&p.all fun x=>decide (x.length≤120)):=by
 unfold za6
 simp only[cond_dec]
 by_cases h1:(p.length:Int)>12
 · rw[zp h1,zf (by omega)]; rfl
 rw[zn h1,zt (by omega),Bool.true_and]
 have:=loop_all (f:=za6_l4 p) (l:=p) (fun i=>((i:Int),())) (fun x=>decide (x.length≤120)) true false (fun i h=>by
   unfold za6_l4
   simp only[cond_dec]
   rw[zp (by omega),atI_lt h]
   simp only[zb]
   by_cases h2:(p[i].length:Int)>120
   · rw[zp h2,zn (by simp; omega)]
   · rw[zn h2,zp (by simp; omega),wrap64 (by omega) (by omega)]; rfl) (by
   unfold za6_l4
   simp only[cond_dec]
   rw[zn (by omega)])
 rw[ite_bool] at this
 exact this
theorem foldE_inl {R X S:Type}{g:S→X→S}{fin:S→R}:∀ (l:List X) (i:Nat) (s:S),foldE (fun _ x s=>.inl (g s x)) fin i l s=fin (l.foldl g s)
 | [],_,s=>rfl
 | x::l,i,s=>by simp only[foldE,List.foldl_cons]; exact foldE_inl l (i+1) (g s x)
theorem half_t {n:Nat} (h:n<9000000):shrT .u64 (IntKind.wrap .u64 (IntKind.wrap .i64 (n:Int))) 1=some ((n/2:Nat):Int):=by
 rw[wrap64 (by omega) (by omega)]
 have w:IntKind.wrap .u64 (n:Int)=(n:Int):=by simp[IntKind.wrap,IntKind.bits,IntKind.signed]; omega
 rw[w]
 unfold shrT
 rw[zn (by omega)]
 have e:(2:Int) ^ min (Int.toNat 1) (IntKind.bits .u64)=2:=by decide
 rw[e,Int.fdiv_eq_ediv_of_nonneg _ (by omega)]
 congr 1
theorem valueRight_t {v:Val} (hv:v.2.2.1.length<1000000):zbd v=some (rightV v):=by
 unfold zbd rightV
 simp only[nrunes_t hv,zb,runesR_ok,cond_dec]
 by_cases h1:v.1=1
 · rw[zp h1]
   by_cases h2:v.2.2.1=[]
   · by_cases h3:v.2.1 ≥ -2147483647
     · simp only[h1,h2,h3]; simp<;>omega
     · simp only[h1,h2]; simp[h3]<;>omega
   · simp[h1,h2]
 rw[zn h1]
 by_cases h2:v.1=2
 · rw[zp h2]
   cases hr:(runesM v.2.2.1).isSome with
   | true =>
     by_cases h3:v.2.1=0
     · simp only[h2,h3]; simp<;>omega
     · simp[h2,h3]
   | false=>simp[h2]
 rw[zn h2]
 by_cases h3:v.1=3
 · rw[zp h3]
   by_cases h4:v.2.2.1=[]
   · by_cases h5:v.2.1=0
     · simp[h3,h4,h5]
     · simp only[h3,h4,zn h5,if_true,Option.some.injEq,decide_eq_decide,true_and,false_and,and_true,false_or,or_false,decide_true,cond_true]
       omega
   · simp[h3,h4]
 rw[zn h3]
 simp[h1,h2,h3]
abbrev Dot1:=Int×Int×Unit
abbrev Ref1:=Dot1×Int×Unit
abbrev Op1:=Int×Path×Val×Int×List Ref1×Unit
abbrev Txn1:=Dot1×Int×Int×Bool×List Op1×Unit
abbrev Item1:=Ref1×Op1×Int×Unit
abbrev tyRef:Ty:=.agg (.cons (.agg (.cons (.int .i64) (.cons (.int .i64) .unit))) (.cons (.int .i64) .unit))
theorem Cmp_map {K L:Type}{c:K→K→Int} (h:Cmp c) (f:L→K) (hf:∀ a b,f a=f b→a=b):Cmp fun a b=>c (f a) (f b) where
 one a b:=h.one _ _
 neg a b:=h.neg _ _
 zero a b:=⟨fun e=>hf _ _ ((h.zero _ _).1 e),fun e=>(h.zero _ _).2 (by rw[e])⟩
 trans a b d:=h.trans _ _ _
theorem cd_cmp:Cmp cmpD:=by
 have:cmpD=fun a b=>cmpB cmpI cmpI ((fun x:Dot1=>(x.1,x.2.1)) a) ((fun x:Dot1=>(x.1,x.2.1)) b):=rfl
 rw[this]
 exact Cmp_map (ci_cmp.pair ci_cmp) _ fun a b h=>by
   obtain ⟨a1,a2,⟨⟩⟩:=a; obtain ⟨b1,b2,⟨⟩⟩:=b
   simp only[Prod.mk.injEq] at h
   rw[h.1,h.2]
def cmpR (a b:Ref1):Int:=orI (cmpD a.1 b.1) (cmpI a.2.1 b.2.1)
theorem cr_cmp:Cmp cmpR:=by
 have:cmpR=fun a b=>cmpB cmpD cmpI ((fun x:Ref1=>(x.1,x.2.1)) a) ((fun x:Ref1=>(x.1,x.2.1)) b):=rfl
 rw[this]
 exact Cmp_map (cd_cmp.pair ci_cmp) _ fun a b h=>by
   obtain ⟨a1,a2,⟨⟩⟩:=a; obtain ⟨b1,b2,⟨⟩⟩:=b
   simp only[Prod.mk.injEq] at h
   rw[h.1,h.2]
theorem ints4_t (a b:Int):zbv a b=some (cmpI a b):=by
 unfold zbv cmpI
 simp only[cond_dec]
 by_cases h1:a<b
 · rw[zp h1,zp h1]
 · by_cases h2:a>b
   · rw[zn h1,zp h2,zn h1,zp h2]
   · rw[zn h1,zn h2,zn h1,zn h2]
theorem cmpI_zero (a b:Int):cmpI a b=0↔a=b:=ci_cmp.zero a b
theorem refDot_t (a b:Dot1):zat a b=some (cmpD a b):=by
 unfold zat cmpD orI
 simp only[ints4_t,zb,cond_ndec]
 by_cases h:a.1=b.1
 · rw[zp h,zp ((cmpI_zero _ _).2 h)]
 · rw[zn h,zn (fun e=>h ((cmpI_zero _ _).1 e))]
theorem refRef_t (a b:Ref1):zbp a b=some (cmpR a b):=by
 unfold zbp cmpR orI
 simp only[refDot_t,ints4_t,zb,cond_ndec]
 by_cases h:cmpD a.1 b.1=0
 · rw[zp h,zp h]
 · rw[zn h,zn h]
theorem dotC_t (a b:Dot1):za5 a b=some (cmpD a b):=by
 unfold za5
 simp only[compare_t,or_t,zb]
 rfl
theorem refRight_t (d:Dot1):zbj d=some (rightM d):=by
 unfold zbj rightM
 simp only[cond_dec]
 by_cases h1:d.1≥0<;>by_cases h2:d.1≤15<;>by_cases h3:d.2.1≥1<;>by_cases h4:d.2.1≤1048576<;>simp[h1,h2,h3,h4]<;>omega
theorem rises_adj {A K:Type}{c:K→K→Int}{key:A→K} (hc:Cmp c):∀ {l:List A},(∀ i,(h:i+1<l.length)→c (key l[i]) (key l[i+1])<0)→Rises c key l
 | [],_=>List.Pairwise.nil
 | [x],_=>List.pairwise_singleton ..
 | x::y::l,h=>by
   have ih:=rises_adj hc (l:=y::l) (fun i hi=>h (i+1) (by simpa using hi))
   have h0:=h 0 (by simp)
   refine List.pairwise_cons.2 ⟨fun z hz => ?_,ih⟩
   rcases List.mem_cons.1 hz with e | hz'
   · subst e; exact h0
   · exact hc.trans _ _ _ h0 ((List.pairwise_cons.1 ih).1 z hz')
theorem eqRef (a b:Ref1):eqV tyRef a b=decide (a=b):=by
 obtain ⟨⟨a1,a2,⟨⟩⟩,a3,⟨⟩⟩:=a
 obtain ⟨⟨b1,b2,⟨⟩⟩,b3,⟨⟩⟩:=b
 simp only[eqV,Prod.mk.injEq,and_true]
 by_cases h1:a1=b1<;>by_cases h2:a2=b2<;>by_cases h3:a3=b3<;>simp[h1,h2,h3]
theorem eqDot (a b:Dot1):eqV (.agg (.cons (.int .i64) (.cons (.int .i64) .unit))) a b=decide (a=b):=by
 obtain ⟨a1,a2,⟨⟩⟩:=a
 obtain ⟨b1,b2,⟨⟩⟩:=b
 simp only[eqV,Prod.mk.injEq,and_true]
 by_cases h1:a1=b1<;>by_cases h2:a2=b2<;>simp[h1,h2]
def refOk (x:Ref1):Bool:=rightM x.1&&decide (0≤x.2.1∧x.2.1≤15)
def refsAt (l:List Ref1) (i:Nat):Bool :=
 match l[i]? with
 | some x=>refOk x&&(decide (i=0)||match l[i-1]? with
   | some y=>decide (cmpR y x = -1)
   | none=>false)
 | none=>false
open Classical in
noncomputable def refsM (l:List Ref1):Bool:=if (∀ i,i<l.length→refsAt l i=true) then true else false
theorem refRefs_t {l:List Ref1} (hl:l.length<1000000):zbx l=some (refsM l):=by
 have:=loop_allI (f:=zbx_l2 l) l.length (fun i=>((i:Int),())) (refsAt l) true false (fun i h=>by
   unfold zbx_l2 refsAt refOk
   rw[zg h]
   simp only[cond_dec]
   rw[zp (by omega),atI_lt h]
   simp only[zb,refRight_t]
   by_cases h0:rightM l[i].1=true
   · simp only[h0,Bool.not_true,cond_false,Bool.true_and]
     by_cases h1:l[i].2.1<0
     · rw[zp h1,zf (by omega)]; rfl
     rw[zn h1]
     by_cases h2:l[i].2.1>15
     · rw[zp h2,zf (by omega)]; rfl
     rw[zn h2,zt (by omega),Bool.true_and]
     by_cases h3:i=0
     · subst h3
       rw[zn (by omega),wrap64 (by omega) (by omega)]; rfl
     · rw[zp (by omega),wrap64 (by omega) (by omega),show (i:Int)-1=((i-1:Nat):Int) by omega,atI_lt (by omega),zg (show i-1<l.length by omega)]
       simp only[zb,refRef_t,cond_ndec]
       by_cases h4:cmpR l[i-1] l[i] = -1
       · rw[zp h4,wrap64 (by omega) (by omega)]; simp[h3,h4]
       · rw[zn h4]; simp[h3,h4]
   · have h0:rightM l[i].1=false:=by simpa using h0
     simp only[h0,Bool.not_false,cond_true,Bool.false_and]; rfl) (by
   unfold zbx_l2
   simp only[cond_dec]
   rw[zn (by omega)])
 unfold zbx refsM
 rw[show ((0:Int),())=(((0:Nat):Int),()) from rfl,this]
def zeroV:Val:=(0,0,[],())
noncomputable def opM (o:Op1):Int :=
 if o.1<1∨5<o.1 then 18 else if checkM o.2.1≠0 then checkM o.2.1
 else if (o.1=3∨o.1=5)∧o.2.2.1≠zeroV then 2
 else if ¬ (o.1=3∨o.1=5)∧rightV o.2.2.1=false then 2
 else if o.1≠3∧o.2.2.2.1≠0 then 2
 else if o.1=3∧(o.2.2.2.1=0∨o.2.2.2.1>2147483647∨o.2.2.2.1 < -2147483647) then 2
 else if (o.1=2∨o.1=3)∧0<o.2.2.2.2.1.length then 2
 else if 256<o.2.2.2.2.1.length then 7
 else if refsM o.2.2.2.2.1=true then 0 else 2
def shortO (o:Op1):Prop:=o.2.1.length≤12∧(∀ x∈o.2.1,x.length≤120)∧o.2.2.1.2.2.1.length≤200∧o.2.2.2.2.1.length≤300
theorem refOp_t {o:Op1} (h:shortO o):zba o=some (opM o):=by
 obtain ⟨s1,s2,s3,s4⟩:=h
 obtain ⟨k,p,v,n,sn,⟨⟩⟩:=o
 simp only at s1 s2 s3 s4
 unfold zba opM
 simp only[cond_dec,cond_ndec,eqVal,refCheck_t (p:=p) (fun x hx=>by have:=s2 x hx; omega),refRight9_t (v:=v) (by omega),refRefs_t (l:=sn) (by omega),zb]
 have ez:((0,0,[],()):Val)=zeroV:=rfl
 simp only[ez]
 by_cases a1:k<1
 · rw[zp a1,zp (.inl a1)]
 rw[zn a1]
 by_cases a2:k>5
 · rw[zp a2,zp (.inr a2)]
 rw[zn a2]
 rw[zn (show ¬ (k<1∨5<k) by omega)]
 by_cases a3:¬ checkM p=0
 · rw[zn a3,zp (show checkM p≠0 from a3)]
 have a3:checkM p=0:=Classical.not_not.1 a3
 rw[zp a3,zn (show ¬ checkM p≠0 from fun e=>e a3)]
 have hlen:((sn.length:Int)>0)↔0<sn.length:=by omega
 have hlen2:((sn.length:Int)>256)↔256<sn.length:=by omega
 simp only[hlen,hlen2]
 have last:(cond (!refsM sn) (some (2:Int)) (some 0))=some (if refsM sn=true then 0 else 2):=by cases refsM sn<;>rfl
 by_cases k3:k=3
 · subst k3
   by_cases hz:v=zeroV
   · by_cases n0:n=0
     · simp[hz,n0]
     · by_cases n1:n>2147483647
       · simp[hz,n0,n1]
       · by_cases n2:n < -2147483647
         · simp[hz,n0,n1,n2]
         · by_cases l0:0<sn.length
           · simp[hz,n0,n1,n2,l0]
           · by_cases l2:256<sn.length
             · omega
             · simp[hz,n0,n1,n2,l0,l2,last]
   · simp[hz]
 · by_cases k5:k=5
   · subst k5
     by_cases hz:v=zeroV
     · by_cases n0:n=0
       · by_cases l2:256<sn.length
         · simp[hz,n0,l2]
         · simp[hz,n0,l2,last]
       · simp[hz,n0]
     · simp[hz]
   · cases hr:rightV v with
     | false=>simp[k3,k5,hr]
     | true =>
       by_cases n0:n=0
       · by_cases k2:k=2
         · subst k2
           by_cases l0:0<sn.length
           · simp[n0,l0]
           · by_cases l2:256<sn.length
             · omega
             · simp[n0,l0,l2,last]
         · by_cases l2:256<sn.length
           · simp[k2,k3,k5,n0,l2]
           · simp[k2,k3,k5,n0,l2,last]
       · simp[k3,k5,n0]
def goneM (o:Op1):Bool:=decide (o.1=0∧o.2.1=[]∧o.2.2.1=zeroV∧o.2.2.2.1=0∧o.2.2.2.2.1=[])
theorem gone_t (o:Op1):zb2 o=some (goneM o):=by
 obtain ⟨k,p,v,n,sn,⟨⟩⟩:=o
 unfold zb2 goneM
 simp only[cond_dec,eqVal]
 have ez:((0,0,[],()):Val)=zeroV:=rfl
 simp only[ez]
 have e1:((p.length:Int)=0)↔p=[]:=by rw[show ((p.length:Int)=0)↔p.length=0 by omega,List.length_eq_zero_iff]
 have e2:((sn.length:Int)=0)↔sn=[]:=by rw[show ((sn.length:Int)=0)↔sn.length=0 by omega,List.length_eq_zero_iff]
 simp only[e1,e2]
 by_cases h1:k=0<;>by_cases h2:p=[]<;>by_cases h3:v=zeroV<;>by_cases h4:n=0<;>by_cases h5:sn=[]<;>simp[h1,h2,h3,h4,h5]
def shortB (o:Op1):Bool:=decide (o.2.1.length≤12)&&(o.2.1.all fun x=>decide (x.length≤120))&&decide (o.2.2.1.2.2.1.length≤200)&&decide (o.2.2.2.2.1.length≤300)
theorem shortOp_t (o:Op1):zbo o=some (shortB o):=by
 unfold zbo shortB
 simp only[shortP_t,zb,cond_dec]
 cases (decide (o.2.1.length≤12)&&o.2.1.all fun x=>decide (x.length≤120)) with
 | false=>rfl
 | true =>
   rw[cond_true,Bool.true_and]
   by_cases h3:((o.2.2.1.2.2.1.length:Int)≤200)
   · rw[zp h3,zt (show o.2.2.1.2.2.1.length≤200 by omega),Bool.true_and]
     congr 1
     by_cases h4:((o.2.2.2.2.1.length:Int)≤300)
     · rw[zt h4,zt (by omega)]
     · rw[zf h4,zf (by omega)]
   · rw[zn h3,zf (show ¬ o.2.2.1.2.2.1.length≤200 by omega)]; rfl
theorem shortB_iff {o:Op1}:shortB o=true↔shortO o:=by
 unfold shortB shortO
 simp only[Bool.and_eq_true,decide_eq_true_eq,List.all_eq_true]
 exact ⟨fun h=>⟨h.1.1.1,h.1.1.2,h.1.2,h.2⟩,fun h=>⟨⟨⟨h.1,h.2.1⟩,h.2.2.1⟩,h.2.2.2⟩⟩
noncomputable def shortT (t:Txn1):Bool:=decide (t.2.2.2.2.1.length≤20)&&t.2.2.2.2.1.all shortB
theorem shortTxn_t (t:Txn1):za9 t=some (shortT t):=by
 unfold za9 shortT
 simp only[cond_dec]
 by_cases h1:(t.2.2.2.2.1.length:Int)>20
 · rw[zp h1,zf (by omega)]; rfl
 rw[zn h1,zt (by omega),Bool.true_and]
 have:=loop_all (f:=za9_l4 t) (l:=t.2.2.2.2.1) (fun i=>((i:Int),())) shortB true false (fun i h=>by
   unfold za9_l4
   simp only[cond_dec]
   rw[zp (by omega),atI_lt h]
   simp only[zb,shortOp_t]
   by_cases hs:shortB t.2.2.2.2.1[i]=true
   · rw[hs,Bool.not_true,cond_false,zp rfl,wrap64 (by omega) (by omega)]; rfl
   · rw[zn hs,eq_false_of_ne_true hs]; rfl) (by
   unfold za9_l4
   simp only[cond_dec]
   rw[zn (by omega)])
 rw[ite_bool] at this
 exact this
noncomputable def opsM (thin:Bool):List Op1→Int
 | []=>0
 | o::l=>if opM o≠0∧¬ (thin=true∧goneM o=true) then opM o else opsM thin l
noncomputable def txnM (t:Txn1):Int :=
 if rightM t.1=false∨t.2.1<0∨7<t.2.1∨t.2.2.1<1∨1099511627776<t.2.2.1 then 2
 else if t.2.2.2.2.1.length=0 then 11 else if 16<t.2.2.2.2.1.length then 7 else opsM t.2.2.2.1 t.2.2.2.2.1
theorem opsM_fold {thin:Bool}:∀ (l:List Op1) (i:Nat),foldE (S:=Unit) (fun _ o _=>if opM o≠0∧¬ (thin=true∧goneM o=true) then .inr (opM o) else .inl ()) (fun _=>(0:Int)) i l ()=opsM thin l
 | [],_=>rfl
 | o::l,i=>by
   unfold foldE opsM
   by_cases h:opM o≠0∧¬ (thin=true∧goneM o=true)
   · rw[zp h,zp h]
   · rw[zn h,zn h]; exact opsM_fold l (i+1)
theorem txnCheck_t {t:Txn1} (h:shortT t=true):zbc t=some (txnM t):=by
 unfold shortT at h
 simp only[Bool.and_eq_true,decide_eq_true_eq,List.all_eq_true] at h
 obtain ⟨h1,h2⟩:=h
 have loop:=loop_list (S:=Unit) (R:=Int) (f:=zbc_l8 t) (l:=t.2.2.2.2.1) (fun i _=>((i:Int),())) (fun _ o _=>if opM o≠0∧¬ (t.2.2.2.1=true∧goneM o=true) then .inr (opM o) else .inl ()) (fun _=>(0:Int)) (fun _ _=>True) (fun i h s _=>by
   have turn:zbc_l8 t ((i:Int),())=if opM t.2.2.2.2.1[i]≠0∧¬ (t.2.2.2.1=true∧goneM t.2.2.2.2.1[i]=true) then some (.inr (opM t.2.2.2.2.1[i])) else some (.inl (((i+1:Nat):Int),())):=by
     unfold zbc_l8
     simp only[cond_dec,cond_ndec]
     rw[zp (by omega),atI_lt h]
     simp only[zb,refOp_t (shortB_iff.1 (h2 _ (zm h))),gone_t]
     rw[wrap64 (by omega) (by omega),show (i:Int)+1=((i+1:Nat):Int) by omega]
     by_cases a:opM t.2.2.2.2.1[i]=0
     · rw[zp a,zn (fun e=>e.1 a)]
     · rw[zn a]
       cases ht:t.2.2.2.1 with
       | false=>rw[cond_false,zp ⟨a,by simp⟩]
       | true =>
         rw[cond_true]
         by_cases hg:goneM t.2.2.2.2.1[i]=true
         · rw[hg,Bool.not_true,cond_false,zn (by simp)]
         · rw[eq_false_of_ne_true hg,Bool.not_false,cond_true,zp ⟨a,by simp⟩]
   by_cases hc:opM t.2.2.2.2.1[i]≠0∧¬ (t.2.2.2.1=true∧goneM t.2.2.2.2.1[i]=true)
   · exact .inr ⟨_,by rw[zp hc],by rw[turn,zp hc]⟩
   · exact .inl ⟨(),by rw[zn hc],by rw[turn,zn hc],trivial⟩) (fun s _=>by
   unfold zbc_l8
   simp only[cond_dec]
   rw[zn (by omega)]) () trivial
 rw[opsM_fold] at loop
 rw[show (((0:Nat):Int),())=((0:Int),()) from rfl] at loop
 unfold zbc txnM
 simp only[cond_dec,refRight_t,zb]
 by_cases a1:rightM t.1=true
 · rw[a1,Bool.not_true,cond_false]
   simp only[zb]
   by_cases a2:t.2.1<0
   · rw[zt a2,cond_true,zp (.inr (.inl a2))]
   rw[zf a2,cond_false]
   by_cases a3:t.2.1>7
   · rw[zp a3,zp (.inr (.inr (.inl a3)))]
   rw[zn a3]
   by_cases a4:t.2.2.1<1
   · rw[zp a4,zp (.inr (.inr (.inr (.inl a4))))]
   rw[zn a4]
   by_cases a5:t.2.2.1>1099511627776
   · rw[zp a5,zp (.inr (.inr (.inr (.inr a5))))]
   have nn:¬ (true=false∨t.2.1<0∨7<t.2.1∨t.2.2.1<1∨1099511627776<t.2.2.1):=by
     rintro (h | h | h | h | h)
     · cases h
     · exact a2 h
     · exact a3 h
     · exact a4 h
     · exact a5 h
   rw[zn a5,zn nn]
   by_cases a6:t.2.2.2.2.1.length=0
   · rw[zp (show (t.2.2.2.2.1.length:Int)=0 by omega),zp a6]
   rw[zn (show ¬ (t.2.2.2.2.1.length:Int)=0 by omega),zn a6]
   by_cases a7:16<t.2.2.2.2.1.length
   · rw[zp (show (t.2.2.2.2.1.length:Int)>16 by omega),zp a7]
   rw[zn (show ¬ (t.2.2.2.2.1.length:Int)>16 by omega),zn a7]
   exact loop
 · have a1:rightM t.1=false:=by simpa using a1
   rw[zp (show rightM t.1=false∨t.2.1<0∨7<t.2.1∨t.2.2.1<1∨1099511627776<t.2.2.1 from .inl a1),a1]
   rfl
noncomputable def risesB {A:Type} (key:A→Dot1) (l:List A) (i:Nat):Bool:=match l[i]?,l[i+1]? with
 | some x,some y=>decide (cmpD (key x) (key y) = -1)
 | _,_=>true
theorem risesB_law {A:Type}{key:A→Dot1}{l:List A} (h:∀ i,i<l.length-1→risesB key l i=true):Rises cmpD key l:=by
 refine rises_adj cd_cmp fun i hi => ?_
 have:=h i (by omega)
 unfold risesB at this
 rw[zg hi,zg (show i<l.length by omega)] at this
 simp only[decide_eq_true_eq] at this
 omega
open Classical in
theorem rises12_t {l:List Txn1} (hl:l.length<1000000):zbh l=some (if (∀ i,i<l.length-1→risesB (·.1) l i=true) then true else false):=by
 have:=loop_allI (f:=zbh_l2 l) (l.length-1) (fun i=>(((i+1:Nat):Int),())) (risesB (·.1) l) true false (fun i h=>by
   unfold zbh_l2 risesB
   rw[zg (show i<l.length by omega),zg (show i+1<l.length by omega)]
   simp only[cond_dec,cond_ndec]
   rw[zp (by omega),wrap64 (by omega) (by omega),show ((i+1:Nat):Int)-1=(i:Int) by omega,atI_lt (show i<l.length by omega),atI_lt (show i+1<l.length by omega)]
   simp only[zb,refDot_t,decide_eq_true_eq]
   rw[wrap64 (by omega) (by omega)]
   by_cases h4:cmpD l[i].1 l[i+1].1 = -1
   · rw[zp h4,zp h4]; rfl
   · rw[zn h4,zn h4]) (by
   unfold zbh_l2
   simp only[cond_dec]
   rw[zn (by omega)])
 exact this
def oneM (x:Ref1):Bool:=rightM x.1&&decide (1≤x.2.1∧x.2.1≤64)
theorem one_t (x:Ref1):zcd x=some (oneM x):=by
 unfold zcd oneM
 simp only[refRight_t,zb,cond_dec]
 cases rightM x.1 with
 | false=>rfl
 | true =>
   rw[cond_true,Bool.true_and]
   by_cases h1:x.2.1≥1<;>by_cases h2:x.2.1≤64<;>simp[h1,h2]<;>omega
def countAt (l:List Ref1) (i:Nat):Bool:=match l[i]? with
 | some x=>oneM x&&(decide (i=0)||match l[i-1]? with
   | some y=>decide (cmpD y.1 x.1 = -1)
   | none=>false)
 | none=>false
open Classical in
theorem right8_t {l:List Ref1} (hl:l.length<1000000):zbe l=some (if (∀ i,i<l.length→countAt l i=true) then true else false):=by
 have:=loop_allI (f:=zbe_l2 l) l.length (fun i=>((i:Int),())) (countAt l) true false (fun i h=>by
   unfold zbe_l2 countAt
   rw[zg h]
   simp only[cond_dec]
   rw[zp (by omega),atI_lt h]
   simp only[zb,one_t]
   by_cases h0:oneM l[i]=true
   · simp only[h0,Bool.not_true,cond_false,Bool.true_and]
     by_cases h3:i=0
     · subst h3
       rw[zn (by omega),wrap64 (by omega) (by omega)]; rfl
     · rw[zp (by omega),wrap64 (by omega) (by omega),show (i:Int)-1=((i-1:Nat):Int) by omega,atI_lt (by omega),zg (show i-1<l.length by omega)]
       simp only[zb,refDot_t,cond_ndec]
       by_cases h4:cmpD l[i-1].1 l[i].1 = -1
       · rw[zp h4,wrap64 (by omega) (by omega)]; simp[h3,h4]
       · rw[zn h4]; simp[h3,h4]
   · have h0:oneM l[i]=false:=by simpa using h0
     simp only[h0,Bool.not_false,cond_true,Bool.false_and]; rfl) (by
   unfold zbe_l2
   simp only[cond_dec]
   rw[zn (by omega)])
 exact this
abbrev riseU (u:List Ref1):Prop:=Rises cmpD (·.1) u
structure CountsOk (u:List Ref1):Prop where
 len:u.length≤100
 rise:riseU u
 one:∀ x∈u,oneM x=true
theorem counts_of {l:List Ref1} (hl:l.length≤100) (h:∀ i,i<l.length→countAt l i=true):CountsOk l where
 len:=hl
 rise:=rises_adj cd_cmp fun i hi=>by
   have:=h (i+1) hi
   unfold countAt at this
   rw[zg hi,Nat.add_sub_cancel,zg (show i<l.length by omega)] at this
   simp only[Bool.and_eq_true,Bool.or_eq_true,decide_eq_true_eq] at this
   omega
 one x hx:=by
   obtain ⟨i,hi,rfl⟩:=List.mem_iff_getElem.1 hx
   have:=h i hi
   unfold countAt at this
   rw[zg hi] at this
   simp only[Bool.and_eq_true] at this
   exact this.1
structure TxnOk (t:Txn1):Prop where
 len:t.2.2.2.2.1.length≤16
 pos:0<t.2.2.2.2.1.length
 ops:∀ o∈t.2.2.2.2.1,shortO o∧(opM o=0∨t.2.2.2.1=true∧goneM o=true)
 dot:rightM t.1=true
 user:0≤t.2.1∧t.2.1≤7
 time:1≤t.2.2.1∧t.2.2.1≤1099511627776
theorem opsM_mem {thin:Bool}:∀ {l:List Op1},opsM thin l=0→∀ o∈l,opM o=0∨thin=true∧goneM o=true
 | [],_,o,h=>by cases h
 | p::l,h,o,ho=>by
   unfold opsM at h
   by_cases hc:opM p≠0∧¬ (thin=true∧goneM p=true)
   · rw[zp hc] at h; exact absurd h hc.1
   · rw[zn hc] at h
     rcases List.mem_cons.1 ho with e | ho
     · subst e
       by_cases h1:opM o=0
       · exact .inl h1
       · exact .inr (Classical.not_not.1 fun h2=>hc ⟨h1,h2⟩)
     · exact opsM_mem h o ho
theorem txn_of {t:Txn1} (h1:shortT t=true) (h2:txnM t=0):TxnOk t:=by
 unfold shortT at h1
 simp only[Bool.and_eq_true,decide_eq_true_eq,List.all_eq_true] at h1
 unfold txnM at h2
 by_cases a:rightM t.1=false∨t.2.1<0∨7<t.2.1∨t.2.2.1<1∨1099511627776<t.2.2.1
 · rw[zp a] at h2; omega
 rw[zn a] at h2
 by_cases b:t.2.2.2.2.1.length=0
 · rw[zp b] at h2; omega
 rw[zn b] at h2
 by_cases c:16<t.2.2.2.2.1.length
 · rw[zp c] at h2; omega
 rw[zn c] at h2
 refine ⟨by omega,by omega,fun o ho=>⟨shortB_iff.1 (h1.2 o ho),opsM_mem h2 o ho⟩,?_,?_,?_⟩
 · cases hr:rightM t.1 with
   | true=>rfl
   | false=>exact absurd (.inl hr) a
 · constructor
   · exact Int.not_lt.1 fun h=>a (.inr (.inl h))
   · exact Int.not_lt.1 fun h=>a (.inr (.inr (.inl h)))
 · constructor
   · exact Int.not_lt.1 fun h=>a (.inr (.inr (.inr (.inl h))))
   · exact Int.not_lt.1 fun h=>a (.inr (.inr (.inr (.inr h))))
abbrev riseT (l:List Txn1):Prop:=Rises cmpD (·.1) l
structure TxnsOk (l:List Txn1) (n:Nat):Prop where
 len:l.length≤n
 rise:riseT l
 all:∀ t∈l,TxnOk t
open Classical in
theorem txnsGood_t {l:List Txn1}{n:Nat} (hn:n<1000000):∃ b,zb3 l (n:Int)=some b∧(b=true→TxnsOk l n):=by
 unfold zb3
 simp only[cond_dec]
 by_cases h1:(l.length:Int)>(n:Int)
 · exact ⟨false,by rw[zp h1],fun h=>by cases h⟩
 rw[zn h1,rises12_t (by omega)]
 simp only[zb]
 by_cases h2:∀ i,i<l.length-1→risesB (·.1) l i=true
 · rw[zp h2,Bool.not_true,cond_false]
   have:=loop_all (f:=zb3_l4 l) (l:=l) (fun i=>((i:Int),())) (fun t=>shortT t&&decide (txnM t=0)) true false (fun i h=>by
     unfold zb3_l4
     simp only[cond_dec]
     rw[zp (by omega),atI_lt h]
     simp only[zb,shortTxn_t]
     by_cases hs:shortT l[i]=true
     · simp only[hs,Bool.not_true,cond_false,txnCheck_t hs,zb,Bool.true_and,cond_ndec,decide_eq_true_eq]
       by_cases hz:txnM l[i]=0
       · rw[zp hz,zp hz,wrap64 (by omega) (by omega)]; rfl
       · rw[zn hz,zn hz]
     · have hs:shortT l[i]=false:=by simpa using hs
       simp only[hs,Bool.not_false,cond_true,Bool.false_and]; rfl) (by
     unfold zb3_l4
     simp only[cond_dec]
     rw[zn (by omega)])
   rw[ite_bool] at this
   refine ⟨_,this,fun h=>⟨by omega,risesB_law h2,fun t ht => ?_⟩⟩
   have:=List.all_eq_true.1 h t ht
   simp only[Bool.and_eq_true,decide_eq_true_eq] at this
   exact txn_of this.1 this.2
 · rw[zn h2]
   exact ⟨false,rfl,fun h=>by cases h⟩
theorem countsGood_t (u:List Ref1):∃ b,zbu u=some b∧(b=true→CountsOk u):=by
 unfold zbu
 simp only[cond_dec]
 by_cases h1:(u.length:Int)≤100
 · rw[zp h1,right8_t (by omega)]
   simp only[zb]
   refine ⟨_,rfl,fun h=>counts_of (by omega) ?_⟩
   by_cases h2:∀ i,i<u.length→countAt u i=true
   · exact h2
   · rw[zn h2] at h; cases h
 · exact ⟨false,by rw[zn h1],fun h=>by cases h⟩
theorem good13_t (l:List Txn1) (u:List Ref1):∃ b,zb1 l u=some b∧(b=true→TxnsOk l 20∧CountsOk u):=by
 unfold zb1
 obtain ⟨b,h1,h2⟩:=txnsGood_t (l:=l) (n:=20) (by omega)
 rw[show ((20:Nat):Int)=20 from rfl] at h1
 rw[h1]
 simp only[zb]
 cases b with
 | false=>exact ⟨false,rfl,fun h=>by cases h⟩
 | true =>
   obtain ⟨c,h3,h4⟩:=countsGood_t u
   rw[cond_true,h3]
   exact ⟨c,rfl,fun h=>⟨h2 rfl,h4 h⟩⟩
def getM (u:List Ref1) (d:Dot1):Int:=match u with
 | []=>0
 | x::u=>if x.1=d then x.2.1 else getM u d
abbrev loU (d:Dot1) (u:List Ref1):List Ref1:=lo cmpD (·.1) d u
abbrev hiU (d:Dot1) (u:List Ref1):List Ref1:=hi cmpD (·.1) d u
theorem getM_none {d:Dot1}:∀ {u:List Ref1},(∀ x∈u,x.1≠d)→getM u d=0
 | [],_=>rfl
 | x::u,h=>by
   unfold getM
   rw[zn (h x (List.mem_cons_self ..))]
   exact getM_none fun y hy=>h y (List.mem_cons_of_mem _ hy)
theorem getM_app {d:Dot1}:∀ {p q:List Ref1},(∀ x∈p,x.1≠d)→getM (p++q) d=getM q d
 | [],_,_=>rfl
 | x::p,q,h=>by
   rw[List.cons_append]
   conv=>lhs; unfold getM
   rw[zn (h x (List.mem_cons_self ..))]
   exact getM_app fun y hy=>h y (List.mem_cons_of_mem _ hy)
theorem tallyC_t (a b:Ref1):zaw a b=some (cmpD a.1 b.1):=by
 unfold zaw
 rw[dotC_t]; rfl
theorem tsearch_loop {u:List Ref1}{d:Ref1} (hl:u.length<1000000) (hr:riseU u):∀ (k i j:Nat),j-i≤k→i≤(loU d.1 u).length→(loU d.1 u).length≤j→j≤u.length →
   loopT (zaa_l3 u d) ((i:Int),(j:Int),())=some (.inl (((loU d.1 u).length:Int),())):=by
 intro k
 induction k with
 | zero =>
   intro i j hk h1 h2 h3
   refine loopT_inr ?_
   unfold zaa_l3
   simp only[cond_dec]
   rw[zn (by omega),show (loU d.1 u).length=i by omega]
 | succ k ih =>
   intro i j hk h1 h2 h3
   by_cases hij:i<j
   · have hh:(i+j)/2<u.length:=by omega
     have turn:zaa_l3 u d ((i:Int),(j:Int),())=if cmpD u[(i+j)/2].1 d.1<0 then some (.inl ((((i+j)/2+1:Nat):Int),(j:Int),())) else some (.inl ((i:Int),(((i+j)/2:Nat):Int),())):=by
       unfold zaa_l3
       simp only[cond_dec]
       rw[zp (by omega),show (i:Int)+(j:Int)=((i+j:Nat):Int) by omega,half_t (by omega)]
       simp only[zb]
       rw[wrap64 (n:=(((i+j)/2:Nat):Int)) (by omega) (by omega),atI_lt hh]
       simp only[zb,tallyC_t]
       rw[wrap64 (by omega) (by omega)]; rfl
     by_cases hn:(i+j)/2<(loU d.1 u).length
     · rw[zp (at_lo hh hn)] at turn
       rw[loopT_inl turn]
       exact ih _ _ (by omega) (by omega) h2 h3
     · have:=at_hi cd_cmp hr hh (k:=d.1) (Nat.le_of_not_lt hn)
       rw[zn (by omega)] at turn
       rw[loopT_inl turn]
       exact ih _ _ (by omega) h1 (by omega) (by omega)
   · refine loopT_inr ?_
     unfold zaa_l3
     simp only[cond_dec]
     rw[zn (by omega),show (loU d.1 u).length=i by omega]
theorem cmpD_ne {a b:Dot1} (h:cmpD a b≠0):a≠b:=fun e=>h ((cd_cmp.zero _ _).2 e)
def hereU (q:List Ref1) (d:Dot1):Bool:=match q with
 | []=>false
 | x::_=>decide (cmpD x.1 d=0)
theorem tsearch_t {u:List Ref1}{d:Ref1} (hl:u.length<1000000) (hr:riseU u) :
   zaa u d ()=some (((loU d.1 u).length:Int),hereU (hiU d.1 u) d.1,()):=by
 have e2:loU d.1 u++hiU d.1 u=u:=lohi
 have hlen:(loU d.1 u).length+(hiU d.1 u).length=u.length:=by rw[← List.length_append,e2]
 unfold zaa
 have:=tsearch_loop (d:=d) hl hr u.length 0 u.length (by omega) (by omega) (by omega) (by omega)
 rw[show ((0:Int),(u.length:Int),())=(((0:Nat):Int),(u.length:Int),()) from rfl,this,bind_join_inl]
 simp only[cond_dec]
 cases hq:hiU d.1 u with
 | nil =>
   rw[hq] at hlen
   simp only[List.length_nil] at hlen
   rw[zn (by omega)]; rfl
 | cons x q =>
   rw[hq] at hlen e2
   simp only[zl] at hlen
   rw[zp (by omega),atI_nat]
   have e3:u[(loU d.1 u).length]? = some x:=by
     have:(loU d.1 u++x::q)[(loU d.1 u).length]? = some x:=by simp
     rw[e2] at this
     exact this
   rw[e3]
   simp only[zb,tallyC_t]
   rfl
theorem lo_neU {u:List Ref1}{d:Dot1}{x:Ref1} (hx:x∈loU d u):x.1≠d:=by
 have h:=lo_below (c:=cmpD) (key:=fun y:Ref1=>y.1) (k:=d) (l:=u) x hx
 exact cmpD_ne (fun e=>by rw[e] at h; omega)
theorem tallyGet_t {u:List Ref1}{d:Dot1} (hl:u.length<1000000) (hr:riseU u):zb7 u d=some (getM u d):=by
 have e2:loU d u++hiU d u=u:=lohi
 have hlo:∀ x∈loU d u,x.1≠d:=fun x hx=>lo_neU hx
 unfold zb7 zcm
 rw[tsearch_t (d:=(d,0,())) hl hr]
 simp only[zb]
 have hg:getM u d=getM (hiU d u) d:=by
   conv=>lhs; rw[← e2]
   exact getM_app hlo
 rw[hg]
 cases hq:hiU d u with
 | nil=>rfl
 | cons x q =>
   have hab:=hi_above cd_cmp hr hq
   unfold hereU
   simp only[cond_dec]
   by_cases h0:cmpD x.1 d=0
   · rw[zp h0,atI_nat]
     have e3:u[(loU d u).length]? = some x:=by
       have:(loU d u++x::q)[(loU d u).length]? = some x:=by simp
       rw[← hq,e2] at this
       exact this
     rw[e3]
     simp only[zb]
     unfold getM
     rw[zp ((cd_cmp.zero _ _).1 h0)]
   · rw[zn h0,getM_none]
     intro y hy
     rcases List.mem_cons.1 hy with e | hy
     · subst e; exact cmpD_ne h0
     · exact cmpD_ne (by have:=hab.2 y hy; omega)
def seenM (u:List Ref1) (d:Dot1):Bool:=match remT (getM u d) 2 with
 | some x=>decide (x=0)
 | none=>false
theorem rem2 (a:Int):∃ x,remT a 2=some x:=⟨_,by unfold remT; rw[zn (by omega)]⟩
theorem tallySeen_t {u:List Ref1}{d:Dot1} (hl:u.length<1000000) (hr:riseU u):zb6 u d=some (seenM u d):=by
 unfold zb6 seenM
 rw[tallyGet_t hl hr]
 obtain ⟨x,hx⟩:=rem2 (getM u d)
 simp only[zb,hx]
theorem find_put {x y:Ref1}{v:Bool}:∀ {m:List (Ref1×Bool)},findK tyRef x (putK tyRef y v m)=if x=y then some v else findK tyRef x m
 | []=>by
   unfold putK findK
   rw[eqRef,cond_dec]
   unfold findK
   rfl
 | e::m=>by
   unfold putK
   rw[eqRef]
   by_cases hy:y=e.1
   · rw[zt hy,cond_true]
     conv=>lhs; unfold findK
     conv=>rhs; rhs; unfold findK
     rw[eqRef,eqRef,cond_dec,cond_dec,← hy]
     by_cases hx:x=y
     · rw[zp hx,zp hx]
     · rw[zn hx,zn hx,zn hx]
   · rw[zf hy,cond_false]
     conv=>lhs; unfold findK
     conv=>rhs; rhs; unfold findK
     rw[eqRef,cond_dec,cond_dec,find_put]
     by_cases hx:x=e.1
     · rw[zp hx,zn (fun e'=>hy (by rw[← e',hx])),zp hx]
     · rw[zn hx,zn hx]
def hasK (x:Ref1) (m:List (Ref1×Bool)):Bool:=(getK tyRef false x m).1
theorem has_put {x y:Ref1}{m:List (Ref1×Bool)}:hasK x (putK tyRef y true m)=(decide (x=y)||hasK x m):=by
 unfold hasK getK
 rw[find_put]
 by_cases h:x=y
 · rw[zp h,zt h]; rfl
 · rw[zn h,zf h,Bool.false_or]
def putAll (m:List (Ref1×Bool)) (l:List Ref1):List (Ref1×Bool):=l.foldl (fun m x=>putK tyRef x true m) m
theorem has_all {x:Ref1}:∀ {l:List Ref1}{m:List (Ref1×Bool)},hasK x (putAll m l)=(l.any (fun y=>decide (x=y))||hasK x m)
 | [],m=>rfl
 | y::l,m=>by
   have:=has_all (x:=x) (l:=l) (m:=putK tyRef y true m)
   unfold putAll at this ⊢
   rw[List.foldl_cons,this,has_put,List.any_cons]
   cases decide (x=y)<;>cases l.any (fun y=>decide (x=y))<;>rfl
def coverO (o:Op1) (x:Ref1):Bool:=o.2.2.2.2.1.any fun y=>decide (x=y)
def covT (m:List (Ref1×Bool)) (l:List Op1):List (Ref1×Bool):=l.foldl (fun m o=>putAll m o.2.2.2.2.1) m
theorem has_covT {x:Ref1}:∀ {l:List Op1}{m:List (Ref1×Bool)},hasK x (covT m l)=(l.any (fun o=>coverO o x)||hasK x m)
 | [],m=>rfl
 | o::l,m=>by
   have:=has_covT (x:=x) (l:=l) (m:=putAll m o.2.2.2.2.1)
   unfold covT at this ⊢
   rw[List.foldl_cons,this,has_all,List.any_cons]
   unfold coverO
   cases o.2.2.2.2.1.any (fun y=>decide (x=y))<;>cases l.any (fun o=>o.2.2.2.2.1.any fun y=>decide (x=y))<;>rfl
def covL (u:List Ref1) (m:List (Ref1×Bool)) (l:List Txn1):List (Ref1×Bool):=l.foldl (fun m t=>if seenM u t.1=true then covT m t.2.2.2.2.1 else m) m
def covM (l:List Txn1) (u:List Ref1) (x:Ref1):Bool:=l.any fun t=>seenM u t.1&&t.2.2.2.2.1.any fun o=>coverO o x
theorem has_covL {x:Ref1}{u:List Ref1}:∀ {l:List Txn1}{m:List (Ref1×Bool)},hasK x (covL u m l)=(covM l u x||hasK x m)
 | [],m=>rfl
 | t::l,m=>by
   have:=has_covL (x:=x) (u:=u) (l:=l) (m:=if seenM u t.1=true then covT m t.2.2.2.2.1 else m)
   unfold covL at this ⊢
   rw[List.foldl_cons,this]
   unfold covM
   rw[List.any_cons]
   by_cases hs:seenM u t.1=true
   · rw[zp hs,has_covT,hs,Bool.true_and]
     cases t.2.2.2.2.1.any (fun o=>coverO o x)<;>cases l.any (fun t=>seenM u t.1&&t.2.2.2.2.1.any fun o=>coverO o x)<;>rfl
   · rw[zn hs,eq_false_of_ne_true hs,Bool.false_and,Bool.false_or]
structure Low (l:List Txn1):Prop where
 len:l.length≤1000
 ops:∀ t∈l,t.2.2.2.2.1.length≤1000
 seen:∀ t∈l,∀ o∈t.2.2.2.2.1,o.2.2.2.2.1.length<1000000
structure LowU (u:List Ref1):Prop where
 len:u.length<1000000
 rise:riseU u
theorem covered_t {l:List Txn1}{u:List Ref1} (hl:Low l) (hu:LowU u):za1 l u=some (covL u [] l):=by
 have outer:=loop_list (S:=List (Ref1×Bool)) (f:=za1_l3 l u) (l:=l) (fun i m=>((i:Int),m,())) (fun _ t m=>.inl (if seenM u t.1=true then covT m t.2.2.2.2.1 else m)) (fun m=>m) (fun _ _=>True) (fun i h m _=>by
   refine .inl ⟨_,rfl,?_,trivial⟩
   have hi:=hl.len
   unfold za1_l3
   simp only[cond_dec]
   rw[zp (by omega),atI_lt h]
   simp only[zb,tallySeen_t hu.len hu.rise]
   have hops:=hl.ops _ (zm h)
   by_cases hs:seenM u l[i].1=true
   · rw[hs,Bool.not_true,cond_false,zp rfl]
     have mid:=loop_list (S:=List (Ref1×Bool)) (f:=za1_l7 ((i:Int),m,()) l[i]) (l:=l[i].2.2.2.2.1) (fun k m=>((k:Int),m,())) (fun _ o m=>.inl (putAll m o.2.2.2.2.1)) (fun m'=>(.inl (((i+1:Nat):Int),m',()):(Int×List (Ref1×Bool)×Unit)⊕List (Ref1×Bool))) (fun _ _=>True) (fun k hk m' _=>by
       refine .inl ⟨_,rfl,?_,trivial⟩
       have hseen:=hl.seen _ (zm h) _ (zm hk)
       unfold za1_l7
       simp only[cond_dec]
       rw[zp (by omega),atI_lt hk]
       simp only[zb]
       have inner:=loop_list (S:=List (Ref1×Bool)) (f:=za1_l10 ((k:Int),m',()) l[i].2.2.2.2.1[k]) (l:=l[i].2.2.2.2.1[k].2.2.2.2.1) (fun j m=>((j:Int),m,())) (fun _ x m=>.inl (putK tyRef x true m)) (fun m''=>(.inl (((k+1:Nat):Int),m'',()):(Int×List (Ref1×Bool)×Unit)⊕((Int×List (Ref1×Bool)×Unit)⊕List (Ref1×Bool)))) (fun _ _=>True) (fun j hj m'' _=>by
         refine .inl ⟨_,rfl,?_,trivial⟩
         unfold za1_l10
         simp only[cond_dec]
         rw[zp (by omega),atI_lt hj]
         simp only[zb]
         rw[wrap64 (by omega) (by omega)]; rfl) (fun m'' _=>by
         unfold za1_l10
         simp only[cond_dec]
         rw[zn (by omega),wrap64 (by omega) (by omega)]; rfl) m' trivial
       rw[show ((0:Int),m',())=(((0:Nat):Int),m',()) from rfl,inner,foldE_inl]
       rfl) (fun m' _=>by
       unfold za1_l7
       simp only[cond_dec]
       rw[zn (by omega),wrap64 (by omega) (by omega)]; rfl) m trivial
     rw[show ((0:Int),m,())=(((0:Nat):Int),m,()) from rfl,mid,foldE_inl]
     rfl
   · rw[zn hs,eq_false_of_ne_true hs,Bool.not_false,cond_true,wrap64 (by omega) (by omega)]; rfl) (fun m _=>by
   unfold za1_l3
   simp only[cond_dec]
   rw[zn (by omega)]) [] trivial
 unfold za1
 rw[show ((0:Int),([]:List (Ref1×Bool)),())=(((0:Nat):Int),[],()) from rfl,outer,foldE_inl]
 rfl
def putKind (k:Int):Bool:=decide (1≤k∧k≤3)
def itemAt (p:Ref1→Bool) (t:Txn1) (k:Nat) (o:Op1):List Item1:=if putKind o.1=true∧p (t.1,(k:Int),())=false then [((t.1,(k:Int),()),o,t.2.2.1,())] else []
def itemsM (p:Ref1→Bool) (t:Txn1):Nat→List Op1→List Item1
 | _,[]=>[]
 | k,o::l=>itemAt p t k o++itemsM p t (k+1) l
def allM (l:List Txn1) (u:List Ref1):List Item1:=l.flatMap fun t=>if seenM u t.1=true then itemsM (covM l u) t 0 t.2.2.2.2.1 else []
theorem itemAt_len {p:Ref1→Bool}{t:Txn1}{k:Nat}{o:Op1}:(itemAt p t k o).length≤1:=by
 unfold itemAt; split<;>simp
theorem items_len {p:Ref1→Bool}{t:Txn1}:∀ {l:List Op1}{k:Nat},(itemsM p t k l).length≤l.length
 | [],_=>Nat.le_refl _
 | o::l,k=>by
   have:=items_len (p:=p) (t:=t) (l:=l) (k:=k+1)
   have:=itemAt_len (p:=p) (t:=t) (k:=k) (o:=o)
   unfold itemsM
   rw[List.length_append,zl]; omega
theorem items_fold {R:Type}{p:Ref1→Bool}{t:Txn1}{fin:List Item1→R}:∀ (l:List Op1) (k:Nat) (o:List Item1),foldE (fun k x o=>.inl (o++itemAt p t k x)) fin k l o=fin (o++itemsM p t k l)
 | [],k,o=>by simp[foldE,itemsM]
 | x::l,k,o=>by
   unfold foldE itemsM
   simp only
   rw[items_fold l (k+1),List.append_assoc]
theorem flat_fold {A B R:Type}{g:A→List B}{fin:List B→R}:∀ (l:List A) (i:Nat) (o:List B),foldE (fun _ x o=>.inl (o++g x)) fin i l o=fin (o++l.flatMap g)
 | [],i,o=>by simp[foldE]
 | x::l,i,o=>by
   unfold foldE
   simp only
   rw[flat_fold l (i+1),List.flatMap_cons,List.append_assoc]
theorem all_t {l:List Txn1}{u:List Ref1} (hl:Low l) (hu:LowU u):zck l u=some (allM l u):=by
 unfold zck
 rw[covered_t hl hu,zb]
 have hp:(fun x=>hasK x (covL u [] l))=covM l u:=by
   funext x
   rw[has_covL]
   exact Bool.or_false _
 generalize hm:covL u [] l=m at hp ⊢
 have outer:=loop_list (S:=List Item1) (f:=zck_l4 l u) (l:=l) (fun i o=>((i:Int),m,o,())) (fun _ t o=>.inl (o++if seenM u t.1=true then itemsM (covM l u) t 0 t.2.2.2.2.1 else [])) (fun o=>o) (fun i o=>o.length≤i*1000) (fun i h o ho=>by
   have hi:=hl.len
   have hops:=hl.ops _ (zm h)
   refine .inl ⟨_,rfl,?_,?_⟩
   · unfold zck_l4
     simp only[cond_dec]
     rw[zp (by omega),atI_lt h]
     simp only[zb,tallySeen_t hu.len hu.rise]
     by_cases hs:seenM u l[i].1=true
     · rw[hs,Bool.not_true,cond_false,zp rfl]
       have inner:=loop_list (S:=List Item1) (f:=zck_l8 ((i:Int),m,o,()) l[i]) (l:=l[i].2.2.2.2.1) (fun k o=>((k:Int),m,o,l[i],())) (fun k x o=>.inl (o++itemAt (covM l u) l[i] k x)) (fun o'=>(.inl (((i+1:Nat):Int),m,o',()):(Int×List (Ref1×Bool)×List Item1×Unit)⊕List Item1)) (fun k o'=>o'.length≤i*1000+k) (fun k hk o' ho'=>by
         refine .inl ⟨_,rfl,?_,?_⟩
         · have hget:(getK tyRef false (l[i].1,(k:Int),()) m).1=covM l u (l[i].1,(k:Int),()):=by rw[← hp]; rfl
           unfold zck_l8 itemAt
           simp only[cond_dec]
           rw[zp (by omega),atI_lt hk]
           simp only[zb]
           have hget:(getK (.agg (.cons (.agg (.cons (.int .i64) (.cons (.int .i64) .unit))) (.cons (.int .i64) .unit))) false (l[i].1,(k:Int),()) m).1=covM l u (l[i].1,(k:Int),()):=hget
           rw[hget,wrap64 (by omega) (by omega),roomT_lt (by simp; omega)]
           simp only[zb]
           have hk':putKind l[i].2.2.2.2.1[k].1=true↔(l[i].2.2.2.2.1[k].1=1∨l[i].2.2.2.2.1[k].1=2∨l[i].2.2.2.2.1[k].1=3):=by unfold putKind; simp only[decide_eq_true_eq]; omega
           by_cases hc:covM l u (l[i].1,(k:Int),())=true
           · rw[hc]
             simp only[Bool.not_true,cond_false,Bool.true_eq_false,and_false,if_false,List.append_nil]
             split
             · rfl
             · split
               · rfl
               · split<;>rfl
           · rw[eq_false_of_ne_true hc]
             simp only[Bool.not_false,cond_true,and_true]
             by_cases h1:l[i].2.2.2.2.1[k].1=1
             · rw[zp h1,zp (hk'.2 (.inl h1))]; rfl
             · by_cases h2:l[i].2.2.2.2.1[k].1=2
               · rw[zn h1,zp h2,zp (hk'.2 (.inr (.inl h2)))]; rfl
               · by_cases h3:l[i].2.2.2.2.1[k].1=3
                 · rw[zn h1,zn h2,zp h3,zp (hk'.2 (.inr (.inr h3)))]; rfl
                 · rw[zn h1,zn h2,zn h3,zn (fun e=>by rcases hk'.1 e with e | e | e; exact h1 e; exact h2 e; exact h3 e),List.append_nil]; rfl
         · have:=itemAt_len (p:=covM l u) (t:=l[i]) (k:=k) (o:=l[i].2.2.2.2.1[k])
           rw[List.length_append]; omega) (fun o' ho'=>by
         unfold zck_l8
         simp only[cond_dec]
         rw[zn (by omega),wrap64 (by omega) (by omega)]; rfl) o (by omega)
       rw[show ((0:Int),m,o,l[i],())=(((0:Nat):Int),m,o,l[i],()) from rfl,inner,items_fold]
     · rw[zn hs,eq_false_of_ne_true hs,Bool.not_false,cond_true,wrap64 (by omega) (by omega),List.append_nil]; rfl
   · have:=items_len (p:=covM l u) (t:=l[i]) (l:=l[i].2.2.2.2.1) (k:=0)
     rw[List.length_append,Nat.succ_mul]
     split
     · omega
     · simp; omega) (fun o _=>by
   unfold zck_l4
   simp only[cond_dec]
   rw[zn (by omega)]) [] (by simp)
 rw[show ((0:Int),m,([]:List Item1),())=(((0:Nat):Int),m,[],()) from rfl,outer,flat_fold]
 rfl
def leafM (k:Int):Int:=if k=1 then 1 else if k=2∨k=4 then 2 else if k=3 then 3 else 0
theorem opLeaf_t (k:Int):zcq k=some (leafM k):=by
 unfold zcq leafM
 simp only[cond_dec]
 by_cases h1:k=1
 · rw[zp h1,zp h1]
 · by_cases h2:k=2
   · subst h2; rfl
   · by_cases h4:k=4
     · subst h4; rfl
     · by_cases h3:k=3
       · subst h3; rfl
       · simp[h1,h2,h3,h4]
def isAt (p:Path) (leaf:Int) (x:Item1):Bool:=decide (leafM x.2.1.1=leaf)&&decide (x.2.1.2.1=p)
def atM (l:List Item1) (p:Path) (leaf:Int):List Item1:=l.filter (isAt p leaf)
theorem flatMap_if {A:Type}{q:A→Bool}:∀ {l:List A},(l.flatMap fun x=>if q x=true then [x] else [])=l.filter q
 | []=>rfl
 | x::l=>by
   rw[List.flatMap_cons,flatMap_if,List.filter_cons]
   split<;>rfl
structure LowI (l:List Item1):Prop where
 len:l.length<1000000
 path:∀ x∈l,x.2.1.2.1.length<1000000∧∀ s∈x.2.1.2.1,s.length<1000000
theorem at_t {l:List Item1}{p:Path}{leaf:Int} (hl:LowI l):zcn l p leaf=some (atM l p leaf):=by
 have hlen:=hl.len
 have:=loop_map (f:=zcn_l3 l p leaf) (l:=l) (fun i o=>((i:Int),o,())) (fun x=>if isAt p leaf x=true then [x] else []) (fun o=>o) 1 (fun x _=>by split<;>simp) (fun i h o ho=>by
   have hp:=(hl.path _ (zm h)).1
   unfold zcn_l3 isAt
   simp only[cond_dec]
   rw[zp (by omega),atI_lt h]
   simp only[zb,opLeaf_t,pathSame_t hp]
   rw[wrap64 (by omega) (by omega),roomT_lt (by simp; omega)]
   simp only[zb,cond_dec]
   by_cases h1:leafM l[i].2.1.1=leaf
   · rw[zp h1,zt h1,Bool.true_and]
     by_cases h2:l[i].2.1.2.1=p
     · rw[zp h2,zt h2]; rfl
     · rw[zn h2,zf h2]; simp
   · rw[zn h1,zf h1]; simp) (fun o _=>by
   unfold zcn_l3
   simp only[cond_dec]
   rw[zn (by omega)])
 unfold zcn atM
 rw[show ((0:Int),([]:List Item1),())=(((0:Nat):Int),[],()) from rfl,this,flatMap_if]
theorem atM_low {l:List Item1}{p:Path}{leaf:Int} (hl:LowI l):LowI (atM l p leaf):=⟨Nat.lt_of_le_of_lt (List.length_filter_le ..) hl.len,fun x hx=>hl.path x (List.mem_filter.1 hx).1⟩
theorem dotRefs_t (a b:Ref1):zcl a b=some (cmpR a b):=by
 unfold zcl
 simp only[dotC_t,compare_t,or_t,zb]
 rfl
theorem emp_false {A:Type}{w:List A} (h:0<w.length):w.isEmpty=false:=by cases w with
 | nil=>cases h
 | cons _ _=>rfl
theorem viewI_nat {n a b:Nat} (h1:a≤b) (h2:b≤n):viewI n (a:Int) (b:Int)=some (a,b-a):=by
 unfold viewI
 rw[zp ⟨by omega,by omega,by omega⟩]; simp
theorem sqzS_take {A:Type} [DecidableEq A] {l:List A}{i:Nat} (hi:i<l.length) (h0:0<i):sqz (l.take (i+1))=if l[i-1]'(by omega)=l[i] then sqz (l.take i) else sqz (l.take i)++[l[i]]:=by
 rw[List.take_add_one,zg hi,Option.toList_some,sqz_app]
 unfold sqzS
 have e:(sqz (l.take i)).getLast? = some (l[i-1]'(by omega)):=by
   rw[sqz_last,List.getLast?_eq_getElem?,List.length_take,show min i l.length-1=i-1 by omega,List.getElem?_take_of_lt (by omega),zg (by omega)]
 rw[e]
 by_cases h:l[i-1]'(by omega)=l[i]
 · rw[zp (by rw[h]),zp h]
 · rw[zn (fun e=>h (Option.some.inj e)),zn h]
structure Mid (l w:List Val) (i0 k i:Nat):Prop where
 len:w.length=l.length
 head:w.take i=sqz (l.take (i0+k))
 rest:∀ j,i0+k-1≤j→w[j]? = l[j]?
 low:i≤i0+k-1
structure LowP (l:List Txn1):Prop where
 low:Low l
 ops:∀ t∈l,∀ o∈t.2.2.2.2.1,(o.2.1.length<1000000∧∀ s∈o.2.1,s.length<1000000)∧o.2.2.1.2.2.1.length<1000000
theorem items_mem {p:Ref1→Bool}{t:Txn1}:∀ {l:List Op1}{k:Nat}{x:Item1},x∈itemsM p t k l→∃ (j:Nat) (o:Op1),o∈l∧putKind o.1=true∧p (t.1,(j:Int),())=false∧x=((t.1,(j:Int),()),o,t.2.2.1,())
 | [],_,x,h=>by cases h
 | o::l,k,x,h=>by
   unfold itemsM at h
   rcases List.mem_append.1 h with h | h
   · unfold itemAt at h
     split at h
     · rename_i hc
       rw[List.mem_singleton] at h
       exact ⟨k,o,List.mem_cons_self ..,hc.1,hc.2,h⟩
     · cases h
   · obtain ⟨j,o',h1,h2⟩:=items_mem h
     exact ⟨j,o',List.mem_cons_of_mem _ h1,h2⟩
theorem allM_mem {l:List Txn1}{u:List Ref1}{x:Item1} (h:x∈allM l u):∃ t∈l,∃ (j:Nat) (o:Op1),o∈t.2.2.2.2.1∧putKind o.1=true∧seenM u t.1=true∧covM l u (t.1,(j:Int),())=false∧x=((t.1,(j:Int),()),o,t.2.2.1,()):=by
 unfold allM at h
 obtain ⟨t,ht,hx⟩:=List.mem_flatMap.1 h
 split at hx
 · rename_i hs
   obtain ⟨j,o,h1,h2,h3,h4⟩:=items_mem hx
   exact ⟨t,ht,j,o,h1,h2,hs,h3,h4⟩
 · cases hx
theorem flat_len {A B:Type}{g:A→List B}{n:Nat}:∀ {l:List A},(∀ x∈l,(g x).length≤n)→(l.flatMap g).length≤l.length*n
 | [],_=>Nat.zero_le _
 | x::l,h=>by
   have:=flat_len (l:=l) fun y hy=>h y (List.mem_cons_of_mem _ hy)
   have:=h x (List.mem_cons_self ..)
   rw[List.flatMap_cons,List.length_append,zl,Nat.succ_mul]; omega
theorem allM_len {l:List Txn1}{u:List Ref1} (h:Low l):(allM l u).length≤l.length*1000:=by
 unfold allM
 refine flat_len fun t ht => ?_
 split
 · exact Nat.le_trans items_len (h.ops t ht)
 · simp
theorem allM_low {l:List Txn1}{u:List Ref1} (h:LowP l) (hl:l.length<1000):LowI (allM l u):=by
 refine ⟨?_,fun x hx => ?_⟩
 · have:=allM_len (u:=u) h.low; omega
 · obtain ⟨t,ht,j,o,ho,_,_,_,rfl⟩:=allM_mem hx
   exact (h.ops t ht o ho).1
theorem txns_low {l:List Txn1}{n:Nat} (h:TxnsOk l n) (hn:n≤900):LowP l:=by
 refine ⟨⟨by have:=h.len; omega,fun t ht=>by have:=(h.all t ht).len; omega,fun t ht o ho => ?_⟩,fun t ht o ho => ?_⟩
 · have:=((h.all t ht).ops o ho).1.2.2.2; omega
 · have:=((h.all t ht).ops o ho).1
   exact ⟨⟨by have:=this.1; omega,fun s hs=>by have:=this.2.1 s hs; omega⟩,by have:=this.2.2.1; omega⟩
theorem counts_low {u:List Ref1} (h:CountsOk u):LowU u:=⟨by have:=h.len; omega,h.rise⟩
abbrev Leaf1:=Path×Int×Unit
def cmpLf (a b:Leaf1):Int:=orI (cmpP a.1 b.1) (cmpI a.2.1 b.2.1)
theorem cp_cmp:Cmp cmpP:=Cmp.list cb_cmp
theorem cl_cmp:Cmp cmpLf:=by
 have:cmpLf=fun a b=>cmpB cmpP cmpI ((fun x:Leaf1=>(x.1,x.2.1)) a) ((fun x:Leaf1=>(x.1,x.2.1)) b):=rfl
 rw[this]
 exact Cmp_map (cp_cmp.pair ci_cmp) _ fun a b h=>by
   obtain ⟨a1,a2,⟨⟩⟩:=a; obtain ⟨b1,b2,⟨⟩⟩:=b
   simp only[Prod.mk.injEq] at h
   rw[h.1,h.2]
theorem treeC_t {a b:Leaf1} (ha:a.1.length<1000000):za4 a b=some (cmpLf a b):=by
 unfold za4
 simp only[pathCompare_t ha,compare_t,or_t,zb]
 rfl
theorem leafEq_t' {a b:Leaf1} (ha:a.1.length<1000000):zaz a b=some (decide (a=b)):=by
 unfold zaz
 rw[treeC_t ha]
 simp only[zb]
 by_cases h:a=b
 · rw[zt h,zt ((cl_cmp.zero _ _).2 h)]
 · rw[zf h,zf (fun e=>h ((cl_cmp.zero _ _).1 e))]
structure MidS (l w:List (List UInt8)) (i0 k i:Nat):Prop where
 len:w.length=l.length
 head:w.take i=sqz (l.take (i0+k))
 rest:∀ j,i0+k-1≤j→w[j]? = l[j]?
 low:i≤i0+k-1
structure MidL (l w:List Leaf1) (i0 k i:Nat):Prop where
 len:w.length=l.length
 head:w.take i=sqz (l.take (i0+k))
 rest:∀ j,i0+k-1≤j→w[j]? = l[j]?
 low:i≤i0+k-1
theorem compact_innerL {l:List Leaf1}{i0:Nat} (hl:l.length<1000000) (hE:∀ a b,a∈l→zaz a b=some (decide (a=b))) (h0:0<i0) (hi0:i0<l.length):∀ (n k i:Nat) (w:List Leaf1),l.length-i0-k≤n→1≤k→k≤l.length-i0→MidL l w i0 k i →
   ∃ w' i',MidL l w' i0 (l.length-i0) i'∧loopT zad_l9 ((i:Int),(i0,l.length-i0),(k:Int),w,())=some (.inl ((i':Int),w',())):=by
 intro n
 induction n with
 | zero =>
   intro k i w hn hk1 hk hm
   have e:k=l.length-i0:=by omega
   subst e
   refine ⟨w,i,hm,loopT_inr ?_⟩
   unfold zad_l9
   simp only[cond_dec]
   rw[zn (by omega)]
 | succ n ih =>
   intro k i w hn hk1 hk hm
   by_cases hlt:k<l.length-i0
   · have hwl:=hm.len
     have hw:0<w.length:=by omega
     have hk0:i0+k<l.length:=by omega
     have ea:w[i0+k]? = some (l[i0+k]):=by rw[hm.rest _ (by omega),zg hk0]
     have eb:w[i0+(k-1)]? = some (l[i0+k-1]'(by omega)):=by rw[show i0+(k-1)=i0+k-1 by omega,hm.rest _ (by omega),zg (by omega)]
     have hlow:=hm.low
     have hiw:i<w.length:=by omega
     have turn:zad_l9 ((i:Int),(i0,l.length-i0),(k:Int),w,())=if l[i0+k-1]'(by omega)=l[i0+k] then some (.inl ((i:Int),(i0,l.length-i0),((k+1:Nat):Int),w,())) else some (.inl (((i+1:Nat):Int),(i0,l.length-i0),((k+1:Nat):Int),w.set i l[i0+k],())):=by
       unfold zad_l9
       simp only[cond_dec]
       rw[zp (by omega),emp_false hw]
       simp only[cond_false]
       rw[inI_nat hlt,wrap64 (n:=(k:Int)-1) (by omega) (by omega),show (k:Int)-1=((k-1:Nat):Int) by omega,inI_nat (show k-1<l.length-i0 by omega)]
       simp only[zb]
       rw[ea,eb]
       simp only[zb,hE,zm]
       rw[wrap64 (by omega) (by omega),wrap64 (by omega) (by omega)]
       by_cases hx:l[i0+k]=l[i0+k-1]'(by omega)
       · rw[zp hx.symm]
         first | (rw[zt hx]; rfl) | (rw[zp hx])
       · rw[zn (fun e=>hx e.symm),zf hx,inI_nat hiw]
         simp only[Bool.not_false,cond_true,zb]
         rw[zg hiw]
         rfl
     have hsq:=sqzS_take (l:=l) (i:=i0+k) hk0 (by omega)
     by_cases hx:l[i0+k-1]'(by omega)=l[i0+k]
     · rw[zp hx] at turn hsq
       rw[loopT_inl turn]
       exact ih (k+1) i w (by omega) (by omega) (by omega) ⟨hwl,by rw[hm.head,show i0+(k+1)=i0+k+1 by omega,hsq],fun j hj=>hm.rest j (by omega),by omega⟩
     · rw[zn hx] at turn hsq
       rw[loopT_inl turn]
       refine ih (k+1) (i+1) _ (by omega) (by omega) (by omega) ⟨by rw[List.length_set]; exact hwl,?_,fun j hj => ?_,by omega⟩
       · rw[show i0+(k+1)=i0+k+1 by omega,hsq,← hm.head,List.take_add_one,List.take_set_of_le (by omega),List.getElem?_set_self hiw]; rfl
       · rw[List.getElem?_set_ne (by omega)]
         exact hm.rest j (by omega)
   · have e:k=l.length-i0:=by omega
     subst e
     refine ⟨w,i,hm,loopT_inr ?_⟩
     unfold zad_l9
     simp only[cond_dec]
     rw[zn (by omega)]
theorem compact_outerL {l:List Leaf1} (hl:l.length<1000000) (hE:∀ a b,a∈l→zaz a b=some (decide (a=b))):∀ (n i:Nat),l.length-i≤n→1≤i→i≤l.length→sqz (l.take i)=l.take i →
   loopT zad_l4 ((i:Int),l,())=some (sqz l):=by
 intro n
 induction n with
 | zero =>
   intro i hn h1 hi hs
   have e:i=l.length:=by omega
   subst e
   rw[List.take_of_length_le (Nat.le_refl _)] at hs
   refine loopT_inr ?_
   unfold zad_l4
   simp only[cond_dec]
   rw[zn (by omega),hs]
 | succ n ih =>
   intro i hn h1 hi hs
   by_cases hlt:i<l.length
   · have hsq:=sqzS_take (l:=l) (i:=i) hlt (by omega)
     have he:l.isEmpty=false:=emp_false (by omega)
     by_cases hx:l[i-1]'(by omega)=l[i]
     · refine loopT_inr ?_
       unfold zad_l4
       simp only[cond_dec]
       rw[zp (by omega),inI_nat hlt,wrap64 (by omega) (by omega),show (i:Int)-1=((i-1:Nat):Int) by omega,inI_nat (show i-1<l.length by omega)]
       simp only[zb,zg hlt,zg (show i-1<l.length by omega),hE,zm]
       first | rw[zt hx.symm,cond_true] | rw[zp hx.symm]
       rw[he,cond_false,viewI_nat (by omega) (Nat.le_refl _)]
       simp only[zb]
       rw[zp hx] at hsq
       obtain ⟨w',i',hm,hrun⟩:=compact_innerL hl hE (by omega) hlt (l.length-i) 1 i l (by omega) (Nat.le_refl _) (by omega) ⟨rfl,by rw[hsq,hs],fun j _=>rfl,by omega⟩
       rw[show ((1:Int))=((1:Nat):Int) from rfl,hrun,bind_join_inl]
       have hwl:=hm.len
       have hlow:=hm.low
       have hle:i'≤w'.length:=by omega
       have hw:0<w'.length:=by omega
       have e2:i+(l.length-i)=l.length:=by omega
       have hhead:w'.take i'=sqz l:=by rw[hm.head,e2,List.take_of_length_le (Nat.le_refl _)]
       simp only
       rw[emp_false hw,cond_false,viewI_nat hle (Nat.le_refl _)]
       simp only[zb,cond_false]
       rw[zp (by omega)]
       simp only[zb]
       have hlen2:(List.take i' w'++List.replicate (w'.length-i') (([],0,()):Leaf1)++List.drop (i'+(w'.length-i')) w').length=w'.length:=by
         rw[List.length_append,List.length_append,List.length_take,List.length_replicate,List.length_drop]; omega
       rw[emp_false (by rw[hlen2]; exact hw),cond_false,hlen2,show ((0:Int))=((0:Nat):Int) from rfl,viewI_nat (Nat.zero_le _) hle]
       simp only[zb,cond_false]
       rw[zp (by omega)]
       simp only[Option.map_some,List.drop_zero,Nat.sub_zero]
       rw[List.append_assoc,List.take_append_of_le_length (by rw[List.length_take]; omega),List.take_take,Nat.min_self,hhead]
     · have turn : zad_l4 ((i : Int), l, ()) = some (.inl (((i + 1 : Nat) : Int), l, ())) := by
         unfold zad_l4
         simp only[cond_dec]
         rw[zp (by omega),inI_nat hlt,wrap64 (by omega) (by omega),show (i:Int)-1=((i-1:Nat):Int) by omega,inI_nat (show i-1<l.length by omega)]
         simp only[zb,zg hlt,zg (show i-1<l.length by omega),hE,zm]
         first | rw[zf (fun e=>hx e.symm),cond_false] | rw[zn (fun e=>hx e.symm)]
         rw[wrap64 (by omega) (by omega)]; rfl
       rw[loopT_inl turn]
       rw[zn hx,hs] at hsq
       refine ih (i+1) (by omega) (by omega) (by omega) ?_
       rw[hsq,List.take_add_one,zg hlt]; rfl
   · have e:i=l.length:=by omega
     subst e
     rw[List.take_of_length_le (Nat.le_refl _)] at hs
     refine loopT_inr ?_
     unfold zad_l4
     simp only[cond_dec]
     rw[zn (by omega),hs]
theorem compact_tL {l:List Leaf1} (hl:l.length<1000000) (hE:∀ a b,a∈l→zaz a b=some (decide (a=b))):zad l=some (sqz l,()):=by
 unfold zad zad_g
 simp only[cond_dec]
 match l,hl,hE with
 | [],_,_=>rfl
 | [x],_,_=>rfl
 | x::y::l,hl,hE =>
   rw[zn (by simp only[zl]; omega)]
   have:=compact_outerL hl hE (x::y::l).length 1 (by omega) (Nat.le_refl _) (by simp) rfl
   rw[show ((1:Int))=((1:Nat):Int) from rfl,this]
   rfl
def underM (q p:Path):Bool:=decide (q.take p.length=p)
theorem under_len {q p:Path} (h:underM q p=true):p.length≤q.length:=by
 unfold underM at h
 rw[decide_eq_true_eq] at h
 have:=congrArg List.length h
 rw[List.length_take] at this; omega
theorem pathUnder_t {q p:Path} (hq:q.length<1000000):zbr q p=some (underM q p):=by
 unfold zbr
 simp only[cond_dec]
 by_cases h:p.length≤q.length
 · rw[zp (by omega),show (0:Int)=((0:Nat):Int) from rfl,subI_nat (Nat.zero_le _) h,List.drop_zero]
   simp only[zb]
   rw[strsEq_t (by rw[List.length_take]; omega)]
   rfl
 · rw[zn (by omega)]
   cases hu:underM q p with
   | false=>rfl
   | true=>exact absurd (under_len hu) h
theorem refUnder_t {q p:Path} (hq:q.length<1000000):za7 q p=some (underM q p):=by
 unfold za7
 simp only[cond_dec]
 by_cases h:p.length≤q.length
 · rw[zn (by omega)]
   have hl:(q.take p.length).length=p.length:=by rw[List.length_take]; omega
   have:=loop_all2 (f:=za7_l4 q p) (l:=q.take p.length) (m:=p) (fun i=>((i:Int),())) (fun x y=>decide (x=y)) true false hl (fun i h1 h2=>by
     unfold za7_l4
     simp only[cond_dec,cond_ndec]
     rw[zp (by omega),atI_lt (show i<q.length by omega),atI_lt h2]
     simp only[zb]
     rw[List.getElem_take,wrap64 (by omega) (by omega)]
     by_cases e:q[i]=p[i]
     · rw[zp e,zp (by rw[e]; simp)]; rfl
     · rw[zn e,zn (by simpa using e)]) (by
     unfold za7_l4
     simp only[cond_dec]
     rw[zn (by omega)])
   rw[all2_dec,dec_ite] at this
   exact this
 · rw[zp (by omega)]
   cases hu:underM q p with
   | false=>rfl
   | true=>exact absurd (under_len hu) h
def leafOf (x:Item1):Leaf1:=(x.2.1.2.1,leafM x.2.1.1,())
def leavesM (l:List Item1):List Leaf1:=uniq cmpLf (l.map leafOf)
theorem leaves_t {l:List Item1} (hl:LowI l):zbk l=some (leavesM l):=by
 have hlen:=hl.len
 have:=loop_map (f:=zbk_l3 l) (l:=l) (fun i o=>((i:Int),o,())) (fun x=>[leafOf x]) (fun o=>(.inl (o,()):(List Leaf1×Unit)⊕List Leaf1)) 1 (fun x _=>Nat.le_refl _) (fun i h o ho=>by
   have hp:=(hl.path _ (zm h)).1
   unfold zbk_l3
   simp only[cond_dec]
   rw[zp (by omega),atI_lt h]
   have hc:zam l[i].2.1.2.1=some l[i].2.1.2.1:=by
     unfold zam cloneT
     rw[zp (by simp only[most]; omega)]
   simp only[zb,hc,opLeaf_t]
   rw[wrap64 (by omega) (by omega),roomT_lt (by simp; omega)]; rfl) (fun o _=>by
   unfold zbk_l3
   simp only[cond_dec]
   rw[zn (by omega)])
 unfold zbk
 rw[show ((0:Int),([]:List Leaf1),())=(((0:Nat):Int),[],()) from rfl,this,bind_join_inl]
 have e:(l.flatMap fun x=>[leafOf x])=l.map leafOf:=by
   clear this hlen hl
   induction l with
   | nil=>rfl
   | cons x l ih=>rw[List.flatMap_cons,List.map_cons,ih]; rfl
 have hp:∀ x∈l.map leafOf,x.1.length<1000000:=fun x hx=>by
   obtain ⟨y,hy,rfl⟩:=List.mem_map.1 hx
   exact (hl.path y hy).1
 obtain ⟨s,h1,h2,h3⟩:=sortT_law (c:=cmpLf) (key:=fun v:Leaf1=>v) (cmp:=fun x y=>za4 x y) (xs:=l.map leafOf) cl_cmp (fun x hx y _=>treeC_t (hp x hx)) (by rw[List.length_map]; omega)
 have hs:zaf (l.map leafOf)=some ((),s,()):=by unfold zaf; rw[h1]; rfl
 simp only[e]
 rw[hs]
 simp only[zb]
 rw[compact_tL (by rw[h2.length_eq,List.length_map]; omega) (fun a b ha=>leafEq_t' (hp a (h2.mem_iff.1 ha)))]
 simp only[zb]
 congr 1
 unfold leavesM
 refine rises_unique cl_cmp (key:=fun v:Leaf1=>v) (sqz_rises cl_cmp (fun a b=>(cl_cmp.zero a b).1) _ s rfl h3) (uniq_rises cl_cmp _) fun x => ?_
 rw[sqz_mem _ s rfl,uniq_mem cl_cmp]
 exact h2.mem_iff
def lowLf (y:Leaf1):Prop:=y.1.length<1000000∧(∀ s∈y.1,s.length<1000000)∧0≤y.2.1∧y.2.1≤3
theorem leafM_in (k:Int):0≤leafM k∧leafM k≤3:=by unfold leafM; split<;>(try split)<;>(try split)<;>omega
theorem leafOf_low {l:List Item1} (hl:LowI l) {x:Item1} (hx:x∈l):lowLf (leafOf x):=⟨(hl.path x hx).1,(hl.path x hx).2,leafM_in _⟩
theorem leavesM_mem {l:List Item1}{y:Leaf1}:y∈leavesM l↔∃ x∈l,leafOf x=y:=by
 unfold leavesM
 rw[uniq_mem cl_cmp,List.mem_map]
end Go.Proofs.YtgfpkhlabdcbmaaGreatDoor.Q
