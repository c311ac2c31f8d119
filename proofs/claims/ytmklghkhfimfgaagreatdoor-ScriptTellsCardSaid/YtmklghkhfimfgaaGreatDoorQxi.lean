import Derived.Test.YtmklghkhfimfgaaGreatDoorQxa
set_option linter.unusedVariables false
set_option linter.unusedSimpArgs false
set_option maxRecDepth 100000
namespace Go.Proofs.YtmklghkhfimfgaaGreatDoor.Q
open Go.EM Go.TY Go.Proofs Go.Proofs.YtmklghkhfimfgaaGreatDoor.Y
def lc (a:List UInt8):Nat→List UInt8→List UInt8×List UInt8×Unit
 | _,[]=>(a,[],())
 | i,b::t=>if b.toNat=32 then (a.take i,a.drop (i+1),()) else lc a (i+1) t
def w6 (r:List UInt8):List UInt8 :=
 match r with
 | b::t=>if b=32 then t else b::t
 | []=>[]
def jK (a:List UInt8):Bool→Nat→List UInt8→List UInt8×List UInt8×Unit
 | _,_,[]=>(a,[],())
 | e,i,b::t=>if 0<i∧b.toNat=34∧e=false then (a.take (i+1),w6 (a.drop (i+1)),()) else jK a (if b.toNat=92 then !e else false) (i+1) t
theorem amd {r:List UInt8} (hr:r.length<1000000):zan r [32]=some (w6 r):=by
 unfold zan zaj zal w6
 cases r with
 | nil=>simp
 | cons c t =>
   simp only[zl] at hr
   rw[ah,zp (by simp; omega),show (0:Int)=((0:Nat):Int) from rfl,show (([32]:List UInt8).length:Int)=((1:Nat):Int) from rfl,cZ (by omega) (by simp)]
   by_cases hc:c=32
   · subst hc
     rw[cZ (by simp) (by simp)]
     simp
   · simp[hc]
theorem wW {a:List UInt8} (ha:a.length<1000000) (h0:a.head? ≠ some 34):zbj a=some (lc a 0 a):=by
 have key:∀ (k i:Nat) (e:Bool),a.length-i≤k→i≤a.length→aP (eW a) (e,(i:Int),())=some (lc a i (a.drop i)):=by
   intro k
   induction k with
   | zero =>
     intro i e hk hi
     refine aB ?_
     unfold eW
     simp only[ah]
     rw[zn (by omega),List.drop_eq_nil_of_le (by omega)]
     rfl
   | succ k ih =>
     intro i e hk hi
     by_cases hlt:i<a.length
     · have hne : a[0].toNat ≠ 34 := by
         intro h
         refine h0 ?_
         cases a with
         | nil=>simp at hlt
         | cons c t =>
           simp only[List.getElem_cons_zero] at h
           simp only[List.head?_cons,Option.some.injEq]
           exact UInt8.toNat_inj.1 h
       have n34:¬ ((a[0].toNat:Int)=34):=by omega
       rw[fW hlt]
       unfold lc
       by_cases h32:a[i].toNat=32
       · rw[zp h32]
         refine aB ?_
         unfold eW
         simp only[ah,aH]
         rw[zp (by omega),show (0:Int)=((0:Nat):Int) from rfl,bf (by omega),bf hlt]
         simp only[zb,ah,aH]
         rw[zn (by omega)]
         simp only[zb,aE,ah]
         rw[zp (by omega),cZ (by omega) (by omega),wrap64 (by omega) (by omega),rO (i+1) (by omega) (by omega)]
         simp
       · rw[zn h32]
         rw[aF (b:=(if a[i].toNat=92 then !e else false,((i+1:Nat):Int),()))]
         · exact ih (i+1) _ (by omega) (by omega)
         unfold eW
         simp only[ah,aH]
         rw[zp (by omega),show (0:Int)=((0:Nat):Int) from rfl,bf (by omega),bf hlt]
         simp only[zb,ah,aH]
         rw[zn (by omega)]
         simp only[zb,aE,ah]
         rw[zn (by omega),zn (by omega)]
         simp only[zb,aE,ah]
         rw[wrap64 (by omega) (by omega)]
         by_cases h92:a[i].toNat=92
         · rw[zp h92,zp (by omega)]; rfl
         · rw[zn h92,zn (by omega)]; rfl
     · refine aB ?_
       unfold eW
       simp only[ah]
       rw[zn (by omega),List.drop_eq_nil_of_le (by omega)]
       rfl
 have:=key a.length 0 false (by omega) (by omega)
 simpa [zbj] using this
theorem afx {a:List UInt8} (ha:a.length<1000000) (h0:a.head? = some 34):zbj a=some (jK a false 0 a):=by
 have key:∀ (k i:Nat) (e:Bool),a.length-i≤k→i≤a.length→aP (eW a) (e,(i:Int),())=some (jK a e i (a.drop i)):=by
   intro k
   induction k with
   | zero =>
     intro i e hk hi
     refine aB ?_
     unfold eW
     simp only[ah]
     rw[zn (by omega),List.drop_eq_nil_of_le (by omega)]
     rfl
   | succ k ih =>
     intro i e hk hi
     by_cases hlt:i<a.length
     · have heq : a[0].toNat = 34 := by
         cases a with
         | nil=>simp at hlt
         | cons c t =>
           simp only[List.head?_cons,Option.some.injEq] at h0
           subst h0
           rfl
       rw[fW hlt]
       unfold jK
       have next:¬ (0<i∧a[i].toNat=34∧e=false)→aP (eW a) (e,(i:Int),())=some (jK a (if a[i].toNat=92 then !e else false) (i+1) (a.drop (i+1))):=by
         intro hn
         rw[aF (b:=(if a[i].toNat=92 then !e else false,((i+1:Nat):Int),()))]
         · exact ih (i+1) _ (by omega) (by omega)
         unfold eW
         simp only[ah,aH]
         rw[zp (by omega),show (0:Int)=((0:Nat):Int) from rfl,bf (by omega),bf hlt]
         simp only[zb,ah,aH]
         rw[zp (by omega)]
         simp only[zb,aE,ah,cond_false]
         rw[zp (by omega),wrap64 (by omega) (by omega)]
         have tail:(if ((a[i].toNat:Int)=92) then some (Sum.inl (!e,(i:Int)+1,())) else some (Sum.inl (false,(i:Int)+1,())):Option ((Bool×Int×Unit)⊕(List UInt8×List UInt8×Unit)))=some (.inl (if a[i].toNat=92 then !e else false,((i+1:Nat):Int),())):=by
           by_cases h92:a[i].toNat=92
           · rw[zp h92,zp (by omega)]; rfl
           · rw[zn h92,zn (by omega)]; rfl
         by_cases hi0:i=0
         · rw[zn (by omega)]
           simp only[zb,aE]
           exact tail
         · rw[zp (by omega)]
           by_cases h34:a[i].toNat=34
           · rw[zp (by omega)]
             cases e with
             | false=>exact absurd ⟨by omega,h34,rfl⟩ hn
             | true =>
               simp only[Bool.not_true,cond_false,zb,aE]
               exact tail
           · rw[zn (by omega)]
             simp only[zb,aE]
             exact tail
       by_cases hs:0<i∧a[i].toNat=34∧e=false
       · rw[zp hs]
         obtain ⟨hi0,h34,rfl⟩:=hs
         refine aB ?_
         unfold eW
         simp only[ah,aH]
         rw[zp (by omega),show (0:Int)=((0:Nat):Int) from rfl,bf (by omega),bf hlt]
         simp only[zb,ah,aH]
         rw[zp (by omega)]
         simp only[zb,aE,ah,cond_false]
         rw[zp (by omega),zp (by omega),zp (by omega)]
         simp only[Bool.not_false,cond_true]
         rw[wrap64 (by omega) (by omega),show (i:Int)+1=((i+1:Nat):Int) by omega,cZ (by omega) (by omega),rO (i+1) rfl (by omega)]
         simp only[zb]
         rw[amd (by rw[List.length_drop]; omega)]
         simp
       · rw[zn hs]
         exact next hs
     · refine aB ?_
       unfold eW
       simp only[ah]
       rw[zn (by omega),List.drop_eq_nil_of_le (by omega)]
       rfl
 have:=key a.length 0 false (by omega) (by omega)
 simpa [zbj] using this
theorem oj {a:List UInt8}{r:List UInt8}:∀ (w:List UInt8) (i:Nat),(∀ b∈w,b.toNat≠32)→lc a i (w++32::r)=(a.take (i+w.length),a.drop (i+w.length+1),())
 | [],i,_=>by simp[lc]
 | b::w,i,h=>by
   rw[List.cons_append,lc,zn (h b (List.mem_cons_self ..)),oj w (i+1) (fun x hx=>h x (List.mem_cons_of_mem _ hx)),zl,show i+1+w.length=i+(w.length+1) by omega]
theorem oi {a:List UInt8}:∀ (w:List UInt8) (i:Nat),(∀ b∈w,b.toNat≠32)→lc a i w=(a,[],())
 | [],i,_=>by simp[lc]
 | b::w,i,h=>by
   rw[lc,zn (h b (List.mem_cons_self ..)),oi w (i+1) (fun x hx=>h x (List.mem_cons_of_mem _ hx))]
theorem jJ {a r:List UInt8}:∀ (t:List UInt8) (i:Nat),0<i→jK a false i (aO t++34::r)=(a.take (i+(aO t).length+1),w6 (a.drop (i+(aO t).length+1)),())
 | [],i,hi=>by
   simp only[aO,List.flatMap_nil,List.nil_append,jK,List.length_nil,Nat.add_zero]
   rw[zp ⟨hi,by decide,trivial⟩]
 | b::t,i,hi=>by
   rw[dA]
   by_cases hb:gq b=true
   · rw[zp hb]
     have hs:b.toNat=34∨b.toNat=92:=by simpa [gq] using hb
     simp only[List.cons_append,List.nil_append,zl]
     rw[jK,zn (by intro h; exact absurd h.2.1 (by decide)),zp (by decide),jK,zn (by intro h; exact absurd h.2.2 (by decide))]
     have e:(if b.toNat=92 then !(!false) else false)=false:=by split<;>rfl
     rw[e,jJ t (i+1+1) (by omega)]
     rw[show i+1+1+(aO t).length=i+((aO t).length+1+1) by omega]
   · rw[zn hb]
     have hs:¬ b.toNat=34∧¬ b.toNat=92:=by simpa [gq] using hb
     simp only[List.cons_append,List.nil_append,zl]
     rw[jK,zn (fun h=>hs.1 h.2.1),zn hs.2,jJ t (i+1) (by omega)]
     rw[show i+1+(aO t).length=i+((aO t).length+1) by omega]
def aW:List (List UInt8)→List UInt8
 | []=>[]
 | a::l=>32::(a++aW l)
def fb:List (List UInt8)→List UInt8
 | []=>[]
 | a::l=>a++aW l
def xM (w:List UInt8):Prop:=(∀ b∈w,b.toNat≠32)∧w.head? ≠ some 34
theorem dD {w:List UInt8}{l:List (List UInt8)} (hw:xM w) (hl:(w++aW l).length<1000000):zbj (w++aW l)=some (w,fb l,()):=by
 obtain ⟨h1,h2⟩:=hw
 have h0:(w++aW l).head? ≠ some 34:=by
   cases w with
   | nil=>cases l<;>simp[aW]
   | cons c t=>simpa using h2
 rw[wW hl h0]
 cases l with
 | nil =>
   simp only[aW,List.append_nil,fb]
   rw[oi w 0 h1]
 | cons a l =>
   simp only[aW,fb]
   rw[oj w 0 h1]
   simp
theorem tA {t:List UInt8}{l:List (List UInt8)} (hl:(34::(aO t++34::aW l)).length<1000000):zbj (34::(aO t++34::aW l))=some (34::(aO t++[34]),fb l,()):=by
 rw[afx hl rfl,jK,zn (by omega),zn (by decide),jJ t 1 (by omega)]
 congr 1
 have e1:(34::(aO t++34::aW l)).take (1+(aO t).length+1)=34::(aO t++[34]):=by
   rw[show 1+(aO t).length+1=(aO t).length+1+1 by omega,List.take_succ_cons,List.take_append]
   simp[List.take_of_length_le]
 have e2:(34::(aO t++34::aW l)).drop (1+(aO t).length+1)=aW l:=by
   rw[show 1+(aO t).length+1=(aO t).length+1+1 by omega,List.drop_succ_cons,List.drop_append]
   simp
 rw[e1,e2]
 cases l<;>simp[aW,fb,w6]
theorem mh {l:List (List UInt8)} (hl:l.length<1000) {k:Nat} (hk:k<l.length) (hn:∀ j (hj:j<k),l[j]'(by omega)≠l[k]):zac l l[k]=some (k:Int):=by
 have key:∀ (n i:Nat),k-i≤n→i≤k→aP (og l l[k]) ((i:Int),())=some (k:Int):=by
   intro n
   have fin:∀ i:Nat,i=k→aP (og l l[k]) ((i:Int),())=some (k:Int):=by
     intro i e
     subst e
     refine aB ?_
     unfold og
     rw[ah,zp (by omega),bf hk]
     simp
   induction n with
   | zero=>intro i h1 h2; exact fin i (by omega)
   | succ n ih =>
     intro i h1 h2
     by_cases hi:i<k
     · rw[aF (b:=(((i+1:Nat):Int),()))]
       · exact ih (i+1) (by omega) (by omega)
       unfold og
       rw[ah,zp (by omega),bf (show i<l.length by omega)]
       simp only[zb,ah]
       rw[zn (fun e=>hn i hi e.symm),wrap64 (by omega) (by omega)]
       rfl
     · exact fin i (by omega)
 simpa [zac] using key k 0 (by omega) (by omega)
end Go.Proofs.YtmklghkhfimfgaaGreatDoor.Q
namespace Go.Proofs.YtmklghkhfimfgaaGreatDoor.Q
open Go.EM Go.TY Go.Proofs Go.Proofs.YtmklghkhfimfgaaGreatDoor.Y
theorem amw {n:Nat}{k:Nat} (h:k<n):inI n (k:Int)=some k:=by
 unfold inI
 rw[zp (by omega)]
 rfl
theorem oB {a:List UInt8} (ha:a.length<1000000) {i:Nat} (hi:i<a.length) {e:Bool}{pre:List (List UInt8)}{cur:List UInt8} (hp:pre.length<1000000) (hc:cur.length<1000000)
   (h1:e=true→a[i].toNat=47∨a[i].toNat=92) (h2:e=false→¬ a[i].toNat=47∧¬ a[i].toNat=92) :
   eV a (e,(i:Int),pre++[cur],())=some (.inl (false,((i+1:Nat):Int),pre++[cur++[a[i]]],())):=by
 have fin : ((inI (pre ++ [cur]).length (IntKind.wrap .i64 (((pre ++ [cur]).length : Int) - 1))).bind fun i6 =>
     ((pre++[cur])[i6]?).bind fun x7 =>
     (catT x7 (([(a[i].toNat:Int)]:List Int).map fun n=>UInt8.ofNat n.toNat)).bind fun s8 =>
     (inI (pre++[cur]).length (IntKind.wrap .i64 (((pre++[cur]).length:Int)-1))).bind fun i9 =>
     ((pre++[cur])[i9]?).bind fun x10 =>
     some (.inl (false,(IntKind.wrap .i64 ((i:Int)+1)),((pre++[cur]).set i9 s8),())):Option ((Bool×Int×List (List UInt8)×Unit)⊕((Bool×List (List UInt8)×Unit)⊕(List (List UInt8)×Bool×Unit))))=some (.inl (false,((i+1:Nat):Int),pre++[cur++[a[i]]],())):=by
   have hlen:(pre++[cur]).length=pre.length+1:=by simp
   rw[hlen,wrap64 (by omega) (by omega),wrap64 (by omega) (by omega),show (((pre.length+1:Nat):Int)-1)=(pre.length:Int) by omega,amw (by omega)]
   have hg:(pre++[cur])[pre.length]? = some cur:=by simp
   simp only[zb,hg,List.map_cons,List.map_nil,Int.toNat_natCast]
   rw[az (by simp; omega)]
   simp
 unfold eV
 simp only[ah,aH]
 rw[zp (by omega),bf hi]
 simp only[zb]
 cases e with
 | true =>
   have:=h1 rfl
   simp only[cond_true,Bool.not_true,cond_false]
   rcases this with h | h
   · rw[zp (by omega)]
     simp only[zb,aE,cond_false]
     exact fin
   · rw[zn (by omega)]
     have:(!decide ((a[i].toNat:Int)=92))=false:=by rw[zt (by omega)]; rfl
     simp only[zb,aE,this,cond_false]
     exact fin
 | false =>
   obtain ⟨h3,h4⟩:=h2 rfl
   simp only[cond_true,Bool.not_false,cond_false,zb,aE]
   rw[zn (by omega),zn (by omega)]
   simp only[zb,aE]
   exact fin
theorem xb {a:List UInt8} (ha:a.length<1000000) {i:Nat} (hi:i<a.length) {o:List (List UInt8)} (h:a[i].toNat=92) :
   eV a (false,(i:Int),o,())=some (.inl (true,((i+1:Nat):Int),o,())):=by
 unfold eV
 simp only[ah,aH]
 rw[zp (by omega),bf hi]
 simp only[zb,cond_false,aE,Bool.not_false,cond_true]
 rw[zp (by omega),wrap64 (by omega) (by omega)]
 rfl
theorem qh {a:List UInt8} (ha:a.length<1000000) {i:Nat} (hi:i<a.length) {o:List (List UInt8)} (ho:o.length<1000000) (h:a[i].toNat=47) :
   eV a (false,(i:Int),o,())=some (.inl (false,((i+1:Nat):Int),o++[[]],())):=by
 unfold eV
 simp only[ah,aH]
 rw[zp (by omega),bf hi]
 simp only[zb,cond_false,aE,Bool.not_false,cond_true]
 rw[zn (by omega),zp (by omega),d5 (by simp; omega),wrap64 (by omega) (by omega)]
 rfl
theorem ix {b:UInt8}{s:List UInt8}:bj (b::s)=(if b.toNat=47∨b.toNat=92 then [92,b] else [b])++bj s:=by unfold bj; rw[List.flatMap_cons]
theorem hH {a t:List UInt8}{i:Nat}{b:UInt8} (h:a.drop i=b::t):∃ hi:i<a.length,a[i]=b∧a.drop (i+1)=t:=by
 have hi:i<a.length:=by
   rcases Nat.lt_or_ge i a.length with h' | h'
   · exact h'
   · rw[List.drop_eq_nil_of_le h'] at h; cases h
 rw[fW hi] at h
 injection h with h1 h2
 exact ⟨hi,h1,h2⟩
theorem fL {a r:List UInt8} (ha:a.length<1000000) {pre:List (List UInt8)} (hp:pre.length<1000000):∀ (x:List UInt8) (i:Nat) (cur:List UInt8),cur.length+x.length<1000000→a.drop i=bj x++r →
   aP (eV a) (false,(i:Int),pre++[cur],())=aP (eV a) (false,((i+(bj x).length:Nat):Int),pre++[cur++x],())
 | [],i,cur,_,_=>by simp[bj]
 | b::x,i,cur,hc,h=>by
   simp only[zl] at hc
   rw[ix] at h
   by_cases hb:b.toNat=47∨b.toNat=92
   · rw[zp hb] at h
     simp only[List.cons_append,List.nil_append] at h
     obtain ⟨hi,e1,h⟩:=hH h
     obtain ⟨hi2,e2,h⟩:=hH h
     rw[aF (xb ha hi (by rw[e1]; rfl)),aF (oB ha hi2 hp (by omega) (fun _=>by rw[e2]; exact hb) (fun h=>by cases h)),e2]
     rw[fL ha hp x (i+1+1) (cur++[b]) (by simp; omega) h,ix,zp hb]
     simp only[List.append_assoc,List.cons_append,List.nil_append,zl,List.length_append]
     rw[show i+1+1+(bj x).length=i+((bj x).length+1+1) by omega]
   · rw[zn hb] at h
     simp only[List.cons_append,List.nil_append] at h
     obtain ⟨hi,e1,h⟩:=hH h
     rw[aF (oB ha hi hp (by omega) (fun h=>by cases h) (fun _=>by rw[e1]; omega)),e1]
     rw[fL ha hp x (i+1) (cur++[b]) (by simp; omega) h,ix,zn hb]
     simp only[List.append_assoc,List.cons_append,List.nil_append,zl,List.length_append]
     rw[show i+1+(bj x).length=i+((bj x).length+1) by omega]
theorem oS {x:List UInt8}:eb [x]=bj x:=by simp[eb,Lib.join]
theorem lY {x y:List UInt8}{p:Path}:eb (x::y::p)=bj x++47::eb (y::p):=by
 unfold eb
 rw[List.map_cons,List.map_cons]
 simp[Lib.join]
theorem lL {a:List UInt8} (ha:a.length<1000000):∀ (p:Path) (x:List UInt8) (i:Nat) (pre:List (List UInt8)),pre.length+p.length<100000→(∀ z∈x::p,z.length<100000)→a.drop i=eb (x::p) →
   aP (eV a) (false,(i:Int),pre++[[]],())=some (.inl (false,pre++x::p,()))
 | [],x,i,pre,hl,hz,h=>by
   rw[oS] at h
   have hx:=hz x (List.mem_cons_self ..)
   rw[fL (r:=[]) ha (by omega) x i [] (by simp; omega) (by rw[h,List.append_nil])]
   refine aB ?_
   unfold eV
   have hi:a.length-i=(bj x).length:=by rw[← h,List.length_drop]
   have hn:¬ (i+(bj x).length<a.length):=by omega
   simp only[ah]
   rw[zn (by omega)]
   simp
 | y::p,x,i,pre,hl,hz,h=>by
   rw[lY] at h
   have hx:=hz x (List.mem_cons_self ..)
   simp only[zl] at hl
   rw[fL (r:=47::eb (y::p)) ha (by omega) x i [] (by simp; omega) h]
   have h2:a.drop (i+(bj x).length)=47::eb (y::p):=by
     rw[← List.drop_drop,h,List.drop_left]
   obtain ⟨hi,e1,h3⟩:=hH h2
   rw[aF (qh ha hi (by simp; omega) (by rw[e1]; rfl)),List.nil_append,lL ha p y (i+(bj x).length+1) (pre++[x]) (by simp; omega) (fun z hz'=>hz z (List.mem_cons_of_mem _ hz')) h3]
   simp
theorem xa {p:Path} (hp:p≠[]) (h1:p.length≤12) (h:∀ x∈p,x.length≤120):zcg (eb p)=some (p,true,()):=by
 cases p with
 | nil=>exact absurd rfl hp
 | cons x p =>
   have hl:=fm h1 h
   simp only[zl] at h1
   have:=lL (a:=eb (x::p)) (by omega) p x 0 [] (by simp; omega) (fun z hz=>by have:=h z hz; omega) rfl
   unfold zcg
   rw[List.nil_append,List.nil_append] at this
   rw[show (0:Int)=((0:Nat):Int) from rfl,this]
   rfl
theorem oR {p:Path} (hc:ci p=0) (h1:p.length≤12) (h:∀ x∈p,x.length≤120):zcj (eb p)=some (p,0,()):=by
 have hp:p≠[]:=by rintro rfl; cases hc
 have hne:eb p≠[]:=by
   intro e
   have hs:=xa hp h1 h
   rw[e] at hs
   have h0:zcg []=some ([[]],true,()):=by
     unfold zcg
     rw[aB (x:=.inl (false,[[]],())) (by unfold eV; simp)]
     rfl
   rw[h0] at hs
   simp only[Option.some.injEq,Prod.mk.injEq,and_true] at hs
   rw[← hs] at hc
   simp[ci,fc,dz] at hc
 unfold zcj
 rw[xa hp h1 h]
 simp only[zb,Bool.not_true,cond_false,ah]
 rw[zn hne,qV (fun x hx=>by have:=h x hx; omega),hc]
 rfl
end Go.Proofs.YtmklghkhfimfgaaGreatDoor.Q
namespace Go.Proofs.YtmklghkhfimfgaaGreatDoor.Q
open Go.EM Go.TY Go.Proofs Go.Proofs.YtmklghkhfimfgaaGreatDoor.Y
abbrev ey:=Int×Int×Int×Int×Op1×Dot1×Unit
def hasR (k:Int):Bool:=decide (k<11∨14<k)
def hasN (k:Int):Bool:=decide (9≤k∧k≤16)
def hasU (k:Int):Bool:=decide (k=1∨(5≤k∧k≤8)∨k=14)
def hasD (k:Int):Bool:=decide (k=7∨k=8)
theorem abE (k:Int):zcp k 114=some (hasR k):=by
 unfold zcp hasR
 simp only[ah]
 rw[zp trivial]
 by_cases h:k<11
 · rw[zp h,zt (by omega)]
 · rw[zn h]; congr 1; rw[decide_eq_decide]; omega
theorem abF (k:Int):zcp k 110=some (hasN k):=by
 unfold zcp hasN
 simp only[ah]
 rw[zn (by decide),zp trivial]
 by_cases h:k≥9
 · rw[zp h]; congr 1; rw[decide_eq_decide]; omega
 · rw[zn h,zf (by omega)]
theorem abD (k:Int):zcp k 117=some (hasU k):=by
 unfold zcp hasU
 simp only[ah]
 rw[zn (by decide),zn (by decide),zp trivial]
 by_cases h:k=1
 · rw[zp h,zt (by omega)]
 · rw[zn h]
   by_cases h5:k≥5
   · rw[zp h5]
     by_cases h8:k≤8
     · rw[zp h8,zt (by omega)]
     · rw[zn h8]; congr 1; rw[decide_eq_decide]; omega
   · rw[zn h5]; congr 1; rw[decide_eq_decide]; omega
theorem abG (k:Int):zcp k 100=some (hasD k):=by
 unfold zcp hasD
 simp only[ah]
 rw[zn (by decide),zn (by decide),zn (by decide),zp trivial]
 by_cases h:k=7
 · rw[zp h,zt (by omega)]
 · rw[zn h]; congr 1; rw[decide_eq_decide]; omega
def offB (p b:Int):Prop:=(IntKind.wrap .i64 ((BitVec.ofInt (IntKind.bits .i64) p &&& BitVec.ofInt (IntKind.bits .i64) b).toNat))=0
instance (p b:Int):Decidable (offB p b):=inferInstanceAs (Decidable (_=_))
def dm (k:Int):Int:=if k=1∨k=5∨k=6 then 3 else if k=2 then 17 else if k=7∨k=8 then 11 else if k=9∨k=10∨k=15∨k=16 then 5 else if k=11∨k=12∨k=13 then 4 else if k=14 then 6 else 1
theorem xN:∀ x:Fin 20,zba (x.val:Int)=some (dm x.val)∧(offB (dm x.val) 1↔hasR x.val=false)∧(offB (dm x.val) 2↔hasU x.val=false)∧(offB (dm x.val) 4↔hasN x.val=false)∧(offB (dm x.val) 8↔hasD x.val=false)∧(offB (dm x.val) 16↔¬ ((x.val:Nat):Int)=2):=by decide
theorem nl {k:Int} (h0:0≤k) (h1:k≤19):zba k=some (dm k)∧(offB (dm k) 1↔hasR k=false)∧(offB (dm k) 2↔hasU k=false)∧(offB (dm k) 4↔hasN k=false)∧(offB (dm k) 8↔hasD k=false)∧(offB (dm k) 16↔¬ k=2):=by
 obtain ⟨n,rfl⟩:=Int.eq_ofNat_of_zero_le h0
 exact xN ⟨n,by omega⟩
def numM (n:Int) (h:Bool):Bool:=if h=true then decide (0≤n∧n≤2147483647) else decide (n=0)
theorem nv {n p b:Int}{h:Bool} (hb:offB p b↔h=false):zaz n b p=some (numM n h):=by
 unfold zaz numM
 cases h with
 | false =>
   have:offB p b:=hb.2 rfl
   unfold offB at this
   rw[this]
   simp
 | true =>
   have:¬ offB p b:=fun e=>by cases hb.1 e
   unfold offB at this
   rw[zf this,zp rfl]
   simp only[cond_false,ah]
   by_cases h0:n≥0
   · rw[zp h0]; congr 1; rw[decide_eq_decide]; omega
   · rw[zn h0,zf (by omega)]
theorem qq (n:Int) (h:Bool):za9 n h=some (numM n h):=by
 unfold za9 numM
 simp only[ah]
 cases h with
 | false =>
   by_cases h0:n=0
   · rw[zp h0,zt h0]; rfl
   · rw[zn h0,zf h0]; rfl
 | true =>
   rw[zp rfl,cond_true]
   by_cases h0:n=0
   · rw[zp h0,zt (by omega)]
   · rw[zn h0]
     by_cases h1:n>0
     · rw[zp h1]; congr 1; rw[decide_eq_decide]; omega
     · rw[zn h1,zf (by omega)]
theorem aaw (o:Op1):zcy o=some (jn o):=by
 obtain ⟨k,p,v,n,sn,⟨⟩⟩:=o
 unfold zcy jn
 simp only[ah,yN]
 have ez:((0,0,[],()):Val)=zeroV:=rfl
 simp only[ez]
 have e1:((p.length:Int)=0)↔p=[]:=by rw[show ((p.length:Int)=0)↔p.length=0 by omega,List.length_eq_zero_iff]
 have e2:((sn.length:Int)=0)↔sn=[]:=by rw[show ((sn.length:Int)=0)↔sn.length=0 by omega,List.length_eq_zero_iff]
 simp only[e1,e2]
 by_cases h1:k=0<;>by_cases h2:p=[]<;>by_cases h3:v=zeroV<;>by_cases h4:n=0<;>by_cases h5:sn=[]<;>simp[h1,h2,h3,h4,h5]
theorem ud {l:List Ref1} (hl:l.length<1000000):∃ b,zcx l=some b:=by
 have key:∀ (k i:Nat),l.length-i≤k→i≤l.length→∃ b,aP (iU l) ((i:Int),())=some b:=by
   intro k
   have fin:∀ i:Nat,i=l.length→∃ b,aP (iU l) ((i:Int),())=some b:=by
     intro i e
     refine ⟨true,aB ?_⟩
     unfold iU
     simp only[ah]
     rw[zn (by omega)]
   induction k with
   | zero=>intro i h1 h2; exact fin i (by omega)
   | succ k ih =>
     intro i h1 h2
     by_cases hi:i<l.length
     · have turn : iU l ((i : Int), ()) = some (.inr false) ∨ iU l ((i : Int), ()) = some (.inl (((i + 1 : Nat) : Int), ())) := by
         unfold iU
         simp only[ah]
         rw[zp (by omega),bf hi]
         simp only[zb,iP]
         have step:∀ b:Bool,((cond b (some (Sum.inr false)) (if (i:Int)>0 then (atI l (IntKind.wrap .i64 ((i:Int)-1))).bind fun x5=>(zcw x5 l[i]).bind fun r6=>if r6≥0 then some (Sum.inr false) else some (Sum.inl (IntKind.wrap .i64 ((i:Int)+1),())) else some (Sum.inl (IntKind.wrap .i64 ((i:Int)+1),())))):Option ((Int×Unit)⊕Bool))=some (.inr false)∨((cond b (some (Sum.inr false)) (if (i:Int)>0 then (atI l (IntKind.wrap .i64 ((i:Int)-1))).bind fun x5=>(zcw x5 l[i]).bind fun r6=>if r6≥0 then some (Sum.inr false) else some (Sum.inl (IntKind.wrap .i64 ((i:Int)+1),())) else some (Sum.inl (IntKind.wrap .i64 ((i:Int)+1),())))):Option ((Int×Unit)⊕Bool))=some (.inl (((i+1:Nat):Int),())):=by
           intro b
           cases b with
           | true=>exact .inl rfl
           | false =>
             rw[cond_false]
             by_cases h0:(i:Int)>0
             · rw[zp h0,wrap64 (by omega) (by omega),show (i:Int)-1=((i-1:Nat):Int) by omega,bf (by omega)]
               simp only[zb,yS]
               split
               · exact .inl rfl
               · right; rw[wrap64 (by omega) (by omega)]; rfl
             · rw[zn h0,wrap64 (by omega) (by omega)]; exact .inr rfl
         cases bZ l[i].1 with
         | false =>
           simp only[Bool.not_false,cond_true,zb]
           exact .inl trivial
         | true =>
           simp only[Bool.not_true,cond_false,zb]
           cases decide (l[i].2.1<0) with
           | true =>
             simp only[cond_true,zb]
             exact .inl trivial
           | false =>
             simp only[cond_false,zb]
             exact step _
       rcases turn with h | h
       · exact ⟨_,aB h⟩
       · rw[aF h]
         exact ih (i+1) (by omega) (by omega)
     · exact fin i (by omega)
 exact key l.length 0 (by omega) (by omega)
theorem qw {o:Op1} (h:cD o):∃ c,zcv o=some c:=by
 obtain ⟨s1,s2,s3,s4⟩:=h
 have hv:=rI (o:=o) (by omega)
 have ha:=sO o
 obtain ⟨b,hb⟩:=ud (l:=o.2.2.2.2.1) (by omega)
 unfold zcv
 simp only[ah,aH,qV (p:=o.2.1) (fun x hx=>by have:=s2 x hx; omega),hv,ha,hb,zb]
 generalize (if o.1=3∨o.1=5 then decide (o.2.2.1=zeroV) else bP o.2.2.1)=bv
 generalize (if o.1=3 then decide (o.2.2.2.1≠0 ∧ -2147483647≤o.2.2.2.1∧o.2.2.2.1≤2147483647) else decide (o.2.2.2.1=0))=ba
 by_cases a1:o.1<1
 · exact ⟨_,zp a1⟩
 rw[zn a1]
 by_cases a2:o.1>5
 · exact ⟨_,zp a2⟩
 rw[zn a2]
 by_cases a3:ci o.2.1=0
 · rw[zp a3]
   by_cases k1:o.1=1<;>by_cases k4:o.1=4<;>by_cases k5:o.1=5<;>cases bv<;>cases ba<;>cases b<;>by_cases l0:(o.2.2.2.2.1.length:Int)>0<;>by_cases l2:(o.2.2.2.2.1.length:Int)>256<;>simp[k1,k4,k5,l0,l2,aE]<;>split<;>exact ⟨_,rfl⟩
 · rw[zn a3]
   exact ⟨_,rfl⟩
theorem po {c:UInt8}:∀ (l:List UInt8) (i:Nat),bc c l i≥0↔c∈l
 | [],i=>by simp[bc]
 | b::l,i=>by
   simp only[bc,List.mem_cons]
   cases e:Nat.beq b.toNat c.toNat with
   | true =>
     rw[Nat.beq_eq] at e
     have:=UInt8.toNat_inj.1 e
     subst this
     simp
   | false =>
     have hn:¬ c=b:=by
       rintro rfl
       have:Nat.beq c.toNat c.toNat=true:=by rw[Nat.beq_eq]
       rw[this] at e; cases e
     rw[cond_false,po l (i+1)]
     simp[hn]
theorem uK (s:List UInt8):zat s [10]=some (decide (10∈s)):=by
 unfold zat zax
 by_cases h:s=[10]
 · subst h
   have:zap [10] [10]=some 0:=by
     unfold zap
     simp only[ah,zl,List.length_nil]
     rw[zn (by decide)]; rfl
   rw[this]
   rfl
 · have : zap s [10] = some (bc 10 s 0) := by
     unfold zap zam indexByte
     simp only[ah,zl,List.length_nil]
     rw[zn (by decide),zn (fun e=>h e.symm),zp (by decide)]
     rfl
   rw[this]
   simp only[zb]
   congr 1
   rw[decide_eq_decide]
   exact po s 0
theorem amy {s:List UInt8} (hs:s.length<1000000):zce s=some (decide (10∈s)):=by
 have:=fS (f:=ry s) (l:=s) (fun i=>((i:Int),())) (fun b=>decide (b≠10)) false true (fun i h=>by
   unfold ry
   simp only[ah]
   rw[zp (by omega),bf h]
   simp only[zb]
   by_cases hb:s[i]=10
   · rw[hb,zp (by rfl)]
     simp
   · have:¬ ((s[i].toNat:Int)=10):=fun e=>hb (UInt8.toNat_inj.1 (by show s[i].toNat=10; omega))
     rw[zn this,wrap64 (by omega) (by omega)]
     simp[hb]) (by
   unfold ry
   simp only[ah]
   rw[zn (by omega)])
 unfold zce
 rw[show (0:Int)=((0:Nat):Int) from rfl,this]
 congr 1
 by_cases h:(10:UInt8)∈s
 · rw[zt h,zn]
   intro e
   have:=List.all_eq_true.1 e 10 h
   simp at this
 · rw[zf h,zp]
   rw[List.all_eq_true]
   intro x hx
   rw[decide_eq_true_eq]
   rintro rfl
   exact h hx
end Go.Proofs.YtmklghkhfimfgaaGreatDoor.Q
namespace Go.Proofs.YtmklghkhfimfgaaGreatDoor.Q
open Go.EM Go.TY Go.Proofs Go.Proofs.YtmklghkhfimfgaaGreatDoor.Y
noncomputable def dn (s:ey):Bool :=
 decide (1≤s.1∧s.1≤19)&&numM s.2.1 (hasR s.1)&&numM s.2.2.2.1 (hasN s.1)&&numM s.2.2.1 (hasU s.1) &&
 (if hasD s.1=true then bZ s.2.2.2.2.2.1 else decide (s.2.2.2.2.2.1=(0,0,()))) &&
 (if s.1=2 then decide (opM s.2.2.2.2.1=0)&&decide (s.2.2.2.2.1.2.2.2.2.1=[]) && !decide (10∈s.2.2.2.2.1.2.2.1.2.2.1) else jn s.2.2.2.2.1)
theorem tM {d:Dot1} (h:bZ d=true):d≠(0,0,()):=by
 rintro rfl
 exact absurd (fP h).2.1 (by decide)
theorem af0 {s:ey} (h:cD s.2.2.2.2.1):(if ¬ s.1=2 then zcb s.2.2.2.2.1 else (zbg s.2.2.2.2.1).bind fun r14 =>
   if r14=0 then (if (s.2.2.2.2.1.2.2.2.2.1.length:Int)=0 then (zce s.2.2.2.2.1.2.2.1.2.2.1).bind fun r15=>some (!r15) else some false) else some false) =
   some (if s.1=2 then decide (opM s.2.2.2.2.1=0)&&decide (s.2.2.2.2.1.2.2.2.2.1=[]) && !decide (10∈s.2.2.2.2.1.2.2.1.2.2.1) else jn s.2.2.2.2.1):=by
 by_cases h2:s.1=2
 · rw[zn (fun e=>e h2),zp h2,afJ h]
   simp only[zb]
   by_cases h0:opM s.2.2.2.2.1=0
   · rw[zp h0,zt h0]
     have e2:((s.2.2.2.2.1.2.2.2.2.1.length:Int)=0)↔s.2.2.2.2.1.2.2.2.2.1=[]:=by rw[show ((s.2.2.2.2.1.2.2.2.2.1.length:Int)=0)↔s.2.2.2.2.1.2.2.2.2.1.length=0 by omega,List.length_eq_zero_iff]
     rw[amy (by have:=h.2.2.1; omega)]
     simp only[e2]
     by_cases hs:s.2.2.2.2.1.2.2.2.2.1=[]
     · rw[zp hs,zt hs]; simp
     · rw[zn hs,zf hs]; simp
   · rw[zn h0,zf h0]; simp
 · rw[zp h2,zn h2,amx]
theorem af1 {s:ey} (h:cD s.2.2.2.2.1):(if ¬ s.1=2 then zcy s.2.2.2.2.1 else (zcv s.2.2.2.2.1).bind fun r14 =>
   if r14=0 then (if (s.2.2.2.2.1.2.2.2.2.1.length:Int)=0 then (zat s.2.2.2.2.1.2.2.1.2.2.1 [10]).bind fun r15=>some (!r15) else some false) else some false) =
   some (if s.1=2 then decide (opM s.2.2.2.2.1=0)&&decide (s.2.2.2.2.1.2.2.2.2.1=[]) && !decide (10∈s.2.2.2.2.1.2.2.1.2.2.1) else jn s.2.2.2.2.1):=by
 by_cases h2:s.1=2
 · rw[zn (fun e=>e h2),zp h2]
   by_cases hs:s.2.2.2.2.1.2.2.2.2.1=[]
   · rw[xV h hs]
     simp only[zb,uK]
     by_cases h0:opM s.2.2.2.2.1=0
     · rw[zp h0,zt h0,zp (by rw[hs]; rfl),zt hs]
       simp
     · rw[zn h0,zf h0]; simp
   · obtain ⟨c,hc⟩:=qw h
     have hl:¬ (s.2.2.2.2.1.2.2.2.2.1.length:Int)=0:=by
       intro e
       exact hs (List.length_eq_zero_iff.1 (by omega))
     rw[hc,zf hs]
     simp only[zb,zn hl]
     simp
 · rw[zp h2,zn h2,aaw]
theorem j4 {s:ey} (h:cD s.2.2.2.2.1):zbm s=some (dn s):=by
 have hl:=af0 h
 unfold zbm dn
 generalize hE:(if s.1=2 then decide (opM s.2.2.2.2.1=0)&&decide (s.2.2.2.2.1.2.2.2.2.1=[]) && !decide (10∈s.2.2.2.2.1.2.2.1.2.2.1) else jn s.2.2.2.2.1)=last at hl ⊢
 simp only[abE,abF,abD,abG,qq,lT,agf,zb,ah,aH]
 by_cases h1:s.1<1
 · rw[zp h1,zf (by omega:¬ (1≤s.1∧s.1≤19))]
   rfl
 rw[zn h1]
 simp only[zb]
 by_cases h2:s.1>19
 · rw[zt h2,zf (by omega:¬ (1≤s.1∧s.1≤19))]
   rfl
 rw[zf h2,zt (⟨by omega,by omega⟩:(1≤s.1∧s.1≤19))]
 simp only[cond_false,zb,Bool.true_and]
 cases numM s.2.1 (hasR s.1) with
 | false=>simp
 | true =>
   cases numM s.2.2.2.1 (hasN s.1) with
   | false=>simp
   | true =>
     cases numM s.2.2.1 (hasU s.1) with
     | false=>simp
     | true =>
       simp only[Bool.not_true,cond_false,Bool.true_and]
       have fin:(((if ¬ s.1=2 then (zcb s.2.2.2.2.1).bind fun r13=>some r13 else (zbg s.2.2.2.2.1).bind fun r14 =>
   if r14 = 0 then (if (s.2.2.2.2.1.2.2.2.2.1.length : Int) = 0 then (zce s.2.2.2.2.1.2.2.1.2.2.1).bind fun r15 => some (!r15) else some false) else some false)) : Option Bool) = some last := by
         rw[← hl]
         simp
       have fin2:(((if s.1=2 then (zbg s.2.2.2.2.1).bind fun r14 =>
   if r14 = 0 then (if (s.2.2.2.2.1.2.2.2.2.1.length : Int) = 0 then (zce s.2.2.2.2.1.2.2.1.2.2.1).bind fun r15 => some (!r15) else some false) else some false else (zcb s.2.2.2.2.1).bind fun r13 => some r13)) : Option Bool) = some last := by
         rw[← fin]
         by_cases h2:s.1=2<;>simp[h2]
       by_cases hd:hasD s.1=true
       · rw[zp hd,hd]
         by_cases hz:s.2.2.2.2.2.1=(0,0,())
         · have : bZ s.2.2.2.2.2.1 = false := by
             cases e:bZ s.2.2.2.2.2.1 with
             | false=>rfl
             | true=>exact absurd hz (tM e)
           simp[hz,this,aE]
           intro e
           rw[hz] at this
           rw[this] at e; cases e
         · rw[zf hz]
           cases e:bZ s.2.2.2.2.2.1 with
           | false=>simp[aE]
           | true =>
             simp only[Bool.not_false,beq_self_eq_true,Bool.not_true,cond_false,cond_true,zb,aE,Bool.true_and]
             exact fin2
       · have hd':hasD s.1=false:=by simpa using hd
         rw[zn hd,hd']
         by_cases hz:s.2.2.2.2.2.1=(0,0,())
         · rw[zt hz]
           simp only[Bool.not_true,beq_self_eq_true,cond_false,zb,aE,Bool.true_and]
           exact fin2
         · rw[zf hz]
           simp[aE]
theorem rT {s:ey} (h:cD s.2.2.2.2.1):za5 s=some (dn s):=by
 have hl:=af1 h
 unfold za5 dn
 generalize hE:(if s.1=2 then decide (opM s.2.2.2.2.1=0)&&decide (s.2.2.2.2.1.2.2.2.2.1=[]) && !decide (10∈s.2.2.2.2.1.2.2.1.2.2.1) else jn s.2.2.2.2.1)=last at hl ⊢
 by_cases h1:s.1<1
 · rw[zt h1,zf (by omega:¬ (1≤s.1∧s.1≤19))]
   rfl
 rw[zf h1]
 by_cases h2:s.1>19
 · rw[zt h2,zf (by omega:¬ (1≤s.1∧s.1≤19))]
   rfl
 rw[zf h2,zt (⟨by omega,by omega⟩:(1≤s.1∧s.1≤19))]
 obtain ⟨p0,p1,p2,p4,p8,p16⟩:=nl (k:=s.1) (by omega) (by omega)
 simp only[cond_false,p0,zb,nv p1,nv p2,nv p4,Bool.true_and]
 cases numM s.2.1 (hasR s.1) with
 | false=>simp
 | true =>
   cases hU:numM s.2.2.1 (hasU s.1) with
   | false=>simp
   | true =>
     cases hN:numM s.2.2.2.1 (hasN s.1) with
     | false=>simp
     | true =>
       simp only[Bool.not_true,cond_false,Bool.true_and]
       have fin : (cond (decide (offB (dm s.1) 16)) ((zcy s.2.2.2.2.1).bind fun r8 => some r8) ((zcv s.2.2.2.2.1).bind fun r9 =>
           cond (decide (r9=0)) (cond (decide ((s.2.2.2.2.1.2.2.2.2.1.length:Int)=0)) ((zat s.2.2.2.2.1.2.2.1.2.2.1 [10]).bind fun r10=>some (!r10)) (some false)) (some false)))=some last:=by
         rw[← hl]
         simp only[ah,p16]
         simp
       unfold offB at p8 fin
       by_cases hd:hasD s.1=true
       · rw[zp hd]
         have n8:¬ (IntKind.wrap .i64 ((BitVec.ofInt (IntKind.bits .i64) (dm s.1) &&& BitVec.ofInt (IntKind.bits .i64) 8).toNat))=0:=fun e=>by rw[p8.1 e] at hd; cases hd
         rw[zf n8]
         simp only[cond_false,Bool.not_false,cond_true,iP,zb]
         cases e:bZ s.2.2.2.2.2.1 with
         | false=>simp[aE]
         | true =>
           simp only[Bool.not_true,cond_false,zb,aE,Bool.true_and]
           exact fin
       · have hd':hasD s.1=false:=by simpa using hd
         rw[zn hd]
         rw[zt (p8.2 hd')]
         simp only[cond_true,agf,Bool.not_true,cond_false]
         by_cases hz:s.2.2.2.2.2.1=(0,0,())
         · rw[zt hz]
           simp only[Bool.not_true,cond_false,zb,aE,Bool.true_and]
           exact fin
         · rw[zf hz]
           simp[aE]
end Go.Proofs.YtmklghkhfimfgaaGreatDoor.Q
namespace Go.Proofs.YtmklghkhfimfgaaGreatDoor.Q
open Go.EM Go.TY Go.Proofs Go.Proofs.YtmklghkhfimfgaaGreatDoor.Y
def kw:List (List UInt8):=[[],[98,101,103,105,110],[100,111],[99,111,109,109,105,116],[97,98,111,114,116],[117,110,100,111],[114,101,100,111],[111,117,116],[98,97,99,107],[115,101,110,100],[115,97,121],[100,101,108,105,118,101,114],[100,114,111,112],[116,119,105,99,101],[115,112,111,105,108],[99,114,97,115,104],[116,101,97,114],[114,101,115,116,97,114,116],[115,101,97,108],[99,111,109,112,97,99,116]]
def vb:List (List UInt8):=[[],[112,117,116],[97,100,100],[105,110,99],[114,101,109,111,118,101],[114,101,115,101,116]]
def kwS (k:Int):List UInt8:=kw[k.toNat]?.getD []
def vbS (k:Int):List UInt8:=vb[k.toNat]?.getD []
theorem amo:∀ x:Fin 20,atI kw (x.val:Int)=some (kwS x.val)∧(kwS x.val).length≤8∧(1≤x.val→kwS x.val≠[])∧(∀ b∈kwS x.val,b.toNat≠32∧b.toNat≠34):=by decide
theorem ama:∀ x:Fin 6,atI vb (x.val:Int)=some (vbS x.val)∧(vbS x.val).length≤6∧(∀ b∈vbS x.val,b.toNat≠32∧b.toNat≠34):=by decide
theorem ur {k:Int} (h0:0≤k) (h1:k≤19):atI kw k=some (kwS k)∧(kwS k).length≤8∧(1≤k→kwS k≠[])∧(∀ b∈kwS k,b.toNat≠32∧b.toNat≠34):=by
 obtain ⟨n,rfl⟩:=Int.eq_ofNat_of_zero_le h0
 have:=amo ⟨n,by omega⟩
 exact ⟨this.1,this.2.1,fun h=>this.2.2.1 (by simp only; omega),this.2.2.2⟩
theorem wX {k:Int} (h0:0≤k) (h1:k≤5):atI vb k=some (vbS k)∧(vbS k).length≤6∧(∀ b∈vbS k,b.toNat≠32∧b.toNat≠34):=by
 obtain ⟨n,rfl⟩:=Int.eq_ofNat_of_zero_le h0
 exact ama ⟨n,by omega⟩
theorem bY:∀ a b:List (List UInt8),aW (a++b)=aW a++aW b
 | [],b=>rfl
 | x::a,b=>by simp[aW,bY a b,List.append_assoc]
def seg1 (h:Bool) (n:Int):List (List UInt8):=if h=true then [Lib.itoa n] else []
def ig (o:Op1):List UInt8:=vbS o.1++aW ((if o.1=3 then [Lib.itoa o.2.2.2.1] else if o.1=5 then [] else [dE o.2.2.1])++[eb o.2.1])
def segD (s:ey):List (List UInt8):=if hasD s.1=true then [jQ s.2.2.2.2.2.1] else []
def segO (s:ey):List (List UInt8):=if s.1=2 then [ig s.2.2.2.2.1] else []
def eP (s:ey):List UInt8:=kwS s.1++aW (seg1 (hasR s.1) s.2.1++(seg1 (hasN s.1) s.2.2.2.1++(seg1 (hasU s.1) s.2.2.1++(segD s++segO s))))
noncomputable def lk (s:ey):List UInt8:=if dn s=true then eP s else []
theorem gR {o:Op1} (h:opM o=0):(1≤o.1∧o.1≤5)∧ci o.2.1=0∧((o.1=3∨o.1=5)→o.2.2.1=zeroV)∧(¬ (o.1=3∨o.1=5)→bP o.2.2.1=true)∧(o.1≠3→o.2.2.2.1=0)∧(o.1=3 → -2147483647≤o.2.2.2.1∧o.2.2.2.1≤2147483647):=by
 unfold opM at h
 by_cases a1:o.1<1∨5<o.1
 · rw[zp a1] at h; omega
 rw[zn a1] at h
 by_cases a2:ci o.2.1≠0
 · rw[zp a2] at h; exact absurd h a2
 rw[zn a2] at h
 by_cases a3:(o.1=3∨o.1=5)∧o.2.2.1≠zeroV
 · rw[zp a3] at h; omega
 rw[zn a3] at h
 by_cases a4:¬ (o.1=3∨o.1=5)∧bP o.2.2.1=false
 · rw[zp a4] at h; omega
 rw[zn a4] at h
 by_cases a5:o.1≠3∧o.2.2.2.1≠0
 · rw[zp a5] at h; omega
 rw[zn a5] at h
 by_cases a6:o.1=3∧(o.2.2.2.1=0∨o.2.2.2.1>2147483647∨o.2.2.2.1 < -2147483647)
 · rw[zp a6] at h; omega
 refine ⟨by omega,Classical.not_not.1 a2,fun e=>Classical.not_not.1 fun e2=>a3 ⟨e,e2⟩,fun e => ?_,fun e=>Classical.not_not.1 fun e2=>a5 ⟨e,e2⟩,fun e=>by omega⟩
 cases hr:bP o.2.2.1 with
 | true=>rfl
 | false=>exact absurd ⟨e,hr⟩ a4
theorem dI {s:ey} (h:dn s=true):(1≤s.1∧s.1≤19)∧numM s.2.1 (hasR s.1)=true∧numM s.2.2.2.1 (hasN s.1)=true∧numM s.2.2.1 (hasU s.1)=true ∧
   (hasD s.1=true→bZ s.2.2.2.2.2.1=true)∧(hasD s.1=false→s.2.2.2.2.2.1=(0,0,()))∧(s.1=2→opM s.2.2.2.2.1=0∧s.2.2.2.2.1.2.2.2.2.1=[])∧(s.1≠2→jn s.2.2.2.2.1=true):=by
 unfold dn at h
 simp only[Bool.and_eq_true] at h
 obtain ⟨⟨⟨⟨⟨h1,h2⟩,h3⟩,h4⟩,h5⟩,h6⟩:=h
 refine ⟨of_decide_eq_true h1,h2,h3,h4,fun e => ?_,fun e => ?_,fun e => ?_,fun e => ?_⟩
 · rwa [zp e] at h5
 · rw[zn (by rw[e]; decide)] at h5
   exact of_decide_eq_true h5
 · rw[zp e] at h6
   simp only[Bool.and_eq_true] at h6
   exact ⟨of_decide_eq_true h6.1.1,of_decide_eq_true h6.1.2⟩
 · rwa [zn e] at h6
theorem oU {n:Int}{h:Bool} (e:numM n h=true):(0≤n∧n≤2147483647)∧(h=false→n=0):=by
 unfold numM at e
 cases h with
 | true=>rw[zp rfl] at e; exact ⟨of_decide_eq_true e,fun e=>by cases e⟩
 | false =>
   rw[zn (by decide)] at e
   have:=of_decide_eq_true e
   exact ⟨by omega,fun _=>this⟩
theorem kL {o:Op1} (h:cD o) (h0:opM o=0):(ig o).length≤5000:=by
 obtain ⟨hk,hc,hz,hv,hn,hi⟩:=gR h0
 have hp:=fm h.1 h.2.1
 obtain ⟨v1,v2,v3⟩:=wX (k:=o.1) (by omega) hk.2
 unfold ig
 by_cases k3:o.1=3
 · have:=cF (n:=o.2.2.2.1) ⟨by have:=hi k3; omega,by have:=hi k3; omega⟩
   rw[zp k3]
   simp[aW]; omega
 · rw[zn k3]
   by_cases k5:o.1=5
   · rw[zp k5]
     simp[aW]; omega
   · rw[zn k5]
     have:=gG (hv (by omega))
     simp[aW]; omega
theorem agu {o:Op1} (h:cD o) (h0:opM o=0):za4 o=some (ig o):=by
 obtain ⟨hk,hc,hz,hv,hn,hi⟩:=gR h0
 have hp:=fm h.1 h.2.1
 obtain ⟨v1,v2,v3⟩:=wX (k:=o.1) (by omega) hk.2
 unfold za4
 rw[show za8=some vb from rfl]
 simp only[zb,v1,tY h.1 h.2.1]
 rw[az (by simp; omega)]
 simp only[zb,ah]
 unfold ig
 by_cases k3:o.1=3
 · have hin:inR o.2.2.2.1:=⟨by have:=hi k3; omega,by have:=hi k3; omega⟩
   have:=cF hin
   rw[zp k3,zp k3,fh hin]
   simp only[zb]
   rw[az (by simp; omega)]
   simp only[zb]
   rw[az (by simp; omega)]
   simp only[zb,aE]
   rw[az (by simp; omega)]
   simp[aW,List.append_assoc]
 · rw[zn k3,zn k3]
   have e1:(if o.1=1 then (some (.inl (decide (o.1=1),())):Option ((Bool×Unit)⊕((List UInt8×Unit)⊕List UInt8))) else if o.1=2 then some (.inl (decide (o.1=2),())) else some (.inl (decide (o.1=4),())))=some (.inl (decide (¬ o.1=5),())):=by
     by_cases a:o.1=1
     · rw[zp a,zt a,zt (by omega)]
     · rw[zn a]
       by_cases b:o.1=2
       · rw[zp b,zt b,zt (by omega)]
       · rw[zn b]
         have:(o.1=4)↔¬ o.1=5:=by omega
         simp only[this]
   rw[e1]
   simp only[zb,aE,ah]
   by_cases k5:o.1=5
   · rw[zn (fun e=>e k5),zp k5]
     simp only[zb,aE]
     rw[az (by simp; omega)]
     simp[aW,List.append_assoc]
   · have hr:=hv (by omega)
     have:=gG hr
     rw[zp k5,zn k5,jN hr]
     simp only[zb]
     rw[az (by simp; omega)]
     simp only[zb]
     rw[az (by simp; omega)]
     simp only[zb,aE]
     rw[az (by simp; omega)]
     simp[aW,List.append_assoc]
theorem ko {s:ey}{p b n:Int}{h:Bool}{o:List UInt8}{i:Nat} (hi:i<3) (hL:([(1,s.2.1,()),(4,s.2.2.2.1,()),(2,s.2.2.1,())]:List (Int×Int×Unit))[i]'hi=(b,n,())) (hb:offB p b↔h=false) (hn:inR n) (ho:o.length<1000000) :
   lD s p (o,(i:Int),())=some (.inl (o++aW (seg1 h n),((i+1:Nat):Int),())):=by
 have hl:=cF hn
 unfold lD
 simp only[ah]
 rw[zp (by simp only[zl,List.length_nil]; omega),bf (by simpa using hi),hL]
 simp only[zb,aH]
 unfold offB at hb
 unfold seg1
 cases h with
 | false =>
   rw[zp (hb.2 rfl),zn (by decide),wrap64 (by omega) (by omega)]
   simp[aW]
 | true =>
   rw[zn (fun e=>by cases hb.1 e),zp rfl,fh hn]
   simp only[zb]
   rw[az (by simp; omega)]
   simp only[zb]
   rw[az (by simp; omega),wrap64 (by omega) (by omega)]
   simp[aW]
theorem aaG {s:ey}{p:Int}{o:List UInt8}:lD s p (o,3,())=some (.inr (.inl (o,()))):=by
 unfold lD
 simp
theorem qJ {d:Dot1} (h:bZ d=true):(jQ d).length≤50:=by
 have hin:=fP h
 have l1:=cF (n:=d.1) ⟨by omega,by omega⟩
 have l2:=cF (n:=d.2.1) ⟨by omega,by omega⟩
 simp[jQ]; omega
theorem eC {h:Bool}{n:Int} (hn:inR n):(aW (seg1 h n)).length≤22:=by
 have:=cF hn
 unfold seg1
 cases h<;>simp[aW]; omega
theorem cA {n:Int}{h:Bool} (e:numM n h=true):inR n:=by
 have:=(oU e).1
 exact ⟨by omega,by omega⟩
theorem yh {s:ey} (h:cD s.2.2.2.2.1):zbf s=some (lk s):=by
 unfold zbf lk
 rw[rT h]
 simp only[zb]
 cases hr:dn s with
 | false=>simp
 | true =>
   obtain ⟨hk,hR,hN,hU,hD,hD0,hO,hG⟩:=dI hr
   obtain ⟨p0,p1,p2,p4,p8,p16⟩:=nl (k:=s.1) (by omega) hk.2
   obtain ⟨w1,w2,w3,w4⟩:=ur (k:=s.1) (by omega) hk.2
   rw[zp rfl,p0,show za7=some kw from rfl]
   simp only[Bool.not_true,cond_false,zb,w1]
   have l1:=eC (h:=hasR s.1) (cA hR)
   have l2:=eC (h:=hasN s.1) (cA hN)
   have l3:=eC (h:=hasU s.1) (cA hU)
   have loop:aP (lD s (dm s.1)) (kwS s.1,0,())=some (.inl (kwS s.1++aW (seg1 (hasR s.1) s.2.1)++aW (seg1 (hasN s.1) s.2.2.2.1)++aW (seg1 (hasU s.1) s.2.2.1),())):=by
     rw[show (0:Int)=((0:Nat):Int) from rfl,aF (ko (by omega) (by rfl) p1 (cA hR) (by omega)),aF (ko (by omega) (by rfl) p4 (cA hN) (by simp; omega)),aF (ko (by omega) (by rfl) p2 (cA hU) (by simp; omega))]
     rw[show ((0+1+1+1:Nat):Int)=3 from rfl,aB aaG]
   rw[loop]
   unfold offB at p8 p16
   unfold eP segD segO
   simp only[zb,aE,aH]
   by_cases hd:hasD s.1=true
   · have n8:¬ (IntKind.wrap .i64 ((BitVec.ofInt (IntKind.bits .i64) (dm s.1) &&& BitVec.ofInt (IntKind.bits .i64) 8).toNat))=0:=fun e=>by rw[p8.1 e] at hd; cases hd
     have k2:¬ s.1=2:=by
       have:=of_decide_eq_true hd
       omega
     have hin:=fP (hD hd)
     have dl:=qJ (hD hd)
     rw[zn n8,zp hd,zn k2,pD ⟨by omega,by omega⟩ ⟨by omega,by omega⟩]
     simp only[zb]
     rw[az (by simp; omega)]
     simp only[zb]
     rw[az (by simp; omega)]
     simp only[zb,aE]
     rw[zp (p16.2 k2)]
     simp[bY,aW,List.append_assoc]
   · have hd':hasD s.1=false:=by simpa using hd
     rw[zp (p8.2 hd'),zn hd]
     simp only[zb,aE]
     by_cases k2:s.1=2
     · have hl:=kL h (hO k2).1
       rw[zn (fun e=>p16.1 e k2),zp k2,agu h (hO k2).1]
       simp only[zb]
       rw[az (by simp; omega)]
       simp only[zb]
       rw[az (by simp; omega)]
       simp[bY,aW,List.append_assoc]
     · rw[zp (p16.2 k2),zn k2]
       simp[bY,aW,List.append_assoc]
end Go.Proofs.YtmklghkhfimfgaaGreatDoor.Q
namespace Go.Proofs.YtmklghkhfimfgaaGreatDoor.Q
open Go.EM Go.TY Go.Proofs Go.Proofs.YtmklghkhfimfgaaGreatDoor.Y
theorem qK {d:Int×Int×Unit}{s:List UInt8} (hr:bZ d=true) (ht:jQ d=s):zcs s=some (d,0,()):=by
 obtain ⟨r,n,e,h1,h2,h3,h4⟩:=tN hr
 have l1:=jz 1 r (by simp only[Nat.reducePow,Nat.reduceAdd]; omega)
 have l2:=jz 6 n (by simp only[Nat.reducePow,Nat.reduceAdd]; omega)
 have p1:=kG r
 have p2:=kG n
 rw[h4] at ht
 have hs:s.length=(Lib.decDigits r).length+((Lib.decDigits n).length+1):=by rw[← ht,List.length_append,zl]
 have hi:zap s [46]=some (((Lib.decDigits r).length:Nat):Int):=by
   rw[af9 s (fun e=>by rw[e] at hs; simp only[zl,List.length_nil] at hs; omega),← ht,pp _ _ _ amC,Nat.zero_add]
 have hc:=amF hi (by omega) (by omega)
 have t1:s.take (Lib.decDigits r).length=Lib.decDigits r:=by rw[← ht,List.take_left']; rfl
 have t2:s.drop ((Lib.decDigits r).length+1)=Lib.decDigits n:=by
   rw[← ht,List.drop_append,List.drop_eq_nil_of_le (by omega),List.nil_append]
   rw[show (Lib.decDigits r).length+1-(Lib.decDigits r).length=1 by omega]; rfl
 rw[t1,t2] at hc
 unfold zcs
 rw[hc]
 simp only[zb]
 rw[sI (by omega),sI (by omega)]
 simp only[zb,Bool.not_true,cond_false]
 rw[← e,iP,hr]
 simp only[zb,Bool.not_true,cond_false]
 have hin:=fP hr
 rw[pD ⟨by omega,by omega⟩ ⟨by omega,by omega⟩]
 simp only[zb]
 rw[h4,ht]
 simp
theorem gM {w:List UInt8} (h:∀ b∈w,b.toNat≠32∧b.toNat≠34):xM w:=by
 refine ⟨fun b hb=>(h b hb).1,?_⟩
 cases w with
 | nil=>simp
 | cons c t =>
   simp only[List.head?_cons,ne_eq,Option.some.injEq]
   rintro rfl
   exact (h 34 (List.mem_cons_self ..)).2 rfl
theorem iI (n:Int):xM (Lib.itoa n):=by
 refine gM fun b hb => ?_
 by_cases h:n<0
 · rw[itoa_neg h,List.mem_cons] at hb
   rcases hb with rfl | hb
   · decide
   · have:=ew _ b hb
     unfold digB at this
     omega
 · obtain ⟨m,rfl⟩:=Int.eq_ofNat_of_zero_le (show 0≤n by omega)
   rw[fU] at hb
   have:=ew _ b hb
   unfold digB at this
   omega
theorem af2:∀ x y:Fin 20,y<x→kw[y.val]? ≠ kw[x.val]? := by decide
theorem afz:∀ x y:Fin 6,y<x→vb[y.val]? ≠ vb[x.val]? := by decide
theorem si {k:Int} (h0:0≤k) (h1:k≤19):zac kw (kwS k)=some k:=by
 obtain ⟨n,rfl⟩:=Int.eq_ofNat_of_zero_le h0
 have hn:n<kw.length:=by show n<20; omega
 have e:kwS ((n:Nat):Int)=kw[n]:=by
   unfold kwS
   rw[show (((n:Nat):Int)).toNat=n from Int.toNat_natCast n,zg hn]
   rfl
 rw[e]
 refine mh (by decide) hn fun j hj he=>af2 ⟨n,by omega⟩ ⟨j,by omega⟩ hj ?_
 rw[zg hn,zg (show j<kw.length by omega),he]
theorem aaa {k:Int} (h0:0≤k) (h1:k≤5):zac vb (vbS k)=some k:=by
 obtain ⟨n,rfl⟩:=Int.eq_ofNat_of_zero_le h0
 have hn:n<vb.length:=by show n<6; omega
 have e:vbS ((n:Nat):Int)=vb[n]:=by
   unfold vbS
   rw[show (((n:Nat):Int)).toNat=n from Int.toNat_natCast n,zg hn]
   rfl
 rw[e]
 refine mh (by decide) hn fun j hj he=>afz ⟨n,by omega⟩ ⟨j,by omega⟩ hj ?_
 rw[zg hn,zg (show j<vb.length by omega),he]
theorem tC {v:Val}{l:List (List UInt8)} (hr:bP v=true) (hl:(dE v++aW l).length<1000000):zbj (dE v++aW l)=some (dE v,fb l,()):=by
 rcases dc hr with ⟨n,rfl,h1,h2⟩ | ⟨s,r,rfl,h1,h2⟩ | rfl | rfl
 · have e:dE (1,n,[],())=Lib.itoa n:=rfl
   rw[e] at hl ⊢
   exact dD (iI n) hl
 · have e:dE (2,0,s,())=34::(aO s++[34]):=by simp[dE]
   rw[e] at hl ⊢
   have e2:(34::(aO s++[34]))++aW l=34::(aO s++34::aW l):=by simp
   rw[e2] at hl ⊢
   exact tA hl
 · exact dD (gM (by decide)) hl
 · exact dD (gM (by decide)) hl
theorem gL {x:List UInt8}:fb [x]=x:=by simp[fb,aW]
theorem qv {o:Op1} (h:cD o) (h0:opM o=0) (hs:o.2.2.2.2.1=[]):zas (ig o)=some o:=by
 have hal:=kL h h0
 obtain ⟨hk,hc,hz,hv,hn,hi⟩:=gR h0
 have hp:=fm h.1 h.2.1
 have hpp:=oR hc h.1 h.2.1
 obtain ⟨v1,v2,v3⟩:=wX (k:=o.1) (by omega) hk.2
 have hix:=aaa (k:=o.1) (by omega) hk.2
 obtain ⟨k,p,v,n,sn,⟨⟩⟩:=o
 simp only at hk hc hz hv hn hi hp hpp v1 v2 v3 hix hs
 subst hs
 unfold ig at hal ⊢
 simp only at hal ⊢
 unfold zas
 rw[dD (gM v3) (by omega),show za8=some vb from rfl]
 simp only[zb,hix,show max k 0=k by omega,ah]
 by_cases k3:k=3
 · have hin:inR n:=⟨by have:=hi k3; omega,by have:=hi k3; omega⟩
   have:=cF hin
   have hz0:=hz (.inl k3)
   rw[zp k3,zp k3,List.cons_append,List.nil_append]
   simp only[fb]
   rw[dD (iI n) (by simp[aW]; omega)]
   simp only[zb]
   rw[jS (by have:=hi k3; omega) (by have:=hi k3; omega)]
   simp only[zb,aE,gL,hpp]
   rw[hz0]
   rfl
 · rw[zn k3,zn k3]
   have hn0:=hn k3
   subst hn0
   have fin : ∀ b : Bool, b = decide (¬ k = 5) → (((cond b ((zbj (fb ((if k = 5 then [] else [dE v]) ++ [eb p]))).bind fun r7 =>
       (zbq r7.1).bind fun r8=>some (Sum.inl (r7.2.1,((0,(),(0,0,[],()),0,(),()):Int×Unit×(Int×Int×List UInt8×Unit)×Int×Unit×Unit),((k,(),r8.1,0,(),()):Int×Unit×(Int×Int×List UInt8×Unit)×Int×Unit×Unit),())))
       (some (.inl (fb ((if k=5 then [] else [dE v])++[eb p]),(0,(),(0,0,[],()),0,(),()),(k,(),(0,0,[],()),0,(),()),())))):Option ((List UInt8×(Int×Unit×(Int×Int×List UInt8×Unit)×Int×Unit×Unit)×(Int×Unit×(Int×Int×List UInt8×Unit)×Int×Unit×Unit)×Unit)⊕(Int×List (List UInt8)×(Int×Int×List UInt8×Unit)×Int×List ((Int×Int×Unit)×Int×Unit)×Unit))).bind (aE fun v9 =>
       (zcj v9.1).bind fun r10=>some (v9.2.2.1.1,r10.1,v9.2.2.1.2.2.1,v9.2.2.1.2.2.2.1,[],())))=some ((k,p,v,0,[],()):Op1):=by
     intro b hb
     subst hb
     by_cases k5:k=5
     · have hz0:=hz (.inr k5)
       rw[zf (fun e=>e k5),zp k5]
       simp only[cond_false,zb,aE,List.nil_append,gL,hpp]
       rw[hz0]
       rfl
     · have hr:=hv (by omega)
       have:=gG hr
       rw[zt k5,zn k5,List.cons_append,List.nil_append]
       simp only[fb,cond_true]
       rw[tC hr (by simp[aW]; omega)]
       simp only[zb]
       rw[aau (by omega) hr rfl]
       simp only[zb,aE,gL,hpp]
   by_cases a:k=1
   · rw[zp a]
     simp only[zb,aE]
     exact fin _ (by rw[decide_eq_decide]; omega)
   · rw[zn a]
     by_cases b:k=2
     · rw[zp b]
       simp only[zb,aE]
       exact fin _ (by rw[decide_eq_decide]; omega)
     · rw[zn b]
       simp only[zb,aE]
       exact fin _ (by rw[decide_eq_decide]; omega)
end Go.Proofs.YtmklghkhfimfgaaGreatDoor.Q
namespace Go.Proofs.YtmklghkhfimfgaaGreatDoor.Q
open Go.EM Go.TY Go.Proofs Go.Proofs.YtmklghkhfimfgaaGreatDoor.Y
abbrev Raw1:=Int×Int×Int×Int×(Int×Unit×(Int×Int×List UInt8×Unit)×Int×Unit×Unit)×(Int×Int×Unit)×Unit
def L3:List (Int×Nat×Unit):=[(1,1,()),(4,3,()),(2,2,())]
theorem jO {p b n:Int}{h:Bool}{l:List (List UInt8)}{k:Nat}{i:Nat}{z x x':Raw1} (hi:i<3) (hL:L3[i]? = some (b,k,())) (hb:offB p b↔h=false) (hn:numM n h=true) (hl:(aW (seg1 h n++l)).length<1000000)
   (hx:h=false→x'=x) (hp:putI .i64 (.agg (.cons (.int .i64) (.cons (.int .i64) (.cons (.int .i64) (.cons (.int .i64) (.cons (.agg (.cons (.int .i64) (.cons .nilsl (.cons (.agg (.cons (.int .i64) (.cons (.int .i64) (.cons .str .unit)))) (.cons (.int .i64) (.cons .nilsl .unit)))))) (.cons (.agg (.cons (.int .i64) (.cons (.int .i64) .unit))) .unit))))))) x (0+k*1) n=some x') :
   eg p (fb (seg1 h n++l),L3,(i:Int),z,x,())=some (.inl (fb l,L3,((i+1:Nat):Int),z,x',())):=by
 have hin:=(oU hn).1
 unfold eg
 simp only[ah]
 rw[zp (by simp only[zl,List.length_nil]; omega),iR,hL]
 simp only[zb,aH]
 unfold offB at hb
 unfold seg1 at hl ⊢
 cases h with
 | false =>
   rw[zp (hb.2 rfl),zn (by decide),wrap64 (by omega) (by omega),hx rfl]
   simp
 | true =>
   rw[zp rfl] at hl ⊢
   rw[zn (fun e=>by cases hb.1 e),List.cons_append,List.nil_append]
   simp only[fb]
   rw[dD (iI n) (by simp only[List.cons_append,List.nil_append,aW,zl] at hl; omega)]
   simp only[zb]
   rw[jS (by omega) (by omega)]
   simp only[zb]
   rw[hp,wrap64 (by omega) (by omega)]
   rfl
theorem rJ {p:Int}{r:List UInt8}{z x:Raw1}:eg p (r,L3,3,z,x,())=some (.inr (.inl (r,z,x,()))):=by
 unfold eg
 simp
theorem aa4 {s:ey} (h:cD s.2.2.2.2.1) (hr:dn s=true):(eP s).length≤10000:=by
 obtain ⟨hk,hR,hN,hU,hD,hD0,hO,hG⟩:=dI hr
 obtain ⟨w1,w2,w3,w4⟩:=ur (k:=s.1) (by omega) hk.2
 have l1:=eC (h:=hasR s.1) (cA hR)
 have l2:=eC (h:=hasN s.1) (cA hN)
 have l3:=eC (h:=hasU s.1) (cA hU)
 have l4:(aW (segD s)).length≤51:=by
   unfold segD
   by_cases hd:hasD s.1=true
   · have:=qJ (hD hd)
     rw[zp hd]
     simp[aW]; omega
   · rw[zn hd]; simp[aW]
 have l5:(aW (segO s)).length≤5001:=by
   unfold segO
   by_cases k2:s.1=2
   · have:=kL h (hO k2).1
     rw[zp k2]
     simp[aW]; omega
   · rw[zn k2]; simp[aW]
 unfold eP
 simp only[bY,List.length_append]
 omega
theorem nn {s:ey} (h:cD s.2.2.2.2.1) (hr:dn s=true):zbd (eP s)=some (s,0,()):=by
 have hlen:=aa4 h hr
 have hline:=yh h
 unfold lk at hline
 rw[zp hr] at hline
 obtain ⟨hk,hR,hN,hU,hD,hD0,hO,hG⟩:=dI hr
 obtain ⟨p0,p1,p2,p4,p8,p16⟩:=nl (k:=s.1) (by omega) hk.2
 obtain ⟨w1,w2,w3,w4⟩:=ur (k:=s.1) (by omega) hk.2
 have hix:=si (k:=s.1) (by omega) hk.2
 have hne:eP s≠[]:=by
   intro e
   unfold eP at e
   exact w3 hk.1 (List.append_eq_nil_iff.1 e).1
 have hw:zbj (eP s)=some (kwS s.1,fb (seg1 (hasR s.1) s.2.1++(seg1 (hasN s.1) s.2.2.2.1++(seg1 (hasU s.1) s.2.2.1++(segD s++segO s)))),()):=dD (gM w4) (by unfold eP at hlen; omega)
 have hlen2:(aW (seg1 (hasR s.1) s.2.1++(seg1 (hasN s.1) s.2.2.2.1++(seg1 (hasU s.1) s.2.2.1++(segD s++segO s))))).length≤10000:=by
   unfold eP at hlen
   rw[List.length_append] at hlen
   omega
 generalize hb:eP s=body at hline hne hw ⊢
 unfold zbd
 rw[hw,show za7=some kw from rfl]
 simp only[zb,hix,show max s.1 0=s.1 by omega,p0]
 have loop : aP (eg (dm s.1)) (fb (seg1 (hasR s.1) s.2.1 ++ (seg1 (hasN s.1) s.2.2.2.1 ++ (seg1 (hasU s.1) s.2.2.1 ++ (segD s ++ segO s)))), L3, 0, (0, 0, 0, 0, (0, (), (0, 0, [], ()), 0, (), ()), (0, 0, ()), ()), (s.1, 0, 0, 0, (0, (), (0, 0, [], ()), 0, (), ()), (0, 0, ()), ()), ()) =
     some (.inl (fb (segD s++segO s),(0,0,0,0,(0,(),(0,0,[],()),0,(),()),(0,0,()),()),(s.1,s.2.1,s.2.2.1,s.2.2.2.1,(0,(),(0,0,[],()),0,(),()),(0,0,()),()),())):=by
   simp only[bY,List.length_append] at hlen2
   rw[show (0:Int)=((0:Nat):Int) from rfl]
   rw[aF (jO (k:=1) (x':=(s.1,s.2.1,0,0,(0,(),(0,0,[],()),0,(),()),(0,0,()),())) (by omega) (by rfl) p1 hR (by simp only[bY,List.length_append]; omega) (fun e=>by rw[(oU hR).2 e]; rfl) (by rfl))]
   rw[aF (jO (k:=3) (x':=(s.1,s.2.1,0,s.2.2.2.1,(0,(),(0,0,[],()),0,(),()),(0,0,()),())) (by omega) (by rfl) p4 hN (by simp only[bY,List.length_append]; omega) (fun e=>by rw[(oU hN).2 e]) (by rfl))]
   rw[aF (jO (k:=2) (x':=(s.1,s.2.1,s.2.2.1,s.2.2.2.1,(0,(),(0,0,[],()),0,(),()),(0,0,()),())) (by omega) (by rfl) p2 hU (by simp only[bY,List.length_append]; omega) (fun e=>by rw[(oU hU).2 e]) (by rfl))]
   exact aB rJ
 rw[show ([(1,1,()),(4,3,()),(2,2,())]:List (Int×Nat×Unit))=L3 from rfl,loop]
 unfold offB at p8 p16
 obtain ⟨k,r,u,n,o,d,⟨⟩⟩:=s
 simp only at h hk hD hD0 hO hG p8 p16 hline ⊢
 simp only[zb,aE,aH]
 unfold segD segO
 by_cases hd:hasD k=true
 · have k2 : ¬ k = 2 := by
     have:=of_decide_eq_true hd
     omega
   have n8:¬ (IntKind.wrap .i64 ((BitVec.ofInt (IntKind.bits .i64) (dm k) &&& BitVec.ofInt (IntKind.bits .i64) 8).toNat))=0:=fun e=>by rw[p8.1 e] at hd; cases hd
   have hg:=of_decide_eq_true (hG k2)
   obtain ⟨o1,o2,o3,o4,o5,⟨⟩⟩:=o
   simp only at hg
   obtain ⟨rfl,rfl,rfl,rfl,rfl⟩:=hg
   simp only at hd k2 ⊢
   rw[zn n8,zp hd,zn k2,List.append_nil,gL,qK (hD hd) rfl]
   simp only[zb,aE]
   rw[zp (p16.2 k2)]
   simp only[zb,aE,ah,aH]
   have hz:((0,0,[],()):Val)=zeroV:=rfl
   rw[zn hne,hz,hline]
   simp
 · have hd':hasD k=false:=by simpa using hd
   have hd0:=hD0 hd'
   subst hd0
   simp only at hd ⊢
   rw[zp (p8.2 hd'),zn hd,List.nil_append]
   simp only[zb,aE]
   by_cases k2:k=2
   · rw[zn (fun e=>p16.1 e k2),zp k2,gL,qv h (hO k2).1 (hO k2).2]
     simp only[zb,aE,ah,aH]
     rw[zn hne,hline]
     simp
   · have hg:=of_decide_eq_true (hG k2)
     obtain ⟨o1,o2,o3,o4,o5,⟨⟩⟩:=o
     simp only at hg k2
     obtain ⟨rfl,rfl,rfl,rfl,rfl⟩:=hg
     rw[zp (p16.2 k2)]
     simp only[zb,aE,ah,aH]
     have hz:((0,0,[],()):Val)=zeroV:=rfl
     rw[zn hne,hz,hline]
     simp
theorem xO:zbd []=some ((0,0,0,0,(0,[],(0,0,[],()),0,[],()),(0,0,()),()),19,()):=by
 have hw:zbj []=some ([],[],()):=by
   rw[wW (by simp) (by simp)]; rfl
 obtain ⟨p0,p1,p2,p4,p8,p16⟩:=nl (k:=0) (by omega) (by omega)
 have hix:zac kw []=some 0:=si (k:=0) (by omega) (by omega)
 unfold zbd
 rw[hw,show za7=some kw from rfl]
 simp only[zb,hix,show max (0:Int) 0=0 from rfl,p0]
 obtain ⟨v,e,ha⟩:=sK [] (by simp)
 have loop:∃ w:List UInt8×Raw1×Raw1×Unit,aP (eg (dm 0)) ([],L3,0,(0,0,0,0,(0,(),(0,0,[],()),0,(),()),(0,0,()),()),(0,0,0,0,(0,(),(0,0,[],()),0,(),()),(0,0,()),()),())=some (.inl w):=by
   have t1:∀ z x:Raw1,∃ x':Raw1,eg (dm 0) ([],L3,0,z,x,())=some (.inl ([],L3,1,z,x',())):=by
     intro z x
     unfold eg
     have n1:¬ (IntKind.wrap .i64 ((BitVec.ofInt (IntKind.bits .i64) (dm 0) &&& BitVec.ofInt (IntKind.bits .i64) 1).toNat))=0:=fun e=>by cases p1.1 e
     simp only[ah]
     rw[zp (by decide),show atI L3 0=some (1,1,()) from rfl]
     simp only[zb,aH]
     rw[zn n1,hw]
     simp only[zb,ha]
     exact ⟨_,rfl⟩
   have t2:∀ z x:Raw1,eg (dm 0) ([],L3,1,z,x,())=some (.inl ([],L3,2,z,x,())):=by
     intro z x
     unfold eg
     simp only[ah]
     rw[zp (by decide),show atI L3 1=some (4,3,()) from rfl]
     simp only[zb,aH]
     have n4:(IntKind.wrap .i64 ((BitVec.ofInt (IntKind.bits .i64) (dm 0) &&& BitVec.ofInt (IntKind.bits .i64) 4).toNat))=0:=p4.2 rfl
     rw[zp n4]
     rfl
   have t3:∀ z x:Raw1,eg (dm 0) ([],L3,2,z,x,())=some (.inl ([],L3,3,z,x,())):=by
     intro z x
     unfold eg
     simp only[ah]
     rw[zp (by decide),show atI L3 2=some (2,2,()) from rfl]
     simp only[zb,aH]
     have n2:(IntKind.wrap .i64 ((BitVec.ofInt (IntKind.bits .i64) (dm 0) &&& BitVec.ofInt (IntKind.bits .i64) 2).toNat))=0:=p2.2 rfl
     rw[zp n2]
     rfl
   obtain ⟨x',h1⟩:=t1 (0,0,0,0,(0,(),(0,0,[],()),0,(),()),(0,0,()),()) (0,0,0,0,(0,(),(0,0,[],()),0,(),()),(0,0,()),())
   rw[aF h1,aF (t2 _ _),aF (t3 _ _),aB rJ]
   exact ⟨_,rfl⟩
 obtain ⟨w,loop⟩:=loop
 rw[show ([(1,1,()),(4,3,()),(2,2,())]:List (Int×Nat×Unit))=L3 from rfl,loop]
 unfold offB at p8 p16
 simp only[zb,aE,aH]
 rw[zp (p8.2 rfl)]
 simp only[zb,aE]
 rw[zp (p16.2 (by decide))]
 simp[aE]
end Go.Proofs.YtmklghkhfimfgaaGreatDoor.Q
namespace Go.Proofs.YtmklghkhfimfgaaGreatDoor.Q
open Go.EM Go.TY Go.Proofs Go.Proofs.YtmklghkhfimfgaaGreatDoor.Y
theorem al8 {k:Int} (h0:0≤k) (h1:k≤19):zb8 k=some (kwS k):=by
 unfold zb8
 have:=(ur h0 h1).1
 unfold kw at this
 rw[this]
 rfl
theorem al9 {k:Int} (h0:0≤k) (h1:k≤5):zck k=some (vbS k):=by
 unfold zck
 have:=(wX h0 h1).1
 unfold vb at this
 rw[this]
 rfl
theorem afD {h:Bool}{n:Int}{o:List UInt8} (hn:inR n) (ho:o.length<1000000) :
   ((cond h ((catT o [32]).bind fun s4=>(za6 n).bind fun r5=>(catT s4 r5).bind fun s6=>some (.inl (s6,()))) (some (.inl (o,())))):Option ((List UInt8×Unit)⊕List UInt8))=some (.inl (o++aW (seg1 h n),())):=by
 have hl:=cF hn
 unfold seg1
 cases h with
 | false=>simp[aW]
 | true =>
   rw[cond_true,az (by simp; omega),hI hn.1 hn.2]
   simp only[zb]
   rw[az (by simp; omega)]
   simp[aW]
theorem xx {s:ey} (h:cD s.2.2.2.2.1):zb6 s=some (lk s):=by
 unfold zb6 lk
 rw[j4 h]
 simp only[zb]
 cases hr:dn s with
 | false=>simp
 | true =>
   obtain ⟨hk,hR,hN,hU,hD,hD0,hO,hG⟩:=dI hr
   obtain ⟨w1,w2,w3,w4⟩:=ur (k:=s.1) (by omega) hk.2
   have l1:=eC (h:=hasR s.1) (cA hR)
   have l2:=eC (h:=hasN s.1) (cA hN)
   have l3:=eC (h:=hasU s.1) (cA hU)
   rw[zp rfl,al8 (by omega) hk.2]
   simp only[Bool.not_true,cond_false,zb,abE,abF,abD,abG]
   rw[afD (cA hR) (by omega)]
   simp only[zb,aE]
   rw[afD (cA hN) (by simp; omega)]
   simp only[zb,aE]
   rw[afD (cA hU) (by simp; omega)]
   simp only[zb,aE,aH]
   unfold eP segD segO
   by_cases hd:hasD s.1=true
   · have k2 : ¬ s.1 = 2 := by
       have:=of_decide_eq_true hd
       omega
     have hin:=fP (hD hd)
     have dl:=qJ (hD hd)
     rw[hd,cond_true,zp rfl,zn k2,az (by simp; omega),xu ⟨by omega,by omega⟩ ⟨by omega,by omega⟩]
     simp only[zb]
     rw[az (by simp; omega)]
     simp only[zb,aE]
     rw[zn k2]
     simp[bY,aW,List.append_assoc]
   · have hd':hasD s.1=false:=by simpa using hd
     rw[hd',cond_false,zn (by decide)]
     simp only[zb,aE]
     by_cases k2:s.1=2
     · have h0:=(hO k2).1
       obtain ⟨hk5,hc,hz,hv,hn,hi⟩:=gR h0
       have hp:=fm h.1 h.2.1
       obtain ⟨v1,v2,v3⟩:=wX (k:=s.2.2.2.2.1.1) (by omega) hk5.2
       rw[zp k2,zp k2,az (by simp; omega),al9 (by omega) hk5.2]
       simp only[zb]
       rw[az (by simp; omega)]
       simp only[zb]
       rw[az (by simp; omega)]
       simp only[zb,ah,aH]
       unfold ig
       by_cases k3:s.2.2.2.2.1.1=3
       · have hin:inR s.2.2.2.2.1.2.2.2.1:=⟨by have:=hi k3; omega,by have:=hi k3; omega⟩
         have:=cF hin
         rw[zp k3,zp k3,hI hin.1 hin.2]
         simp only[zb]
         rw[az (by simp; omega)]
         simp only[zb]
         rw[az (by simp; omega)]
         simp only[zb,aE]
         rw[eE h.1 h.2.1]
         simp only[zb]
         rw[az (by simp; omega)]
         simp[bY,aW,List.append_assoc]
       · rw[zn k3,zn k3]
         by_cases k5:s.2.2.2.2.1.1=5
         · rw[zp k5,zp k5]
           simp only[zb,aE]
           rw[eE h.1 h.2.1]
           simp only[zb]
           rw[az (by simp; omega)]
           simp[bY,aW,List.append_assoc]
         · have hr:=hv (by omega)
           have:=gG hr
           rw[zn k5,zn k5,tP hr]
           simp only[zb]
           rw[az (by simp; omega)]
           simp only[zb]
           rw[az (by simp; omega)]
           simp only[zb,aE]
           rw[eE h.1 h.2.1]
           simp only[zb]
           rw[az (by simp; omega)]
           simp[bY,aW,List.append_assoc]
     · rw[zn k2,zn k2]
       simp[bY,aW,List.append_assoc]
abbrev ex1:ey:=(2,0,0,0,(1,[[97],[107]],(1,5,[],()),0,[],()),(0,0,()),())
abbrev ex2:ey:=(7,0,1,0,(0,[],(0,0,[],()),0,[],()),(3,17,()),())
theorem yq {n:Nat} (h:n<10):Lib.itoa (n:Int)=[UInt8.ofNat (48+n)]:=by rw[fU,Lib.decDigits,dif_pos h]
theorem amu:Lib.itoa 17=[49,55]:=by
 rw[show (17:Int)=((17:Nat):Int) from rfl,fU,Lib.decDigits,dif_neg (by decide),Lib.decDigits,dif_pos (by decide)]
 rfl
theorem amz:opM (1,[[97],[107]],(1,5,[],()),0,[],())=0:=by
 unfold opM
 simp[aa2,bP,oL]
theorem py:dn ex1=true:=by
 unfold dn
 simp[amz,numM,hasR,hasN,hasU,hasD]
theorem yM:dn ex2=true:=by
 unfold dn
 simp[jn,numM,hasR,hasN,hasU,hasD,bZ,zeroV]
theorem px:cD ex1.2.2.2.2.1:=⟨by decide,by decide,by decide,by decide⟩
theorem yL:cD ex2.2.2.2.2.1:=⟨by decide,by decide,by decide,by decide⟩
theorem sv:eP ex1=[100,111,32,48,32,112,117,116,32,53,32,97,47,107]:=by
 have e0:Lib.itoa 0=[48]:=yq (n:=0) (by decide)
 have e5:Lib.itoa 5=[53]:=yq (n:=5) (by decide)
 have ep:eb [[97],[107]]=[97,47,107]:=by
   rw[lY,oS]
   rfl
 have kw2:kwS 2=[100,111]:=by rfl
 have vb1:vbS 1=[112,117,116]:=by rfl
 unfold eP segD segO ig
 simp[seg1,hasR,hasN,hasU,hasD,e0,e5,ep,aW,kw2,vb1,dE]
theorem aaQ:eP ex2=[111,117,116,32,48,32,49,32,51,46,49,55]:=by
 have e0:Lib.itoa 0=[48]:=yq (n:=0) (by decide)
 have e1:Lib.itoa 1=[49]:=yq (n:=1) (by decide)
 have e3:Lib.itoa 3=[51]:=yq (n:=3) (by decide)
 have kw7:kwS 7=[111,117,116]:=by rfl
 unfold eP segD segO
 simp[seg1,hasR,hasN,hasU,hasD,e0,e1,e3,amu,aW,kw7,jQ]
theorem ags:zbo=some true:=by
 have p1:=nn px py
 have p2:=nn yL yM
 have l1:=yh px
 unfold lk at l1
 rw[zp py,sv] at l1
 rw[sv] at p1
 rw[aaQ] at p2
 unfold zbo
 rw[p1,p2]
 simp[l1]
theorem afF {s:ey} (h:cD s.2.2.2.2.1):zbz s s=some true:=by
 obtain ⟨h1,h2,h3,h4⟩:=h
 unfold zbz
 rw[xj (by omega) (by omega)]
 simp[agf]
theorem nb (s:ey):zaq s=some true:=by
 unfold zaq
 rw[xg]
 simp only[zb,ags]
 cases hs:oC s.2.2.2.2.1 with
 | false=>rfl
 | true =>
   have h:cD s.2.2.2.2.1:=by
     unfold oC at hs
     simp only[Bool.and_eq_true,decide_eq_true_eq,List.all_eq_true] at hs
     exact ⟨hs.1.1.1,fun x hx=>by have:=hs.1.1.2 x hx; simpa using this,hs.1.2,hs.2⟩
   have hm:zby s=some s:=rfl
   rw[hm]
   simp only[Bool.not_true,cond_false,zb,j4 h,yh h,rT h,xx h]
   cases hr:dn s with
   | false =>
     have:lk s=[]:=by unfold lk; rw[zn (by rw[hr]; decide)]
     rw[this]
     simp[xO]
   | true =>
     have e:lk s=eP s:=by unfold lk; rw[zp hr]
     have hne:eP s≠[]:=by
       intro e
       unfold eP at e
       have hk:=(dI hr).1
       exact (ur (k:=s.1) (by omega) hk.2).2.2.1 hk.1 (List.append_eq_nil_iff.1 e).1
     have ht:za3 s=some s:=rfl
     rw[e]
     simp[hne,nn h hr,ht,afF h]
theorem xi:∀ v:p6.ps.V,okV p6.ps v→p6.fn v=some true:=fun v _=>nb v.1
end Go.Proofs.YtmklghkhfimfgaaGreatDoor.Q
