import Derived.Test.YtmklghkhfimfgaaGreatDoorQxa
set_option linter.unusedVariables false
set_option linter.unusedSimpArgs false
set_option maxRecDepth 100000
namespace Go.Proofs.YtmklghkhfimfgaaGreatDoor.Q
open Go.EM Go.TY Go.Proofs Go.Proofs.YtmklghkhfimfgaaGreatDoor.Y
def iw (a:List UInt8):Nat→List UInt8→List UInt8×List UInt8×Unit
 | _,[]=>(a,[],())
 | i,b::t=>if b.toNat=32 then (a.take i,a.drop (i+1),()) else iw a (i+1) t
def rQ (r:List UInt8):List UInt8 :=
 match r with
 | b::t=>if b=32 then t else b::t
 | []=>[]
def hP (a:List UInt8):Bool→Nat→List UInt8→List UInt8×List UInt8×Unit
 | _,_,[]=>(a,[],())
 | e,i,b::t=>if 0<i∧b.toNat=34∧e=false then (a.take (i+1),rQ (a.drop (i+1)),()) else hP a (if b.toNat=92 then !e else false) (i+1) t
theorem aoU {r:List UInt8} (hr:r.length<1000000):zao r [32]=some (rQ r):=by
 unfold zao zak zal rQ
 cases r with
 | nil=>simp
 | cons c t =>
   simp only[zl] at hr
   rw[ac,zp (by simp; omega),show (0:Int)=((0:Nat):Int) from rfl,show (([32]:List UInt8).length:Int)=((1:Nat):Int) from rfl,bV (by omega) (by simp)]
   by_cases hc:c=32
   · subst hc
     rw[bV (by simp) (by simp)]
     simp
   · simp[hc]
theorem yW {a:List UInt8} (ha:a.length<1000000) (h0:a.head? ≠ some 34):zbq a=some (iw a 0 a):=by
 have key:∀ (k i:Nat) (e:Bool),a.length-i≤k→i≤a.length→aJ (fF a) (e,(i:Int),())=some (iw a i (a.drop i)):=by
   intro k
   induction k with
   | zero =>
     intro i e hk hi
     refine aq ?_
     unfold fF
     simp only[ac]
     rw[zn (by omega),List.drop_eq_nil_of_le (by omega)]
     rfl
   | succ k ih =>
     intro i e hk hi
     by_cases hlt:i<a.length
     · have hne : a[0].toNat ≠ 34 := by
         intro h
         refine h0 ?_
         cases a with
         | nil=>simp at hlt
         | cons c t =>
           simp only[List.getElem_cons_zero] at h
           simp only[List.head?_cons,Option.some.injEq]
           exact UInt8.toNat_inj.1 h
       have n34:¬ ((a[0].toNat:Int)=34):=by omega
       rw[cS hlt]
       unfold iw
       by_cases h32:a[i].toNat=32
       · rw[zp h32]
         refine aq ?_
         unfold fF
         simp only[ac,aE]
         rw[zp (by omega),show (0:Int)=((0:Nat):Int) from rfl,aR (by omega),aR hlt]
         simp only[zb,ac,aE]
         rw[zn (by omega)]
         simp only[zb,au,ac]
         rw[zp (by omega),bV (by omega) (by omega),wrap64 (by omega) (by omega),tE (i+1) (by omega) (by omega)]
         simp
       · rw[zn h32]
         rw[ay (b:=(if a[i].toNat=92 then !e else false,((i+1:Nat):Int),()))]
         · exact ih (i+1) _ (by omega) (by omega)
         unfold fF
         simp only[ac,aE]
         rw[zp (by omega),show (0:Int)=((0:Nat):Int) from rfl,aR (by omega),aR hlt]
         simp only[zb,ac,aE]
         rw[zn (by omega)]
         simp only[zb,au,ac]
         rw[zn (by omega),zn (by omega)]
         simp only[zb,au,ac]
         rw[wrap64 (by omega) (by omega)]
         by_cases h92:a[i].toNat=92
         · rw[zp h92,zp (by omega)]; rfl
         · rw[zn h92,zn (by omega)]; rfl
     · refine aq ?_
       unfold fF
       simp only[ac]
       rw[zn (by omega),List.drop_eq_nil_of_le (by omega)]
       rfl
 have:=key a.length 0 false (by omega) (by omega)
 simpa [zbq] using this
theorem yV {a:List UInt8} (ha:a.length<1000000) (h0:a.head? = some 34):zbq a=some (hP a false 0 a):=by
 have key:∀ (k i:Nat) (e:Bool),a.length-i≤k→i≤a.length→aJ (fF a) (e,(i:Int),())=some (hP a e i (a.drop i)):=by
   intro k
   induction k with
   | zero =>
     intro i e hk hi
     refine aq ?_
     unfold fF
     simp only[ac]
     rw[zn (by omega),List.drop_eq_nil_of_le (by omega)]
     rfl
   | succ k ih =>
     intro i e hk hi
     by_cases hlt:i<a.length
     · have heq : a[0].toNat = 34 := by
         cases a with
         | nil=>simp at hlt
         | cons c t =>
           simp only[List.head?_cons,Option.some.injEq] at h0
           subst h0
           rfl
       rw[cS hlt]
       unfold hP
       have next:¬ (0<i∧a[i].toNat=34∧e=false)→aJ (fF a) (e,(i:Int),())=some (hP a (if a[i].toNat=92 then !e else false) (i+1) (a.drop (i+1))):=by
         intro hn
         rw[ay (b:=(if a[i].toNat=92 then !e else false,((i+1:Nat):Int),()))]
         · exact ih (i+1) _ (by omega) (by omega)
         unfold fF
         simp only[ac,aE]
         rw[zp (by omega),show (0:Int)=((0:Nat):Int) from rfl,aR (by omega),aR hlt]
         simp only[zb,ac,aE]
         rw[zp (by omega)]
         simp only[zb,au,ac,cond_false]
         rw[zp (by omega),wrap64 (by omega) (by omega)]
         have tail:(if ((a[i].toNat:Int)=92) then some (Sum.inl (!e,(i:Int)+1,())) else some (Sum.inl (false,(i:Int)+1,())):Option ((Bool×Int×Unit)⊕(List UInt8×List UInt8×Unit)))=some (.inl (if a[i].toNat=92 then !e else false,((i+1:Nat):Int),())):=by
           by_cases h92:a[i].toNat=92
           · rw[zp h92,zp (by omega)]; rfl
           · rw[zn h92,zn (by omega)]; rfl
         by_cases hi0:i=0
         · rw[zn (by omega)]
           simp only[zb,au]
           exact tail
         · rw[zp (by omega)]
           by_cases h34:a[i].toNat=34
           · rw[zp (by omega)]
             cases e with
             | false=>exact absurd ⟨by omega,h34,rfl⟩ hn
             | true =>
               simp only[Bool.not_true,cond_false,zb,au]
               exact tail
           · rw[zn (by omega)]
             simp only[zb,au]
             exact tail
       by_cases hs:0<i∧a[i].toNat=34∧e=false
       · rw[zp hs]
         obtain ⟨hi0,h34,rfl⟩:=hs
         refine aq ?_
         unfold fF
         simp only[ac,aE]
         rw[zp (by omega),show (0:Int)=((0:Nat):Int) from rfl,aR (by omega),aR hlt]
         simp only[zb,ac,aE]
         rw[zp (by omega)]
         simp only[zb,au,ac,cond_false]
         rw[zp (by omega),zp (by omega),zp (by omega)]
         simp only[Bool.not_false,cond_true]
         rw[wrap64 (by omega) (by omega),show (i:Int)+1=((i+1:Nat):Int) by omega,bV (by omega) (by omega),tE (i+1) rfl (by omega)]
         simp only[zb]
         rw[aoU (by rw[List.length_drop]; omega)]
         simp
       · rw[zn hs]
         exact next hs
     · refine aq ?_
       unfold fF
       simp only[ac]
       rw[zn (by omega),List.drop_eq_nil_of_le (by omega)]
       rfl
 have:=key a.length 0 false (by omega) (by omega)
 simpa [zbq] using this
theorem pJ {a:List UInt8}{r:List UInt8}:∀ (w:List UInt8) (i:Nat),(∀ b∈w,b.toNat≠32)→iw a i (w++32::r)=(a.take (i+w.length),a.drop (i+w.length+1),())
 | [],i,_=>by simp[iw]
 | b::w,i,h=>by
   rw[List.cons_append,iw,zn (h b (List.mem_cons_self ..)),pJ w (i+1) (fun x hx=>h x (List.mem_cons_of_mem _ hx)),zl,show i+1+w.length=i+(w.length+1) by omega]
theorem pI {a:List UInt8}:∀ (w:List UInt8) (i:Nat),(∀ b∈w,b.toNat≠32)→iw a i w=(a,[],())
 | [],i,_=>by simp[iw]
 | b::w,i,h=>by
   rw[iw,zn (h b (List.mem_cons_self ..)),pI w (i+1) (fun x hx=>h x (List.mem_cons_of_mem _ hx))]
theorem kG {a r:List UInt8}:∀ (t:List UInt8) (i:Nat),0<i→hP a false i (aL t++34::r)=(a.take (i+(aL t).length+1),rQ (a.drop (i+(aL t).length+1)),())
 | [],i,hi=>by
   simp only[aL,List.flatMap_nil,List.nil_append,hP,List.length_nil,Nat.add_zero]
   rw[zp ⟨hi,by decide,trivial⟩]
 | b::t,i,hi=>by
   rw[bU]
   by_cases hb:dS b=true
   · rw[zp hb]
     have hs:b.toNat=34∨b.toNat=92:=by simpa [dS] using hb
     simp only[List.cons_append,List.nil_append,zl]
     rw[hP,zn (by intro h; exact absurd h.2.1 (by decide)),zp (by decide),hP,zn (by intro h; exact absurd h.2.2 (by decide))]
     have e:(if b.toNat=92 then !(!false) else false)=false:=by split<;>rfl
     rw[e,kG t (i+1+1) (by omega)]
     rw[show i+1+1+(aL t).length=i+((aL t).length+1+1) by omega]
   · rw[zn hb]
     have hs:¬ b.toNat=34∧¬ b.toNat=92:=by simpa [dS] using hb
     simp only[List.cons_append,List.nil_append,zl]
     rw[hP,zn (fun h=>hs.1 h.2.1),zn hs.2,kG t (i+1) (by omega)]
     rw[show i+1+(aL t).length=i+((aL t).length+1) by omega]
def aS:List (List UInt8)→List UInt8
 | []=>[]
 | a::l=>32::(a++aS l)
def fP:List (List UInt8)→List UInt8
 | []=>[]
 | a::l=>a++aS l
def tP (w:List UInt8):Prop:=(∀ b∈w,b.toNat≠32)∧w.head? ≠ some 34
theorem d5 {w:List UInt8}{l:List (List UInt8)} (hw:tP w) (hl:(w++aS l).length<1000000):zbq (w++aS l)=some (w,fP l,()):=by
 obtain ⟨h1,h2⟩:=hw
 have h0:(w++aS l).head? ≠ some 34:=by
   cases w with
   | nil=>cases l<;>simp[aS]
   | cons c t=>simpa using h2
 rw[yW hl h0]
 cases l with
 | nil =>
   simp only[aS,List.append_nil,fP]
   rw[pI w 0 h1]
 | cons a l =>
   simp only[aS,fP]
   rw[pJ w 0 h1]
   simp
theorem vx {t:List UInt8}{l:List (List UInt8)} (hl:(34::(aL t++34::aS l)).length<1000000):zbq (34::(aL t++34::aS l))=some (34::(aL t++[34]),fP l,()):=by
 rw[yV hl rfl,hP,zn (by omega),zn (by decide),kG t 1 (by omega)]
 congr 1
 have e1:(34::(aL t++34::aS l)).take (1+(aL t).length+1)=34::(aL t++[34]):=by
   rw[show 1+(aL t).length+1=(aL t).length+1+1 by omega,List.take_succ_cons,List.take_append]
   simp[List.take_of_length_le]
 have e2:(34::(aL t++34::aS l)).drop (1+(aL t).length+1)=aS l:=by
   rw[show 1+(aL t).length+1=(aL t).length+1+1 by omega,List.drop_succ_cons,List.drop_append]
   simp
 rw[e1,e2]
 cases l<;>simp[aS,fP,rQ]
theorem nD {l:List (List UInt8)} (hl:l.length<1000) {k:Nat} (hk:k<l.length) (hn:∀ j (hj:j<k),l[j]'(by omega)≠l[k]):zac l l[k]=some (k:Int):=by
 have key:∀ (n i:Nat),k-i≤n→i≤k→aJ (gQ l l[k]) ((i:Int),())=some (k:Int):=by
   intro n
   have fin:∀ i:Nat,i=k→aJ (gQ l l[k]) ((i:Int),())=some (k:Int):=by
     intro i e
     subst e
     refine aq ?_
     unfold gQ
     rw[ac,zp (by omega),aR hk]
     simp
   induction n with
   | zero=>intro i h1 h2; exact fin i (by omega)
   | succ n ih =>
     intro i h1 h2
     by_cases hi:i<k
     · rw[ay (b:=(((i+1:Nat):Int),()))]
       · exact ih (i+1) (by omega) (by omega)
       unfold gQ
       rw[ac,zp (by omega),aR (show i<l.length by omega)]
       simp only[zb,ac]
       rw[zn (fun e=>hn i hi e.symm),wrap64 (by omega) (by omega)]
       rfl
     · exact fin i (by omega)
 simpa [zac] using key k 0 (by omega) (by omega)
end Go.Proofs.YtmklghkhfimfgaaGreatDoor.Q
namespace Go.Proofs.YtmklghkhfimfgaaGreatDoor.Q
open Go.EM Go.TY Go.Proofs Go.Proofs.YtmklghkhfimfgaaGreatDoor.Y
theorem apj {n:Nat}{k:Nat} (h:k<n):inI n (k:Int)=some k:=by
 unfold inI
 rw[zp (by omega)]
 rfl
theorem iB {a:List UInt8} (ha:a.length<1000000) {i:Nat} (hi:i<a.length) {e:Bool}{pre:List (List UInt8)}{cur:List UInt8} (hp:pre.length<1000000) (hc:cur.length<1000000)
   (h1:e=true→a[i].toNat=47∨a[i].toNat=92) (h2:e=false→¬ a[i].toNat=47∧¬ a[i].toNat=92) :
   cV a (e,(i:Int),pre++[cur],())=some (.inl (false,((i+1:Nat):Int),pre++[cur++[a[i]]],())):=by
 have fin : ((inI (pre ++ [cur]).length (IntKind.wrap .i64 (((pre ++ [cur]).length : Int) - 1))).bind fun i6 =>
     ((pre++[cur])[i6]?).bind fun x7 =>
     (catT x7 (([(a[i].toNat:Int)]:List Int).map fun n=>UInt8.ofNat n.toNat)).bind fun s8 =>
     (inI (pre++[cur]).length (IntKind.wrap .i64 (((pre++[cur]).length:Int)-1))).bind fun i9 =>
     ((pre++[cur])[i9]?).bind fun x10 =>
     some (.inl (false,(IntKind.wrap .i64 ((i:Int)+1)),((pre++[cur]).set i9 s8),())):Option ((Bool×Int×List (List UInt8)×Unit)⊕((Bool×List (List UInt8)×Unit)⊕(List (List UInt8)×Bool×Unit))))=some (.inl (false,((i+1:Nat):Int),pre++[cur++[a[i]]],())):=by
   have hlen:(pre++[cur]).length=pre.length+1:=by simp
   rw[hlen,wrap64 (by omega) (by omega),wrap64 (by omega) (by omega),show (((pre.length+1:Nat):Int)-1)=(pre.length:Int) by omega,apj (by omega)]
   have hg:(pre++[cur])[pre.length]? = some cur:=by simp
   simp only[zb,hg,List.map_cons,List.map_nil,Int.toNat_natCast]
   rw[aD (by simp; omega)]
   simp
 unfold cV
 simp only[ac,aE]
 rw[zp (by omega),aR hi]
 simp only[zb]
 cases e with
 | true =>
   have:=h1 rfl
   simp only[cond_true,Bool.not_true,cond_false]
   rcases this with h | h
   · rw[zp (by omega)]
     simp only[zb,au,cond_false]
     exact fin
   · rw[zn (by omega)]
     have:(!decide ((a[i].toNat:Int)=92))=false:=by rw[zt (by omega)]; rfl
     simp only[zb,au,this,cond_false]
     exact fin
 | false =>
   obtain ⟨h3,h4⟩:=h2 rfl
   simp only[cond_true,Bool.not_false,cond_false,zb,au]
   rw[zn (by omega),zn (by omega)]
   simp only[zb,au]
   exact fin
theorem pW {a:List UInt8} (ha:a.length<1000000) {i:Nat} (hi:i<a.length) {o:List (List UInt8)} (h:a[i].toNat=92) :
   cV a (false,(i:Int),o,())=some (.inl (true,((i+1:Nat):Int),o,())):=by
 unfold cV
 simp only[ac,aE]
 rw[zp (by omega),aR hi]
 simp only[zb,cond_false,au,Bool.not_false,cond_true]
 rw[zp (by omega),wrap64 (by omega) (by omega)]
 rfl
theorem kP {a:List UInt8} (ha:a.length<1000000) {i:Nat} (hi:i<a.length) {o:List (List UInt8)} (ho:o.length<1000000) (h:a[i].toNat=47) :
   cV a (false,(i:Int),o,())=some (.inl (false,((i+1:Nat):Int),o++[[]],())):=by
 unfold cV
 simp only[ac,aE]
 rw[zp (by omega),aR hi]
 simp only[zb,cond_false,au,Bool.not_false,cond_true]
 rw[zn (by omega),zp (by omega),cW (by simp; omega),wrap64 (by omega) (by omega)]
 rfl
theorem dX {b:UInt8}{s:List UInt8}:aZ (b::s)=(if b.toNat=47∨b.toNat=92 then [92,b] else [b])++aZ s:=by unfold aZ; rw[List.flatMap_cons]
theorem bH {a t:List UInt8}{i:Nat}{b:UInt8} (h:a.drop i=b::t):∃ hi:i<a.length,a[i]=b∧a.drop (i+1)=t:=by
 have hi:i<a.length:=by
   rcases Nat.lt_or_ge i a.length with h' | h'
   · exact h'
   · rw[List.drop_eq_nil_of_le h'] at h; cases h
 rw[cS hi] at h
 injection h with h1 h2
 exact ⟨hi,h1,h2⟩
theorem gA {a r:List UInt8} (ha:a.length<1000000) {pre:List (List UInt8)} (hp:pre.length<1000000):∀ (x:List UInt8) (i:Nat) (cur:List UInt8),cur.length+x.length<1000000→a.drop i=aZ x++r →
   aJ (cV a) (false,(i:Int),pre++[cur],())=aJ (cV a) (false,((i+(aZ x).length:Nat):Int),pre++[cur++x],())
 | [],i,cur,_,_=>by simp[aZ]
 | b::x,i,cur,hc,h=>by
   simp only[zl] at hc
   rw[dX] at h
   by_cases hb:b.toNat=47∨b.toNat=92
   · rw[zp hb] at h
     simp only[List.cons_append,List.nil_append] at h
     obtain ⟨hi,e1,h⟩:=bH h
     obtain ⟨hi2,e2,h⟩:=bH h
     rw[ay (pW ha hi (by rw[e1]; rfl)),ay (iB ha hi2 hp (by omega) (fun _=>by rw[e2]; exact hb) (fun h=>by cases h)),e2]
     rw[gA ha hp x (i+1+1) (cur++[b]) (by simp; omega) h,dX,zp hb]
     simp only[List.append_assoc,List.cons_append,List.nil_append,zl,List.length_append]
     rw[show i+1+1+(aZ x).length=i+((aZ x).length+1+1) by omega]
   · rw[zn hb] at h
     simp only[List.cons_append,List.nil_append] at h
     obtain ⟨hi,e1,h⟩:=bH h
     rw[ay (iB ha hi hp (by omega) (fun h=>by cases h) (fun _=>by rw[e1]; omega)),e1]
     rw[gA ha hp x (i+1) (cur++[b]) (by simp; omega) h,dX,zn hb]
     simp only[List.append_assoc,List.cons_append,List.nil_append,zl,List.length_append]
     rw[show i+1+(aZ x).length=i+((aZ x).length+1) by omega]
theorem lh {x:List UInt8}:cT [x]=aZ x:=by simp[cT,Lib.join]
theorem jv {x y:List UInt8}{p:Path}:cT (x::y::p)=aZ x++47::cT (y::p):=by
 unfold cT
 rw[List.map_cons,List.map_cons]
 simp[Lib.join]
theorem mZ {a:List UInt8} (ha:a.length<1000000):∀ (p:Path) (x:List UInt8) (i:Nat) (pre:List (List UInt8)),pre.length+p.length<100000→(∀ z∈x::p,z.length<100000)→a.drop i=cT (x::p) →
   aJ (cV a) (false,(i:Int),pre++[[]],())=some (.inl (false,pre++x::p,()))
 | [],x,i,pre,hl,hz,h=>by
   rw[lh] at h
   have hx:=hz x (List.mem_cons_self ..)
   rw[gA (r:=[]) ha (by omega) x i [] (by simp; omega) (by rw[h,List.append_nil])]
   refine aq ?_
   unfold cV
   have hi:a.length-i=(aZ x).length:=by rw[← h,List.length_drop]
   have hn:¬ (i+(aZ x).length<a.length):=by omega
   simp only[ac]
   rw[zn (by omega)]
   simp
 | y::p,x,i,pre,hl,hz,h=>by
   rw[jv] at h
   have hx:=hz x (List.mem_cons_self ..)
   simp only[zl] at hl
   rw[gA (r:=47::cT (y::p)) ha (by omega) x i [] (by simp; omega) h]
   have h2:a.drop (i+(aZ x).length)=47::cT (y::p):=by
     rw[← List.drop_drop,h,List.drop_left]
   obtain ⟨hi,e1,h3⟩:=bH h2
   rw[ay (kP ha hi (by simp; omega) (by rw[e1]; rfl)),List.nil_append,mZ ha p y (i+(aZ x).length+1) (pre++[x]) (by simp; omega) (fun z hz'=>hz z (List.mem_cons_of_mem _ hz')) h3]
   simp
theorem rT {p:Path} (hp:p≠[]) (h1:p.length≤12) (h:∀ x∈p,x.length≤120):zb9 (cT p)=some (p,true,()):=by
 cases p with
 | nil=>exact absurd rfl hp
 | cons x p =>
   have hl:=eV h1 h
   simp only[zl] at h1
   have:=mZ (a:=cT (x::p)) (by omega) p x 0 [] (by simp; omega) (fun z hz=>by have:=h z hz; omega) rfl
   unfold zb9
   rw[List.nil_append,List.nil_append] at this
   rw[show (0:Int)=((0:Nat):Int) from rfl,this]
   rfl
theorem qj {p:Path} (hc:bS p=0) (h1:p.length≤12) (h:∀ x∈p,x.length≤120):zcg (cT p)=some (p,0,()):=by
 have hp:p≠[]:=by rintro rfl; cases hc
 have hne:cT p≠[]:=by
   intro e
   have hs:=rT hp h1 h
   rw[e] at hs
   have h0:zb9 []=some ([[]],true,()):=by
     unfold zb9
     rw[aq (x:=.inl (false,[[]],())) (by unfold cV; simp)]
     rfl
   rw[h0] at hs
   simp only[Option.some.injEq,Prod.mk.injEq,and_true] at hs
   rw[← hs] at hc
   simp[bS,eQ,dv] at hc
 unfold zcg
 rw[rT hp h1 h]
 simp only[zb,Bool.not_true,cond_false,ac]
 rw[zn hne,pi (fun x hx=>by have:=h x hx; omega),hc]
 rfl
end Go.Proofs.YtmklghkhfimfgaaGreatDoor.Q
namespace Go.Proofs.YtmklghkhfimfgaaGreatDoor.Q
open Go.EM Go.TY Go.Proofs Go.Proofs.YtmklghkhfimfgaaGreatDoor.Y
abbrev cQ:=Int×Int×Int×Int×Op1×Dot1×Unit
def hasR (k:Int):Bool:=decide (k<11∨14<k)
def hasN (k:Int):Bool:=decide (9≤k∧k≤16)
def hasU (k:Int):Bool:=decide (k=1∨(5≤k∧k≤8)∨k=14)
def hasD (k:Int):Bool:=decide (k=7∨k=8)
theorem fL (k:Int):zc0 k 114=some (hasR k):=by
 unfold zc0 hasR
 simp only[ac]
 rw[zp trivial]
 by_cases h:k<11
 · rw[zp h,zt (by omega)]
 · rw[zn h]; congr 1; rw[decide_eq_decide]; omega
theorem fM (k:Int):zc0 k 110=some (hasN k):=by
 unfold zc0 hasN
 simp only[ac]
 rw[zn (by decide),zp trivial]
 by_cases h:k≥9
 · rw[zp h]; congr 1; rw[decide_eq_decide]; omega
 · rw[zn h,zf (by omega)]
theorem fK (k:Int):zc0 k 117=some (hasU k):=by
 unfold zc0 hasU
 simp only[ac]
 rw[zn (by decide),zn (by decide),zp trivial]
 by_cases h:k=1
 · rw[zp h,zt (by omega)]
 · rw[zn h]
   by_cases h5:k≥5
   · rw[zp h5]
     by_cases h8:k≤8
     · rw[zp h8,zt (by omega)]
     · rw[zn h8]; congr 1; rw[decide_eq_decide]; omega
   · rw[zn h5]; congr 1; rw[decide_eq_decide]; omega
theorem fN (k:Int):zc0 k 100=some (hasD k):=by
 unfold zc0 hasD
 simp only[ac]
 rw[zn (by decide),zn (by decide),zn (by decide),zp trivial]
 by_cases h:k=7
 · rw[zp h,zt (by omega)]
 · rw[zn h]; congr 1; rw[decide_eq_decide]; omega
def offB (p b:Int):Prop:=(IntKind.wrap .i64 ((BitVec.ofInt (IntKind.bits .i64) p &&& BitVec.ofInt (IntKind.bits .i64) b).toNat))=0
instance (p b:Int):Decidable (offB p b):=inferInstanceAs (Decidable (_=_))
def dE (k:Int):Int:=if k=1∨k=5∨k=6 then 3 else if k=2 then 17 else if k=7∨k=8 then 11 else if k=9∨k=10∨k=15∨k=16 then 5 else if k=11∨k=12∨k=13 then 4 else if k=14 then 6 else 1
theorem z7:∀ x:Fin 20,zbf (x.val:Int)=some (dE x.val)∧(offB (dE x.val) 1↔hasR x.val=false)∧(offB (dE x.val) 2↔hasU x.val=false)∧(offB (dE x.val) 4↔hasN x.val=false)∧(offB (dE x.val) 8↔hasD x.val=false)∧(offB (dE x.val) 16↔¬ ((x.val:Nat):Int)=2):=by decide
theorem oI {k:Int} (h0:0≤k) (h1:k≤19):zbf k=some (dE k)∧(offB (dE k) 1↔hasR k=false)∧(offB (dE k) 2↔hasU k=false)∧(offB (dE k) 4↔hasN k=false)∧(offB (dE k) 8↔hasD k=false)∧(offB (dE k) 16↔¬ k=2):=by
 obtain ⟨n,rfl⟩:=Int.eq_ofNat_of_zero_le h0
 exact z7 ⟨n,by omega⟩
def numM (n:Int) (h:Bool):Bool:=if h=true then decide (0≤n∧n≤2147483647) else decide (n=0)
theorem z6 {n p b:Int}{h:Bool} (hb:offB p b↔h=false):za4 n b p=some (numM n h):=by
 unfold za4 numM
 cases h with
 | false =>
   have:offB p b:=hb.2 rfl
   unfold offB at this
   rw[this]
   simp
 | true =>
   have:¬ offB p b:=fun e=>by cases hb.1 e
   unfold offB at this
   rw[zf this,zp rfl]
   simp only[cond_false,ac]
   by_cases h0:n≥0
   · rw[zp h0]; congr 1; rw[decide_eq_decide]; omega
   · rw[zn h0,zf (by omega)]
theorem sc (n:Int) (h:Bool):za9 n h=some (numM n h):=by
 unfold za9 numM
 simp only[ac]
 cases h with
 | false =>
   by_cases h0:n=0
   · rw[zp h0,zt h0]; rfl
   · rw[zn h0,zf h0]; rfl
 | true =>
   rw[zp rfl,cond_true]
   by_cases h0:n=0
   · rw[zp h0,zt (by omega)]
   · rw[zn h0]
     by_cases h1:n>0
     · rw[zp h1]; congr 1; rw[decide_eq_decide]; omega
     · rw[zn h1,zf (by omega)]
theorem acq (o:Op1):zc6 o=some (ka o):=by
 obtain ⟨k,p,v,n,sn,⟨⟩⟩:=o
 unfold zc6 ka
 simp only[ac,aaU]
 have ez:((0,0,[],()):Val)=zeroV:=rfl
 simp only[ez]
 have e1:((p.length:Int)=0)↔p=[]:=by rw[show ((p.length:Int)=0)↔p.length=0 by omega,List.length_eq_zero_iff]
 have e2:((sn.length:Int)=0)↔sn=[]:=by rw[show ((sn.length:Int)=0)↔sn.length=0 by omega,List.length_eq_zero_iff]
 simp only[e1,e2]
 by_cases h1:k=0<;>by_cases h2:p=[]<;>by_cases h3:v=zeroV<;>by_cases h4:n=0<;>by_cases h5:sn=[]<;>simp[h1,h2,h3,h4,h5]
theorem we {l:List Ref1} (hl:l.length<1000000):∃ b,zc5 l=some b:=by
 have key:∀ (k i:Nat),l.length-i≤k→i≤l.length→∃ b,aJ (jO l) ((i:Int),())=some b:=by
   intro k
   have fin:∀ i:Nat,i=l.length→∃ b,aJ (jO l) ((i:Int),())=some b:=by
     intro i e
     refine ⟨true,aq ?_⟩
     unfold jO
     simp only[ac]
     rw[zn (by omega)]
   induction k with
   | zero=>intro i h1 h2; exact fin i (by omega)
   | succ k ih =>
     intro i h1 h2
     by_cases hi:i<l.length
     · have turn : jO l ((i : Int), ()) = some (.inr false) ∨ jO l ((i : Int), ()) = some (.inl (((i + 1 : Nat) : Int), ())) := by
         unfold jO
         simp only[ac]
         rw[zp (by omega),aR hi]
         simp only[zb,gI]
         have step:∀ b:Bool,((cond b (some (Sum.inr false)) (if (i:Int)>0 then (atI l (IntKind.wrap .i64 ((i:Int)-1))).bind fun x5=>(zc1 x5 l[i]).bind fun r6=>if r6≥0 then some (Sum.inr false) else some (Sum.inl (IntKind.wrap .i64 ((i:Int)+1),())) else some (Sum.inl (IntKind.wrap .i64 ((i:Int)+1),())))):Option ((Int×Unit)⊕Bool))=some (.inr false)∨((cond b (some (Sum.inr false)) (if (i:Int)>0 then (atI l (IntKind.wrap .i64 ((i:Int)-1))).bind fun x5=>(zc1 x5 l[i]).bind fun r6=>if r6≥0 then some (Sum.inr false) else some (Sum.inl (IntKind.wrap .i64 ((i:Int)+1),())) else some (Sum.inl (IntKind.wrap .i64 ((i:Int)+1),())))):Option ((Int×Unit)⊕Bool))=some (.inl (((i+1:Nat):Int),())):=by
           intro b
           cases b with
           | true=>exact .inl rfl
           | false =>
             rw[cond_false]
             by_cases h0:(i:Int)>0
             · rw[zp h0,wrap64 (by omega) (by omega),show (i:Int)-1=((i-1:Nat):Int) by omega,aR (by omega)]
               simp only[zb,aa1]
               split
               · exact .inl rfl
               · right; rw[wrap64 (by omega) (by omega)]; rfl
             · rw[zn h0,wrap64 (by omega) (by omega)]; exact .inr rfl
         cases bD l[i].1 with
         | false =>
           simp only[Bool.not_false,cond_true,zb]
           exact .inl trivial
         | true =>
           simp only[Bool.not_true,cond_false,zb]
           cases decide (l[i].2.1<0) with
           | true =>
             simp only[cond_true,zb]
             exact .inl trivial
           | false =>
             simp only[cond_false,zb]
             exact step _
       rcases turn with h | h
       · exact ⟨_,aq h⟩
       · rw[ay h]
         exact ih (i+1) (by omega) (by omega)
     · exact fin i (by omega)
 exact key l.length 0 (by omega) (by omega)
theorem sh {o:Op1} (h:bm o):∃ c,zc4 o=some c:=by
 obtain ⟨s1,s2,s3,s4⟩:=h
 have hv:=tu (o:=o) (by omega)
 have ha:=uN o
 obtain ⟨b,hb⟩:=we (l:=o.2.2.2.2.1) (by omega)
 unfold zc4
 simp only[ac,aE,pi (p:=o.2.1) (fun x hx=>by have:=s2 x hx; omega),hv,ha,hb,zb]
 generalize (if o.1=3∨o.1=5 then decide (o.2.2.1=zeroV) else bc o.2.2.1)=bv
 generalize (if o.1=3 then decide (o.2.2.2.1≠0 ∧ -2147483647≤o.2.2.2.1∧o.2.2.2.1≤2147483647) else decide (o.2.2.2.1=0))=ba
 by_cases a1:o.1<1
 · exact ⟨_,zp a1⟩
 rw[zn a1]
 by_cases a2:o.1>5
 · exact ⟨_,zp a2⟩
 rw[zn a2]
 by_cases a3:bS o.2.1=0
 · rw[zp a3]
   by_cases k1:o.1=1<;>by_cases k4:o.1=4<;>by_cases k5:o.1=5<;>cases bv<;>cases ba<;>cases b<;>by_cases l0:(o.2.2.2.2.1.length:Int)>0<;>by_cases l2:(o.2.2.2.2.1.length:Int)>256<;>simp[k1,k4,k5,l0,l2,au]<;>split<;>exact ⟨_,rfl⟩
 · rw[zn a3]
   exact ⟨_,rfl⟩
theorem qK {c:UInt8}:∀ (l:List UInt8) (i:Nat),bd c l i≥0↔c∈l
 | [],i=>by simp[bd]
 | b::l,i=>by
   simp only[bd,List.mem_cons]
   cases e:Nat.beq b.toNat c.toNat with
   | true =>
     rw[Nat.beq_eq] at e
     have:=UInt8.toNat_inj.1 e
     subst this
     simp
   | false =>
     have hn:¬ c=b:=by
       rintro rfl
       have:Nat.beq c.toNat c.toNat=true:=by rw[Nat.beq_eq]
       rw[this] at e; cases e
     rw[cond_false,qK l (i+1)]
     simp[hn]
theorem wJ (s:List UInt8):zaw s [10]=some (decide (10∈s)):=by
 unfold zaw za3
 by_cases h:s=[10]
 · subst h
   have:zat [10] [10]=some 0:=by
     unfold zat
     simp only[ac,zl,List.length_nil]
     rw[zn (by decide)]; rfl
   rw[this]
   rfl
 · have : zat s [10] = some (bd 10 s 0) := by
     unfold zat zam indexByte
     simp only[ac,zl,List.length_nil]
     rw[zn (by decide),zn (fun e=>h e.symm),zp (by decide)]
     rfl
   rw[this]
   simp only[zb]
   congr 1
   rw[decide_eq_decide]
   exact qK s 0
theorem apl {s:List UInt8} (hs:s.length<1000000):zcq s=some (decide (10∈s)):=by
 have:=iM (f:=tc s) (l:=s) (fun i=>((i:Int),())) (fun b=>decide (b≠10)) false true (fun i h=>by
   unfold tc
   simp only[ac]
   rw[zp (by omega),aR h]
   simp only[zb]
   by_cases hb:s[i]=10
   · rw[hb,zp (by rfl)]
     simp
   · have:¬ ((s[i].toNat:Int)=10):=fun e=>hb (UInt8.toNat_inj.1 (by show s[i].toNat=10; omega))
     rw[zn this,wrap64 (by omega) (by omega)]
     simp[hb]) (by
   unfold tc
   simp only[ac]
   rw[zn (by omega)])
 unfold zcq
 rw[show (0:Int)=((0:Nat):Int) from rfl,this]
 congr 1
 by_cases h:(10:UInt8)∈s
 · rw[zt h,zn]
   intro e
   have:=List.all_eq_true.1 e 10 h
   simp at this
 · rw[zf h,zp]
   rw[List.all_eq_true]
   intro x hx
   rw[decide_eq_true_eq]
   rintro rfl
   exact h hx
end Go.Proofs.YtmklghkhfimfgaaGreatDoor.Q
namespace Go.Proofs.YtmklghkhfimfgaaGreatDoor.Q
open Go.EM Go.TY Go.Proofs Go.Proofs.YtmklghkhfimfgaaGreatDoor.Y
noncomputable def co (s:cQ):Bool :=
 decide (1≤s.1∧s.1≤19)&&numM s.2.1 (hasR s.1)&&numM s.2.2.2.1 (hasN s.1)&&numM s.2.2.1 (hasU s.1) &&
 (if hasD s.1=true then bD s.2.2.2.2.2.1 else decide (s.2.2.2.2.2.1=(0,0,()))) &&
 (if s.1=2 then decide (opM s.2.2.2.2.1=0)&&decide (s.2.2.2.2.1.2.2.2.2.1=[]) && !decide (10∈s.2.2.2.2.1.2.2.1.2.2.1) else ka s.2.2.2.2.1)
theorem vP {d:Dot1} (h:bD d=true):d≠(0,0,()):=by
 rintro rfl
 exact absurd (eH h).2.1 (by decide)
theorem aif {s:cQ} (h:bm s.2.2.2.2.1):(if ¬ s.1=2 then zcf s.2.2.2.2.1 else (zbl s.2.2.2.2.1).bind fun r14 =>
   if r14=0 then (if (s.2.2.2.2.1.2.2.2.2.1.length:Int)=0 then (zcq s.2.2.2.2.1.2.2.1.2.2.1).bind fun r15=>some (!r15) else some false) else some false) =
   some (if s.1=2 then decide (opM s.2.2.2.2.1=0)&&decide (s.2.2.2.2.1.2.2.2.2.1=[]) && !decide (10∈s.2.2.2.2.1.2.2.1.2.2.1) else ka s.2.2.2.2.1):=by
 by_cases h2:s.1=2
 · rw[zn (fun e=>e h2),zp h2,ahX h]
   simp only[zb]
   by_cases h0:opM s.2.2.2.2.1=0
   · rw[zp h0,zt h0]
     have e2:((s.2.2.2.2.1.2.2.2.2.1.length:Int)=0)↔s.2.2.2.2.1.2.2.2.2.1=[]:=by rw[show ((s.2.2.2.2.1.2.2.2.2.1.length:Int)=0)↔s.2.2.2.2.1.2.2.2.2.1.length=0 by omega,List.length_eq_zero_iff]
     rw[apl (by have:=h.2.2.1; omega)]
     simp only[e2]
     by_cases hs:s.2.2.2.2.1.2.2.2.2.1=[]
     · rw[zp hs,zt hs]; simp
     · rw[zn hs,zf hs]; simp
   · rw[zn h0,zf h0]; simp
 · rw[zp h2,zn h2,apk]
theorem aig {s:cQ} (h:bm s.2.2.2.2.1):(if ¬ s.1=2 then zc6 s.2.2.2.2.1 else (zc4 s.2.2.2.2.1).bind fun r14 =>
   if r14=0 then (if (s.2.2.2.2.1.2.2.2.2.1.length:Int)=0 then (zaw s.2.2.2.2.1.2.2.1.2.2.1 [10]).bind fun r15=>some (!r15) else some false) else some false) =
   some (if s.1=2 then decide (opM s.2.2.2.2.1=0)&&decide (s.2.2.2.2.1.2.2.2.2.1=[]) && !decide (10∈s.2.2.2.2.1.2.2.1.2.2.1) else ka s.2.2.2.2.1):=by
 by_cases h2:s.1=2
 · rw[zn (fun e=>e h2),zp h2]
   by_cases hs:s.2.2.2.2.1.2.2.2.2.1=[]
   · rw[aag h hs]
     simp only[zb,wJ]
     by_cases h0:opM s.2.2.2.2.1=0
     · rw[zp h0,zt h0,zp (by rw[hs]; rfl),zt hs]
       simp
     · rw[zn h0,zf h0]; simp
   · obtain ⟨c,hc⟩:=sh h
     have hl:¬ (s.2.2.2.2.1.2.2.2.2.1.length:Int)=0:=by
       intro e
       exact hs (List.length_eq_zero_iff.1 (by omega))
     rw[hc,zf hs]
     simp only[zb,zn hl]
     simp
 · rw[zp h2,zn h2,acq]
theorem ia {s:cQ} (h:bm s.2.2.2.2.1):zbs s=some (co s):=by
 have hl:=aif h
 unfold zbs co
 generalize hE:(if s.1=2 then decide (opM s.2.2.2.2.1=0)&&decide (s.2.2.2.2.1.2.2.2.2.1=[]) && !decide (10∈s.2.2.2.2.1.2.2.1.2.2.1) else ka s.2.2.2.2.1)=last at hl ⊢
 simp only[fL,fM,fK,fN,sc,jq,ait,zb,ac,aE]
 by_cases h1:s.1<1
 · rw[zp h1,zf (by omega:¬ (1≤s.1∧s.1≤19))]
   rfl
 rw[zn h1]
 simp only[zb]
 by_cases h2:s.1>19
 · rw[zt h2,zf (by omega:¬ (1≤s.1∧s.1≤19))]
   rfl
 rw[zf h2,zt (⟨by omega,by omega⟩:(1≤s.1∧s.1≤19))]
 simp only[cond_false,zb,Bool.true_and]
 cases numM s.2.1 (hasR s.1) with
 | false=>simp
 | true =>
   cases numM s.2.2.2.1 (hasN s.1) with
   | false=>simp
   | true =>
     cases numM s.2.2.1 (hasU s.1) with
     | false=>simp
     | true =>
       simp only[Bool.not_true,cond_false,Bool.true_and]
       have fin:(((if ¬ s.1=2 then (zcf s.2.2.2.2.1).bind fun r13=>some r13 else (zbl s.2.2.2.2.1).bind fun r14 =>
   if r14 = 0 then (if (s.2.2.2.2.1.2.2.2.2.1.length : Int) = 0 then (zcq s.2.2.2.2.1.2.2.1.2.2.1).bind fun r15 => some (!r15) else some false) else some false)) : Option Bool) = some last := by
         rw[← hl]
         simp
       have fin2:(((if s.1=2 then (zbl s.2.2.2.2.1).bind fun r14 =>
   if r14 = 0 then (if (s.2.2.2.2.1.2.2.2.2.1.length : Int) = 0 then (zcq s.2.2.2.2.1.2.2.1.2.2.1).bind fun r15 => some (!r15) else some false) else some false else (zcf s.2.2.2.2.1).bind fun r13 => some r13)) : Option Bool) = some last := by
         rw[← fin]
         by_cases h2:s.1=2<;>simp[h2]
       by_cases hd:hasD s.1=true
       · rw[zp hd,hd]
         by_cases hz:s.2.2.2.2.2.1=(0,0,())
         · have : bD s.2.2.2.2.2.1 = false := by
             cases e:bD s.2.2.2.2.2.1 with
             | false=>rfl
             | true=>exact absurd hz (vP e)
           simp[hz,this,au]
           intro e
           rw[hz] at this
           rw[this] at e; cases e
         · rw[zf hz]
           cases e:bD s.2.2.2.2.2.1 with
           | false=>simp[au]
           | true =>
             simp only[Bool.not_false,beq_self_eq_true,Bool.not_true,cond_false,cond_true,zb,au,Bool.true_and]
             exact fin2
       · have hd':hasD s.1=false:=by simpa using hd
         rw[zn hd,hd']
         by_cases hz:s.2.2.2.2.2.1=(0,0,())
         · rw[zt hz]
           simp only[Bool.not_true,beq_self_eq_true,cond_false,zb,au,Bool.true_and]
           exact fin2
         · rw[zf hz]
           simp[au]
theorem ab9 {s:cQ} (h:bm s.2.2.2.2.1):zbk s=some (co s):=by
 have hl:=aig h
 unfold zbk co
 generalize hE:(if s.1=2 then decide (opM s.2.2.2.2.1=0)&&decide (s.2.2.2.2.1.2.2.2.2.1=[]) && !decide (10∈s.2.2.2.2.1.2.2.1.2.2.1) else ka s.2.2.2.2.1)=last at hl ⊢
 by_cases h1:s.1<1
 · rw[zt h1,zf (by omega:¬ (1≤s.1∧s.1≤19))]
   rfl
 rw[zf h1]
 by_cases h2:s.1>19
 · rw[zt h2,zf (by omega:¬ (1≤s.1∧s.1≤19))]
   rfl
 rw[zf h2,zt (⟨by omega,by omega⟩:(1≤s.1∧s.1≤19))]
 obtain ⟨p0,p1,p2,p4,p8,p16⟩:=oI (k:=s.1) (by omega) (by omega)
 simp only[cond_false,p0,zb,z6 p1,z6 p2,z6 p4,Bool.true_and]
 cases numM s.2.1 (hasR s.1) with
 | false=>simp
 | true =>
   cases hU:numM s.2.2.1 (hasU s.1) with
   | false=>simp
   | true =>
     cases hN:numM s.2.2.2.1 (hasN s.1) with
     | false=>simp
     | true =>
       simp only[Bool.not_true,cond_false,Bool.true_and]
       have fin : (cond (decide (offB (dE s.1) 16)) ((zc6 s.2.2.2.2.1).bind fun r8 => some r8) ((zc4 s.2.2.2.2.1).bind fun r9 =>
           cond (decide (r9=0)) (cond (decide ((s.2.2.2.2.1.2.2.2.2.1.length:Int)=0)) ((zaw s.2.2.2.2.1.2.2.1.2.2.1 [10]).bind fun r10=>some (!r10)) (some false)) (some false)))=some last:=by
         rw[← hl]
         simp only[ac,p16]
         simp
       unfold offB at p8 fin
       by_cases hd:hasD s.1=true
       · rw[zp hd]
         have n8:¬ (IntKind.wrap .i64 ((BitVec.ofInt (IntKind.bits .i64) (dE s.1) &&& BitVec.ofInt (IntKind.bits .i64) 8).toNat))=0:=fun e=>by rw[p8.1 e] at hd; cases hd
         rw[zf n8]
         simp only[cond_false,Bool.not_false,cond_true,gI,zb]
         cases e:bD s.2.2.2.2.2.1 with
         | false=>simp[au]
         | true =>
           simp only[Bool.not_true,cond_false,zb,au,Bool.true_and]
           exact fin
       · have hd':hasD s.1=false:=by simpa using hd
         rw[zn hd]
         rw[zt (p8.2 hd')]
         simp only[cond_true,ait,Bool.not_true,cond_false]
         by_cases hz:s.2.2.2.2.2.1=(0,0,())
         · rw[zt hz]
           simp only[Bool.not_true,cond_false,zb,au,Bool.true_and]
           exact fin
         · rw[zf hz]
           simp[au]
end Go.Proofs.YtmklghkhfimfgaaGreatDoor.Q
namespace Go.Proofs.YtmklghkhfimfgaaGreatDoor.Q
open Go.EM Go.TY Go.Proofs Go.Proofs.YtmklghkhfimfgaaGreatDoor.Y
def kw:List (List UInt8):=[[],[98,101,103,105,110],[100,111],[99,111,109,109,105,116],[97,98,111,114,116],[117,110,100,111],[114,101,100,111],[111,117,116],[98,97,99,107],[115,101,110,100],[115,97,121],[100,101,108,105,118,101,114],[100,114,111,112],[116,119,105,99,101],[115,112,111,105,108],[99,114,97,115,104],[116,101,97,114],[114,101,115,116,97,114,116],[115,101,97,108],[99,111,109,112,97,99,116]]
def vb:List (List UInt8):=[[],[112,117,116],[97,100,100],[105,110,99],[114,101,109,111,118,101],[114,101,115,101,116]]
def kwS (k:Int):List UInt8:=kw[k.toNat]?.getD []
def vbS (k:Int):List UInt8:=vb[k.toNat]?.getD []
theorem apb:∀ x:Fin 20,atI kw (x.val:Int)=some (kwS x.val)∧(kwS x.val).length≤8∧(1≤x.val→kwS x.val≠[])∧(∀ b∈kwS x.val,b.toNat≠32∧b.toNat≠34):=by decide
theorem aoQ:∀ x:Fin 6,atI vb (x.val:Int)=some (vbS x.val)∧(vbS x.val).length≤6∧(∀ b∈vbS x.val,b.toNat≠32∧b.toNat≠34):=by decide
theorem wq {k:Int} (h0:0≤k) (h1:k≤19):atI kw k=some (kwS k)∧(kwS k).length≤8∧(1≤k→kwS k≠[])∧(∀ b∈kwS k,b.toNat≠32∧b.toNat≠34):=by
 obtain ⟨n,rfl⟩:=Int.eq_ofNat_of_zero_le h0
 have:=apb ⟨n,by omega⟩
 exact ⟨this.1,this.2.1,fun h=>this.2.2.1 (by simp only; omega),this.2.2.2⟩
theorem vy {k:Int} (h0:0≤k) (h1:k≤5):atI vb k=some (vbS k)∧(vbS k).length≤6∧(∀ b∈vbS k,b.toNat≠32∧b.toNat≠34):=by
 obtain ⟨n,rfl⟩:=Int.eq_ofNat_of_zero_le h0
 exact aoQ ⟨n,by omega⟩
theorem cm:∀ a b:List (List UInt8),aS (a++b)=aS a++aS b
 | [],b=>rfl
 | x::a,b=>by simp[aS,cm a b,List.append_assoc]
def seg1 (h:Bool) (n:Int):List (List UInt8):=if h=true then [Lib.itoa n] else []
def gm (o:Op1):List UInt8:=vbS o.1++aS ((if o.1=3 then [Lib.itoa o.2.2.2.1] else if o.1=5 then [] else [b9 o.2.2.1])++[cT o.2.1])
def segD (s:cQ):List (List UInt8):=if hasD s.1=true then [eM s.2.2.2.2.2.1] else []
def segO (s:cQ):List (List UInt8):=if s.1=2 then [gm s.2.2.2.2.1] else []
def cO (s:cQ):List UInt8:=kwS s.1++aS (seg1 (hasR s.1) s.2.1++(seg1 (hasN s.1) s.2.2.2.1++(seg1 (hasU s.1) s.2.2.1++(segD s++segO s))))
noncomputable def jB (s:cQ):List UInt8:=if co s=true then cO s else []
theorem fZ {o:Op1} (h:opM o=0):(1≤o.1∧o.1≤5)∧bS o.2.1=0∧((o.1=3∨o.1=5)→o.2.2.1=zeroV)∧(¬ (o.1=3∨o.1=5)→bc o.2.2.1=true)∧(o.1≠3→o.2.2.2.1=0)∧(o.1=3 → -2147483647≤o.2.2.2.1∧o.2.2.2.1≤2147483647):=by
 unfold opM at h
 by_cases a1:o.1<1∨5<o.1
 · rw[zp a1] at h; omega
 rw[zn a1] at h
 by_cases a2:bS o.2.1≠0
 · rw[zp a2] at h; exact absurd h a2
 rw[zn a2] at h
 by_cases a3:(o.1=3∨o.1=5)∧o.2.2.1≠zeroV
 · rw[zp a3] at h; omega
 rw[zn a3] at h
 by_cases a4:¬ (o.1=3∨o.1=5)∧bc o.2.2.1=false
 · rw[zp a4] at h; omega
 rw[zn a4] at h
 by_cases a5:o.1≠3∧o.2.2.2.1≠0
 · rw[zp a5] at h; omega
 rw[zn a5] at h
 by_cases a6:o.1=3∧(o.2.2.2.1=0∨o.2.2.2.1>2147483647∨o.2.2.2.1 < -2147483647)
 · rw[zp a6] at h; omega
 refine ⟨by omega,Classical.not_not.1 a2,fun e=>Classical.not_not.1 fun e2=>a3 ⟨e,e2⟩,fun e => ?_,fun e=>Classical.not_not.1 fun e2=>a5 ⟨e,e2⟩,fun e=>by omega⟩
 cases hr:bc o.2.2.1 with
 | true=>rfl
 | false=>exact absurd ⟨e,hr⟩ a4
theorem ea {s:cQ} (h:co s=true):(1≤s.1∧s.1≤19)∧numM s.2.1 (hasR s.1)=true∧numM s.2.2.2.1 (hasN s.1)=true∧numM s.2.2.1 (hasU s.1)=true ∧
   (hasD s.1=true→bD s.2.2.2.2.2.1=true)∧(hasD s.1=false→s.2.2.2.2.2.1=(0,0,()))∧(s.1=2→opM s.2.2.2.2.1=0∧s.2.2.2.2.1.2.2.2.2.1=[])∧(s.1≠2→ka s.2.2.2.2.1=true):=by
 unfold co at h
 simp only[Bool.and_eq_true] at h
 obtain ⟨⟨⟨⟨⟨h1,h2⟩,h3⟩,h4⟩,h5⟩,h6⟩:=h
 refine ⟨of_decide_eq_true h1,h2,h3,h4,fun e => ?_,fun e => ?_,fun e => ?_,fun e => ?_⟩
 · rwa [zp e] at h5
 · rw[zn (by rw[e]; decide)] at h5
   exact of_decide_eq_true h5
 · rw[zp e] at h6
   simp only[Bool.and_eq_true] at h6
   exact ⟨of_decide_eq_true h6.1.1,of_decide_eq_true h6.1.2⟩
 · rwa [zn e] at h6
theorem nu {n:Int}{h:Bool} (e:numM n h=true):(0≤n∧n≤2147483647)∧(h=false→n=0):=by
 unfold numM at e
 cases h with
 | true=>rw[zp rfl] at e; exact ⟨of_decide_eq_true e,fun e=>by cases e⟩
 | false =>
   rw[zn (by decide)] at e
   have:=of_decide_eq_true e
   exact ⟨by omega,fun _=>this⟩
theorem lW {o:Op1} (h:bm o) (h0:opM o=0):(gm o).length≤5000:=by
 obtain ⟨hk,hc,hz,hv,hn,hi⟩:=fZ h0
 have hp:=eV h.1 h.2.1
 obtain ⟨v1,v2,v3⟩:=vy (k:=o.1) (by omega) hk.2
 unfold gm
 by_cases k3:o.1=3
 · have:=cC (n:=o.2.2.2.1) ⟨by have:=hi k3; omega,by have:=hi k3; omega⟩
   rw[zp k3]
   simp[aS]; omega
 · rw[zn k3]
   by_cases k5:o.1=5
   · rw[zp k5]
     simp[aS]; omega
   · rw[zn k5]
     have:=fT (hv (by omega))
     simp[aS]; omega
theorem aiH {o:Op1} (h:bm o) (h0:opM o=0):za7 o=some (gm o):=by
 obtain ⟨hk,hc,hz,hv,hn,hi⟩:=fZ h0
 have hp:=eV h.1 h.2.1
 obtain ⟨v1,v2,v3⟩:=vy (k:=o.1) (by omega) hk.2
 unfold za7
 rw[show zbd=some vb from rfl]
 simp only[zb,v1,wa h.1 h.2.1]
 rw[aD (by simp; omega)]
 simp only[zb,ac]
 unfold gm
 by_cases k3:o.1=3
 · have hin:inR o.2.2.2.1:=⟨by have:=hi k3; omega,by have:=hi k3; omega⟩
   have:=cC hin
   rw[zp k3,zp k3,fU hin]
   simp only[zb]
   rw[aD (by simp; omega)]
   simp only[zb]
   rw[aD (by simp; omega)]
   simp only[zb,au]
   rw[aD (by simp; omega)]
   simp[aS,List.append_assoc]
 · rw[zn k3,zn k3]
   have e1:(if o.1=1 then (some (.inl (decide (o.1=1),())):Option ((Bool×Unit)⊕((List UInt8×Unit)⊕List UInt8))) else if o.1=2 then some (.inl (decide (o.1=2),())) else some (.inl (decide (o.1=4),())))=some (.inl (decide (¬ o.1=5),())):=by
     by_cases a:o.1=1
     · rw[zp a,zt a,zt (by omega)]
     · rw[zn a]
       by_cases b:o.1=2
       · rw[zp b,zt b,zt (by omega)]
       · rw[zn b]
         have:(o.1=4)↔¬ o.1=5:=by omega
         simp only[this]
   rw[e1]
   simp only[zb,au,ac]
   by_cases k5:o.1=5
   · rw[zn (fun e=>e k5),zp k5]
     simp only[zb,au]
     rw[aD (by simp; omega)]
     simp[aS,List.append_assoc]
   · have hr:=hv (by omega)
     have:=fT hr
     rw[zp k5,zn k5,kJ hr]
     simp only[zb]
     rw[aD (by simp; omega)]
     simp only[zb]
     rw[aD (by simp; omega)]
     simp only[zb,au]
     rw[aD (by simp; omega)]
     simp[aS,List.append_assoc]
theorem lC {s:cQ}{p b n:Int}{h:Bool}{o:List UInt8}{i:Nat} (hi:i<3) (hL:([(1,s.2.1,()),(4,s.2.2.2.1,()),(2,s.2.2.1,())]:List (Int×Int×Unit))[i]'hi=(b,n,())) (hb:offB p b↔h=false) (hn:inR n) (ho:o.length<1000000) :
   mO s p (o,(i:Int),())=some (.inl (o++aS (seg1 h n),((i+1:Nat):Int),())):=by
 have hl:=cC hn
 unfold mO
 simp only[ac]
 rw[zp (by simp only[zl,List.length_nil]; omega),aR (by simpa using hi),hL]
 simp only[zb,aE]
 unfold offB at hb
 unfold seg1
 cases h with
 | false =>
   rw[zp (hb.2 rfl),zn (by decide),wrap64 (by omega) (by omega)]
   simp[aS]
 | true =>
   rw[zn (fun e=>by cases hb.1 e),zp rfl,fU hn]
   simp only[zb]
   rw[aD (by simp; omega)]
   simp only[zb]
   rw[aD (by simp; omega),wrap64 (by omega) (by omega)]
   simp[aS]
theorem acC {s:cQ}{p:Int}{o:List UInt8}:mO s p (o,3,())=some (.inr (.inl (o,()))):=by
 unfold mO
 simp
theorem pf {d:Dot1} (h:bD d=true):(eM d).length≤50:=by
 have hin:=eH h
 have l1:=cC (n:=d.1) ⟨by omega,by omega⟩
 have l2:=cC (n:=d.2.1) ⟨by omega,by omega⟩
 simp[eM]; omega
theorem fe {h:Bool}{n:Int} (hn:inR n):(aS (seg1 h n)).length≤22:=by
 have:=cC hn
 unfold seg1
 cases h<;>simp[aS]; omega
theorem cM {n:Int}{h:Bool} (e:numM n h=true):inR n:=by
 have:=(nu e).1
 exact ⟨by omega,by omega⟩
theorem tY {s:cQ} (h:bm s.2.2.2.2.1):zbr s=some (jB s):=by
 unfold zbr jB
 rw[ab9 h]
 simp only[zb]
 cases hr:co s with
 | false=>simp
 | true =>
   obtain ⟨hk,hR,hN,hU,hD,hD0,hO,hG⟩:=ea hr
   obtain ⟨p0,p1,p2,p4,p8,p16⟩:=oI (k:=s.1) (by omega) hk.2
   obtain ⟨w1,w2,w3,w4⟩:=wq (k:=s.1) (by omega) hk.2
   rw[zp rfl,p0,show zbb=some kw from rfl]
   simp only[Bool.not_true,cond_false,zb,w1]
   have l1:=fe (h:=hasR s.1) (cM hR)
   have l2:=fe (h:=hasN s.1) (cM hN)
   have l3:=fe (h:=hasU s.1) (cM hU)
   have loop:aJ (mO s (dE s.1)) (kwS s.1,0,())=some (.inl (kwS s.1++aS (seg1 (hasR s.1) s.2.1)++aS (seg1 (hasN s.1) s.2.2.2.1)++aS (seg1 (hasU s.1) s.2.2.1),())):=by
     rw[show (0:Int)=((0:Nat):Int) from rfl,ay (lC (by omega) (by rfl) p1 (cM hR) (by omega)),ay (lC (by omega) (by rfl) p4 (cM hN) (by simp; omega)),ay (lC (by omega) (by rfl) p2 (cM hU) (by simp; omega))]
     rw[show ((0+1+1+1:Nat):Int)=3 from rfl,aq acC]
   rw[loop]
   unfold offB at p8 p16
   unfold cO segD segO
   simp only[zb,au,aE]
   by_cases hd:hasD s.1=true
   · have n8:¬ (IntKind.wrap .i64 ((BitVec.ofInt (IntKind.bits .i64) (dE s.1) &&& BitVec.ofInt (IntKind.bits .i64) 8).toNat))=0:=fun e=>by rw[p8.1 e] at hd; cases hd
     have k2:¬ s.1=2:=by
       have:=of_decide_eq_true hd
       omega
     have hin:=eH (hD hd)
     have dl:=pf (hD hd)
     rw[zn n8,zp hd,zn k2,lN ⟨by omega,by omega⟩ ⟨by omega,by omega⟩]
     simp only[zb]
     rw[aD (by simp; omega)]
     simp only[zb]
     rw[aD (by simp; omega)]
     simp only[zb,au]
     rw[zp (p16.2 k2)]
     simp[cm,aS,List.append_assoc]
   · have hd':hasD s.1=false:=by simpa using hd
     rw[zp (p8.2 hd'),zn hd]
     simp only[zb,au]
     by_cases k2:s.1=2
     · have hl:=lW h (hO k2).1
       rw[zn (fun e=>p16.1 e k2),zp k2,aiH h (hO k2).1]
       simp only[zb]
       rw[aD (by simp; omega)]
       simp only[zb]
       rw[aD (by simp; omega)]
       simp[cm,aS,List.append_assoc]
     · rw[zp (p16.2 k2),zn k2]
       simp[cm,aS,List.append_assoc]
end Go.Proofs.YtmklghkhfimfgaaGreatDoor.Q
namespace Go.Proofs.YtmklghkhfimfgaaGreatDoor.Q
open Go.EM Go.TY Go.Proofs Go.Proofs.YtmklghkhfimfgaaGreatDoor.Y
theorem sy {d:Int×Int×Unit}{s:List UInt8} (hr:bD d=true) (ht:eM d=s):zcz s=some (d,0,()):=by
 obtain ⟨r,n,e,h1,h2,h3,h4⟩:=nk hr
 have l1:=eK 1 r (by simp only[Nat.reducePow,Nat.reduceAdd]; omega)
 have l2:=eK 6 n (by simp only[Nat.reducePow,Nat.reduceAdd]; omega)
 have p1:=gd r
 have p2:=gd n
 rw[h4] at ht
 have hs:s.length=(Lib.decDigits r).length+((Lib.decDigits n).length+1):=by rw[← ht,List.length_append,zl]
 have hi:zat s [46]=some (((Lib.decDigits r).length:Nat):Int):=by
   rw[aaD s (fun e=>by rw[e] at hs; simp only[zl,List.length_nil] at hs; omega),← ht,iR _ _ _ aa6,Nat.zero_add]
 have hc:=aa7 hi (by omega) (by omega)
 have t1:s.take (Lib.decDigits r).length=Lib.decDigits r:=by rw[← ht,List.take_left']; rfl
 have t2:s.drop ((Lib.decDigits r).length+1)=Lib.decDigits n:=by
   rw[← ht,List.drop_append,List.drop_eq_nil_of_le (by omega),List.nil_append]
   rw[show (Lib.decDigits r).length+1-(Lib.decDigits r).length=1 by omega]; rfl
 rw[t1,t2] at hc
 unfold zcz
 rw[hc]
 simp only[zb]
 rw[uI (by omega),uI (by omega)]
 simp only[zb,Bool.not_true,cond_false]
 rw[← e,gI,hr]
 simp only[zb,Bool.not_true,cond_false]
 have hin:=eH hr
 rw[lN ⟨by omega,by omega⟩ ⟨by omega,by omega⟩]
 simp only[zb]
 rw[h4,ht]
 simp
theorem fj {w:List UInt8} (h:∀ b∈w,b.toNat≠32∧b.toNat≠34):tP w:=by
 refine ⟨fun b hb=>(h b hb).1,?_⟩
 cases w with
 | nil=>simp
 | cons c t =>
   simp only[List.head?_cons,ne_eq,Option.some.injEq]
   rintro rfl
   exact (h 34 (List.mem_cons_self ..)).2 rfl
theorem dA (n:Int):tP (Lib.itoa n):=by
 refine fj fun b hb => ?_
 by_cases h:n<0
 · rw[itoa_neg h,List.mem_cons] at hb
   rcases hb with rfl | hb
   · decide
   · have:=dC _ b hb
     unfold digB at this
     omega
 · obtain ⟨m,rfl⟩:=Int.eq_ofNat_of_zero_le (show 0≤n by omega)
   rw[cX] at hb
   have:=dC _ b hb
   unfold digB at this
   omega
theorem aih:∀ x y:Fin 20,y<x→kw[y.val]? ≠ kw[x.val]? := by decide
theorem ahK:∀ x y:Fin 6,y<x→vb[y.val]? ≠ vb[x.val]? := by decide
theorem acF {k:Int} (h0:0≤k) (h1:k≤19):zac kw (kwS k)=some k:=by
 obtain ⟨n,rfl⟩:=Int.eq_ofNat_of_zero_le h0
 have hn:n<kw.length:=by show n<20; omega
 have e:kwS ((n:Nat):Int)=kw[n]:=by
   unfold kwS
   rw[show (((n:Nat):Int)).toNat=n from Int.toNat_natCast n,zg hn]
   rfl
 rw[e]
 refine nD (by decide) hn fun j hj he=>aih ⟨n,by omega⟩ ⟨j,by omega⟩ hj ?_
 rw[zg hn,zg (show j<kw.length by omega),he]
theorem abY {k:Int} (h0:0≤k) (h1:k≤5):zac vb (vbS k)=some k:=by
 obtain ⟨n,rfl⟩:=Int.eq_ofNat_of_zero_le h0
 have hn:n<vb.length:=by show n<6; omega
 have e:vbS ((n:Nat):Int)=vb[n]:=by
   unfold vbS
   rw[show (((n:Nat):Int)).toNat=n from Int.toNat_natCast n,zg hn]
   rfl
 rw[e]
 refine nD (by decide) hn fun j hj he=>ahK ⟨n,by omega⟩ ⟨j,by omega⟩ hj ?_
 rw[zg hn,zg (show j<vb.length by omega),he]
theorem vz {v:Val}{l:List (List UInt8)} (hr:bc v=true) (hl:(b9 v++aS l).length<1000000):zbq (b9 v++aS l)=some (b9 v,fP l,()):=by
 rcases bW hr with ⟨n,rfl,h1,h2⟩ | ⟨s,r,rfl,h1,h2⟩ | rfl | rfl
 · have e:b9 (1,n,[],())=Lib.itoa n:=rfl
   rw[e] at hl ⊢
   exact d5 (dA n) hl
 · have e:b9 (2,0,s,())=34::(aL s++[34]):=by simp[b9]
   rw[e] at hl ⊢
   have e2:(34::(aL s++[34]))++aS l=34::(aL s++34::aS l):=by simp
   rw[e2] at hl ⊢
   exact vx hl
 · exact d5 (fj (by decide)) hl
 · exact d5 (fj (by decide)) hl
theorem iF {x:List UInt8}:fP [x]=x:=by simp[fP,aS]
theorem sg {o:Op1} (h:bm o) (h0:opM o=0) (hs:o.2.2.2.2.1=[]):zax (gm o)=some o:=by
 have hal:=lW h h0
 obtain ⟨hk,hc,hz,hv,hn,hi⟩:=fZ h0
 have hp:=eV h.1 h.2.1
 have hpp:=qj hc h.1 h.2.1
 obtain ⟨v1,v2,v3⟩:=vy (k:=o.1) (by omega) hk.2
 have hix:=abY (k:=o.1) (by omega) hk.2
 obtain ⟨k,p,v,n,sn,⟨⟩⟩:=o
 simp only at hk hc hz hv hn hi hp hpp v1 v2 v3 hix hs
 subst hs
 unfold gm at hal ⊢
 simp only at hal ⊢
 unfold zax
 rw[d5 (fj v3) (by omega),show zbd=some vb from rfl]
 simp only[zb,hix,show max k 0=k by omega,ac]
 by_cases k3:k=3
 · have hin:inR n:=⟨by have:=hi k3; omega,by have:=hi k3; omega⟩
   have:=cC hin
   have hz0:=hz (.inl k3)
   rw[zp k3,zp k3,List.cons_append,List.nil_append]
   simp only[fP]
   rw[d5 (dA n) (by simp[aS]; omega)]
   simp only[zb]
   rw[kO (by have:=hi k3; omega) (by have:=hi k3; omega)]
   simp only[zb,au,iF,hpp]
   rw[hz0]
   rfl
 · rw[zn k3,zn k3]
   have hn0:=hn k3
   subst hn0
   have fin : ∀ b : Bool, b = decide (¬ k = 5) → (((cond b ((zbq (fP ((if k = 5 then [] else [b9 v]) ++ [cT p]))).bind fun r7 =>
       (zb1 r7.1).bind fun r8=>some (Sum.inl (r7.2.1,((0,(),(0,0,[],()),0,(),()):Int×Unit×(Int×Int×List UInt8×Unit)×Int×Unit×Unit),((k,(),r8.1,0,(),()):Int×Unit×(Int×Int×List UInt8×Unit)×Int×Unit×Unit),())))
       (some (.inl (fP ((if k=5 then [] else [b9 v])++[cT p]),(0,(),(0,0,[],()),0,(),()),(k,(),(0,0,[],()),0,(),()),())))):Option ((List UInt8×(Int×Unit×(Int×Int×List UInt8×Unit)×Int×Unit×Unit)×(Int×Unit×(Int×Int×List UInt8×Unit)×Int×Unit×Unit)×Unit)⊕(Int×List (List UInt8)×(Int×Int×List UInt8×Unit)×Int×List ((Int×Int×Unit)×Int×Unit)×Unit))).bind (au fun v9 =>
       (zcg v9.1).bind fun r10=>some (v9.2.2.1.1,r10.1,v9.2.2.1.2.2.1,v9.2.2.1.2.2.2.1,[],())))=some ((k,p,v,0,[],()):Op1):=by
     intro b hb
     subst hb
     by_cases k5:k=5
     · have hz0:=hz (.inr k5)
       rw[zf (fun e=>e k5),zp k5]
       simp only[cond_false,zb,au,List.nil_append,iF,hpp]
       rw[hz0]
       rfl
     · have hr:=hv (by omega)
       have:=fT hr
       rw[zt k5,zn k5,List.cons_append,List.nil_append]
       simp only[fP,cond_true]
       rw[vz hr (by simp[aS]; omega)]
       simp only[zb]
       rw[oJ (by omega) hr rfl]
       simp only[zb,au,iF,hpp]
   by_cases a:k=1
   · rw[zp a]
     simp only[zb,au]
     exact fin _ (by rw[decide_eq_decide]; omega)
   · rw[zn a]
     by_cases b:k=2
     · rw[zp b]
       simp only[zb,au]
       exact fin _ (by rw[decide_eq_decide]; omega)
     · rw[zn b]
       simp only[zb,au]
       exact fin _ (by rw[decide_eq_decide]; omega)
end Go.Proofs.YtmklghkhfimfgaaGreatDoor.Q
namespace Go.Proofs.YtmklghkhfimfgaaGreatDoor.Q
open Go.EM Go.TY Go.Proofs Go.Proofs.YtmklghkhfimfgaaGreatDoor.Y
abbrev Raw1:=Int×Int×Int×Int×(Int×Unit×(Int×Int×List UInt8×Unit)×Int×Unit×Unit)×(Int×Int×Unit)×Unit
def L3:List (Int×Nat×Unit):=[(1,1,()),(4,3,()),(2,2,())]
theorem kK {p b n:Int}{h:Bool}{l:List (List UInt8)}{k:Nat}{i:Nat}{z x x':Raw1} (hi:i<3) (hL:L3[i]? = some (b,k,())) (hb:offB p b↔h=false) (hn:numM n h=true) (hl:(aS (seg1 h n++l)).length<1000000)
   (hx:h=false→x'=x) (hp:putI .i64 (.agg (.cons (.int .i64) (.cons (.int .i64) (.cons (.int .i64) (.cons (.int .i64) (.cons (.agg (.cons (.int .i64) (.cons .nilsl (.cons (.agg (.cons (.int .i64) (.cons (.int .i64) (.cons .str .unit)))) (.cons (.int .i64) (.cons .nilsl .unit)))))) (.cons (.agg (.cons (.int .i64) (.cons (.int .i64) .unit))) .unit))))))) x (0+k*1) n=some x') :
   fS p (fP (seg1 h n++l),L3,(i:Int),z,x,())=some (.inl (fP l,L3,((i+1:Nat):Int),z,x',())):=by
 have hin:=(nu hn).1
 unfold fS
 simp only[ac]
 rw[zp (by simp only[zl,List.length_nil]; omega),cj,hL]
 simp only[zb,aE]
 unfold offB at hb
 unfold seg1 at hl ⊢
 cases h with
 | false =>
   rw[zp (hb.2 rfl),zn (by decide),wrap64 (by omega) (by omega),hx rfl]
   simp
 | true =>
   rw[zp rfl] at hl ⊢
   rw[zn (fun e=>by cases hb.1 e),List.cons_append,List.nil_append]
   simp only[fP]
   rw[d5 (dA n) (by simp only[List.cons_append,List.nil_append,aS,zl] at hl; omega)]
   simp only[zb]
   rw[kO (by omega) (by omega)]
   simp only[zb]
   rw[hp,wrap64 (by omega) (by omega)]
   rfl
theorem tw {p:Int}{r:List UInt8}{z x:Raw1}:fS p (r,L3,3,z,x,())=some (.inr (.inl (r,z,x,()))):=by
 unfold fS
 simp
theorem uD {s:cQ} (h:bm s.2.2.2.2.1) (hr:co s=true):(cO s).length≤10000:=by
 obtain ⟨hk,hR,hN,hU,hD,hD0,hO,hG⟩:=ea hr
 obtain ⟨w1,w2,w3,w4⟩:=wq (k:=s.1) (by omega) hk.2
 have l1:=fe (h:=hasR s.1) (cM hR)
 have l2:=fe (h:=hasN s.1) (cM hN)
 have l3:=fe (h:=hasU s.1) (cM hU)
 have l4:(aS (segD s)).length≤51:=by
   unfold segD
   by_cases hd:hasD s.1=true
   · have:=pf (hD hd)
     rw[zp hd]
     simp[aS]; omega
   · rw[zn hd]; simp[aS]
 have l5:(aS (segO s)).length≤5001:=by
   unfold segO
   by_cases k2:s.1=2
   · have:=lW h (hO k2).1
     rw[zp k2]
     simp[aS]; omega
   · rw[zn k2]; simp[aS]
 unfold cO
 simp only[cm,List.length_append]
 omega
theorem oK {s:cQ} (h:bm s.2.2.2.2.1) (hr:co s=true):zbg (cO s)=some (s,0,()):=by
 have hlen:=uD h hr
 have hline:=tY h
 unfold jB at hline
 rw[zp hr] at hline
 obtain ⟨hk,hR,hN,hU,hD,hD0,hO,hG⟩:=ea hr
 obtain ⟨p0,p1,p2,p4,p8,p16⟩:=oI (k:=s.1) (by omega) hk.2
 obtain ⟨w1,w2,w3,w4⟩:=wq (k:=s.1) (by omega) hk.2
 have hix:=acF (k:=s.1) (by omega) hk.2
 have hne:cO s≠[]:=by
   intro e
   unfold cO at e
   exact w3 hk.1 (List.append_eq_nil_iff.1 e).1
 have hw:zbq (cO s)=some (kwS s.1,fP (seg1 (hasR s.1) s.2.1++(seg1 (hasN s.1) s.2.2.2.1++(seg1 (hasU s.1) s.2.2.1++(segD s++segO s)))),()):=d5 (fj w4) (by unfold cO at hlen; omega)
 have hlen2:(aS (seg1 (hasR s.1) s.2.1++(seg1 (hasN s.1) s.2.2.2.1++(seg1 (hasU s.1) s.2.2.1++(segD s++segO s))))).length≤10000:=by
   unfold cO at hlen
   rw[List.length_append] at hlen
   omega
 generalize hb:cO s=body at hline hne hw ⊢
 unfold zbg
 rw[hw,show zbb=some kw from rfl]
 simp only[zb,hix,show max s.1 0=s.1 by omega,p0]
 have loop : aJ (fS (dE s.1)) (fP (seg1 (hasR s.1) s.2.1 ++ (seg1 (hasN s.1) s.2.2.2.1 ++ (seg1 (hasU s.1) s.2.2.1 ++ (segD s ++ segO s)))), L3, 0, (0, 0, 0, 0, (0, (), (0, 0, [], ()), 0, (), ()), (0, 0, ()), ()), (s.1, 0, 0, 0, (0, (), (0, 0, [], ()), 0, (), ()), (0, 0, ()), ()), ()) =
     some (.inl (fP (segD s++segO s),(0,0,0,0,(0,(),(0,0,[],()),0,(),()),(0,0,()),()),(s.1,s.2.1,s.2.2.1,s.2.2.2.1,(0,(),(0,0,[],()),0,(),()),(0,0,()),()),())):=by
   simp only[cm,List.length_append] at hlen2
   rw[show (0:Int)=((0:Nat):Int) from rfl]
   rw[ay (kK (k:=1) (x':=(s.1,s.2.1,0,0,(0,(),(0,0,[],()),0,(),()),(0,0,()),())) (by omega) (by rfl) p1 hR (by simp only[cm,List.length_append]; omega) (fun e=>by rw[(nu hR).2 e]; rfl) (by rfl))]
   rw[ay (kK (k:=3) (x':=(s.1,s.2.1,0,s.2.2.2.1,(0,(),(0,0,[],()),0,(),()),(0,0,()),())) (by omega) (by rfl) p4 hN (by simp only[cm,List.length_append]; omega) (fun e=>by rw[(nu hN).2 e]) (by rfl))]
   rw[ay (kK (k:=2) (x':=(s.1,s.2.1,s.2.2.1,s.2.2.2.1,(0,(),(0,0,[],()),0,(),()),(0,0,()),())) (by omega) (by rfl) p2 hU (by simp only[cm,List.length_append]; omega) (fun e=>by rw[(nu hU).2 e]) (by rfl))]
   exact aq tw
 rw[show ([(1,1,()),(4,3,()),(2,2,())]:List (Int×Nat×Unit))=L3 from rfl,loop]
 unfold offB at p8 p16
 obtain ⟨k,r,u,n,o,d,⟨⟩⟩:=s
 simp only at h hk hD hD0 hO hG p8 p16 hline ⊢
 simp only[zb,au,aE]
 unfold segD segO
 by_cases hd:hasD k=true
 · have k2 : ¬ k = 2 := by
     have:=of_decide_eq_true hd
     omega
   have n8:¬ (IntKind.wrap .i64 ((BitVec.ofInt (IntKind.bits .i64) (dE k) &&& BitVec.ofInt (IntKind.bits .i64) 8).toNat))=0:=fun e=>by rw[p8.1 e] at hd; cases hd
   have hg:=of_decide_eq_true (hG k2)
   obtain ⟨o1,o2,o3,o4,o5,⟨⟩⟩:=o
   simp only at hg
   obtain ⟨rfl,rfl,rfl,rfl,rfl⟩:=hg
   simp only at hd k2 ⊢
   rw[zn n8,zp hd,zn k2,List.append_nil,iF,sy (hD hd) rfl]
   simp only[zb,au]
   rw[zp (p16.2 k2)]
   simp only[zb,au,ac,aE]
   have hz:((0,0,[],()):Val)=zeroV:=rfl
   rw[zn hne,hz,hline]
   simp
 · have hd':hasD k=false:=by simpa using hd
   have hd0:=hD0 hd'
   subst hd0
   simp only at hd ⊢
   rw[zp (p8.2 hd'),zn hd,List.nil_append]
   simp only[zb,au]
   by_cases k2:k=2
   · rw[zn (fun e=>p16.1 e k2),zp k2,iF,sg h (hO k2).1 (hO k2).2]
     simp only[zb,au,ac,aE]
     rw[zn hne,hline]
     simp
   · have hg:=of_decide_eq_true (hG k2)
     obtain ⟨o1,o2,o3,o4,o5,⟨⟩⟩:=o
     simp only at hg k2
     obtain ⟨rfl,rfl,rfl,rfl,rfl⟩:=hg
     rw[zp (p16.2 k2)]
     simp only[zb,au,ac,aE]
     have hz:((0,0,[],()):Val)=zeroV:=rfl
     rw[zn hne,hz,hline]
     simp
end Go.Proofs.YtmklghkhfimfgaaGreatDoor.Q
namespace Go.Proofs.YtmklghkhfimfgaaGreatDoor.Q
open Go.EM Go.TY Go.Proofs Go.Proofs.YtmklghkhfimfgaaGreatDoor.Y
theorem adx {k:Int} (h0:0≤k) (h1:k≤19):zcn k=some (kwS k):=by
 unfold zcn
 have:=(wq h0 h1).1
 unfold kw at this
 rw[this]
 rfl
theorem ady {k:Int} (h0:0≤k) (h1:k≤5):zca k=some (vbS k):=by
 unfold zca
 have:=(vy h0 h1).1
 unfold vb at this
 rw[this]
 rfl
theorem ahO {h:Bool}{n:Int}{o:List UInt8} (hn:inR n) (ho:o.length<1000000) :
   ((cond h ((catT o [32]).bind fun s4=>(zbe n).bind fun r5=>(catT s4 r5).bind fun s6=>some (.inl (s6,()))) (some (.inl (o,())))):Option ((List UInt8×Unit)⊕List UInt8))=some (.inl (o++aS (seg1 h n),())):=by
 have hl:=cC hn
 unfold seg1
 cases h with
 | false=>simp[aS]
 | true =>
   rw[cond_true,aD (by simp; omega),dG hn.1 hn.2]
   simp only[zb]
   rw[aD (by simp; omega)]
   simp[aS]
theorem qd {s:cQ} (h:bm s.2.2.2.2.1):zcb s=some (jB s):=by
 unfold zcb jB
 rw[ia h]
 simp only[zb]
 cases hr:co s with
 | false=>simp
 | true =>
   obtain ⟨hk,hR,hN,hU,hD,hD0,hO,hG⟩:=ea hr
   obtain ⟨w1,w2,w3,w4⟩:=wq (k:=s.1) (by omega) hk.2
   have l1:=fe (h:=hasR s.1) (cM hR)
   have l2:=fe (h:=hasN s.1) (cM hN)
   have l3:=fe (h:=hasU s.1) (cM hU)
   rw[zp rfl,adx (by omega) hk.2]
   simp only[Bool.not_true,cond_false,zb,fL,fM,fK,fN]
   rw[ahO (cM hR) (by omega)]
   simp only[zb,au]
   rw[ahO (cM hN) (by simp; omega)]
   simp only[zb,au]
   rw[ahO (cM hU) (by simp; omega)]
   simp only[zb,au,aE]
   unfold cO segD segO
   by_cases hd:hasD s.1=true
   · have k2 : ¬ s.1 = 2 := by
       have:=of_decide_eq_true hd
       omega
     have hin:=eH (hD hd)
     have dl:=pf (hD hd)
     rw[hd,cond_true,zp rfl,zn k2,aD (by simp; omega),qc ⟨by omega,by omega⟩ ⟨by omega,by omega⟩]
     simp only[zb]
     rw[aD (by simp; omega)]
     simp only[zb,au]
     rw[zn k2]
     simp[cm,aS,List.append_assoc]
   · have hd':hasD s.1=false:=by simpa using hd
     rw[hd',cond_false,zn (by decide)]
     simp only[zb,au]
     by_cases k2:s.1=2
     · have h0:=(hO k2).1
       obtain ⟨hk5,hc,hz,hv,hn,hi⟩:=fZ h0
       have hp:=eV h.1 h.2.1
       obtain ⟨v1,v2,v3⟩:=vy (k:=s.2.2.2.2.1.1) (by omega) hk5.2
       rw[zp k2,zp k2,aD (by simp; omega),ady (by omega) hk5.2]
       simp only[zb]
       rw[aD (by simp; omega)]
       simp only[zb]
       rw[aD (by simp; omega)]
       simp only[zb,ac,aE]
       unfold gm
       by_cases k3:s.2.2.2.2.1.1=3
       · have hin:inR s.2.2.2.2.1.2.2.2.1:=⟨by have:=hi k3; omega,by have:=hi k3; omega⟩
         have:=cC hin
         rw[zp k3,zp k3,dG hin.1 hin.2]
         simp only[zb]
         rw[aD (by simp; omega)]
         simp only[zb]
         rw[aD (by simp; omega)]
         simp only[zb,au]
         rw[fh h.1 h.2.1]
         simp only[zb]
         rw[aD (by simp; omega)]
         simp[cm,aS,List.append_assoc]
       · rw[zn k3,zn k3]
         by_cases k5:s.2.2.2.2.1.1=5
         · rw[zp k5,zp k5]
           simp only[zb,au]
           rw[fh h.1 h.2.1]
           simp only[zb]
           rw[aD (by simp; omega)]
           simp[cm,aS,List.append_assoc]
         · have hr:=hv (by omega)
           have:=fT hr
           rw[zn k5,zn k5,vR hr]
           simp only[zb]
           rw[aD (by simp; omega)]
           simp only[zb]
           rw[aD (by simp; omega)]
           simp only[zb,au]
           rw[fh h.1 h.2.1]
           simp only[zb]
           rw[aD (by simp; omega)]
           simp[cm,aS,List.append_assoc]
     · rw[zn k2,zn k2]
       simp[cm,aS,List.append_assoc]
abbrev ex1:cQ:=(2,0,0,0,(1,[[97],[107]],(1,5,[],()),0,[],()),(0,0,()),())
abbrev ex2:cQ:=(7,0,1,0,(0,[],(0,0,[],()),0,[],()),(3,17,()),())
theorem aaz {n:Nat} (h:n<10):Lib.itoa (n:Int)=[UInt8.ofNat (48+n)]:=by rw[cX,Lib.decDigits,dif_pos h]
theorem aph:Lib.itoa 17=[49,55]:=by
 rw[show (17:Int)=((17:Nat):Int) from rfl,cX,Lib.decDigits,dif_neg (by decide),Lib.decDigits,dif_pos (by decide)]
 rfl
theorem apm:opM (1,[[97],[107]],(1,5,[],()),0,[],())=0:=by
 unfold opM
 simp[ac0,bc,qb]
theorem qO:co ex1=true:=by
 unfold co
 simp[apm,numM,hasR,hasN,hasU,hasD]
theorem aaT:co ex2=true:=by
 unfold co
 simp[ka,numM,hasR,hasN,hasU,hasD,bD,zeroV]
theorem qN:bm ex1.2.2.2.2.1:=⟨by decide,by decide,by decide,by decide⟩
theorem aaS:bm ex2.2.2.2.2.1:=⟨by decide,by decide,by decide,by decide⟩
theorem ur:cO ex1=[100,111,32,48,32,112,117,116,32,53,32,97,47,107]:=by
 have e0:Lib.itoa 0=[48]:=aaz (n:=0) (by decide)
 have e5:Lib.itoa 5=[53]:=aaz (n:=5) (by decide)
 have ep:cT [[97],[107]]=[97,47,107]:=by
   rw[jv,lh]
   rfl
 have kw2:kwS 2=[100,111]:=by rfl
 have vb1:vbS 1=[112,117,116]:=by rfl
 unfold cO segD segO gm
 simp[seg1,hasR,hasN,hasU,hasD,e0,e5,ep,aS,kw2,vb1,b9]
theorem acN:cO ex2=[111,117,116,32,48,32,49,32,51,46,49,55]:=by
 have e0:Lib.itoa 0=[48]:=aaz (n:=0) (by decide)
 have e1:Lib.itoa 1=[49]:=aaz (n:=1) (by decide)
 have e3:Lib.itoa 3=[51]:=aaz (n:=3) (by decide)
 have kw7:kwS 7=[111,117,116]:=by rfl
 unfold cO segD segO
 simp[seg1,hasR,hasN,hasU,hasD,e0,e1,e3,aph,aS,kw7,eM]
theorem aiF:zbz=some true:=by
 have p1:=oK qN qO
 have p2:=oK aaS aaT
 have l1:=tY qN
 unfold jB at l1
 rw[zp qO,ur] at l1
 rw[ur] at p1
 rw[acN] at p2
 unfold zbz
 rw[p1,p2]
 simp[l1]
theorem ahQ {s:cQ} (h:bm s.2.2.2.2.1):zcl s s=some true:=by
 obtain ⟨h1,h2,h3,h4⟩:=h
 unfold zcl
 rw[zz (by omega) (by omega)]
 simp[ait]
end Go.Proofs.YtmklghkhfimfgaaGreatDoor.Q
namespace Go.Proofs.YtmklghkhfimfgaaGreatDoor.Q
open Go.EM Go.TY Go.Proofs Go.Proofs.YtmklghkhfimfgaaGreatDoor.Y
def eh (l:List UInt8):List UInt8:=l.takeWhile fun b=>decide (b.toNat≠32)
theorem eX {w:List UInt8}{l:List (List UInt8)} (hw:∀ b∈w,b.toNat≠32):eh (w++aS l)=w:=by
 unfold eh
 induction w with
 | nil=>cases l<;>simp[aS]
 | cons b w ih =>
   rw[List.cons_append,List.takeWhile_cons,zp (by simpa using hw b (List.mem_cons_self ..)),ih (fun x hx=>hw x (List.mem_cons_of_mem _ hx))]
theorem gW {s:List UInt8}{k:Nat}{ok:Bool} (hs:s.length<1000000) (ha:k≤s.length) :
   zav (s,(k:Int),ok,())=some (eh (s.drop k),(s,((k+(eh (s.drop k)).length:Nat):Int),ok,()),()):=by
 have key:∀ (n i:Nat),s.length-i≤n→i≤s.length→aJ mS ((s,(i:Int),ok,()),())=some (.inl ((s,((i+(eh (s.drop i)).length:Nat):Int),ok,()),())):=by
   intro n
   have fin:∀ i:Nat,i=s.length→aJ mS ((s,(i:Int),ok,()),())=some (.inl ((s,((i+(eh (s.drop i)).length:Nat):Int),ok,()),())):=by
     intro i e
     refine aq ?_
     unfold mS
     simp only[ac]
     rw[zn (by omega),List.drop_eq_nil_of_le (by omega)]
     rfl
   induction n with
   | zero=>intro i h1 h2; exact fin i (by omega)
   | succ n ih =>
     intro i h1 h2
     by_cases hi:i<s.length
     · rw[cS hi]
       unfold eh
       by_cases hb:s[i].toNat=32
       · rw[List.takeWhile_cons,zn (by simpa using hb)]
         refine aq ?_
         unfold mS
         simp only[ac,aE]
         rw[zp (by omega),aR hi]
         simp only[zb]
         rw[zp (by omega)]
         rfl
       · rw[List.takeWhile_cons,zp (by simpa using hb)]
         rw[ay (b:=((s,((i+1:Nat):Int),ok,()),()))]
         · rw[ih (i+1) (by omega) (by omega)]
           unfold eh
           rw[zl,show i+1+(List.takeWhile (fun b=>decide (b.toNat≠32)) (s.drop (i+1))).length=i+((List.takeWhile (fun b=>decide (b.toNat≠32)) (s.drop (i+1))).length+1) by omega]
         unfold mS
         simp only[ac,aE]
         rw[zp (by omega),aR hi]
         simp only[zb]
         rw[zn (by omega),wrap64 (by omega) (by omega)]
         rfl
     · exact fin i (by omega)
 have hp:(eh (s.drop k))=(s.drop k).take (eh (s.drop k)).length:=List.prefix_iff_eq_take.1 (List.takeWhile_prefix _)
 have hlen:(eh (s.drop k)).length≤s.length-k:=by
   rw[hp,List.length_take,List.length_drop]; omega
 unfold zav
 rw[key s.length k (by omega) ha]
 simp only[zb,au]
 rw[bV (by omega) (by omega),List.drop_take,show k+(eh (s.drop k)).length-k=(eh (s.drop k)).length by omega,← hp]
 rfl
theorem ga {s:List UInt8}{k:Nat} (ha:k≤s.length):k+(eh (s.drop k)).length≤s.length:=by
 have:=(List.takeWhile_prefix (fun b:UInt8=>decide (b.toNat≠32)) (l:=s.drop k)).length_le
 rw[List.length_drop] at this
 unfold eh
 omega
def iz (s:List UInt8) (k:Nat) (ok:Bool):List UInt8×Int×Bool×Unit:=if ok=true∧s[k]? = some 32 then (s,((k+1:Nat):Int),true,()) else (s,(k:Int),false,())
theorem d9 {s:List UInt8}{k:Nat}{ok:Bool} (hs:s.length<1000000) (ha:k≤s.length+1):zau [32] (s,(k:Int),ok,())=some ((),iz s k ok,()):=by
 unfold zau iz
 cases ok with
 | false=>simp[au]
 | true =>
   simp only[cond_true,zb,ac]
   rw[show (k:Int)+(([32]:List UInt8).length:Int)=((k+1:Nat):Int) by simp,wrap64 (by omega) (by omega)]
   by_cases hk:k<s.length
   · rw[zp (show (((k+1:Nat):Int)≤(s.length:Int)) by omega),bV (by omega) (by omega)]
     simp only[zb]
     have e:(s.take (k+1)).drop k=[s[k]]:=by
       rw[List.drop_take,cS hk,show k+1-k=1 by omega]
       rfl
     rw[e,zg hk]
     by_cases hb:s[k]=32
     · rw[hb]; simp[au]
     · have:¬ [s[k]]=[32]:=fun e=>hb (by injection e)
       rw[zn this]
       simp[au,hb]
   · rw[zn (show ¬ (((k+1:Nat):Int)≤(s.length:Int)) by omega),List.getElem?_eq_none (by omega)]
     simp[au]
structure Stands (s:List UInt8) (k:Nat) (l:List (List UInt8)):Prop where
 le:k≤s.length
 at':s.drop k=aS l
theorem Stands.blank {s x:List UInt8}{k:Nat}{l:List (List UInt8)} (h:Stands s k (x::l)):s[k]? = some 32∧k+1≤s.length∧s.drop (k+1)=x++aS l:=by
 obtain ⟨hk,e⟩:=h
 simp only[aS] at e
 obtain ⟨hi,e1,e2⟩:=bH e
 exact ⟨by rw[zg hi,e1],hi,e2⟩
theorem Stands.go {s x:List UInt8}{k:Nat}{l:List (List UInt8)} (h:Stands s k (x::l)):Stands s (k+1+x.length) l:=by
 obtain ⟨h1,h2,h3⟩:=h.blank
 have hl:s.length-(k+1)=x.length+(aS l).length:=by rw[← List.length_drop,h3,List.length_append]
 exact ⟨by omega,by rw[← List.drop_drop,h3,List.drop_left]⟩
theorem ah6 {s q:List UInt8}{v:Bool}{rd rd0:List UInt8×Int×Bool×Unit}{k0:Int} (hq:q.length<1000000) {k:Int}{ok:Bool}:∀ (m i:Nat) (n:Int),q.length-i≤m→i≤q.length→0≤n→n≤20000000000 →
   (∃ n':Int,0≤n'∧n'≤20000000000∧aJ (eG (q,rd0,()) (v,rd,())) (n,(i:Int),(s,k,ok,()),())=some (.inl (n',(s,k,ok,()),()))) ∨
   aJ (eG (q,rd0,()) (v,rd,())) (n,(i:Int),(s,k,ok,()),())=some (.inr (0,(s,k,false,()),())):=by
 intro m
 have fin:∀ (i:Nat) (n:Int),i=q.length→0≤n→n≤20000000000→∃ n':Int,0≤n'∧n'≤20000000000∧aJ (eG (q,rd0,()) (v,rd,())) (n,(i:Int),(s,k,ok,()),())=some (.inl (n',(s,k,ok,()),())):=by
   intro i n e h0 h1
   refine ⟨n,h0,h1,aq ?_⟩
   unfold eG
   simp only[ac]
   rw[zn (by omega)]
 induction m with
 | zero=>intro i n h1 h2 h3 h4; exact .inl (fin i n (by omega) h3 h4)
 | succ m ih =>
   intro i n h1 h2 h3 h4
   by_cases hi:i<q.length
   · by_cases hneg:i=0∧v=true
     · obtain ⟨rfl,rfl⟩:=hneg
       rw[ay (b:=(n,((0+1:Nat):Int),(s,k,ok,()),()))]
       · exact ih (0+1) n (by omega) (by omega) h3 h4
       unfold eG
       simp only[ac,cond_true]
       rw[zp (by omega),zp (by rfl)]
       rfl
     · have turn : eG (q, rd0, ()) (v, rd, ()) (n, (i : Int), (s, k, ok, ()), ()) = (if q[i].toNat < 48 ∨ 57 < q[i].toNat ∨ 1000000000 < n then some (.inr (.inr (0, (s, k, false, ()), ()))) else some (.inl (10 * n + q[i].toNat - 48, ((i + 1 : Nat) : Int), (s, k, ok, ()), ()))) := by
         unfold eG
         simp only[ac]
         rw[zp (show (i:Int)<(q.length:Int) by omega)]
         have e:((if (i:Int)=0 then cond v (some (.inr (.inl (n,(IntKind.wrap .i64 ((i:Int)+1)),(s,k,ok,()),())))) (some (.inl ((s,k,ok,()),()))) else some (.inl ((s,k,ok,()),()))):Option (((List UInt8×Int×Bool×Unit)×Unit)⊕((Int×Int×(List UInt8×Int×Bool×Unit)×Unit)⊕((Int×(List UInt8×Int×Bool×Unit)×Unit)⊕(Int×(List UInt8×Int×Bool×Unit)×Unit)))))=some (.inl ((s,k,ok,()),())):=by
           by_cases h0:(i:Int)=0
           · rw[zp h0]
             cases v with
             | false=>rfl
             | true=>exact absurd ⟨by omega,rfl⟩ hneg
           · rw[zn h0]
         rw[e]
         simp only[zb,au]
         rw[aR hi]
         simp only[zb]
         have hb:=q[i].toNat_lt
         by_cases a:q[i].toNat<48
         · rw[zp (show (q[i].toNat:Int)<48 by omega),zp (show q[i].toNat<48∨57<q[i].toNat∨1000000000<n from .inl a)]
         · rw[zn (show ¬ ((q[i].toNat:Int)<48) by omega)]
           by_cases b:57<q[i].toNat
           · rw[zp (show (q[i].toNat:Int)>57 by omega),zp (show q[i].toNat<48∨57<q[i].toNat∨1000000000<n from .inr (.inl b))]
           · rw[zn (show ¬ ((q[i].toNat:Int)>57) by omega)]
             by_cases c:1000000000<n
             · rw[zp (show n>1000000000 by omega),zp (show q[i].toNat<48∨57<q[i].toNat∨1000000000<n from .inr (.inr c))]
             · rw[zn (show ¬ n>1000000000 by omega),zn (show ¬ (q[i].toNat<48∨57<q[i].toNat∨1000000000<n) by omega)]
               rw[wrap64 (n:=10*n) (by omega) (by omega),wrap64 (n:=((q[i].toNat:Nat):Int)) (by omega) (by omega),wrap64 (n:=10*n+((q[i].toNat:Nat):Int)) (by omega) (by omega),wrap64 (by omega) (by omega),wrap64 (by omega) (by omega)]
               rfl
       have ht:=turn
       by_cases hc:q[i].toNat<48∨57<q[i].toNat∨1000000000<n
       · rw[zp hc] at ht
         exact .inr (aq ht)
       · rw[zn hc] at ht
         rw[ay ht]
         exact ih (i+1) _ (by omega) (by omega) (by omega) (by omega)
   · exact .inl (fin i n (by omega) h3 h4)
theorem adF {s q:List UInt8}{v:Bool}{rd rd0:List UInt8×Int×Bool×Unit} (hq:q.length<1000000) {k:Int}{ok:Bool}{u:Nat} (hu:u≤2147483647):∀ (m i n:Nat),q.length-i≤m→i≤q.length→(v=true→0<i)→valM n (q.drop i)=some u →
   aJ (eG (q,rd0,()) (v,rd,())) ((n:Int),(i:Int),(s,k,ok,()),())=some (.inl ((u:Int),(s,k,ok,()),())):=by
 intro m
 have fin:∀ (i n:Nat),i=q.length→valM n (q.drop i)=some u→aJ (eG (q,rd0,()) (v,rd,())) ((n:Int),(i:Int),(s,k,ok,()),())=some (.inl ((u:Int),(s,k,ok,()),())):=by
   intro i n e hv
   rw[List.drop_eq_nil_of_le (by omega)] at hv
   simp only[valM,Option.some.injEq] at hv
   subst hv
   refine aq ?_
   unfold eG
   simp only[ac]
   rw[zn (by omega)]
 induction m with
 | zero=>intro i n h1 h2 h3 h4; exact fin i n (by omega) h4
 | succ m ih =>
   intro i n h1 h2 h3 h4
   by_cases hi:i<q.length
   · rw[cS hi] at h4
     simp only[valM] at h4
     by_cases hd:48≤q[i].toNat∧q[i].toNat≤57
     · rw[zp hd] at h4
       have hle:=(iJ _ _ _ h4 (by omega)).2
       rw[ay (b:=(((n*10+(q[i].toNat-48):Nat):Int),((i+1:Nat):Int),(s,k,ok,()),()))]
       · exact ih (i+1) _ (by omega) (by omega) (fun _=>by omega) h4
       unfold eG
       simp only[ac]
       rw[zp (by omega)]
       have e:((if (i:Int)=0 then cond v (some (.inr (.inl ((n:Int),(IntKind.wrap .i64 ((i:Int)+1)),(s,k,ok,()),())))) (some (.inl ((s,k,ok,()),()))) else some (.inl ((s,k,ok,()),()))):Option (((List UInt8×Int×Bool×Unit)×Unit)⊕((Int×Int×(List UInt8×Int×Bool×Unit)×Unit)⊕((Int×(List UInt8×Int×Bool×Unit)×Unit)⊕(Int×(List UInt8×Int×Bool×Unit)×Unit)))))=some (.inl ((s,k,ok,()),())):=by
         by_cases h0:(i:Int)=0
         · rw[zp h0]
           cases v with
           | false=>rfl
           | true=>have:=h3 rfl; omega
         · rw[zn h0]
       rw[e]
       simp only[zb,au]
       rw[aR hi]
       simp only[zb]
       rw[zn (by omega),zn (by omega),zn (by omega)]
       rw[wrap64 (n:=10*(n:Int)) (by omega) (by omega),wrap64 (n:=((q[i].toNat:Nat):Int)) (by omega) (by omega),wrap64 (n:=10*(n:Int)+((q[i].toNat:Nat):Int)) (by omega) (by omega),wrap64 (by omega) (by omega),wrap64 (by omega) (by omega)]
       rw[show 10*(n:Int)+((q[i].toNat:Nat):Int)-48=((n*10+(q[i].toNat-48):Nat):Int) by omega]
       rfl
     · rw[zn hd] at h4; cases h4
   · exact fin i n (by omega) h4
theorem tJ {s:List UInt8}{k:Nat}{ok:Bool} (hs:s.length<1000000) (ha:k≤s.length):∃ (n:Int) (k':Nat) (ok':Bool),zan (s,(k:Int),ok,())=some (n,(s,(k':Int),ok',()),())∧k'≤s.length:=by
 obtain ⟨k1,ok1,e1,h1⟩:∃ (k1:Nat) (ok1:Bool),iz s k ok=(s,(k1:Int),ok1,())∧k1≤s.length:=by
   unfold iz
   by_cases h:ok=true∧s[k]? = some 32
   · have hk : k < s.length := by
       rcases Nat.lt_or_ge k s.length with h' | h'
       · exact h'
       · rw[List.getElem?_eq_none h'] at h; cases h.2
     exact ⟨k+1,true,zp h,hk⟩
   · exact ⟨k,false,zn h,ha⟩
 have hn:=ga h1
 unfold zan
 rw[d9 hs (by omega)]
 simp only[zb,e1]
 rw[gW hs h1]
 simp only[zb,ac]
 generalize hq:eh (s.drop k1)=q at hn ⊢
 have hneg:∃ v:Bool,((if (q.length:Int)>0 then (atI q 0).bind fun b3=>some (decide ((b3.toNat:Int)=45),(s,((k1+q.length:Nat):Int),ok1,()),()) else some (false,(s,((k1+q.length:Nat):Int),ok1,()),())):Option (Bool×(List UInt8×Int×Bool×Unit)×Unit))=some (v,(s,((k1+q.length:Nat):Int),ok1,()),()):=by
   by_cases h0:(q.length:Int)>0
   · rw[zp h0,show (0:Int)=((0:Nat):Int) from rfl,aR (by omega)]
     exact ⟨_,rfl⟩
   · rw[zn h0]; exact ⟨false,rfl⟩
 obtain ⟨v,hv⟩:=hneg
 rw[hv]
 simp only[zb]
 rcases ah6 (s:=s) (q:=q) (v:=v) (k0:=0) (rd:=(s,((k1+q.length:Nat):Int),ok1,())) (rd0:=(s,((k1+q.length:Nat):Int),ok1,())) (by omega) (k:=((k1+q.length:Nat):Int)) (ok:=ok1) q.length 0 0 (by omega) (by omega) (by omega) (by omega) with ⟨n',g1,g2,g3⟩ | g3
 · rw[show ((0:Nat):Int)=0 from rfl] at g3
   rw[g3]
   simp only[zb,au]
   have hd:∀ m:Int,-20000000000≤m→m≤20000000000→∃ (n:Int) (k':Nat) (ok':Bool),(cond ok1 ((zbe m).bind fun r11=>some (m,(s,((k1+q.length:Nat):Int),(decide (r11=q)),()),())) (some (m,(s,((k1+q.length:Nat):Int),false,()),())))=some (n,(s,(k':Int),ok',()),())∧k'≤s.length:=by
     intro m hm1 hm2
     cases ok1 with
     | false=>exact ⟨m,k1+q.length,false,rfl,hn⟩
     | true =>
       rw[cond_true,dG (by omega) (by omega)]
       exact ⟨m,k1+q.length,_,rfl,hn⟩
   cases v with
   | true =>
     simp only[cond_true,zb,au]
     rw[wrap64 (by omega) (by omega)]
     exact hd _ (by omega) (by omega)
   | false =>
     simp only[cond_false,zb,au]
     exact hd _ (by omega) (by omega)
 · rw[show ((0:Nat):Int)=0 from rfl] at g3
   rw[g3]
   exact ⟨0,k1+q.length,false,rfl,hn⟩
theorem zH {s:List UInt8}{k:Nat}{n:Int}{l:List (List UInt8)} (hs:s.length<1000000) (h1 : -2147483647≤n) (h2:n≤2147483647) (h:Stands s k (Lib.itoa n::l)) :
   ∃ k':Nat,zan (s,(k:Int),true,())=some (n,(s,(k':Int),true,()),())∧Stands s k' l:=by
 obtain ⟨b1,b2,b3⟩:=h.blank
 refine ⟨_,?_,h.go⟩
 unfold zan
 rw[d9 hs (by omega)]
 simp only[zb,iz]
 rw[zp ⟨trivial,b1⟩,gW hs b2,b3,eX (dA n).1]
 simp only[zb,ac]
 have hpos:1≤(Lib.itoa n).length:=by
   obtain ⟨c,r,e,_⟩:=e7 (n:=n)
   rw[e]; simp
 have hlen:=cC (n:=n) ⟨by omega,by omega⟩
 rw[zp (by omega),show (0:Int)=((0:Nat):Int) from rfl,aR (by omega)]
 simp only[zb]
 by_cases hn:n<0
 · have e:=itoa_neg hn
   have e0:(Lib.itoa n)[0]'(by omega)=45:=by simp[e]
   rw[e0]
   rw[zt (by rfl)]
   have hstep:eG (Lib.itoa n,(s,((k+1+(Lib.itoa n).length:Nat):Int),true,()),()) (true,(s,((k+1+(Lib.itoa n).length:Nat):Int),true,()),()) (((0:Nat):Int),((0:Nat):Int),(s,((k+1+(Lib.itoa n).length:Nat):Int),true,()),())=some (.inl (((0:Nat):Int),((1:Nat):Int),(s,((k+1+(Lib.itoa n).length:Nat):Int),true,()),())):=by
     unfold eG
     simp only[ac,cond_true]
     rw[zp (by omega),zp (by rfl)]
     rfl
   rw[ay hstep,adF (u:=n.natAbs) (by omega) (by omega) (Lib.itoa n).length 1 0 (by omega) (by omega) (fun _=>by omega) (by rw[e]; exact fc _)]
   simp only[zb,au,cond_true]
   rw[wrap64 (by omega) (by omega),show ((0:Nat):Int)-((n.natAbs:Nat):Int)=n by omega,dG (by omega) (by omega)]
   simp
 · obtain ⟨m,rfl⟩:=Int.eq_ofNat_of_zero_le (show 0≤n by omega)
   have e:Lib.itoa (m:Int)=Lib.decDigits m:=cX
   have hne:¬ ((((Lib.itoa (m:Int))[0]'(by omega)).toNat:Int)=45):=by
     have hall:∀ b∈Lib.itoa (m:Int),digB b:=by rw[e]; exact dC m
     have:=hall _ (List.getElem_mem (show 0<(Lib.itoa (m:Int)).length by omega))
     unfold digB at this
     omega
   rw[zf hne]
   rw[adF (u:=m) (by omega) (by omega) (Lib.itoa (m:Int)).length 0 0 (by omega) (by omega) (fun e=>by cases e) (by rw[e]; exact fc _)]
   simp only[zb,au,cond_true,cond_false]
   rw[dG (by omega) (by omega)]
   simp
end Go.Proofs.YtmklghkhfimfgaaGreatDoor.Q
namespace Go.Proofs.YtmklghkhfimfgaaGreatDoor.Q
open Go.EM Go.TY Go.Proofs Go.Proofs.YtmklghkhfimfgaaGreatDoor.Y
theorem zj {a:List UInt8}{i:Nat} (hi:i<a.length) (ha:a.length<1000000):subI a (i:Int) (IntKind.wrap .i64 ((i:Int)+1))=some [a[i]]:=by
 rw[wrap64 (by omega) (by omega),show (i:Int)+1=((i+1:Nat):Int) by omega,bV (by omega) (by omega),List.drop_take,cS hi,show i+1-i=1 by omega]
 rfl
theorem ng {a:List UInt8} (ha:a.length<1000000) {i:Nat} (hi:i<a.length) {o:List (List UInt8)}{cur:List UInt8} (hc:cur.length<1000000) (h1:¬ a[i].toNat=47) (h2:¬ a[i].toNat=92) :
   dI a (cur,(i:Int),o,())=some (.inl (cur++[a[i]],((i+1:Nat):Int),o,())):=by
 unfold dI
 simp only[ac,aE]
 rw[zp (by omega),aR hi]
 simp only[zb]
 rw[zn (by omega),zn (by omega)]
 simp only[zb,au]
 rw[zj hi ha]
 simp only[zb]
 rw[aD (by simp; omega),wrap64 (by omega) (by omega)]
 rfl
theorem nh {a:List UInt8} (ha:a.length<1000000) {i:Nat} (hi:i+1<a.length) {o:List (List UInt8)}{cur:List UInt8} (hc:cur.length<1000000) (h1:a[i].toNat=92) (h2:a[i+1].toNat=47∨a[i+1].toNat=92) :
   dI a (cur,(i:Int),o,())=some (.inl (cur++[a[i+1]],((i+1+1:Nat):Int),o,())):=by
 unfold dI
 simp only[ac,aE]
 rw[zp (by omega),aR (show i<a.length by omega)]
 simp only[zb]
 rw[zn (by omega),zp (by omega),wrap64 (n:=(i:Int)+1) (by omega) (by omega),show (i:Int)+1=((i+1:Nat):Int) by omega,zn (by omega),aR hi]
 simp only[zb]
 have e:((if ((a[i+1].toNat:Nat):Int)=47 then some (.inl (((i+1:Nat):Int),o,())) else if ((a[i+1].toNat:Nat):Int)=92 then some (.inl (((i+1:Nat):Int),o,())) else some (.inr (.inr (.inr ([],false,()))))):Option ((Int×List (List UInt8)×Unit)⊕((List UInt8×Int×List (List UInt8)×Unit)⊕((List UInt8×List (List UInt8)×Unit)⊕(List (List UInt8)×Bool×Unit)))))=some (.inl (((i+1:Nat):Int),o,())):=by
   by_cases h:a[i+1].toNat=47
   · rw[zp (by omega)]
   · rw[zn (by omega),zp (by omega)]
 rw[e]
 simp only[zb,au]
 rw[zj hi ha]
 simp only[zb]
 rw[aD (by simp; omega),wrap64 (by omega) (by omega)]
 rfl
theorem vM {a:List UInt8} (ha:a.length<1000000) {i:Nat} (hi:i<a.length) {o:List (List UInt8)}{cur:List UInt8} (h1:a[i].toNat=92) (h2:∀ h:i+1<a.length,¬ (a[i+1].toNat=47∨a[i+1].toNat=92)) :
   dI a (cur,(i:Int),o,())=some (.inr (.inr ([],false,()))):=by
 unfold dI
 simp only[ac,aE]
 rw[zp (by omega),aR hi]
 simp only[zb]
 rw[zn (by omega),zp (by omega),wrap64 (n:=(i:Int)+1) (by omega) (by omega),show (i:Int)+1=((i+1:Nat):Int) by omega]
 by_cases hl:i+1=a.length
 · rw[zp (by omega)]
   simp only[zb,au]
 · have hi2:i+1<a.length:=by omega
   have:=h2 hi2
   rw[zn (by omega),aR hi2]
   simp only[zb]
   rw[zn (by omega),zn (by omega)]
   simp only[zb,au]
theorem jW {a:List UInt8} (ha:a.length<1000000) {i:Nat} (hi:i<a.length) {o:List (List UInt8)}{cur:List UInt8} (ho:o.length<1000000) (h1:a[i].toNat=47) :
   dI a (cur,(i:Int),o,())=some (.inl ([],((i+1:Nat):Int),o++[cur],())):=by
 unfold dI
 simp only[ac,aE]
 rw[zp (by omega),aR hi]
 simp only[zb]
 rw[zp (by omega),cW (by simp; omega),wrap64 (by omega) (by omega)]
 rfl
theorem ni {a:List UInt8}{o:List (List UInt8)}{cur:List UInt8}:dI a (cur,(a.length:Int),o,())=some (.inr (.inl (cur,o,()))):=by
 unfold dI
 simp
theorem fg {a r:List UInt8} (ha:a.length<1000000) {o:List (List UInt8)}:∀ (x:List UInt8) (i:Nat) (cur:List UInt8),cur.length+x.length<1000000→a.drop i=aZ x++r →
   aJ (dI a) (cur,(i:Int),o,())=aJ (dI a) (cur++x,((i+(aZ x).length:Nat):Int),o,())
 | [],i,cur,_,_=>by simp[aZ]
 | b::x,i,cur,hc,h=>by
   simp only[zl] at hc
   rw[dX] at h
   by_cases hb:b.toNat=47∨b.toNat=92
   · rw[zp hb] at h
     simp only[List.cons_append,List.nil_append] at h
     obtain ⟨hi,e1,h⟩:=bH h
     obtain ⟨hi2,e2,h⟩:=bH h
     rw[ay (nh ha hi2 (by omega) (by rw[e1]; rfl) (by rw[e2]; exact hb)),e2,fg ha x (i+1+1) (cur++[b]) (by simp; omega) h,dX,zp hb]
     simp only[List.append_assoc,List.cons_append,List.nil_append,zl,List.length_append]
     rw[show i+1+1+(aZ x).length=i+((aZ x).length+1+1) by omega]
   · rw[zn hb] at h
     simp only[List.cons_append,List.nil_append] at h
     obtain ⟨hi,e1,h⟩:=bH h
     rw[ay (ng ha hi (by omega) (by rw[e1]; omega) (by rw[e1]; omega)),e1,fg ha x (i+1) (cur++[b]) (by simp; omega) h,dX,zn hb]
     simp only[List.append_assoc,List.cons_append,List.nil_append,zl,List.length_append]
     rw[show i+1+(aZ x).length=i+((aZ x).length+1) by omega]
theorem kX {a:List UInt8} (ha:a.length<1000000):∀ (p:Path) (x:List UInt8) (i:Nat) (pre:List (List UInt8)),pre.length+p.length<100000→(∀ z∈x::p,z.length<100000)→a.drop i=cT (x::p)→i≤a.length →
   ∃ y q,aJ (dI a) ([],(i:Int),pre,())=some (.inl (y,q,()))∧q++[y]=pre++x::p
 | [],x,i,pre,hl,hz,h,hia=>by
   rw[lh] at h
   have hx:=hz x (List.mem_cons_self ..)
   refine ⟨x,pre,?_,rfl⟩
   rw[fg (r:=[]) ha x i [] (by simp; omega) (by rw[h,List.append_nil])]
   have hi:a.length-i=(aZ x).length:=by rw[← h,List.length_drop]
   rw[show i+(aZ x).length=a.length by omega,List.nil_append]
   exact aq ni
 | y::p,x,i,pre,hl,hz,h,hia=>by
   rw[jv] at h
   have hx:=hz x (List.mem_cons_self ..)
   simp only[zl] at hl
   have h2:a.drop (i+(aZ x).length)=47::cT (y::p):=by
     rw[← List.drop_drop,h,List.drop_left]
   obtain ⟨hi,e1,h3⟩:=bH h2
   obtain ⟨z,q,g1,g2⟩:=kX ha p y (i+(aZ x).length+1) (pre++[x]) (by simp; omega) (fun z hz'=>hz z (List.mem_cons_of_mem _ hz')) h3 (by omega)
   refine ⟨z,q,?_,by rw[g2]; simp⟩
   rw[fg (r:=47::cT (y::p)) ha x i [] (by simp; omega) h,ay (jW ha hi (by omega) (by rw[e1]; rfl)),List.nil_append]
   exact g1
theorem ab8 {p:Path} (hc:bS p=0) (h1:p.length≤12) (h:∀ x∈p,x.length≤120):zbx (cT p)=some (p,0,()):=by
 have hp:p≠[]:=by rintro rfl; cases hc
 have hl:=eV h1 h
 have hne:cT p≠[]:=by
   intro e
   have hs:=rT hp h1 h
   rw[e] at hs
   have h0:zb9 []=some ([[]],true,()):=by
     unfold zb9
     rw[aq (x:=.inl (false,[[]],())) (by unfold cV; simp)]
     rfl
   rw[h0] at hs
   simp only[Option.some.injEq,Prod.mk.injEq,and_true] at hs
   rw[← hs] at hc
   simp[bS,eQ,dv] at hc
 have hs:zby (cT p)=some (p,true,()):=by
   cases p with
   | nil=>exact absurd rfl hp
   | cons x p =>
     simp only[zl] at h1
     obtain ⟨y,q,g1,g2⟩:=kX (a:=cT (x::p)) (by omega) p x 0 [] (by simp; omega) (fun z hz=>by have:=h z hz; omega) rfl (by omega)
     have hq:q.length<1000000:=by
       have:=congrArg List.length g2
       simp at this
       omega
     unfold zby
     rw[show (0:Int)=((0:Nat):Int) from rfl,g1]
     simp only[zb,au]
     rw[cW (by simp; omega),g2]
     rfl
 unfold zbx
 simp only[ac,aE]
 rw[zn hne,hs]
 simp only[zb,Bool.not_true,cond_false]
 rw[jr (fun x hx=>by have:=h x hx; omega),hc]
 rfl
theorem vN {a:List UInt8} (ha:a.length<1000000):∃ o b,zby a=some (o,b,())∧∀ x∈o,x.length≤a.length:=by
 have key : ∀ (k i : Nat) (cur : List UInt8) (o : List (List UInt8)), a.length - i ≤ k → i ≤ a.length → cur.length ≤ i → o.length ≤ i → (∀ x ∈ o, x.length ≤ a.length) →
     aJ (dI a) (cur,(i:Int),o,())=some (.inr ([],false,()))∨∃ y q,aJ (dI a) (cur,(i:Int),o,())=some (.inl (y,q,()))∧y.length≤a.length∧q.length≤a.length∧∀ x∈q,x.length≤a.length:=by
   intro k
   have fin:∀ (i:Nat) (cur:List UInt8) (o:List (List UInt8)),i=a.length→cur.length≤i→o.length≤i→(∀ x∈o,x.length≤a.length)→∃ y q,aJ (dI a) (cur,(i:Int),o,())=some (.inl (y,q,()))∧y.length≤a.length∧q.length≤a.length∧∀ x∈q,x.length≤a.length:=by
     intro i cur o e h1 h2 h3
     subst e
     exact ⟨cur,o,aq ni,h1,h2,h3⟩
   induction k with
   | zero=>intro i cur o h1 h2 h3 h4 h5; exact .inr (fin i cur o (by omega) h3 h4 h5)
   | succ k ih =>
     intro i cur o h1 h2 h3 h4 h5
     by_cases hi:i<a.length
     · by_cases h47:a[i].toNat=47
       · rw[ay (jW ha hi (by omega) h47)]
         refine ih (i+1) [] (o++[cur]) (by omega) (by omega) (by simp) (by simp; omega) ?_
         intro x hx
         rcases List.mem_append.1 hx with h | h
         · exact h5 x h
         · rw[List.mem_singleton.1 h]; omega
       · by_cases h92:a[i].toNat=92
         · by_cases hh:∃ h:i+1<a.length,a[i+1].toNat=47∨a[i+1].toNat=92
           · obtain ⟨hl,hh⟩:=hh
             rw[ay (nh ha hl (by omega) h92 hh)]
             exact ih (i+1+1) _ o (by omega) (by omega) (by simp; omega) (by omega) h5
           · exact .inl (aq (vM ha hi h92 (fun h hc=>hh ⟨h,hc⟩)))
         · rw[ay (ng ha hi (by omega) h47 h92)]
           exact ih (i+1) _ o (by omega) (by omega) (by simp; omega) (by omega) h5
     · exact .inr (fin i cur o (by omega) h3 h4 h5)
 unfold zby
 rcases key a.length 0 [] [] (by omega) (by omega) (by simp) (by simp) (by simp) with g | ⟨y,q,g,g1,g2,g3⟩
 · rw[show (0:Int)=((0:Nat):Int) from rfl,g]
   exact ⟨[],false,rfl,by simp⟩
 · rw[show (0:Int)=((0:Nat):Int) from rfl,g]
   simp only[zb,au]
   rw[cW (by simp; omega)]
   refine ⟨q++[y],true,rfl,?_⟩
   intro x hx
   rcases List.mem_append.1 hx with h | h
   · exact g3 x h
   · rw[List.mem_singleton.1 h]; exact g1
theorem zG {a:List UInt8} (ha:a.length<1000000):∃ p e,zbx a=some (p,e,())∧(p=[]∨bS p=0):=by
 unfold zbx
 simp only[ac,aE]
 by_cases h0:a=[]
 · rw[zp h0]; exact ⟨_,_,rfl,.inl rfl⟩
 rw[zn h0]
 obtain ⟨o,b,h1,h2⟩:=vN ha
 rw[h1]
 simp only[zb]
 cases b with
 | false=>exact ⟨_,_,rfl,.inl rfl⟩
 | true =>
   simp only[Bool.not_true,cond_false]
   rw[jr (fun x hx=>by have:=h2 x hx; omega)]
   simp only[zb]
   by_cases hc:bS o=0
   · rw[zp hc]; exact ⟨_,_,rfl,.inr hc⟩
   · rw[zn hc]; exact ⟨_,_,rfl,.inl rfl⟩
theorem zo {a:List UInt8} (ha:a.length<1000000) {i:Nat} (hi:i<a.length) {o:List (List UInt8)} (h1:¬ (a[i].toNat=47∨a[i].toNat=92)) :
   cV a (true,(i:Int),o,())=some (.inr (.inr ([],false,()))):=by
 unfold cV
 simp only[ac,aE]
 rw[zp (by omega),aR hi]
 simp only[zb,cond_true]
 rw[zn (by omega)]
 have:(!decide ((a[i].toNat:Int)=92))=true:=by rw[zf (by omega)]; rfl
 simp only[zb,au,this,cond_true]
theorem zq {a:List UInt8} (ha:a.length<1000000):∃ o b,zb9 a=some (o,b,())∧∀ x∈o,x.length≤a.length:=by
 have key : ∀ (k i : Nat) (e : Bool) (pre : List (List UInt8)) (cur : List UInt8), a.length - i ≤ k → i ≤ a.length → cur.length ≤ i → pre.length ≤ i → (∀ x ∈ pre, x.length ≤ a.length) →
     aJ (cV a) (e,(i:Int),pre++[cur],())=some (.inr ([],false,()))∨∃ e' q,aJ (cV a) (e,(i:Int),pre++[cur],())=some (.inl (e',q,()))∧∀ x∈q,x.length≤a.length:=by
   intro k
   have fin:∀ (i:Nat) (e:Bool) (pre:List (List UInt8)) (cur:List UInt8),i=a.length→cur.length≤i→(∀ x∈pre,x.length≤a.length)→∃ e' q,aJ (cV a) (e,(i:Int),pre++[cur],())=some (.inl (e',q,()))∧∀ x∈q,x.length≤a.length:=by
     intro i e pre cur hi h1 h3
     subst hi
     refine ⟨e,pre++[cur],aq ?_,?_⟩
     · unfold cV
       simp
     · intro x hx
       rcases List.mem_append.1 hx with h | h
       · exact h3 x h
       · rw[List.mem_singleton.1 h]; exact h1
   induction k with
   | zero=>intro i e pre cur h1 h2 h3 h4 h5; exact .inr (fin i e pre cur (by omega) h3 h5)
   | succ k ih =>
     intro i e pre cur h1 h2 h3 h4 h5
     by_cases hi:i<a.length
     · cases e with
       | true =>
         by_cases hb:a[i].toNat=47∨a[i].toNat=92
         · rw[ay (iB ha hi (by omega) (by omega) (fun _=>hb) (fun h=>by cases h))]
           exact ih (i+1) false pre _ (by omega) (by omega) (by simp; omega) (by omega) h5
         · exact .inl (aq (zo ha hi hb))
       | false =>
         by_cases h92:a[i].toNat=92
         · rw[ay (pW ha hi h92)]
           exact ih (i+1) true pre cur (by omega) (by omega) (by omega) (by omega) h5
         · by_cases h47:a[i].toNat=47
           · rw[ay (kP ha hi (by simp; omega) h47)]
             refine ih (i+1) false (pre++[cur]) [] (by omega) (by omega) (by simp) (by simp; omega) ?_
             intro x hx
             rcases List.mem_append.1 hx with h | h
             · exact h5 x h
             · rw[List.mem_singleton.1 h]; omega
           · rw[ay (iB ha hi (by omega) (by omega) (fun h=>by cases h) (fun _=>⟨h47,h92⟩))]
             exact ih (i+1) false pre _ (by omega) (by omega) (by simp; omega) (by omega) h5
     · exact .inr (fin i e pre cur (by omega) h3 h5)
 unfold zb9
 rcases key a.length 0 false [] [] (by omega) (by omega) (by simp) (by simp) (by simp) with g | ⟨e',q,g,g1⟩
 · rw[List.nil_append] at g
   rw[show (0:Int)=((0:Nat):Int) from rfl,g]
   exact ⟨[],false,rfl,by simp⟩
 · rw[List.nil_append] at g
   rw[show (0:Int)=((0:Nat):Int) from rfl,g]
   simp only[zb,au]
   cases e' with
   | true=>exact ⟨[],false,rfl,by simp⟩
   | false=>exact ⟨q,true,rfl,g1⟩
theorem acn {a:List UInt8} (ha:a.length<1000000):∃ p e,zcg a=some (p,e,())∧(p=[]∨bS p=0):=by
 obtain ⟨o,b,h1,h2⟩:=zq ha
 unfold zcg
 rw[h1]
 simp only[zb,ac,aE]
 cases b with
 | false=>exact ⟨_,_,rfl,.inl rfl⟩
 | true =>
   simp only[Bool.not_true,cond_false]
   by_cases h0:a=[]
   · rw[zp h0]; exact ⟨_,_,rfl,.inl rfl⟩
   rw[zn h0,pi (fun x hx=>by have:=h2 x hx; omega)]
   simp only[zb]
   by_cases hc:bS o=0
   · rw[zp hc]; exact ⟨_,_,rfl,.inr hc⟩
   · rw[zn hc]; exact ⟨_,_,rfl,.inl rfl⟩
end Go.Proofs.YtmklghkhfimfgaaGreatDoor.Q
namespace Go.Proofs.YtmklghkhfimfgaaGreatDoor.Q
open Go.EM Go.TY Go.Proofs Go.Proofs.YtmklghkhfimfgaaGreatDoor.Y
theorem vO {v:Val} (hr:bc v=true):zbn (b9 v)=some (v,true,()):=by
 have hl:=fT hr
 obtain ⟨u,ok,h1,h2,h3⟩:=nl (s:=b9 v) (by omega)
 cases ok with
 | false=>exact absurd rfl ((h3 rfl).2 v hr)
 | true =>
   obtain ⟨g1,g2⟩:=h2 rfl
   have:u=v:=tz g1 hr g2 (by rw[g2]; omega)
   rw[h1,this]
theorem jX {s:List UInt8} (hs:s.length<1000000):∃ v ok,zbn s=some (v,ok,())∧v.2.2.1.length≤200:=by
 obtain ⟨u,ok,h1,h2,h3⟩:=nl (s:=s) hs
 refine ⟨u,ok,h1,?_⟩
 cases ok with
 | false=>rw[(h3 rfl).1]; simp
 | true =>
   have:=(nQ (h2 rfl).1).2.2.2.2
   omega
theorem abX {s:List UInt8}{i:Nat}{ok:Bool}{z:Val} (hs:s.length<1000000) (hi:i<s.length):kC ((s,(i:Int),ok,()),z,()) =
   if s[i].toNat=34 then some (.inr (.inl ((s,(i:Int),ok,()),z,()))) else some (.inl ((s,(((if s[i].toNat=92 then i+2 else i+1):Nat):Int),ok,()),z,())):=by
 unfold kC
 simp only[ac,aE]
 rw[zp (show (i:Int)<(s.length:Int) by omega),aR hi]
 simp only[zb]
 by_cases h34:s[i].toNat=34
 · rw[zp (show (s[i].toNat:Int)=34 by omega),zp h34]
 · rw[zn (show ¬ (s[i].toNat:Int)=34 by omega),zn h34]
   by_cases h92:s[i].toNat=92
   · rw[zp (show (s[i].toNat:Int)=92 by omega),zp h92]
     simp only[zb,au]
     rw[wrap64 (n:=(i:Int)+1) (by omega) (by omega),wrap64 (by omega) (by omega),show (i:Int)+1+1=((i+2:Nat):Int) by omega]
   · rw[zn (show ¬ (s[i].toNat:Int)=92 by omega),zn h92]
     simp only[zb,au]
     rw[wrap64 (n:=(i:Int)+1) (by omega) (by omega)]
     rfl
theorem vend {s:List UInt8}{i:Nat}{ok:Bool}{z:Val} (hi:s.length≤i):kC ((s,(i:Int),ok,()),z,())=some (.inr (.inl ((s,(i:Int),ok,()),z,()))):=by
 unfold kC
 simp only[ac]
 rw[zn (by omega)]
theorem aoO {s:List UInt8}{ok:Bool}{z:Val} (hs:s.length<1000000):∀ (n i:Nat),s.length+1-i≤n→i≤s.length+1→∃ i':Nat,aJ kC ((s,(i:Int),ok,()),z,())=some (.inl ((s,(i':Int),ok,()),z,()))∧i≤i'∧i'≤s.length+1:=by
 intro n
 induction n with
 | zero=>intro i h1 h2; exact ⟨i,aq (vend (by omega)),by omega,h2⟩
 | succ n ih =>
   intro i h1 h2
   by_cases hi:i<s.length
   · have ht:=abX (ok:=ok) (z:=z) hs hi
     by_cases h34:s[i].toNat=34
     · rw[zp h34] at ht
       exact ⟨i,aq ht,by omega,h2⟩
     · rw[zn h34] at ht
       rw[ay ht]
       by_cases h92:s[i].toNat=92
       · rw[zp h92]
         obtain ⟨i',g1,g2,g3⟩:=ih (i+2) (by omega) (by omega)
         exact ⟨i',g1,by omega,g3⟩
       · rw[zn h92]
         obtain ⟨i',g1,g2,g3⟩:=ih (i+1) (by omega) (by omega)
         exact ⟨i',g1,by omega,g3⟩
   · exact ⟨i,aq (vend (by omega)),by omega,h2⟩
theorem ahI {s r:List UInt8}{ok:Bool}{z:Val} (hs:s.length<1000000):∀ (t:List UInt8) (i:Nat),s.drop i=aL t++34::r→aJ kC ((s,(i:Int),ok,()),z,())=some (.inl ((s,((i+(aL t).length:Nat):Int),ok,()),z,()))
 | [],i,h=>by
   simp only[aL,List.flatMap_nil,List.nil_append] at h
   obtain ⟨hi,e1,e2⟩:=bH h
   have ht:=abX (ok:=ok) (z:=z) hs hi
   rw[e1,zp (by rfl)] at ht
   simpa [aL] using aq ht
 | b::t,i,h=>by
   rw[bU] at h
   by_cases hb:dS b=true
   · rw[zp hb] at h
     simp only[List.cons_append,List.nil_append] at h
     obtain ⟨hi,e1,h⟩:=bH h
     obtain ⟨hi2,e2,h⟩:=bH h
     have ht:=abX (ok:=ok) (z:=z) hs hi
     rw[e1,zn (by decide),zp (by rfl)] at ht
     rw[ay ht,ahI hs t (i+2) h,bU,zp hb]
     simp only[List.cons_append,List.nil_append,zl]
     rw[show i+2+(aL t).length=i+((aL t).length+1+1) by omega]
   · rw[zn hb] at h
     have hsp:¬ b.toNat=34∧¬ b.toNat=92:=by simpa [dS] using hb
     simp only[List.cons_append,List.nil_append] at h
     obtain ⟨hi,e1,h⟩:=bH h
     have ht:=abX (ok:=ok) (z:=z) hs hi
     rw[e1,zn hsp.1,zn hsp.2] at ht
     rw[ay ht,ahI hs t (i+1) h,bU,zn hb]
     simp only[List.cons_append,List.nil_append,zl]
     rw[show i+1+(aL t).length=i+((aL t).length+1) by omega]
theorem kM {s:List UInt8}{k:Nat}{ok:Bool} (ha:k≤s.length):∃ (k1:Nat) (ok1:Bool),iz s k ok=(s,(k1:Int),ok1,())∧k1≤s.length:=by
 unfold iz
 by_cases h:ok=true∧s[k]? = some 32
 · have hk : k < s.length := by
     rcases Nat.lt_or_ge k s.length with h' | h'
     · exact h'
     · rw[List.getElem?_eq_none h'] at h; cases h.2
   exact ⟨k+1,true,zp h,hk⟩
 · exact ⟨k,false,zn h,ha⟩
theorem vB {s:List UInt8}{k:Nat}{ok:Bool} (ha:k≤s.length+1):∃ (k1:Nat) (ok1:Bool),iz s k ok=(s,(k1:Int),ok1,())∧k1≤s.length+1∧(ok1=true→k1≤s.length):=by
 unfold iz
 by_cases h:ok=true∧s[k]? = some 32
 · have hk : k < s.length := by
     rcases Nat.lt_or_ge k s.length with h' | h'
     · exact h'
     · rw[List.getElem?_eq_none h'] at h; cases h.2
   exact ⟨k+1,true,zp h,by omega,fun _=>hk⟩
 · exact ⟨k,false,zn h,ha,fun e=>by cases e⟩
theorem vC {s:List UInt8}{k:Nat}{ok:Bool} (hs:s.length<1000000) (ha:k≤s.length):∃ (v:Val) (k':Nat) (ok':Bool),zaq (s,(k:Int),ok,())=some (v,(s,(k':Int),ok',()),())∧k'≤s.length+1∧v.2.2.1.length≤200:=by
 obtain ⟨k1,ok1,e1,h1⟩:=kM (s:=s) (k:=k) (ok:=ok) ha
 have hn:=ga h1
 unfold zaq
 rw[d9 hs (by omega)]
 simp only[zb,e1,ac]
 have plain : ∃ (v : Val) (k' : Nat) (ok' : Bool), ((zav (s, (k1 : Int), ok1, ())).bind fun q4 => (zbn q4.1).bind fun r5 =>
     cond q4.2.1.2.2.1 (some (r5.1,(q4.2.1.1,q4.2.1.2.1,r5.2.1,()),())) (some (r5.1,(q4.2.1.1,q4.2.1.2.1,false,()),())):Option (Val×(List UInt8×Int×Bool×Unit)×Unit))=some (v,(s,(k':Int),ok',()),())∧k'≤s.length+1∧v.2.2.1.length≤200:=by
   rw[gW hs h1]
   simp only[zb]
   obtain ⟨v,ok',g1,g2⟩:=jX (s:=eh (s.drop k1)) (by omega)
   rw[g1]
   simp only[zb]
   cases ok1 with
   | true=>exact ⟨v,_,ok',rfl,by omega,g2⟩
   | false=>exact ⟨v,_,false,rfl,by omega,g2⟩
 cases ok1 with
 | false =>
   simp only[Bool.not_false,cond_true,zb,au]
   exact plain
 | true =>
   simp only[Bool.not_true,cond_false]
   by_cases hk:k1<s.length
   · rw[zn (show ¬ (k1:Int)≥(s.length:Int) by omega),aR hk]
     simp only[zb,au]
     cases hb:(!decide ((s[k1].toNat:Int)=34)) with
     | true =>
       simp only[cond_true]
       exact plain
     | false =>
       simp only[cond_false]
       rw[wrap64 (n:=(k1:Int)+1) (by omega) (by omega),show (k1:Int)+1=((k1+1:Nat):Int) by omega]
       obtain ⟨i',g1,g2,g3⟩:=aoO (s:=s) (ok:=true) (z:=(0,0,[],())) hs (s.length+1) (k1+1) (by omega) (by omega)
       rw[g1]
       simp only[zb,au]
       by_cases hi:i'<s.length
       · rw[zn (show ¬ (i':Int)≥(s.length:Int) by omega),wrap64 (n:=(i':Int)+1) (by omega) (by omega),show (i':Int)+1=((i'+1:Nat):Int) by omega,bV (by omega) (by omega)]
         simp only[zb]
         obtain ⟨v,ok',r1,r2⟩:=jX (s:=(s.take (i'+1)).drop k1) (by simp; omega)
         rw[r1]
         simp only[zb,cond_true]
         exact ⟨v,i'+1,ok',rfl,by omega,r2⟩
       · rw[zp (show (i':Int)≥(s.length:Int) by omega)]
         exact ⟨(0,0,[],()),i',false,rfl,by omega,by simp⟩
   · rw[zp (show (k1:Int)≥(s.length:Int) by omega)]
     simp only[zb,au,cond_true]
     exact plain
theorem fW {s w:List UInt8}{k:Nat}{v:Val}{l:List (List UInt8)} (hs:s.length<1000000) (hw:tP w) (h0:w≠[]) (hp:zbn w=some (v,true,())) (h:Stands s k (w::l)) :
   zaq (s,(k:Int),true,())=some (v,(s,((k+1+w.length:Nat):Int),true,()),()):=by
 obtain ⟨b1,b2,b3⟩:=h.blank
 unfold zaq
 rw[d9 hs (by omega)]
 simp only[zb,iz]
 rw[zp ⟨trivial,b1⟩]
 obtain ⟨hk,hne⟩:∃ hk:k+1<s.length,s[k+1].toNat≠34:=by
   cases w with
   | nil=>exact absurd rfl h0
   | cons c t =>
     rw[List.cons_append] at b3
     obtain ⟨hi,e1,e2⟩:=bH b3
     refine ⟨hi,?_⟩
     rw[e1]
     intro e
     refine hw.2 ?_
     simp only[List.head?_cons,Option.some.injEq]
     exact UInt8.toNat_inj.1 e
 simp only[Bool.not_true,cond_false,ac]
 rw[zn (show ¬ ((k+1:Nat):Int)≥(s.length:Int) by omega),aR hk]
 simp only[zb,au]
 rw[zf (show ¬ (s[k+1].toNat:Int)=34 by omega)]
 simp only[Bool.not_false,cond_true]
 rw[gW hs b2,b3,eX hw.1]
 simp only[zb,hp,cond_true]
theorem zA {s:List UInt8}{k:Nat}{v:Val}{l:List (List UInt8)} (hs:s.length<1000000) (hr:bc v=true) (h:Stands s k (b9 v::l)) :
   ∃ k':Nat,zaq (s,(k:Int),true,())=some (v,(s,(k':Int),true,()),())∧Stands s k' l:=by
 refine ⟨_,?_,h.go⟩
 have hp:=vO hr
 rcases bW hr with ⟨n,rfl,h1,h2⟩ | ⟨t,r,rfl,h1,h2⟩ | rfl | rfl
 · refine fW hs ?_ ?_ hp h
   · exact dA n
   · obtain ⟨c,r,e,_⟩:=e7 (n:=n)
     show Lib.itoa n≠[]
     rw[e]; simp
 · obtain ⟨b1,b2,b3⟩:=h.blank
   have e:b9 (2,0,t,())=34::(aL t++[34]):=by simp[b9]
   rw[e] at b3 hp ⊢
   have e2:(34::(aL t++[34]))++aS l=34::(aL t++34::aS l):=by simp
   rw[e2] at b3
   obtain ⟨hk,e3,e4⟩:=bH b3
   unfold zaq
   rw[d9 hs (by omega)]
   simp only[zb,iz]
   rw[zp ⟨trivial,b1⟩]
   simp only[Bool.not_true,cond_false,ac]
   rw[zn (show ¬ ((k+1:Nat):Int)≥(s.length:Int) by omega),aR hk,e3]
   simp only[zb,au]
   rw[zt (show (((34:UInt8).toNat:Nat):Int)=34 by rfl)]
   simp only[Bool.not_true,cond_false]
   rw[wrap64 (n:=((k+1:Nat):Int)+1) (by omega) (by omega),show ((k+1:Nat):Int)+1=((k+1+1:Nat):Int) by omega,ahI hs t (k+1+1) e4]
   simp only[zb,au]
   have hlen:s.length-(k+1+1)=(aL t).length+1+(aS l).length:=by rw[← List.length_drop,e4]; simp; omega
   have hin:(aL t).length+1≤s.length-(k+1+1):=by omega
   rw[zn (show ¬ ((k+1+1+(aL t).length:Nat):Int)≥(s.length:Int) by omega),wrap64 (n:=((k+1+1+(aL t).length:Nat):Int)+1) (by omega) (by omega),show ((k+1+1+(aL t).length:Nat):Int)+1=((k+1+1+(aL t).length+1:Nat):Int) by omega,bV (by omega) (by omega)]
   have e5:(s.take (k+1+1+(aL t).length+1)).drop (k+1)=34::(aL t++[34]):=by
     rw[List.drop_take,b3,show k+1+1+(aL t).length+1-(k+1)=(aL t).length+1+1 by omega,List.take_succ_cons,List.take_append]
     simp[List.take_of_length_le]
   rw[e5]
   simp only[zb,hp,cond_true]
   rw[show k+1+(34::(aL t++[34])).length=k+1+1+(aL t).length+1 by simp; omega]
 · exact fW hs (fj (by decide)) (by decide) hp h
 · exact fW hs (fj (by decide)) (by decide) hp h
end Go.Proofs.YtmklghkhfimfgaaGreatDoor.Q
namespace Go.Proofs.YtmklghkhfimfgaaGreatDoor.Q
open Go.EM Go.TY Go.Proofs Go.Proofs.YtmklghkhfimfgaaGreatDoor.Y
theorem abe (s:List UInt8):(aG s).2≤4:=by
 unfold aG
 repeat' split
 all_goals first | (simp; done) | (dsimp only; split<;>simp; done) | omega
theorem vE:∀ (n:Nat) (s:List UInt8) (l:List Int),s.length≤n→bR s=some l→s.length≤4*l.length:=by
 intro n
 induction n with
 | zero=>intro s l h _; omega
 | succ n ih =>
   intro s l h hr
   by_cases h0:s=[]
   · subst h0; simp
   · by_cases hc:(aG s).2=0
     · rw[d7 h0 hc] at hr; cases hr
     · rw[dt h0 hc] at hr
       cases hd:bR (s.drop (aG s).2) with
       | none=>rw[hd] at hr; cases hr
       | some t =>
         rw[hd] at hr
         simp only[Option.map_some,Option.some.injEq] at hr
         have hlen:s.length≠0:=fun e=>h0 (List.length_eq_zero_iff.1 e)
         have:=ih _ t (by rw[List.length_drop]; omega) hd
         rw[List.length_drop] at this
         have h4:=abe s
         rw[← hr,zl]
         omega
theorem lS {p:Path} (h:p=[]∨bS p=0):p.length≤12∧∀ x∈p,x.length≤120:=by
 rcases h with rfl | h
 · simp
 · unfold bS at h
   by_cases h1:p.length=0
   · rw[zp h1] at h; omega
   rw[zn h1] at h
   by_cases h2:p.length>8
   · rw[zp h2] at h; omega
   rw[zn h2] at h
   by_cases h3:p.all eQ=true
   · refine ⟨by omega,fun x hx => ?_⟩
     have:=List.all_eq_true.1 h3 x hx
     unfold eQ at this
     cases hr:bR x with
     | none=>rw[hr] at this; cases this
     | some l =>
       rw[hr] at this
       simp only[Bool.and_eq_true,decide_eq_true_eq] at this
       have h4:=vE x.length x l (Nat.le_refl _) hr
       omega
   · rw[zn h3] at h; omega
theorem aoP:∀ x y:Fin 6,vbS (x.val:Int)=vbS (y.val:Int)→x=y:=by decide
theorem apa:∀ x y:Fin 20,kwS (x.val:Int)=kwS (y.val:Int)→x=y:=by decide
abbrev RawO:=Int×Unit×(Int×Int×List UInt8×Unit)×Int×Unit×Unit
abbrev Rd1:=List UInt8×Int×Bool×Unit
theorem arv {q:List UInt8}{rd0 rd:Rd1}{z:RawO}{i:Nat} (h1:1≤i) (h5:i≤5) {k:Int}:kB (q,rd0,()) ((i:Int),rd,z,(k,(),(0,0,[],()),0,(),()),()) =
   some (.inl (((i+1:Nat):Int),rd,z,((if vbS (i:Int)=q then (i:Int) else k),(),(0,0,[],()),0,(),()),())):=by
 unfold kB
 simp only[ac]
 rw[zp (show (i:Int)≤5 by omega),ady (by omega) (by omega)]
 simp only[zb]
 rw[wrap64 (by omega) (by omega)]
 by_cases h:vbS (i:Int)=q
 · rw[zp h,zp h]; rfl
 · rw[zn h,zn h]; rfl
theorem oend {q:List UInt8}{rd0 rd:Rd1}{z o:RawO}:kB (q,rd0,()) (6,rd,z,o,())=some (.inr (.inl (rd,z,o,()))):=by
 unfold kB
 simp
theorem ao5 {q:List UInt8}{rd0 rd:Rd1}{z:RawO}:∃ k:Int,0≤k∧k≤5∧aJ (kB (q,rd0,())) (1,rd,z,(0,(),(0,0,[],()),0,(),()),())=some (.inl (rd,z,(k,(),(0,0,[],()),0,(),()),()))∧(∀ j:Int,1≤j→j≤5→q=vbS j→k=j):=by
 have key : ∀ (n i : Nat) (k : Int), 6 - i ≤ n → 1 ≤ i → i ≤ 6 → 0 ≤ k → k ≤ 5 → (∀ j : Nat, 1 ≤ j → j < i → q = vbS (j : Int) → k = (j : Int)) →
     ∃ k':Int,0≤k'∧k'≤5∧aJ (kB (q,rd0,())) ((i:Int),rd,z,(k,(),(0,0,[],()),0,(),()),())=some (.inl (rd,z,(k',(),(0,0,[],()),0,(),()),()))∧(∀ j:Nat,1≤j→j≤5→q=vbS (j:Int)→k'=(j:Int)):=by
   intro n
   induction n with
   | zero =>
     intro i k h1 h2 h3 h4 h5 h6
     have:i=6:=by omega
     subst this
     exact ⟨k,h4,h5,aq oend,fun j a b=>h6 j a (by omega)⟩
   | succ n ih =>
     intro i k h1 h2 h3 h4 h5 h6
     by_cases hi:i≤5
     · rw[ay (arv h2 hi)]
       refine ih (i+1) _ (by omega) (by omega) (by omega) (by split<;>omega) (by split<;>omega) ?_
       intro j a b e
       by_cases hv:vbS (i:Int)=q
       · rw[zp hv]
         rw[e] at hv
         have:=aoP ⟨i,by omega⟩ ⟨j,by omega⟩ hv
         have:i=j:=congrArg Fin.val this
         omega
       · rw[zn hv]
         refine h6 j a ?_ e
         rcases Nat.lt_or_ge j i with h' | h'
         · exact h'
         · have:j=i:=by omega
           subst this
           exact absurd e.symm hv
     · have:i=6:=by omega
       subst this
       exact ⟨k,h4,h5,aq oend,fun j a b=>h6 j a (by omega)⟩
 obtain ⟨k',g1,g2,g3,g4⟩:=key 5 1 0 (by omega) (by omega) (by omega) (by omega) (by omega) (fun j a b=>by omega)
 refine ⟨k',g1,g2,g3,fun j a b e => ?_⟩
 obtain ⟨m,rfl⟩:=Int.eq_ofNat_of_zero_le (show 0≤j by omega)
 exact g4 m (by omega) (by omega) e
theorem ahU {s:List UInt8}{k:Nat}{ok:Bool} (hs:s.length<1000000) (ha:k≤s.length):∃ (o:Op1) (k':Nat) (ok':Bool),zaz (s,(k:Int),ok,())=some (o,(s,(k':Int),ok',()),())∧bm o:=by
 obtain ⟨k1,ok1,e1,h1⟩:=kM (s:=s) (k:=k) (ok:=ok) ha
 have hn:=ga h1
 unfold zaz
 rw[d9 hs (by omega)]
 simp only[zb,e1]
 rw[gW hs h1]
 simp only[zb]
 obtain ⟨kd,g1,g2,g3,_⟩:=ao5 (q:=eh (s.drop k1)) (rd0:=(s,((k1+(eh (s.drop k1)).length:Nat):Int),ok1,())) (rd:=(s,((k1+(eh (s.drop k1)).length:Nat):Int),ok1,())) (z:=(0,(),(0,0,[],()),0,(),()))
 rw[g3]
 simp only[zb,au,ac,aE]
 have tail : ∀ (k2 : Nat) (ok2 : Bool) (v : Val) (n : Int) (z : RawO), k2 ≤ s.length + 1 → v.2.2.1.length ≤ 200 → ∃ (o : Op1) (k' : Nat) (ok' : Bool), (((zau [32] (s, (k2 : Int), ok2, ())).bind fun q8 =>
     cond (!q8.2.1.2.2.1) (some (((0,[],(0,0,[],()),0,[],()):Op1),q8.2.1,())) ((subI q8.2.1.1 q8.2.1.2.1 (q8.2.1.1.length:Int)).bind fun s9=>(zbx s9).bind fun r10 =>
     some (((kd,r10.1,v,n,[],()):Op1),(q8.2.1.1,(q8.2.1.1.length:Int),(decide (r10.2.1=0)),()),()))):Option (Op1×Rd1×Unit))=some (o,(s,(k':Int),ok',()),())∧bm o:=by
   intro k2 ok2 v n z hk2 hv
   obtain ⟨k3,ok3,e3,h3,h4⟩:=vB (s:=s) (k:=k2) (ok:=ok2) hk2
   rw[d9 hs hk2]
   simp only[zb,e3]
   cases ok3 with
   | false=>exact ⟨_,k3,false,rfl,by simp,by simp,by simp,by simp⟩
   | true =>
     have hk:=h4 rfl
     simp only[Bool.not_true,cond_false]
     rw[dJ hk]
     simp only[zb]
     obtain ⟨p,e,p1,p2⟩:=zG (a:=s.drop k3) (by rw[List.length_drop]; omega)
     rw[p1]
     have hsh:=lS p2
     exact ⟨_,s.length,_,rfl,hsh.1,hsh.2,hv,by simp⟩
 by_cases h3:kd=3
 · rw[zp h3]
   obtain ⟨n,k2,ok2,r1,r2⟩:=tJ (s:=s) (ok:=ok1) hs hn
   rw[r1]
   simp only[zb,au]
   exact tail k2 ok2 _ n (0,(),(0,0,[],()),0,(),()) (by omega) (by simp)
 · rw[zn h3]
   by_cases h5:kd=5
   · rw[zp h5]
     simp only[zb,au]
     exact tail _ ok1 _ 0 (0,(),(0,0,[],()),0,(),()) (by omega) (by simp)
   · rw[zn h5]
     obtain ⟨v,k2,ok2,r1,r2,r3⟩:=vC (s:=s) (ok:=ok1) hs hn
     rw[r1]
     simp only[zb,au]
     exact tail k2 ok2 v 0 (0,(),(0,0,[],()),0,(),()) r2 r3
theorem aoZ {s:List UInt8}{k:Nat}{o:Op1} (hs:s.length<1000000) (h:bm o) (h0:opM o=0) (hsn:o.2.2.2.2.1=[]) (hst:Stands s k [gm o]) :
   zaz (s,(k:Int),true,())=some (o,(s,(s.length:Int),true,()),()):=by
 obtain ⟨hk,hc,hz,hv,hn,hi⟩:=fZ h0
 have hpp:=ab8 hc h.1 h.2.1
 obtain ⟨v1,v2,v3⟩:=vy (k:=o.1) (by omega) hk.2
 obtain ⟨kd,p,v,n,sn,⟨⟩⟩:=o
 simp only at hk hc hz hv hn hi hpp v1 v2 v3 hsn
 subst hsn
 have hst2:Stands s k (vbS kd::((if kd=3 then [Lib.itoa n] else if kd=5 then [] else [b9 v])++[cT p])):=by
   refine ⟨hst.le,?_⟩
   rw[hst.at']
   simp[aS,gm]
 obtain ⟨b1,b2,b3⟩:=hst2.blank
 have hgo:=hst2.go
 unfold zaz
 rw[d9 hs (by omega)]
 simp only[zb,iz]
 rw[zp ⟨trivial,b1⟩,gW hs b2,b3,eX (fun b hb=>(v3 b hb).1)]
 simp only[zb]
 obtain ⟨kd',g1,g2,g3,g4⟩:=ao5 (q:=vbS kd) (rd0:=(s,((k+1+(vbS kd).length:Nat):Int),true,())) (rd:=(s,((k+1+(vbS kd).length:Nat):Int),true,())) (z:=(0,(),(0,0,[],()),0,(),()))
 have:=g4 kd hk.1 hk.2 rfl
 subst this
 rw[g3]
 simp only[zb,au,ac,aE]
 have tail : ∀ (k2 : Nat) (v' : Val) (n' : Int), v' = v → n' = n → Stands s k2 [cT p] → (((zau [32] (s, (k2 : Int), true, ())).bind fun q8 =>
     cond (!q8.2.1.2.2.1) (some (((0,[],(0,0,[],()),0,[],()):Op1),q8.2.1,())) ((subI q8.2.1.1 q8.2.1.2.1 (q8.2.1.1.length:Int)).bind fun s9=>(zbx s9).bind fun r10 =>
     some (((kd',r10.1,v',n',[],()):Op1),(q8.2.1.1,(q8.2.1.1.length:Int),(decide (r10.2.1=0)),()),()))):Option (Op1×Rd1×Unit))=some ((kd',p,v,n,[],()),(s,(s.length:Int),true,()),()):=by
   intro k2 v' n' ev en hs2
   subst ev en
   obtain ⟨c1,c2,c3⟩:=hs2.blank
   rw[d9 hs (by omega)]
   simp only[zb,iz]
   rw[zp ⟨trivial,c1⟩]
   simp only[Bool.not_true,cond_false]
   rw[dJ c2,c3]
   simp only[zb,aS,List.append_nil]
   rw[hpp]
   rfl
 by_cases h3:kd'=3
 · rw[zp h3] at hgo ⊢
   obtain ⟨k2,r1,r2⟩:=zH hs (hi h3).1 (hi h3).2 hgo
   rw[r1]
   simp only[zb,au]
   exact tail k2 _ _ (hz (.inl h3)).symm rfl r2
 · rw[zn h3] at hgo ⊢
   by_cases h5:kd'=5
   · rw[zp h5] at hgo ⊢
     simp only[zb,au]
     exact tail _ _ _ (hz (.inr h5)).symm (hn h3).symm hgo
   · rw[zn h5] at hgo ⊢
     obtain ⟨k2,r1,r2⟩:=zA hs (hv (by omega)) hgo
     rw[r1]
     simp only[zb,au]
     exact tail k2 _ _ rfl (hn h3).symm r2
end Go.Proofs.YtmklghkhfimfgaaGreatDoor.Q
namespace Go.Proofs.YtmklghkhfimfgaaGreatDoor.Q
open Go.EM Go.TY Go.Proofs Go.Proofs.YtmklghkhfimfgaaGreatDoor.Y
theorem ark {q:List UInt8}{rd0 rd:Rd1}{z:Raw1}{i:Nat} (h1:1≤i) (h5:i≤19) {k:Int}:iu (q,rd0,()) ((i:Int),z,rd,(k,0,0,0,(0,(),(0,0,[],()),0,(),()),(0,0,()),()),()) =
   some (.inl (((i+1:Nat):Int),z,rd,((if kwS (i:Int)=q then (i:Int) else k),0,0,0,(0,(),(0,0,[],()),0,(),()),(0,0,()),()),())):=by
 unfold iu
 simp only[ac]
 rw[zp (show (i:Int)≤19 by omega),adx (by omega) (by omega)]
 simp only[zb]
 rw[wrap64 (by omega) (by omega)]
 by_cases h:kwS (i:Int)=q
 · rw[zp h,zp h]; rfl
 · rw[zn h,zn h]; rfl
theorem wend {q:List UInt8}{rd0 rd:Rd1}{z o:Raw1}:iu (q,rd0,()) (20,z,rd,o,())=some (.inr (.inl (z,rd,o,()))):=by
 unfold iu
 simp
theorem aoN {q:List UInt8}{rd0 rd:Rd1}{z:Raw1}:∃ k:Int,0≤k∧k≤19∧aJ (iu (q,rd0,())) (1,z,rd,(0,0,0,0,(0,(),(0,0,[],()),0,(),()),(0,0,()),()),())=some (.inl (z,rd,(k,0,0,0,(0,(),(0,0,[],()),0,(),()),(0,0,()),()),()))∧(∀ j:Int,1≤j→j≤19→q=kwS j→k=j):=by
 have key : ∀ (n i : Nat) (k : Int), 20 - i ≤ n → 1 ≤ i → i ≤ 20 → 0 ≤ k → k ≤ 19 → (∀ j : Nat, 1 ≤ j → j < i → q = kwS (j : Int) → k = (j : Int)) →
     ∃ k':Int,0≤k'∧k'≤19∧aJ (iu (q,rd0,())) ((i:Int),z,rd,(k,0,0,0,(0,(),(0,0,[],()),0,(),()),(0,0,()),()),())=some (.inl (z,rd,(k',0,0,0,(0,(),(0,0,[],()),0,(),()),(0,0,()),()),()))∧(∀ j:Nat,1≤j→j≤19→q=kwS (j:Int)→k'=(j:Int)):=by
   intro n
   induction n with
   | zero =>
     intro i k h1 h2 h3 h4 h5 h6
     have:i=20:=by omega
     subst this
     exact ⟨k,h4,h5,aq wend,fun j a b=>h6 j a (by omega)⟩
   | succ n ih =>
     intro i k h1 h2 h3 h4 h5 h6
     by_cases hi:i≤19
     · rw[ay (ark h2 hi)]
       refine ih (i+1) _ (by omega) (by omega) (by omega) (by split<;>omega) (by split<;>omega) ?_
       intro j a b e
       by_cases hv:kwS (i:Int)=q
       · rw[zp hv]
         rw[e] at hv
         have:=apa ⟨i,by omega⟩ ⟨j,by omega⟩ hv
         have:i=j:=congrArg Fin.val this
         omega
       · rw[zn hv]
         refine h6 j a ?_ e
         rcases Nat.lt_or_ge j i with h' | h'
         · exact h'
         · have:j=i:=by omega
           subst this
           exact absurd e.symm hv
     · have:i=20:=by omega
       subst this
       exact ⟨k,h4,h5,aq wend,fun j a b=>h6 j a (by omega)⟩
 obtain ⟨k',g1,g2,g3,g4⟩:=key 19 1 0 (by omega) (by omega) (by omega) (by omega) (by omega) (fun j a b=>by omega)
 refine ⟨k',g1,g2,g3,fun j a b e => ?_⟩
 obtain ⟨m,rfl⟩:=Int.eq_ofNat_of_zero_le (show 0≤j by omega)
 exact g4 m (by omega) (by omega) e
theorem gY (k:Int):zc0 k 111=some (decide (k=2)):=by
 unfold zc0
 simp only[ac]
 rw[zn (by decide),zn (by decide),zn (by decide),zn (by decide),zp trivial]
abbrev J1:=Option ((Raw1×Rd1×Raw1×Unit)⊕(cQ×Bool×Unit))
theorem jz {s:List UInt8}{k:Nat}{ok h:Bool}{z:Raw1} (hs:s.length<1000000) (ha:k≤s.length) (f:Int→Raw1):∃ (n':Int) (k':Nat) (ok':Bool),
   (cond h ((zan (s,(k:Int),ok,())).bind fun q5=>some (.inl (z,q5.2.1,f q5.1,()))) (some (.inl (z,(s,(k:Int),ok,()),f 0,()))):J1)=some (.inl (z,(s,(k':Int),ok',()),f n',()))∧k'≤s.length:=by
 cases h with
 | false=>exact ⟨0,k,ok,rfl,ha⟩
 | true =>
   obtain ⟨n,k',ok',h1,h2⟩:=tJ (s:=s) (ok:=ok) hs ha
   rw[cond_true,h1]
   exact ⟨n,k',ok',rfl,h2⟩
theorem lq {s:List UInt8}{k:Nat}{h:Bool}{n:Int}{z:Raw1}{l:List (List UInt8)} (hs:s.length<1000000) (hn:numM n h=true) (hst:Stands s k (seg1 h n++l)) (f:Int→Raw1):∃ (k':Nat),
   (cond h ((zan (s,(k:Int),true,())).bind fun q5=>some (.inl (z,q5.2.1,f q5.1,()))) (some (.inl (z,(s,(k:Int),true,()),f 0,()))):J1)=some (.inl (z,(s,(k':Int),true,()),f n,()))∧Stands s k' l:=by
 have hin:=nu hn
 unfold seg1 at hst
 cases h with
 | false =>
   rw[zn (by decide),List.nil_append] at hst
   rw[hin.2 rfl]
   exact ⟨k,rfl,hst⟩
 | true =>
   rw[zp rfl] at hst
   obtain ⟨k',h1,h2⟩:=zH (n:=n) hs (by omega) (by omega) hst
   rw[cond_true,h1]
   exact ⟨k',rfl,h2⟩
theorem zL {s:List UInt8} (hs:s.length<1000000):∃ x ok,zb0 s=some (x,ok,()):=by
 obtain ⟨x,ok,h,_⟩:=ahV hs 16 0 (by omega) (by omega)
 exact ⟨x,ok,h⟩
noncomputable def nN (s:List UInt8) (k:Nat) (ok h:Bool) (z:Raw1) (f:Dot1→Raw1):J1 :=
 cond h ((zau [32] (s,(k:Int),ok,())).bind fun q14=>(zav q14.2.1).bind fun q15=>(zb0 q15.1).bind fun r16 =>
   (cond q15.2.1.2.2.1 (some (r16.2.1,z,q15.2.1,f r16.1,())) (some (false,z,q15.2.1,f r16.1,())):Option (Bool×Raw1×Rd1×Raw1×Unit)).bind fun v17 =>
     some (.inl (v17.2.1,(v17.2.2.1.1,v17.2.2.1.2.1,v17.1,()),v17.2.2.2.1,()))) (some (.inl (z,(s,(k:Int),ok,()),f (0,0,()),())))
theorem wB {s:List UInt8}{k:Nat}{ok h:Bool}{z:Raw1} (hs:s.length<1000000) (ha:k≤s.length) (f:Dot1→Raw1):∃ (d':Dot1) (k':Nat) (ok':Bool),
   nN s k ok h z f=some (.inl (z,(s,(k':Int),ok',()),f d',()))∧k'≤s.length:=by
 unfold nN
 cases h with
 | false=>exact ⟨(0,0,()),k,ok,rfl,ha⟩
 | true =>
   obtain ⟨k1,ok1,e1,h1⟩:=kM (s:=s) (k:=k) (ok:=ok) ha
   have hn:=ga h1
   rw[cond_true,d9 hs (by omega)]
   simp only[zb,e1]
   rw[gW hs h1]
   simp only[zb]
   obtain ⟨x,ok',hx⟩:=zL (s:=eh (s.drop k1)) (by omega)
   rw[hx]
   cases ok1 with
   | true=>exact ⟨x,_,ok',rfl,hn⟩
   | false=>exact ⟨x,_,false,rfl,hn⟩
theorem aa0 {s:List UInt8}{k:Nat}{h:Bool}{d:Dot1}{z:Raw1}{l:List (List UInt8)} (hs:s.length<1000000) (h1:h=true→bD d=true) (h2:h=false→d=(0,0,())) (hst:Stands s k ((if h=true then [eM d] else [])++l)) (f:Dot1→Raw1):∃ (k':Nat),
   nN s k true h z f=some (.inl (z,(s,(k':Int),true,()),f d,()))∧Stands s k' l:=by
 unfold nN
 cases h with
 | false =>
   rw[zn (by decide),List.nil_append] at hst
   rw[h2 rfl]
   exact ⟨k,rfl,hst⟩
 | true =>
   rw[zp rfl] at hst
   obtain ⟨b1,b2,b3⟩:=hst.blank
   have hr:=h1 rfl
   have hpl:∀ b∈eM d,b.toNat≠32:=by
     intro b hb
     unfold eM at hb
     rcases List.mem_append.1 hb with hb | hb
     · rcases List.mem_append.1 hb with hb | hb
       · exact (dA _).1 b hb
       · rw[List.mem_singleton.1 hb]; decide
     · exact (dA _).1 b hb
   refine ⟨_,?_,hst.go⟩
   rw[cond_true,d9 hs (by omega)]
   simp only[zb,iz]
   rw[zp ⟨trivial,b1⟩,gW hs b2,b3,eX hpl]
   simp only[zb]
   have hl:=pf hr
   rw[ao1 (s:=eM d) (by omega) hr rfl]
   rfl
noncomputable def endP (line s:List UInt8) (k:Int) (ok:Bool) (t:cQ):Option (cQ×Bool×Unit) :=
 cond (!ok) (some ((0,0,0,0,(0,[],(0,0,[],()),0,[],()),(0,0,()),()),false,())) (cond (!decide (k=(line.length:Int))) (some ((0,0,0,0,(0,[],(0,0,[],()),0,[],()),(0,0,()),()),false,())) ((zbs t).bind fun r22 =>
   cond (!r22) (some ((0,0,0,0,(0,[],(0,0,[],()),0,[],()),(0,0,()),()),false,())) ((zcb t).bind fun r23 =>
   cond (!decide (r23=line)) (some ((0,0,0,0,(0,[],(0,0,[],()),0,[],()),(0,0,()),()),false,())) (some (t,true,())))))
theorem aaX {line s:List UInt8}{k:Int}{ok:Bool}{t:cQ} (h:bm t.2.2.2.2.1):∃ r b,endP line s k ok t=some (r,b,())∧(b=true→bm r.2.2.2.2.1∧co r=true∧cO r=line):=by
 unfold endP
 cases ok with
 | false=>exact ⟨_,false,rfl,fun e=>by cases e⟩
 | true =>
   simp only[Bool.not_true,cond_false,aE]
   by_cases hk:k=(line.length:Int)
   · rw[zp hk,ia h]
     simp only[zb]
     cases hr:co t with
     | false=>exact ⟨_,false,rfl,fun e=>by cases e⟩
     | true =>
       simp only[Bool.not_true,cond_false,qd h,zb]
       by_cases hl:jB t=line
       · rw[zp hl]
         refine ⟨t,true,rfl,fun _=>⟨h,hr,?_⟩⟩
         unfold jB at hl
         rwa [zp hr] at hl
       · rw[zn hl]; exact ⟨_,false,rfl,fun e=>by cases e⟩
   · rw[zn hk]; exact ⟨_,false,rfl,fun e=>by cases e⟩
theorem apn {s:List UInt8}{t:cQ} (h:bm t.2.2.2.2.1) (hr:co t=true):endP (cO t) s ((cO t).length:Int) true t=some (t,true,()):=by
 have hl:jB t=cO t:=by unfold jB; rw[zp hr]
 unfold endP
 simp only[Bool.not_true,cond_false,aE]
 rw[zp trivial,ia h]
 simp only[zb,hr,Bool.not_true,cond_false,qd h,hl]
 rw[zp trivial]
abbrev o0:RawO:=(0,(),(0,0,[],()),0,(),())
abbrev z0:Raw1:=(0,0,0,0,o0,(0,0,()),())
theorem acd {line:List UInt8} (hs:line.length<1000000):∃ r b,zbt line=some (r,b,())∧(b=true→bm r.2.2.2.2.1∧co r=true∧cO r=line):=by
 have hn:=ga (s:=line) (k:=0) (by omega)
 unfold zbt
 rw[show (0:Int)=((0:Nat):Int) from rfl,gW (ok:=true) hs (by omega)]
 simp only[zb]
 generalize hq:eh (line.drop 0)=q at hn ⊢
 obtain ⟨kd,g1,g2,g3,_⟩:=aoN (q:=q) (rd0:=(line,((0+q.length:Nat):Int),true,())) (rd:=(line,((0+q.length:Nat):Int),true,())) (z:=z0)
 have g3':aJ (iu (q,(line,((0+q.length:Nat):Int),true,()),())) (1,(((0:Nat):Int),((0:Nat):Int),((0:Nat):Int),((0:Nat):Int),(((0:Nat):Int),(),(((0:Nat):Int),((0:Nat):Int),[],()),((0:Nat):Int),(),()),(((0:Nat):Int),((0:Nat):Int),()),()),(line,((0+q.length:Nat):Int),true,()),(((0:Nat):Int),((0:Nat):Int),((0:Nat):Int),((0:Nat):Int),(((0:Nat):Int),(),(((0:Nat):Int),((0:Nat):Int),[],()),((0:Nat):Int),(),()),(((0:Nat):Int),((0:Nat):Int),()),()),())=some (.inl (z0,(line,((0+q.length:Nat):Int),true,()),(kd,0,0,0,o0,(0,0,()),()),())):=g3
 rw[g3']
 simp only[zb,au,fL,fM,fK,fN,gY]
 by_cases hk0:kd=0
 · rw[zt (show kd=((0:Nat):Int) from hk0)]
   exact ⟨_,false,rfl,fun e=>by cases e⟩
 rw[zf (show ¬ kd=((0:Nat):Int) from hk0)]
 simp only[cond_false]
 obtain ⟨n1,k1,ok1,e1,l1⟩:=jz (h:=hasR kd) (ok:=true) (z:=z0) hs hn (fun n=>(kd,n,0,0,o0,(0,0,()),()))
 try dsimp only at e1
 rw[e1]
 simp only[zb,au,fL,fM,fK,fN,gY]
 obtain ⟨n2,k2,ok2,e2,l2⟩:=jz (h:=hasN kd) (ok:=ok1) (z:=z0) hs l1 (fun n=>(kd,n1,0,n,o0,(0,0,()),()))
 try dsimp only at e2
 rw[e2]
 simp only[zb,au,fL,fM,fK,fN,gY]
 obtain ⟨n3,k3,ok3,e3,l3⟩:=jz (h:=hasU kd) (ok:=ok2) (z:=z0) hs l2 (fun n=>(kd,n1,n,n2,o0,(0,0,()),()))
 try dsimp only at e3
 rw[e3]
 simp only[zb,au,fL,fM,fK,fN,gY]
 obtain ⟨d,k4,ok4,e4,l4⟩:=wB (h:=hasD kd) (ok:=ok3) (z:=z0) hs l3 (fun d=>(kd,n1,n3,n2,o0,d,()))
 unfold nN at e4
 rw[e4]
 simp only[zb,au,fL,fM,fK,fN,gY,ac]
 by_cases hk2:kd=2
 · rw[zp hk2]
   obtain ⟨o,k5,ok5,r1,r2⟩:=ahU (ok:=ok4) hs l4
   rw[r1]
   simp only[zb,au]
   exact aaX (line:=line) (s:=line) (k:=(k5:Int)) (ok:=ok5) (t:=(kd,n1,n3,n2,o,d,())) r2
 · rw[zn hk2]
   simp only[zb,au]
   exact aaX (line:=line) (s:=line) (k:=(k4:Int)) (ok:=ok4) (t:=(kd,n1,n3,n2,(0,[],(0,0,[],()),0,[],()),d,())) ⟨by simp,by simp,by simp,by simp⟩
end Go.Proofs.YtmklghkhfimfgaaGreatDoor.Q
namespace Go.Proofs.YtmklghkhfimfgaaGreatDoor.Q
open Go.EM Go.TY Go.Proofs Go.Proofs.YtmklghkhfimfgaaGreatDoor.Y
theorem ahW {s:cQ} (h:bm s.2.2.2.2.1) (hr:co s=true):zbt (cO s)=some (s,true,()):=by
 have hlen:=uD h hr
 have hend:=apn (s:=cO s) h hr
 obtain ⟨hk,hR,hN,hU,hD,hD0,hO,hG⟩:=ea hr
 obtain ⟨w1,w2,w3,w4⟩:=wq (k:=s.1) (by omega) hk.2
 have hq:eh ((cO s).drop 0)=kwS s.1:=by
   rw[List.drop_zero]
   unfold cO
   exact eX fun b hb=>(w4 b hb).1
 have hst0:Stands (cO s) (0+(kwS s.1).length) (seg1 (hasR s.1) s.2.1++(seg1 (hasN s.1) s.2.2.2.1++(seg1 (hasU s.1) s.2.2.1++(segD s++segO s)))):=by
   rw[Nat.zero_add]
   unfold cO
   exact ⟨by simp,List.drop_left⟩
 have hs:(cO s).length<1000000:=by omega
 generalize hb:cO s=line at hlen hend hq hst0 hs ⊢
 obtain ⟨kd,r,u,n,o,d,⟨⟩⟩:=s
 simp only at h hk hR hN hU hD hD0 hO hG w4 hst0 hq
 unfold zbt
 rw[show (0:Int)=((0:Nat):Int) from rfl,gW (ok:=true) hs (by omega),hq]
 simp only[zb]
 obtain ⟨kd',g1,g2,g3,g4⟩:=aoN (q:=kwS kd) (rd0:=(line,((0+(kwS kd).length:Nat):Int),true,())) (rd:=(line,((0+(kwS kd).length:Nat):Int),true,())) (z:=z0)
 have:=g4 kd hk.1 hk.2 rfl
 subst this
 have g3':aJ (iu (kwS kd',(line,((0+(kwS kd').length:Nat):Int),true,()),())) (1,(((0:Nat):Int),((0:Nat):Int),((0:Nat):Int),((0:Nat):Int),(((0:Nat):Int),(),(((0:Nat):Int),((0:Nat):Int),[],()),((0:Nat):Int),(),()),(((0:Nat):Int),((0:Nat):Int),()),()),(line,((0+(kwS kd').length:Nat):Int),true,()),(((0:Nat):Int),((0:Nat):Int),((0:Nat):Int),((0:Nat):Int),(((0:Nat):Int),(),(((0:Nat):Int),((0:Nat):Int),[],()),((0:Nat):Int),(),()),(((0:Nat):Int),((0:Nat):Int),()),()),())=some (.inl (z0,(line,((0+(kwS kd').length:Nat):Int),true,()),(kd',0,0,0,o0,(0,0,()),()),())):=g3
 rw[g3']
 simp only[zb,au,fL,fM,fK,fN,gY]
 rw[zf (show ¬ kd'=((0:Nat):Int) by omega)]
 simp only[cond_false]
 obtain ⟨k1,e1,l1⟩:=lq (z:=z0) hs hR hst0 (fun n=>(kd',n,0,0,o0,(0,0,()),()))
 try dsimp only at e1
 rw[e1]
 simp only[zb,au,fL,fM,fK,fN,gY]
 obtain ⟨k2,e2,l2⟩:=lq (z:=z0) hs hN l1 (fun n=>(kd',r,0,n,o0,(0,0,()),()))
 try dsimp only at e2
 rw[e2]
 simp only[zb,au,fL,fM,fK,fN,gY]
 obtain ⟨k3,e3,l3⟩:=lq (z:=z0) hs hU l2 (fun u=>(kd',r,u,n,o0,(0,0,()),()))
 try dsimp only at e3
 rw[e3]
 simp only[zb,au,fL,fM,fK,fN,gY]
 obtain ⟨k4,e4,l4⟩:=aa0 (z:=z0) hs hD hD0 l3 (fun d=>(kd',r,u,n,o0,d,()))
 unfold nN at e4
 rw[e4]
 simp only[zb,au,fL,fM,fK,fN,gY,ac]
 unfold segO at l4
 by_cases hk2:kd'=2
 · rw[zp hk2] at l4 ⊢
   rw[aoZ hs h (hO hk2).1 (hO hk2).2 l4]
   simp only[zb,au]
   unfold endP at hend
   simpa using hend
 · rw[zn hk2] at l4 ⊢
   simp only[zb,au]
   have hk4:(k4:Int)=(line.length:Int):=by
     have h1:=l4.le
     have h2:=l4.at'
     have h3:(line.drop k4).length=0:=by rw[h2]; rfl
     rw[List.length_drop] at h3
     omega
   have hg:=of_decide_eq_true (hG hk2)
   obtain ⟨o1,o2,o3,o4,o5,⟨⟩⟩:=o
   simp only at hg
   obtain ⟨rfl,rfl,rfl,rfl,rfl⟩:=hg
   rw[hk4]
   exact hend
theorem pH {a:List UInt8}:∀ (l:List UInt8) (i:Nat),(iw a i l).1.length≤a.length∧(iw a i l).2.1.length≤a.length
 | [],i=>by simp[iw]
 | b::l,i=>by
   unfold iw
   split
   · simp; omega
   · exact pH l (i+1)
theorem ab2 (r:List UInt8):(rQ r).length≤r.length:=by
 unfold rQ
 cases r with
 | nil=>simp
 | cons b t=>dsimp only; split<;>simp
theorem pG {a:List UInt8}:∀ (l:List UInt8) (e:Bool) (i:Nat),(hP a e i l).1.length≤a.length∧(hP a e i l).2.1.length≤a.length
 | [],e,i=>by simp[hP]
 | b::l,e,i=>by
   unfold hP
   split
   · have:=ab2 (a.drop (i+1))
     rw[List.length_drop] at this
     exact ⟨by simp; omega,by dsimp only; omega⟩
   · exact pG l _ (i+1)
theorem iv {a:List UInt8} (ha:a.length<1000000):∃ w r,zbq a=some (w,r,())∧w.length≤a.length∧r.length≤a.length:=by
 by_cases h:a.head? = some 34
 · obtain ⟨h1,h2⟩:=pG (a:=a) a false 0
   exact ⟨_,_,yV ha h,h1,h2⟩
 · obtain ⟨h1,h2⟩:=pH (a:=a) a 0
   exact ⟨_,_,yW ha h,h1,h2⟩
theorem qz {l:List (List UInt8)} (hl:l.length<1000) (w:List UInt8):∃ k:Int,zac l w=some k ∧ -1≤k∧k<(l.length:Int):=by
 have key:∀ (n i:Nat),l.length-i≤n→i≤l.length→∃ k:Int,aJ (gQ l w) ((i:Int),())=some k ∧ -1≤k∧k<(l.length:Int):=by
   intro n
   have fin:∀ i:Nat,i=l.length→∃ k:Int,aJ (gQ l w) ((i:Int),())=some k ∧ -1≤k∧k<(l.length:Int):=by
     intro i e
     refine ⟨-1,aq ?_,by omega,by omega⟩
     unfold gQ
     simp only[ac]
     rw[zn (by omega)]
   induction n with
   | zero=>intro i h1 h2; exact fin i (by omega)
   | succ n ih =>
     intro i h1 h2
     by_cases hi:i<l.length
     · by_cases hw:w=l[i]
       · refine ⟨(i:Int),aq ?_,by omega,by omega⟩
         unfold gQ
         simp only[ac]
         rw[zp (show (i:Int)<(l.length:Int) by omega),aR hi]
         simp only[zb]
         rw[zp hw]
       · rw[ay (b:=(((i+1:Nat):Int),()))]
         · exact ih (i+1) (by omega) (by omega)
         unfold gQ
         simp only[ac]
         rw[zp (show (i:Int)<(l.length:Int) by omega),aR hi]
         simp only[zb]
         rw[zn hw,wrap64 (by omega) (by omega)]
         rfl
     · exact fin i (by omega)
 exact key l.length 0 (by omega) (by omega)
theorem yX {a:List UInt8} (ha:a.length<1000000):∃ v e,zb1 a=some (v,e,())∧v.2.2.1.length≤200:=by
 obtain ⟨v,h1,h2,_⟩:=adM (s:=a) ha
 rw[h2]
 by_cases h:bc v=true∧b9 v=a
 · rw[zp h]
   have:=(nQ h.1).2.2.2.2
   exact ⟨v,0,rfl,by omega⟩
 · rw[zn h]
   exact ⟨_,_,rfl,by simp⟩
theorem oO {a:List UInt8} (ha:a.length<1000000):∃ o,zax a=some o∧bm o:=by
 obtain ⟨w,r,h1,h2,h3⟩:=iv ha
 obtain ⟨k,i1,i2,i3⟩:=qz (l:=vb) (by decide) w
 unfold zax
 rw[h1,show zbd=some vb from rfl]
 simp only[zb,i1,ac]
 have tail:∀ (x:List UInt8) (z:RawO) (v:Val) (n:Int),x.length<1000000→v.2.2.1.length≤200→∃ o:Op1,((zcg x).bind fun r10=>some ((max k 0,r10.1,v,n,[],()):Op1))=some o∧bm o:=by
   intro x z v n hx hv
   obtain ⟨p,e,p1,p2⟩:=acn hx
   rw[p1]
   have hsh:=lS p2
   exact ⟨_,rfl,hsh.1,hsh.2,hv,by simp⟩
 by_cases k3:max k 0=3
 · rw[zp k3]
   obtain ⟨w2,r2,g1,g2,g3⟩:=iv (a:=r) (by omega)
   obtain ⟨n,e,a1⟩:=jb w2 (by omega)
   rw[g1]
   simp only[zb,a1,au]
   exact tail r2 o0 _ n (by omega) (by simp)
 · rw[zn k3]
   have fin : ∀ b : Bool, ∃ o : Op1, (((cond b ((zbq r).bind fun r7 =>
       (zb1 r7.1).bind fun r8=>some (Sum.inl (r7.2.1,((0,(),(0,0,[],()),0,(),()):Int×Unit×(Int×Int×List UInt8×Unit)×Int×Unit×Unit),((max k 0,(),r8.1,0,(),()):Int×Unit×(Int×Int×List UInt8×Unit)×Int×Unit×Unit),())))
       (some (.inl (r,(0,(),(0,0,[],()),0,(),()),(max k 0,(),(0,0,[],()),0,(),()),())))):Option ((List UInt8×(Int×Unit×(Int×Int×List UInt8×Unit)×Int×Unit×Unit)×(Int×Unit×(Int×Int×List UInt8×Unit)×Int×Unit×Unit)×Unit)⊕(Int×List (List UInt8)×(Int×Int×List UInt8×Unit)×Int×List ((Int×Int×Unit)×Int×Unit)×Unit))).bind (au fun v9 =>
       (zcg v9.1).bind fun r10=>some (v9.2.2.1.1,r10.1,v9.2.2.1.2.2.1,v9.2.2.1.2.2.2.1,[],())))=some o∧bm o:=by
     intro b
     cases b with
     | false =>
       simp only[cond_false,zb,au]
       exact tail r o0 _ 0 (by omega) (by simp)
     | true =>
       obtain ⟨w2,r2,g1,g2,g3⟩:=iv (a:=r) (by omega)
       obtain ⟨v,e,v1,v2⟩:=yX (a:=w2) (by omega)
       rw[cond_true,g1]
       simp only[zb,v1,au]
       exact tail r2 o0 v 0 (by omega) v2
   by_cases a:max k 0=1
   · rw[zp a]
     simp only[zb,au]
     exact fin _
   · rw[zn a]
     by_cases b:max k 0=2
     · rw[zp b]
       simp only[zb,au]
       exact fin _
     · rw[zn b]
       simp only[zb,au]
       exact fin _
theorem ov {p:Int}{r:List UInt8}{i:Nat}{z:Raw1}{k a b c:Int} (hr:r.length<1000000) (hi:i<3):∃ (r':List UInt8) (a' b' c':Int),
   fS p (r,L3,(i:Int),z,(k,a,b,c,o0,(0,0,()),()),())=some (.inl (r',L3,((i+1:Nat):Int),z,(k,a',b',c',o0,(0,0,()),()),()))∧r'.length≤r.length:=by
 obtain ⟨w,r',h1,h2,h3⟩:=iv hr
 obtain ⟨n,e,a1⟩:=jb w (by omega)
 have hget:∃ (q:Int) (j:Nat),L3[i]? = some (q,j,())∧(j=1∨j=2∨j=3):=by
   rcases (show i=0∨i=1∨i=2 by omega) with rfl | rfl | rfl
   · exact ⟨1,1,rfl,.inl rfl⟩
   · exact ⟨4,3,rfl,.inr (.inr rfl)⟩
   · exact ⟨2,2,rfl,.inr (.inl rfl)⟩
 obtain ⟨q,j,hL,hj⟩:=hget
 unfold fS
 simp only[ac]
 rw[zp (by simp only[zl,List.length_nil]; omega),cj,hL]
 simp only[zb,aE]
 by_cases hb:IntKind.wrap .i64 ((BitVec.ofInt (IntKind.bits .i64) p &&& BitVec.ofInt (IntKind.bits .i64) q).toNat)=0
 · rw[zp hb,wrap64 (by omega) (by omega)]
   exact ⟨r,a,b,c,rfl,Nat.le_refl _⟩
 · rw[zn hb,h1]
   simp only[zb,a1]
   rw[wrap64 (by omega) (by omega)]
   rcases hj with rfl | rfl | rfl
   · exact ⟨r',n,b,c,rfl,h3⟩
   · exact ⟨r',a,n,c,rfl,h3⟩
   · exact ⟨r',a,b,n,rfl,h3⟩
theorem rU {line:List UInt8} (hs:line.length<1000000):(∃ s:cQ,zbg line=some (s,0,())∧bm s.2.2.2.2.1∧co s=true∧cO s=line) ∨
   zbg line=some ((0,0,0,0,(0,[],(0,0,[],()),0,[],()),(0,0,()),()),19,()):=by
 obtain ⟨w,r,h1,h2,h3⟩:=iv hs
 obtain ⟨k,i1,i2,i3⟩:=qz (l:=kw) (by decide) w
 have i3:k<20:=i3
 obtain ⟨p0,p1,p2,p4,p8,p16⟩:=oI (k:=max k 0) (by omega) (by omega)
 unfold zbg
 rw[h1,show zbb=some kw from rfl]
 simp only[zb,i1,p0]
 generalize max k 0=kd at p0 p1 p2 p4 p8 p16 ⊢
 have loop:∃ (r':List UInt8) (a b c:Int),aJ (fS (dE kd)) (r,L3,0,z0,(kd,0,0,0,o0,(0,0,()),()),())=some (.inl (r',z0,(kd,a,b,c,o0,(0,0,()),()),()))∧r'.length≤r.length:=by
   obtain ⟨r1,a1,b1,c1,t1,l1⟩:=ov (p:=dE kd) (r:=r) (i:=0) (z:=z0) (k:=kd) (a:=0) (b:=0) (c:=0) (by omega) (by omega)
   obtain ⟨r2,a2,b2,c2,t2,l2⟩:=ov (p:=dE kd) (r:=r1) (i:=0+1) (z:=z0) (k:=kd) (a:=a1) (b:=b1) (c:=c1) (by omega) (by omega)
   obtain ⟨r3,a3,b3,c3,t3,l3⟩:=ov (p:=dE kd) (r:=r2) (i:=0+1+1) (z:=z0) (k:=kd) (a:=a2) (b:=b2) (c:=c2) (by omega) (by omega)
   refine ⟨r3,a3,b3,c3,?_,by omega⟩
   have t1':fS (dE kd) (r,L3,0,z0,(kd,0,0,0,o0,(0,0,()),()),())=_:=t1
   rw[ay t1',ay t2,ay t3]
   exact aq tw
 obtain ⟨r',a,b,c,loop,hr'⟩:=loop
 have loop':aJ (fS (dE kd)) (r,([(1,1,()),(4,3,()),(2,2,())]:List (Int×Nat×Unit)),0,(0,0,0,0,(0,(),(0,0,[],()),0,(),()),(0,0,()),()),(kd,0,0,0,(0,(),(0,0,[],()),0,(),()),(0,0,()),()),())=_:=loop
 rw[loop']
 unfold offB at p8 p16
 simp only[zb,au,aE]
 have fin : ∀ (s : cQ), bm s.2.2.2.2.1 → (∃ s' : cQ, (cond (decide (line = [])) (some ((0, 0, 0, 0, (0, [], (0, 0, [], ()), 0, [], ()), (0, 0, ()), ()), 19, ())) ((zbr s).bind fun r14 => cond (!decide (r14 = line)) (some ((0, 0, 0, 0, (0, [], (0, 0, [], ()), 0, [], ()), (0, 0, ()), ()), 19, ())) (some (s, 0, ()))) : Option (cQ × Int × Unit)) = some (s', 0, ()) ∧ bm s'.2.2.2.2.1 ∧ co s' = true ∧ cO s' = line) ∨
     (cond (decide (line=[])) (some ((0,0,0,0,(0,[],(0,0,[],()),0,[],()),(0,0,()),()),19,())) ((zbr s).bind fun r14=>cond (!decide (r14=line)) (some ((0,0,0,0,(0,[],(0,0,[],()),0,[],()),(0,0,()),()),19,())) (some (s,0,()))):Option (cQ×Int×Unit))=some ((0,0,0,0,(0,[],(0,0,[],()),0,[],()),(0,0,()),()),19,()):=by
   intro s hsh
   simp only[ac,aE]
   by_cases h0:line=[]
   · rw[zp h0]; exact .inr rfl
   rw[zn h0,tY hsh]
   simp only[zb]
   by_cases hl:jB s=line
   · rw[zp hl]
     refine .inl ⟨s,rfl,hsh,?_⟩
     unfold jB at hl
     cases hr:co s with
     | true=>rw[hr,zp rfl] at hl; exact ⟨rfl,hl⟩
     | false=>rw[hr,zn (by decide)] at hl; exact absurd hl.symm h0
   · rw[zn hl]; exact .inr rfl
 have hd:∃ d:Dot1,((if IntKind.wrap .i64 ((BitVec.ofInt (IntKind.bits .i64) (dE kd) &&& BitVec.ofInt (IntKind.bits .i64) 8).toNat)=0 then some (.inl (z0,(kd,a,b,c,o0,(0,0,()),()),())) else (zcz r').bind fun r10=>some (.inl (z0,(kd,a,b,c,o0,r10.1,()),()))):Option ((Raw1×Raw1×Unit)⊕(cQ×Int×Unit)))=some (.inl (z0,(kd,a,b,c,o0,d,()),())):=by
   by_cases h:IntKind.wrap .i64 ((BitVec.ofInt (IntKind.bits .i64) (dE kd) &&& BitVec.ofInt (IntKind.bits .i64) 8).toNat)=0
   · rw[zp h]; exact ⟨_,rfl⟩
   · rw[zn h]
     rcases z8 r' (by omega) with e | ⟨d,_,_,e⟩
     · rw[e]; exact ⟨_,rfl⟩
     · rw[e]; exact ⟨_,rfl⟩
 obtain ⟨d,hd⟩:=hd
 rw[hd]
 simp only[zb,au]
 by_cases h16:IntKind.wrap .i64 ((BitVec.ofInt (IntKind.bits .i64) (dE kd) &&& BitVec.ofInt (IntKind.bits .i64) 16).toNat)=0
 · rw[zp h16]
   simp only[zb,au]
   simpa only[aE] using fin (kd,a,b,c,(0,[],(0,0,[],()),0,[],()),d,()) ⟨by simp,by simp,by simp,by simp⟩
 · rw[zn h16]
   obtain ⟨o,q1,q2⟩:=oO (a:=r') (by omega)
   rw[q1]
   simp only[zb,au]
   simpa only[aE] using fin (kd,a,b,c,o,d,()) q2
theorem mA (line:List UInt8):zap line=some true:=by
 unfold zap
 simp only[aiF,zb,ac]
 by_cases hl:(line.length:Int)>400
 · rw[zp hl]
 rw[zn hl]
 have hs:line.length<1000000:=by omega
 obtain ⟨t,b,hp,hb⟩:=acd hs
 rw[hp]
 rcases rU hs with ⟨s,h1,h2,h3,h4⟩ | h1
 · have hof:=ahW h2 h3
   rw[h4,hp] at hof
   simp only[Option.some.injEq,Prod.mk.injEq,and_true] at hof
   obtain ⟨rfl,rfl⟩:=hof
   have hline:=tY h2
   unfold jB at hline
   rw[zp h3,h4] at hline
   have ht:zbj t=some t:=rfl
   rw[h1]
   simp[ht,ahQ h2,hline]
 · cases b with
   | true =>
     obtain ⟨g1,g2,g3⟩:=hb rfl
     have:=oK g1 g2
     rw[g3,h1] at this
     simp at this
   | false =>
     rw[h1]
     simp
theorem wU:∀ v:rJ.ps.V,okV rJ.ps v→rJ.fn v=some true:=fun v _=>mA v.1
end Go.Proofs.YtmklghkhfimfgaaGreatDoor.Q
