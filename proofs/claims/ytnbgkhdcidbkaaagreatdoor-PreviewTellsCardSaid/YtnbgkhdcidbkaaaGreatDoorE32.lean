import Derived.Test.YtnbgkhdcidbkaaaGreatDoorE19
import Derived.Lib.ItoaNum
import Derived.Lib.LaidTab
import Derived.Sort.Grow
import Derived.Deep.Draws
import Derived.Shelf.Strconv.Itoa3
import Derived.Lib.AtoiAll
import Derived.Lib.Bytealg
import Derived.Shelf.Unicode.DecodeAny
import Derived.Shelf.SlicesE.Clone
import Derived.Maps.AppendAt
import Derived.Shelf.Strings.OnBuilder
import Derived.Shelf.SlicesE.Delete
import Derived.Shelf.Spec.SlicesInsertGrow
import Derived.Shelf.SlSortCmp.NoneTotal
import Derived.Shelf.Spec.SlicesGrow
set_option linter.unusedVariables false
set_option linter.unusedSimpArgs false
namespace Go.EM
theorem sy {w:World}{O:Nat→Prop}{α:AM}{b:Nat}:∀ {cs:List AVal}{off i:Nat}{a:AVal},bY w O α b off cs→cs[i]? = some a→∃ v,w.cell? ⟨b,off+i,none⟩=some v∧Rep w O α a v
 | [],off,i,a,h,hi=>by simp at hi
 | c::cs,off,0,a,h,hi=>by
   simp only[bY] at h;simp only[qBR,qAC] at hi;subst hi;exact h.1
 | c::cs,off,i+1,a,h,hi=>by
   simp only[bY] at h;obtain ⟨v,h1,h2⟩:=sy h.2 (by simpa using hi);exact ⟨v,by rw[← h1]; congr 2; omega,h2⟩
theorem aCR {P:Program}{G:List (Nat×AVal)}{w:World}{O:Nat→Prop}{g:Nat}{nm:String}{k:IntKind}{zs:List Int} (hG:ch G w O []) (hl:aP G g=some (.rptr (zs.map (AVal.int k)))) (hg:P.globalNamed nm=some g):Lib.TabIs P w nm k zs:=by
 obtain ⟨h1,h2,h3⟩:=hG g _ hl;obtain ⟨_,_,c,t,fr,h4,h5,_⟩:=h3 _ rfl;unfold Lib.TabIs World.var?;rw[hg,qAJ,h4];simp only[qAC];apply qBT;apply qC0;intro i
 simp only[qBU] at h5;rcases qAV i zs.length with hi | hi
 · simp only[Rep] at h2;obtain ⟨b,off,he,h2⟩:=h2;cases he;have hne:zs.map (AVal.int k)≠[]:=fun e=>by
     have:=congrArg List.length e;simp at this;rw[this] at hi; simp at hi
   rcases h2 with h2 | ⟨_,_,h2⟩
   · exact absurd h2 hne
   · obtain ⟨v,g1,g2⟩:=sy (i:=i) (a:=.int k zs[i]) h2 (by rw[List.getElem?_map,qAE hi]; rfl);simp only[Rep] at g2;subst g2;rw[qAO] at g1;unfold World.cell? at g1
     rw[h4] at g1;simp only[qCY,qA0,if_false] at g1;rw[qB0,g1,List.getElem?_map,qAE hi];rfl
 · rw[qAH (by rw[qBM]; omega),qAH (by simpa using hi)]
theorem aa8 {w:World}{k:Nat}{os:Array Obj}:Quiet w (Go.Sort.grow (w.drewN k) os):=by
 refine ⟨rfl,rfl,rfl,?_,fun b hb => ?_,fun h=>h.elim⟩
 · show w.heap.size≤(w.heap++os).size;rw[qCU]; omega
 · show (w.heap++os)[b]? = w.heap[b]?;rw[qCM hb]
def aiy:PFn:=fun xs=>match xs with
 | [.int .i64 n]=>if -9223372036854775808≤n∧n≤9223372036854775807 then some (.str (Lib.itoa n)) else none
 | _=>none
theorem aa5 {P:Program}{G:List (Nat×AVal)}{f g:Nat} (h0:Goes P f) (hl:aP G g=some (.rptr (Lib.pow10Tab.map (AVal.int .u64)))) (hg:P.globalNamed "internal/strconv.uint64pow10" = some g)
   (hcon:∀ n:Int,-9223372036854775808≤n→n≤9223372036854775807→∀ w:World,Lib.TabIs P w "internal/strconv.uint64pow10" .u64 Lib.pow10Tab→Calls P f #[.int .i64 n] w fun e w'=>e = .returned (.string ⟨(Lib.itoa n).toArray⟩)∧∃ k os,w'=Go.Sort.grow (w.drewN k) os):aA P G f aiy:=by
 refine ⟨h0,fun xs r hF hc w O vs hb hG hv => ?_⟩;unfold aiy at hF
 split at hF
 · rename_i n
   split at hF
   · rename_i hn;cases hF;simp only[RepL,Rep] at hv;obtain ⟨v,vs,rfl,rfl,rfl⟩:=hv;refine (hcon n hn.1 hn.2 w (aCR hG hl hg)).mono ?_
     rintro e w' ⟨rfl,k,os,rfl⟩
     exact ⟨_,rfl,aa8,by simp only[Rep],rfl⟩
   · cases hF
 · cases hF
end Go.EM
namespace Go.EM
theorem eP {w w':World} (h:RowKit.Below w.heap.size w w'):Quiet w w':=⟨h.os,h.tape,h.output,h.size,h.block,fun h=>h.elim⟩
end Go.EM
namespace Go.EM
def cmpF:PFn:=fun xs=>match xs with
 | [.str a,.str b]=>some (.int .i64 (Lib.compareBytes a b))
 | _=>none
theorem tY [Drawn] {P:Program}{G:List (Nat×AVal)}{f:Nat} (h0:Goes P f)
   (hcon:∀ (a b:ByteArray) (w:World),Calls P f #[.string a,.string b] w fun e w'=>e = .returned (.int .i64 (Lib.compareBytes a.data.toList b.data.toList))∧w'=w):aA P G f cmpF:=by
 refine ⟨h0,fun xs r hF hc w O vs hb hG hv => ?_⟩;unfold cmpF at hF
 split at hF
 · rename_i a b;cases hF;simp only[RepL,Rep] at hv;obtain ⟨v,vs,rfl,rfl,v',vs',rfl,rfl,rfl⟩:=hv;refine (hcon _ _ w).mono ?_
   rintro e w' ⟨rfl,rfl⟩
   exact ⟨_,rfl,Quiet.refl _,by simp only[Rep],rfl⟩
 · cases hF
end Go.EM
namespace Go.EM
open Go.Proofs Go.Shelf Go.RowKit Go.Lib in
set_option maxHeartbeats 2000000 in
set_option maxRecDepth 100000 in
theorem ug {P:Program}{ρ:Ren} (L:SlLaysE0.n41 P ρ) (i0:TypeInfo) (z:Value) (size bytes:Nat) (hi:P.info? (ρ.t 23)=some i0) (hz0:i0.zero=some z) (hz1:i0.size=size) (hz2:i0.bytes=bytes) (hzs:z.cells.size=size) (hsz:0<size)
   (z23:∀ w,(Go.sizeOf (ρ.t 23)).run P w = .ok size w) (ad:Addr) (n c:Nat) (news:List Value) (w:World) (hl:news.length=n*size) (hn:n≤maxLen) (hbig:n*bytes≤140737488355328)
   (hc:∀ j u,news[j]? = some u→w.cell? (ad.add j)=some u) (h1:∀ u∈news,u.oneCell'=true) :
   Calls P (ρ.f 41) #[.slice (some ad) n c] w fun e w'=>∃ v',e = .returned v'∧w'.ownsRow w.heap.size (ρ.t 23) size v' n news∧v' ≠ .slice none 0 0∧Below w.heap.size w w':=by
 have mixed:=L.mixed; have t4:=L.t4; have a4:=L.a4; have z4:=L.z4; have v4:=L.v4; have t22:=L.t22; have a22:=L.a22; have z22:=L.z22; have v22:=L.v22
 have q22:∀ (w:World) (a:Option Addr) (n c n' c':Nat),(binOp .eql (ρ.t 22) (.slice a n c) (.slice none n' c')).run P w = .ok (.bool a.isNone) w:=fun w a n c n' c'=>Lib.run_eql_slice_nil w _ _ a n c n' c' L.t22
 have u22:∀ w,Sem.run P (underlying (ρ.t 22)) w = .ok (TypeDesc.slice (ρ.t 23)) w:=run_underlying t22;have A:Aside (∀ j u,news[j]? = some u→w.cell? (ad.add j)=some u):=hc;clear hc
 obtain ⟨_,_,FG⟩:=L.f41
 go_enter FG,SlBodyN.n41_ntmps ρ
 go_wp2_with (at_builtin; refine wpList_append_own_at _ rfl _ _ (ρ.t 22) rfl w.heap.size (ρ.t 23) i0 z size bytes t22 hi hz0 hz1 hz2 hzs hsz _ _ _ rfl (World.ownsRow_made w #[] 0 (qAD _) (qBW _) (by simp)) ad n c news rfl ?qc1 ?qc2 ?qc3 ?qc4 ?qc5 ?qc6 ?_)
 case qc1=>exact hl
 case qc2 =>
   intro j u hj;exact Lib.cell?_alloc_some _ (A.out j u hj)
 case qc3=>exact h1
 case qc4=>rw[qAO]; exact hn
 case qc5=>rw[qAO]; exact hbig
 case qc6=>simp
 intro v' w1 hown hgrow hnil _
 go_wp2
 go_ret
 refine ⟨v',rfl,by simpa using hown,?_,?_⟩
 · exact hnil
 · exact ((Below.refl _ w).alloc (qAD _) _).grown hgrow (by simp) (by intro k hk; simp[Value.ownBlock] at hk; omega)
section
variable {P:Program}{G:List (Nat×AVal)}
def nu (M:Nat):PFn:=fun xs=>match xs with
 | [.nil]=>some (.tree false 0 [])
 | [.tree _ m ys]=>match ys with
   | []=>some (.tree false 0 [])
   | y::r=>if m=M∧r.length+1<most then some (.tree false M (y::r)) else none
 | _=>none
theorem wC {f te M bytes:Nat} (h0:Goes P f) (hM:M≠0) (hb:bytes≤16384)
   (hcon:∀ (ad:Addr) (n c:Nat) (news:List Value) (w:World),news.length=n*M→n≤maxLen→n*bytes≤140737488355328→(∀ j u,news[j]? = some u→w.cell? (ad.add j)=some u)→(∀ u∈news,u.oneCell'=true) →
     Calls P f #[.slice (some ad) n c] w fun e w'=>∃ v',e = .returned v'∧w'.ownsRow w.heap.size te M v' n news∧v' ≠ .slice none 0 0∧RowKit.Below w.heap.size w w')
   (hnil:∀ (n c:Nat) (w:World),Calls P f #[.slice none n c] w fun e w'=>e = .returned (.slice none 0 0)∧w'=w):aA P G f (nu M):=by
 refine ⟨h0,fun xs r hF hc w O vs hb' hG hv => ?_⟩;unfold nu at hF
 split at hF
 · cases hF;simp only[RepL,Rep] at hv;obtain ⟨v,vs,rfl,rfl,rfl⟩:=hv;refine (hnil 0 0 w).mono ?_
   rintro e w' ⟨rfl,rfl⟩
   exact ⟨_,rfl,Quiet.refl _,by simp only[Rep]; exact ⟨none,0,rfl,qAD _,(fun h=>by cases h),.inl trivial⟩,rfl⟩
 · rename_i fl m ys;simp only[RepL,Rep] at hv;obtain ⟨v,vs,rfl,⟨a,cap,rfl,hle,_,hrow⟩,rfl⟩:=hv
   split at hF
   · cases hF;cases a with
     | none =>
       refine (hnil _ cap w).mono ?_
       rintro e w' ⟨rfl,rfl⟩
       exact ⟨_,rfl,Quiet.refl _,by simp only[Rep]; exact ⟨none,0,rfl,qAD _,(fun h=>by cases h),.inl trivial⟩,rfl⟩
     | some ad =>
       refine (hcon ad 0 cap [] w (by simp) (qBW _) (by simp) (fun j u hj=>by simp at hj) (fun u hu=>by cases hu)).mono ?_
       rintro e w' ⟨v',rfl,hown,_,hw⟩
       refine ⟨_,rfl,eP hw,?_,rfl⟩;simp only[Rep];rcases hown.2 with ⟨rfl,_⟩ | ⟨g,cap',cur,rfl,_,_,hn,_⟩
       · exact ⟨none,0,rfl,qAD _,(fun h=>by cases h),.inl trivial⟩
       · exact ⟨_,cap',rfl,hn,(fun h=>by cases h),.inl trivial⟩
   · rename_i y ys _
     split at hF
     · rename_i hm;obtain ⟨rfl,hlt⟩:=hm;cases hF;rcases hrow with hrow | ⟨_,b,off,rfl,hO,hOw,hrow⟩
       · cases hrow
       · obtain ⟨vs,k1,k2⟩:=gg off hrow;have hlen:=aU k1;have hl:ys.length+1<4294967296:=(by simpa [most] using hlt);have hsz:(y::ys).length*bytes≤140737488355328:=by
           have:(y::ys).length*bytes≤4294967296*16384:=qCQ (by simp only[qAM]; omega) hb;omega
         refine (hcon ⟨b,off,none⟩ (y::ys).length cap (flat vs) w hlen (by simp only[qAM]; unfold maxLen; omega) hsz (fun j u hj => ?_) (cV k1)).mono ?_
         · have hj' : j < (flat vs).length := by
             rcases qAV j (flat vs).length with h | h
             · exact h
             · rw[qAH h] at hj; cases hj
           rw[Addr.add_lit,k2 j hj',hj]
         · rintro e w' ⟨v',rfl,hown,_,hw⟩
           have hq:=eP hw;have hc':aJ (y::ys)=true:=by
             simp only[aJ,closed,Bool.and_true] at hc;simpa only[aJ] using hc
           refine ⟨_,rfl,hq,?_,by simpa only[closed] using hc'⟩;simp only[Rep];rcases hown.2 with ⟨_,h⟩ | ⟨g,cap',cur,rfl,hg,hcur,hn,_,_,htake⟩
           · simp at h
           · refine ⟨_,cap',rfl,hn,(fun h=>by cases h),.inr ⟨hM,g,0,rfl,(fun h=>by have:=hb' _ h; omega),(fun ⟨r,ri,h,_⟩=>by simp at h),?_⟩⟩
             refine row_of 0 (bO (Pres.of_ext (hq.ext [])) k1) fun j hj => ?_;rw[← htake,List.getElem?_take,if_pos (by rw[← hlen]; exact hj)];unfold World.cell?;rw[hcur];simp
     · cases hF
 · cases hF
theorem clone_lays {ρ:Shelf.Ren} (L:Proofs.SlLaysE0.n41 P ρ) (M:Nat) (h0:Goes P (ρ.f 41)) (h1:(P.info? (ρ.t 23)).isSome=true) (h2:((P.info? (ρ.t 23)).get h1).zero.isSome=true) (h3:((P.info? (ρ.t 23)).get h1).size=M) (h4:(((P.info? (ρ.t 23)).get h1).zero.get h2).cells.size=M)
   (h5:Nat.ble ((P.info? (ρ.t 23)).get h1).bytes 16384=true) (hM:0<M) (z23:∀ w,(Go.sizeOf (ρ.t 23)).run P w = .ok M w):aA P G (ρ.f 41) (nu M) :=
 wC (te:=ρ.t 23) h0 (by omega) (qBZ h5) (fun ad n c news w k1 k2 k3 k4 k5=>ug L _ _ M _ (Option.some_get h1).symm (Option.some_get h2).symm h3 rfl h4 hM z23 ad n c news w k1 k2 k3 k4 k5) (fun n c w=>Proofs.AnyE.slices_Clone_nil L n c w)
def vl:List AVal→Option (List (List UInt8))
 | []=>some []
 | .str s::l=>(vl l).map fun r=>s::r
 | _=>none
def afG:PFn:=fun xs=>match xs with
 | [.nil,.str _]=>some (.str [])
 | [.tree _ m ys,.str sep]=>match ys with
   | []=>some (.str [])
   | y::r=>if m=1 then (vl (y::r)).bind fun l=>if l.length≤140737488355328∧(Lib.join l sep).length≤140737488355328 then some (.str (Lib.join l sep)) else none else none
 | _=>none
theorem oI {w:World}{O:Nat→Prop}{b:Nat}:∀ {ys:List AVal}{l:List (List UInt8)}{off:Nat},vl ys=some l→bn w O [] 1 b off ys→l.length=ys.length∧∀ (j:Nat) x,(l.map fun s=>(⟨s.toArray⟩:ByteArray))[j]? = some x→w.cell? ⟨b,off+j,none⟩=some (.string x)
 | [],l,off,h,hr=>by
   simp only[vl] at h; cases h;exact ⟨rfl,fun j x hx=>by simp at hx⟩
 | y::ys,l,off,h,hr=>by
   simp only[bn] at hr;obtain ⟨⟨v,h1,h2,h3,h4,_⟩,h5⟩:=hr
   match y,h,h1 with
   | .str s,h,h1 =>
     simp only[vl,x0] at h;obtain ⟨l',hl',rfl⟩:=h;simp only[Rep] at h1;subst h1;obtain ⟨k1,k2⟩:=oI hl' h5;refine ⟨by simp[k1],fun j x hx => ?_⟩;cases j with
     | zero =>
       simp at hx;subst hx;rw[h4 0 (by omega)];rfl
     | succ j =>
       have:=k2 j x (by simpa using hx);rw[show off+(j+1)=off+1+j by omega]; exact this
theorem aa4 {f:Nat} (h0:Goes P f)
   (hnone:∀ (a:Option Addr) (c:Nat) (sep:ByteArray) (w:World),Calls P f #[.slice a 0 c,.string sep] w fun e w'=>e = .returned (.string ⟨#[]⟩)∧w'=w)
   (hcon:∀ (bk o c:Nat) (xs:List ByteArray) (sep:ByteArray) (w:World),(∀ (j:Nat) x,xs[j]? = some x→w.cell? ⟨bk,o+j,none⟩=some (.string x))→bk<w.heap.size→xs.length≤140737488355328→xs.length≤c→(Lib.join (xs.map (·.data.toList)) sep.data.toList).length≤140737488355328 →
     Calls P f #[.slice (some ⟨bk,o,none⟩) xs.length c,.string sep] w fun e w'=>e = .returned (.string ⟨(Lib.join (xs.map (·.data.toList)) sep.data.toList).toArray⟩)∧RowKit.Below w.heap.size w w'):aA P G f afG:=by
 refine ⟨h0,fun xs r hF hc w O vs hb' hG hv => ?_⟩;unfold afG at hF
 split at hF
 · cases hF;simp only[RepL,Rep] at hv;obtain ⟨v,vs,rfl,rfl,u,us,rfl,rfl,rfl⟩:=hv;refine (hnone none 0 _ w).mono ?_
   rintro e w' ⟨rfl,rfl⟩
   exact ⟨_,rfl,Quiet.refl _,by simp only[Rep],rfl⟩
 · rename_i fl m ys sep;simp only[RepL,Rep] at hv;obtain ⟨v,vs,rfl,⟨a,cap,rfl,hle,_,hrow⟩,u,us,rfl,rfl,rfl⟩:=hv
   split at hF
   · cases hF;refine (hnone a cap _ w).mono ?_
     rintro e w' ⟨rfl,rfl⟩
     exact ⟨_,rfl,Quiet.refl _,by simp only[Rep],rfl⟩
   · rename_i y ys
     split at hF
     · rename_i hm;subst hm;rw[qAB] at hF;obtain ⟨l,hl,hF⟩:=hF
       split at hF
       · rename_i hb;cases hF;rcases hrow with hrow | ⟨_,b,off,rfl,hO,hOw,hrow⟩
         · cases hrow
         · obtain ⟨k1,k2⟩:=oI hl hrow;have hmap:(l.map fun s=>(⟨s.toArray⟩:ByteArray)).map (·.data.toList)=l:=by
             rw[List.map_map]
             conv=>rhs; rw[← List.map_id l]
             refine List.map_congr_left fun s _ => ?_;simp
           have hlt:b<w.heap.size:=by
             cases l with
             | nil=>simp at k1
             | cons s l =>
               have:=k2 0 _ (by simp; rfl);exact block_lt this
           have:=hcon b off cap (l.map fun s=>(⟨s.toArray⟩:ByteArray)) ⟨sep.toArray⟩ w k2 hlt (by simpa using hb.1) (by simp only[qBU]; omega) (by rw[hmap]; simpa using hb.2)
           rw[hmap,qBU,k1] at this;refine this.mono ?_
           rintro e w' ⟨rfl,hw⟩
           exact ⟨_,rfl,eP hw,by simp only[Rep],rfl⟩
       · cases hF
     · cases hF
 · cases hF
end
end Go.EM
namespace Go.EM
open Go.Proofs Go.Shelf Go.RowKit Go.Lib Go.Sort
section
variable {P:Program}{ρ:Ren}
structure InsL (P:Program) (ρ:Ren):Prop where
 mixed:P.follows .mixedOrders=true
 f22:Bears P (ρ.f 22) (Body2.n22 ρ)
 f29:∃ nm:String,(nm == "runtime.NumGoroutine")=false∧Extern.findNext { Body2.n29 ρ with name:=nm }=none∧Extern.find { Body2.n29 ρ with name:=nm }=some (Extern.SlicesOverlaps.overlaps #[(ρ.t 24),(ρ.t 24)] #[(ρ.t 4)])∧P.funcs[ρ.f 29]? = some { Body2.n29 ρ with name:=nm }
 t0:P.underlying (ρ.t 0)=some (TypeDesc.tuple #[])
 a0:∀ w,(isAgg (ρ.t 0)).run P w = .ok false w
 z0:∀ w,(Go.sizeOf (ρ.t 0)).run P w = .ok 1 w
 v0:∀ w,(zeroValue (ρ.t 0)).run P w = .ok (Value.tuple #[]) w
 t3:P.underlying (ρ.t 3)=some (TypeDesc.int IntKind.i64)
 a3:∀ w,(isAgg (ρ.t 3)).run P w = .ok false w
 z3:∀ w,(Go.sizeOf (ρ.t 3)).run P w = .ok 1 w
 v3:∀ w,(zeroValue (ρ.t 3)).run P w = .ok (Value.int IntKind.i64 0) w
 t4:P.underlying (ρ.t 4)=some (TypeDesc.bool)
 a4:∀ w,(isAgg (ρ.t 4)).run P w = .ok false w
 z4:∀ w,(Go.sizeOf (ρ.t 4)).run P w = .ok 1 w
 v4:∀ w,(zeroValue (ρ.t 4)).run P w = .ok (Value.bool false) w
 t24:P.underlying (ρ.t 24)=some (TypeDesc.slice (ρ.t 9))
 a24:∀ w,(isAgg (ρ.t 24)).run P w = .ok false w
 z24:∀ w,(Go.sizeOf (ρ.t 24)).run P w = .ok 1 w
 v24:∀ w,(zeroValue (ρ.t 24)).run P w = .ok (Value.slice none 0 0) w
theorem zu (w:World) (dT sT ty elem:TypeId) (b o dLen dCap:Nat) (a:Addr) (sLen sCap K:Nat) (cs:List Value)
   (hu:P.underlying dT=some (.slice elem)) (hs:(P.info? elem).map (·.size)=some K) (hn:cs.length=Nat.min sLen dLen*K)
   (hsrc:∀ j v,cs[j]? = some v→w.cell? (a.add j)=some v) (hc:∀ j,j<cs.length→(w.cell? ⟨b,o+j,none⟩).isSome=true) (hf:∀ j,j<cs.length→w.frozen? ⟨b,o+j,none⟩=false) (h1:∀ v∈cs,v.oneCell'=true) :
   (Builtin.copy_ #[dT,sT] ty #[.slice (some ⟨b,o,none⟩) dLen dCap,.slice (some a) sLen sCap]).run P w = .ok (goInt (Nat.min sLen dLen)) (w.setCells b o cs):=by
 have hl:=run_loadCells_list (P:=P) w a cs hsrc;have hst:=run_storeCells_cells (P:=P) b o cs 0 w (by simpa using hc) (by simpa using hf) h1;cases hq:P.info? elem with
 | none=>simp[hq] at hs
 | some i =>
   have hi:i.size=K:=by simpa [hq] using hs
   simp[Builtin.copy_,run_underlying hu,Builtin.lenOf,Builtin.firstCells,sizeOf,typeInfo,hq,hi,← hn,hl,hst]
theorem nX (w:World) (tS tR e:TypeId) (ht:P.underlying tS=some (.slice e)) (size:Nat) (hz:∀ w,(Go.sizeOf e).run P w = .ok size w) (a b:Addr) (la ca lb cb:Nat) (hne:a.block≠b.block) (tA tB:TypeId) (kA kB:Nat)
   (hsa:w.shape? a.block=some (tA,kA+1)) (hsb:w.shape? b.block=some (tB,kB)) (hf:∀ o,w.frozen? ⟨b.block,o,none⟩=false) (hfb:w.frozen? b=false) :
   (Extern.SlicesOverlaps.overlaps #[tS,tS] #[tR] #[.slice (some a) la ca,.slice (some b) lb cb]).run P w = .ok (.bool false) w:=by
 have hnb:(a.block != b.block)=true:=by simpa using hne
 have hnb':(a.block==b.block)=false:=by simpa using hne
 change Sem.run P (α:=Value) (do
   let some t:=(#[tS,tS]:Array TypeId)[0]? | stuck "slices.overlaps: no parameter types"
   let .slice elem ← underlying t | stuck "slices.overlaps: slice type expected"
   let size ← sizeOf elem
   match (some a:Option Addr),(some b:Option Addr) with
   | some a,some b =>
     if la=0∨lb=0∨size=0 then pure (Value.bool false)
     else if a.block != b.block&&(← frozen a)&&(← frozen b) then unsupported .addressObserved
     else do
       if a.block != b.block then do
         noView a; noView b
         if ← mayBeOne a b then return Value.bool ((← choose (.extern "sameAddr.stringBytes" 2))==1)
       pure (Value.bool (a.block==b.block&&a.off<b.off+lb*size&&b.off<a.off+la*size))
   | _,_=>pure (Value.bool false)) w=_
 by_cases h0:la=0∨lb=0∨size=0
 · simp[run_underlying ht,hz,h0]
 · have hfk:=hf kB;cases hfa:w.frozen? a<;>cases hfe:w.frozen? { block:=a.block,off:=kA+1 } <;>
   simp[run_underlying ht,hz,h0,hnb,hnb',frozen,noView,viewAt,mayBeOne,stringish,shape,Sem.run,hsa,hsb,hfa,hfe,hfb,hfk]
theorem vH (L:InsL P ρ) (K:Nat) (z9:∀ w,(Go.sizeOf (ρ.t 9)).run P w = .ok K w) (w:World) (vb voff b o m vc lb cb:Nat) (tA tB:TypeId) (kA kB:Nat) (hvb:vb≠b) (hsa:w.shape? vb=some (tA,kA+1)) (hsb:w.shape? b=some (tB,kB)) (hf:∀ o,w.frozen? ⟨b,o,none⟩=false) :
   (callFunc (ρ.f 29) #[.slice (some ⟨vb,voff,none⟩) m vc,.slice (some ⟨b,o,none⟩) lb cb]).run P w = .ok (.value (.bool false)) w:=by
 obtain ⟨nm,h1,h2,h3,h4⟩:=L.f29;rw[run_callFunc_extern h4 h1 rfl h2 h3,nX w (ρ.t 24) (ρ.t 4) (ρ.t 9) L.t24 K z9 ⟨vb,voff,none⟩ ⟨b,o,none⟩ m vc lb cb hvb tA tB kA kB hsa hsb hf (hf o)];rfl
set_option maxHeartbeats 4000000 in
set_option maxRecDepth 100000 in
theorem tj (L:InsL P ρ) (K:Nat) (hK:0<K) (a9:Bool) (ha9:∀ w,(isAgg (ρ.t 9)).run P w = .ok a9 w) (z9:∀ w,(Go.sizeOf (ρ.t 9)).run P w = .ok K w) (hsz:(P.info? (ρ.t 9)).map (·.size)=some K) (b off n c i vb voff m vc:Nat) (cs vs:List Value) (w:World) (hi:i<n) (hm:0<m) (hroom:n+m≤c) (hvb:vb≠b)
   (hn63:n+m≤9223372036854775807)
   (hcl:cs.length=n*K) (hvl:vs.length=m*K)
   (hcs:∀ j v,cs[j]? = some v→w.cell? ⟨b,off+j,none⟩=some v) (hsp:∀ j,j<(n+m)*K→(w.cell? ⟨b,off+j,none⟩).isSome=true) (hfz:∀ j,j<(n+m)*K→w.frozen? ⟨b,off+j,none⟩=false)
   (hvs:∀ j v,vs[j]? = some v→w.cell? ⟨vb,voff+j,none⟩=some v) (h1c:∀ v∈cs,v.oneCell'=true) (h1v:∀ v∈vs,v.oneCell'=true)
   (hov0:∀ o lb cb,(callFunc (ρ.f 29) #[.slice (some ⟨vb,voff,none⟩) m vc,.slice (some ⟨b,o,none⟩) lb cb]).run P w = .ok (.value (.bool false)) w) :
   Calls P (ρ.f 22) #[.slice (some ⟨b,off,none⟩) n c,.int .i64 i,.slice (some ⟨vb,voff,none⟩) m vc] w fun e w' =>
     e = .returned (.slice (some ⟨b,off,none⟩) (n+m) c)∧w'=(w.drew.setCells b (off+(i+m)*K) (cs.drop (i*K))).setCells b (off+i*K) vs:=by
 have t0:=L.t0; have a0:=L.a0; have z0:=L.z0; have v0:=L.v0; have t3:=L.t3; have a3:=L.a3; have z3:=L.z3; have v3:=L.v3; have t4:=L.t4; have a4:=L.a4; have z4:=L.z4; have v4:=L.v4; have t24:=L.t24; have a24:=L.a24; have z24:=L.z24; have v24:=L.v24
 have u0:=run_underlying L.t0; have u3:=run_underlying L.t3; have u4:=run_underlying L.t4; have u24:=run_underlying L.t24;have hz1:¬ ((m:Int)=0):=by omega
 have hz2:¬ ((i:Int)=(n:Int)):=by omega
 have hov:=hov0 (off+(i+m)*K);have q1:(n+m)*K=n*K+m*K:=qBO ..;have q2:(i+m)*K=i*K+m*K:=qBO ..;have q3:i*K≤n*K:=qBN _ (by omega);have q4:(n-i)*K=n*K-i*K:=Nat.sub_mul ..
 have hdl:(cs.drop (i*K)).length=(n-i)*K:=by rw[qA2,hcl,q4]
 have mixed:=L.mixed;have hw1:IntKind.i64.wrap ((i:Int)+(m:Int))=(i:Int)+(m:Int):=by rw[IntKind.wrap_i64]; omega
 have hb1:(0:Int)≤(i:Int)+(m:Int):=by omega
 have hin:i≤n:=by omega
 have htn:((i:Int)+(m:Int)).toNat=i+m:=by omega
 have hb2:¬ (c=i+m):=by omega
 have hb3:(i:Int)≤(n:Int)+(m:Int):=by omega
 have hb4:¬ (c=i):=by omega
 have mn1:Nat.min (n+m-i) (n+m-(i+m))=n-i:=by simp only[Nat.min_def]; split<;>omega
 have mn2:Nat.min m (n+m-i)=m:=by simp only[Nat.min_def]; split<;>omega
 have hcp1:∀ ty dc sc,(Builtin.copy_ #[(ρ.t 24),(ρ.t 24)] ty #[.slice (some ⟨b,off+(i+m)*K,none⟩) (n+m-(i+m)) dc,.slice (some ⟨b,off+i*K,none⟩) (n+m-i) sc]).run P w.drew = .ok (goInt (n-i:Nat)) (w.drew.setCells b (off+(i+m)*K) (cs.drop (i*K))):=fun ty dc sc=>by
   have:=zu (P:=P) w.drew _ (ρ.t 24) ty (ρ.t 9) b (off+(i+m)*K) (n+m-(i+m)) dc ⟨b,off+i*K,none⟩ (n+m-i) sc K (cs.drop (i*K)) L.t24 hsz (by rw[hdl,mn1])
     (fun j v hj=>by rw[Addr.add_lit,qCG]; exact hcs (i*K+j) v (by rwa [qBY] at hj))
     (fun j hj=>by rw[qCG]; exact hsp _ (by omega)) (fun j hj=>by rw[qCG]; exact hfz _ (by omega)) (fun v hv=>h1c v (List.mem_of_mem_drop hv))
   rw[mn1] at this;exact this
 obtain ⟨W1,hW1⟩:∃ W1,W1=w.drew.setCells b (off+(i+m)*K) (cs.drop (i*K)):=⟨_,rfl⟩;have hsp1:∀ k,k<(n+m)*K→(W1.cell? ⟨b,off+k,none⟩).isSome=true:=fun k hk=>by
   rw[hW1];exact isSome_setCells b _ _ _ (fun j hj=>by rw[qCG]; exact hsp _ (by omega)) _ (hsp k hk)
 have hcp2:∀ (W:World),(∀ x,W.cell? x=W1.cell? x)→(∀ x,W.frozen? x=W1.frozen? x)→∀ ty dc,(Builtin.copy_ #[(ρ.t 24),(ρ.t 24)] ty #[.slice (some ⟨b,off+i*K,none⟩) (n+m-i) dc,.slice (some ⟨vb,voff,none⟩) m vc]).run P W = .ok (goInt (m:Nat)) (W.setCells b (off+i*K) vs):=fun W hWc hWf ty dc=>by
   have:=zu (P:=P) W _ (ρ.t 24) ty (ρ.t 9) b (off+i*K) (n+m-i) dc ⟨vb,voff,none⟩ m vc K vs L.t24 hsz (by rw[hvl,mn2])
     (fun j v hj=>by
       rw[Addr.add_lit,hWc,hW1,World.cell?_setCells_out b _ _ _ _ (fun h _=>absurd h hvb)];exact hvs j v hj)
     (fun j hj=>by rw[hWc,qCG]; exact hsp1 _ (by omega)) (fun j hj=>by rw[hWf,hW1,World.frozen?_setCells,qCG]; exact hfz _ (by omega)) h1v
   rw[mn2] at this;exact this
 rw[← hW1] at hcp1;clear q1 q2 q3 q4 hdl mn1 mn2 hcs hsp hfz hvs hsp1;obtain ⟨_,_,FG⟩:=L.f22
 go_enter FG,Body2.n22_ntmps ρ
 go_wp2_with (simp only[hov])
 go_region_law_o (refine step_copy_runI rfl _ _ (ρ.t 24) (ρ.t 24) rfl _ _ (by simp[Act.eval,Act.put]) (by simp[Act.eval,Act.put]) (hcp1 _ _ _) ?_)
 go_wp2_with (at_builtin; refine wpList_copy_runI _ rfl _ _ (ρ.t 24) (ρ.t 24) rfl _ _ rfl rfl (hcp2 _ (fun _=>rfl) (fun _=>rfl) _ _) ?_)
 go_ret
 first | exact ⟨rfl,rfl⟩ | exact ⟨rfl,by rw[hW1]⟩
set_option maxHeartbeats 4000000 in
set_option maxRecDepth 100000 in
theorem aa6 (L:InsL P ρ) (K:Nat) (a9:Bool) (ha9:∀ w,(isAgg (ρ.t 9)).run P w = .ok a9 w) (z9:∀ w,(Go.sizeOf (ρ.t 9)).run P w = .ok K w) (base:Option Addr) (n c vb voff m vc:Nat) (w w1:World) (u:Value) (hm:0<m) (hnc:n≤c)
   (hrun:∀ ty,(Builtin.append_ #[(ρ.t 24),(ρ.t 24)] ty #[.slice base n c,.slice (some ⟨vb,voff,none⟩) m vc]).run P w = .ok u w1) (hb:base=none→n=0) :
   Calls P (ρ.f 22) #[.slice base n c,.int .i64 n,.slice (some ⟨vb,voff,none⟩) m vc] w fun e w'=>e = .returned u∧w'=w1:=by
 have t0:=L.t0; have a0:=L.a0; have z0:=L.z0; have v0:=L.v0; have t3:=L.t3; have a3:=L.a3; have z3:=L.z3; have v3:=L.v3; have t4:=L.t4; have a4:=L.a4; have z4:=L.z4; have v4:=L.v4; have t24:=L.t24; have a24:=L.a24; have z24:=L.z24; have v24:=L.v24
 have u0:=run_underlying L.t0; have u3:=run_underlying L.t3; have u4:=run_underlying L.t4; have u24:=run_underlying L.t24;have mixed:=L.mixed;have hz1:¬ ((m:Int)=0):=by omega
 obtain ⟨_,_,FG⟩:=L.f22;cases base with
 | none =>
   have h0:=hb rfl;subst h0
   go_enter FG,Body2.n22_ntmps ρ
   go_wp2_with (at_builtin; refine Lib.wpList_append_run _ rfl _ _ _ _ rfl _ _ rfl rfl _ _ (hrun _) ?_)
   go_ret
   exact ⟨rfl,rfl⟩
 | some a =>
   obtain ⟨ab,ao,asp⟩:=a
   go_enter FG,Body2.n22_ntmps ρ
   go_wp2_with (at_builtin; refine Lib.wpList_append_run _ rfl _ _ _ _ rfl _ _ rfl rfl _ _ (hrun _) ?_)
   all_goals (go_ret; exact ⟨rfl,rfl⟩)
set_option maxHeartbeats 4000000 in
set_option maxRecDepth 100000 in
theorem wb (L:InsL P ρ) (K bytes:Nat) (hK:0<K) (a9:Bool) (ha9:∀ w,(isAgg (ρ.t 9)).run P w = .ok a9 w) (z9:∀ w,(Go.sizeOf (ρ.t 9)).run P w = .ok K w) (i0:TypeInfo) (zv:Value) (hi0:P.info? (ρ.t 9)=some i0) (hz0:i0.zero=some zv) (hzs:i0.size=K) (hzb:i0.bytes=bytes) (hb0:bytes≠0) (hzc:zv.cells.size=K)
   (b off n c i vb voff m vc:Nat) (cs vs:List Value) (w:World) (hi:i<n) (hm:0<m) (hnc:n≤c) (hroom:c<n+m) (hbig:(n+m)*bytes≤140737488355328) (hn63:n+m≤140737488355328) (hbw:b<w.heap.size) (hvw:vb<w.heap.size)
   (hcl:cs.length=n*K) (hvl:vs.length=m*K)
   (hcs:∀ j v,cs[j]? = some v→w.cell? ⟨b,off+j,none⟩=some v)
   (hvs:∀ j v,vs[j]? = some v→w.cell? ⟨vb,voff+j,none⟩=some v) (h1c:∀ v∈cs,v.oneCell'=true) (h1v:∀ v∈vs,v.oneCell'=true) :
   Calls P (ρ.f 22) #[.slice (some ⟨b,off,none⟩) n c,.int .i64 i,.slice (some ⟨vb,voff,none⟩) m vc] w fun e w' =>
     e = .returned (.slice (some ⟨w.heap.size,0,none⟩) (n+m) (grownCap w (n+m) c (ρ.t 9))) ∧
     w'=(((w.alloc (.cells ((cs.take (i*K)).toArray++Builtin.zeroCells zv.cells (n+m-i)++Builtin.zeroCells zv.cells (grownCap w (n+m) c (ρ.t 9)-(n+m))) (ρ.t 9))).drew.setCells w.heap.size (i*K) vs).drew).setCells w.heap.size ((i+m)*K) (cs.drop (i*K)):=by
 have t0:=L.t0; have a0:=L.a0; have z0:=L.z0; have v0:=L.v0; have t3:=L.t3; have a3:=L.a3; have z3:=L.z3; have v3:=L.v3; have t4:=L.t4; have a4:=L.a4; have z4:=L.z4; have v4:=L.v4; have t24:=L.t24; have a24:=L.a24; have z24:=L.z24; have v24:=L.v24
 have u0:=run_underlying L.t0; have u3:=run_underlying L.t3; have u4:=run_underlying L.t4; have u24:=run_underlying L.t24;have mixed:=L.mixed;have hz1:¬ ((m:Int)=0):=by omega
 have hz2:¬ ((i:Int)=(n:Int)):=by omega
 have hz3:(c:Int)<(n:Int)+(m:Int):=by omega
 have hsz:(P.info? (ρ.t 9)).map (·.size)=some K:=by rw[hi0]; simp[hzs]
 have hkk:(n:Int)+(m:Int)-(i:Int)=((n+m-i:Nat):Int):=by omega
 have hik:i+(n+m-i)=n+m:=by omega
 have q1:(n+m)*K=n*K+m*K:=qBO ..;have q2:(i+m)*K=i*K+m*K:=qBO ..;have q3:i*K≤n*K:=qBN _ (by omega);have q4:(n-i)*K=n*K-i*K:=Nat.sub_mul ..
 have hold:(Builtin.firstCells i0.size i (.slice (some ⟨b,off,none⟩) i c)).run P w.drew = .ok (cs.take (i*K)).toArray w.drew:=by
   rw[hzs];exact run_firstCells_some w.drew K i ⟨b,off,none⟩ i c (cs.take (i*K)) (by rw[qAP]; omega) (fun j v hj=>by
     rw[Addr.add_lit];rw[List.getElem?_take] at hj
     split at hj
     · exact hcs j v hj
     · cases hj)
 have hrz : ∀ ty, (Builtin.append_ #[(ρ.t 24), (ρ.t 3)] ty #[.slice (some ⟨b, off, none⟩) i c, .int .i64 ((n : Int) + (m : Int) - (i : Int))]).run P w =
     .ok (.slice (some ⟨w.heap.size,0,none⟩) (n+m) (grownCap w (n+m) c (ρ.t 9))) (w.drew.alloc (.cells ((cs.take (i*K)).toArray++Builtin.zeroCells zv.cells (n+m-i)++Builtin.zeroCells zv.cells (grownCap w (n+m) c (ρ.t 9)-(n+m))) (ρ.t 9))):=fun ty=>by
   have h:=Lib.run_append_grow_zeros w (ρ.t 24) (ρ.t 3) ty (ρ.t 9) i0 _ .i64 .i64 L.t24 L.t3 hi0 hz0 (some ⟨b,off,none⟩) i c (cs.take (i*K)) hold (n+m-i) (by omega) (by omega) (by omega) (by omega) (by rw[hzb]; have:=qBN bytes (show n+m-i≤n+m by omega); omega) (by rw[hzb,hik]; exact growslice_fits hroom hbig)
   rw[hik] at h;rw[hkk];exact h
 obtain ⟨G,hG⟩:∃ G,G=grownCap w (n+m) c (ρ.t 9):=⟨_,rfl⟩
 obtain ⟨ROW,hROW⟩:∃ ROW:Array Value,ROW=(cs.take (i*K)).toArray++Builtin.zeroCells zv.cells (n+m-i)++Builtin.zeroCells zv.cells (G-(n+m)):=⟨_,rfl⟩;rw[← hG] at hrz ⊢;rw[← hROW] at hrz ⊢
 have q5:(n+m-i)*K=(n+m)*K-i*K:=Nat.sub_mul ..;have hRl:(n+m)*K≤ROW.size:=by
   rw[hROW];simp only[qCU,qBX,qAP,bv,hzc];omega
 obtain ⟨W1,hW1⟩:∃ W1,W1=w.drew.alloc (.cells ROW (ρ.t 9)):=⟨_,rfl⟩;rw[← hW1] at hrz;have hN:∀ j,j<(n+m)*K→(W1.cell? ⟨w.heap.size,j,none⟩).isSome=true:=fun j hj=>by
   rw[hW1,World.cell?_alloc_at (w:=w.drew) ROW _ w.heap.size j rfl,qA6 (by omega)]; rfl
 have hNf:∀ j,W1.frozen? ⟨w.heap.size,j,none⟩=false:=fun j=>by rw[hW1]; exact World.frozen?_alloc_at (w:=w.drew) ROW _ w.heap.size j rfl
 have hOb:∀ j v,w.cell? ⟨b,j,none⟩=some v→W1.cell? ⟨b,j,none⟩=some v:=fun j v h=>by rw[hW1,World.cell?_alloc_past (w:=w.drew) _ b j hbw]; exact h
 have hOv:∀ j v,w.cell? ⟨vb,j,none⟩=some v→W1.cell? ⟨vb,j,none⟩=some v:=fun j v h=>by rw[hW1,World.cell?_alloc_past (w:=w.drew) _ vb j hvw]; exact h
 have mn2:Nat.min m (n+m-i)=m:=by simp only[Nat.min_def]; split<;>omega
 have hcpA:∀ (W:World),(∀ x,W.cell? x=W1.cell? x)→(∀ x,W.frozen? x=W1.frozen? x)→∀ ty dc,(Builtin.copy_ #[(ρ.t 24),(ρ.t 24)] ty #[.slice (some ⟨w.heap.size,i*K,none⟩) (n+m-i) dc,.slice (some ⟨vb,voff,none⟩) m vc]).run P W = .ok (goInt (m:Nat)) (W.setCells w.heap.size (i*K) vs):=fun W hWc hWf ty dc=>by
   have:=zu (P:=P) W _ (ρ.t 24) ty (ρ.t 9) w.heap.size (i*K) (n+m-i) dc ⟨vb,voff,none⟩ m vc K vs L.t24 hsz (by rw[hvl,mn2])
     (fun j v hj=>by rw[Addr.add_lit,hWc]; exact hOv _ v (hvs j v hj))
     (fun j hj=>by rw[hWc]; exact hN _ (by omega)) (fun j hj=>by rw[hWf]; exact hNf _) h1v
   rw[mn2] at this;exact this
 have hGn:n+m≤G:=by rw[hG]; exact grownCap_ge w _ _ _
 have hG63:G≤9223372036854775807:=by
   have:=grownCap_le_maxLen w (n+m) c (ρ.t 9) (by unfold maxLen; omega);rw[← hG] at this;unfold maxLen at this;omega
 have hGi:¬ (G=i):=by omega
 have hGim:¬ (G=i+m):=by omega
 have hci:¬ (c=i):=by omega
 have hbN:b≠w.heap.size:=by omega
 have hdl:(cs.drop (i*K)).length=(n-i)*K:=by rw[qA2,hcl,q4]
 have mn3:Nat.min (n-i) (n+m-(i+m))=n-i:=by simp only[Nat.min_def]; split<;>omega
 have hcpB:∀ (W:World),(∀ x,W.cell? x=(W1.setCells w.heap.size (i*K) vs).cell? x)→(∀ x,W.frozen? x=(W1.setCells w.heap.size (i*K) vs).frozen? x)→∀ ty dc sc,(Builtin.copy_ #[(ρ.t 24),(ρ.t 24)] ty #[.slice (some ⟨w.heap.size,(i+m)*K,none⟩) (n+m-(i+m)) dc,.slice (some ⟨b,off+i*K,none⟩) (n-i) sc]).run P W = .ok (goInt (n-i:Nat)) (W.setCells w.heap.size ((i+m)*K) (cs.drop (i*K))):=fun W hWc hWf ty dc sc=>by
   have:=zu (P:=P) W _ (ρ.t 24) ty (ρ.t 9) w.heap.size ((i+m)*K) (n+m-(i+m)) dc ⟨b,off+i*K,none⟩ (n-i) sc K (cs.drop (i*K)) L.t24 hsz (by rw[hdl,mn3])
     (fun j v hj=>by
       rw[Addr.add_lit,hWc,World.cell?_setCells_out _ _ _ _ _ (fun h _=>absurd h hbN),qCG];exact hOb _ v (hcs (i*K+j) v (by rwa [qBY] at hj)))
     (fun j hj=>by rw[hWc]; exact isSome_setCells _ _ _ _ (fun t ht=>hN _ (by omega)) _ (hN _ (by omega)))
     (fun j hj=>by rw[hWf,World.frozen?_setCells]; exact hNf _) (fun v hv=>h1c v (List.mem_of_mem_drop hv))
   rw[mn3] at this;exact this
 subst hW1;have hE1:∀ x,((w.alloc (.cells ROW (ρ.t 9))).drew).cell? x=(w.drew.alloc (.cells ROW (ρ.t 9))).cell? x:=fun x=>rfl
 have hE2:∀ x,((w.alloc (.cells ROW (ρ.t 9))).drew).frozen? x=(w.drew.alloc (.cells ROW (ρ.t 9))).frozen? x:=fun x=>rfl
 have hF1:∀ x,(((w.alloc (.cells ROW (ρ.t 9))).drew.setCells w.heap.size (i*K) vs).drew).cell? x=((w.drew.alloc (.cells ROW (ρ.t 9))).setCells w.heap.size (i*K) vs).cell? x:=fun x=>rfl
 have hF2:∀ x,(((w.alloc (.cells ROW (ρ.t 9))).drew.setCells w.heap.size (i*K) vs).drew).frozen? x=((w.drew.alloc (.cells ROW (ρ.t 9))).setCells w.heap.size (i*K) vs).frozen? x:=fun x=>rfl
 have hw1:IntKind.i64.wrap ((i:Int)+(m:Int))=(i:Int)+(m:Int):=by rw[IntKind.wrap_i64]; omega
 have hb1:(0:Int)≤(i:Int)+(m:Int):=by omega
 have hin:i≤n:=by omega
 have htn:((i:Int)+(m:Int)).toNat=i+m:=by omega
 have hb3:(i:Int)≤(n:Int):=by omega
 clear hkk hik hold hROW hG hRl q1 q2 q3 q4 q5 mn2 mn3 hdl hcs hvs hOb hOv hN hNf;obtain ⟨_,_,FG⟩:=L.f22
 go_enter FG,Body2.n22_ntmps ρ
 go_wp2_with (first
   | (at_builtin; refine Lib.wpList_append_run _ rfl _ _ _ _ rfl _ _ rfl rfl _ _ (hrz _) ?_)
   | (at_builtin; refine wpList_copy_runI _ rfl _ _ (ρ.t 24) (ρ.t 24) rfl _ _ rfl rfl (hcpA _ hE1 hE2 _ _) ?_)
   | (at_builtin; refine wpList_copy_runI _ rfl _ _ (ρ.t 24) (ρ.t 24) rfl _ _ rfl rfl (hcpB _ (fun _=>rfl) (fun _=>rfl) _ _ _) ?_))
 go_region_law_o (refine step_copy_runI rfl _ _ (ρ.t 24) (ρ.t 24) rfl (.slice (some ⟨w.heap.size,(i+m)*K,none⟩) (n+m-(i+m)) (G-(i+m))) (.slice (some ⟨b,off+i*K,none⟩) (n-i) (c-i)) (by simp[Act.eval,Act.put]) (by simp[Act.eval,Act.put]) (hcpB _ hF1 hF2 (ρ.t 3) (G-(i+m)) (c-i)) ?_)
 go_wp2
 go_ret
 exact ⟨rfl,rfl⟩
end
end Go.EM
set_option linter.unusedSectionVars false
namespace Go.EM
open Go.Proofs Go.Shelf Go.RowKit Go.Lib Go.Sort
section
variable [Drawn] {P:Program}{w w':World}{O:Nat→Prop}{α:AM}{st:aC}
theorem Inv.adopt (hi:Inv w O α st) {r:Nat}{xs:List AVal}{vs:List Value}{n cap blk:Nat}{el:TypeId} (hn:n≠0) (hv:aF w O α n xs vs)
   (os:w'.os=w.os) (tape:w'.tape=w.tape) (out:w'.output=w.output) (size:w.heap.size≤w'.heap.size) (dr:Drawn.on→w.drawn≤w'.drawn) (old:∀ k,k<w.heap.size→k≠blk→w'.heap[k]? = w.heap[k]?)
   (hb:(∃ ri,α[r]? = some (some ri)∧ri.block=blk)∨(w.heap.size≤blk∧blk<w'.heap.size∧α.length≤r)) (hlen:xs.length≤cap)
   {c:Array Value}{fz:Nat×Nat} (hc:w'.heap[blk]? = some (.cells c el fz)) (hcs:c.size=cap*n) (hcell:∀ j,j<(flat vs).length→c[j]? = (flat vs)[j]?) (hfz:∀ o,o<c.size∨n≠1→w'.frozen? ⟨blk,o,none⟩=false) :
   Ext w α w' (α.set r none++[some ⟨blk,n,cap,xs.length⟩])∧Inv w' O (α.set r none++[some ⟨blk,n,cap,xs.length⟩]) (st.set r .dead++[.row el n xs]):=by
 have at_:∀ (k:Nat) (rj:RI),(α.set r none++[some ⟨blk,n,cap,xs.length⟩])[k]? = some (some rj)→(k<α.length∧k≠r∧α[k]? = some (some rj))∨(k=α.length∧rj=⟨blk,n,cap,xs.length⟩):=by
   intro k rj hk;by_cases h1:k<α.length
   · rw[qAI (by simpa using h1)] at hk;by_cases h2:k=r
     · subst h2;rw[qAY h1] at hk; cases hk
     · rw[qBH (Ne.symm h2)] at hk;exact .inl ⟨h1,h2,hk⟩
   · by_cases h3:k=α.length
     · subst h3;rw[qAW (by simp)] at hk;simp at hk;exact .inr ⟨rfl,hk.symm⟩
     · rw[qAH (by simp; omega)] at hk; cases hk
 have apart:∀ (k:Nat) (rj:RI),k<α.length→k≠r→α[k]? = some (some rj)→rj.block≠blk:=by
   intro k rj h1 h2 h3 e;rcases hb with ⟨ri,h4,h5⟩ | ⟨h4,_⟩
   · exact h2 (hi.inj k r rj ri h3 h4 (by rw[e,h5]))
   · have:=(hi.fresh k rj h3).2; omega
 have hfr:¬ O blk∧blk<w'.heap.size:=by
   rcases hb with ⟨ri,h4,h5⟩ | ⟨h4,h5,_⟩
   · have:=hi.fresh r ri h4;rw[h5] at this;exact ⟨this.1,qBJ this.2 size⟩
   · exact ⟨fun ho=>by have:=hi.bound _ ho; omega,h5⟩
 have hext:Ext w α w' (α.set r none++[some ⟨blk,n,cap,xs.length⟩]):=by
   refine ⟨os,tape,out,size,fun b hb' ho=>old b hb' fun e => ?_,by simp,fun k rj hk hx => ?_,fun b hw => ?_,dr⟩
   · subst e;rcases hb with ⟨ri,h4,h5⟩ | ⟨h4,_⟩
     · exact ho ⟨r,ri,h4,h5⟩
     · omega
   · rcases at_ k rj hx with ⟨_,_,h3⟩ | ⟨h1,_⟩
     · exact ⟨rj,h3,qAD _,fun _=>rfl⟩
     · omega
   · obtain ⟨k,rj,hk,rfl⟩:=hw;rcases at_ k rj hk with ⟨_,_,h3⟩ | ⟨_,rfl⟩
     · exact .inr ⟨k,rj,h3,rfl⟩
     · rcases hb with ⟨ri,h4,h5⟩ | ⟨h4,_⟩
       · exact .inr ⟨r,ri,h4,h5⟩
       · exact .inl h4
 have hpres:Pres false w O α w' O (α.set r none++[some ⟨blk,n,cap,xs.length⟩]):=Pres.of_ext hext
 have hsame:∀ k,k<α.length→k≠r→(α.set r none++[some ⟨blk,n,cap,xs.length⟩])[k]? = α[k]? := fun k h1 h2=>by
   rw[qAI (by simpa using h1),qBH (Ne.symm h2)]
 refine ⟨hext,?_,?_,?_,?_,fun b hb'=>qBJ (hi.bound b hb') size⟩
 · simp[hi.len]
 · intro k g hk;by_cases h1:k<st.length
   · rw[qAI (by simpa using h1)] at hk;by_cases h2:k=r
     · subst h2;rw[qAY h1] at hk;cases hk;simp only[dg];rw[qAI (by simpa [← hi.len] using h1),qAY (by rw[← hi.len]; exact h1)]
     · rw[qBH (Ne.symm h2)] at hk;have h1':k<α.length:=by rw[← hi.len]; exact h1
       exact eT hpres (hsame k h1' h2) (fun rj hj=>old _ (hi.fresh k rj hj).2 (apart k rj h1' h2 hj)) (hi.reg k g hk)
   · by_cases h3:k=st.length
     · subst h3;rw[qAW (by simp)] at hk;simp at hk;subst hk;simp only[dg]
       refine ⟨⟨blk,n,cap,xs.length⟩,by rw[qAW (by simp[hi.len])]; simp[hi.len],rfl,hn,rfl,hlen,c,el,fz,hc,hcs,?_,hfz,rfl⟩;refine row_of 0 (bO hpres hv) fun j hj => ?_
       rw[qAO,← hcell j hj];simp only[World.cell?,hc];simp
     · rw[qAH (by simp; omega)] at hk; cases hk
 · intro a b ra rb ha hb' hab;rcases at_ a ra ha with ⟨h1,h2,h3⟩ | ⟨h1,rfl⟩<;>rcases at_ b rb hb' with ⟨k1,k2,k3⟩ | ⟨k1,rfl⟩
   · exact hi.inj a b ra rb h3 k3 hab
   · exact absurd hab (apart a ra h1 h2 h3)
   · exact absurd hab.symm (apart b rb k1 k2 k3)
   · omega
 · intro k rj hk;rcases at_ k rj hk with ⟨h1,h2,h3⟩ | ⟨h1,rfl⟩
   · exact ⟨(hi.fresh k rj h3).1,qBJ (hi.fresh k rj h3).2 size⟩
   · exact hfr
theorem afb {r n cap k blk:Nat}{α:AM} (hr:α[r]? = some (some ⟨blk,n,cap,k⟩)) (hk:k≤cap):Rep w O α (.own r n k 0 k) (.slice (some ⟨blk,0,none⟩) k cap):=by
 simp only[Rep];refine ⟨?_,_,_,rfl,hk,.inr ⟨_,_,rfl⟩,fun ri h => ?_⟩
 · rcases qAV r α.length with h | h
   · exact h
   · rw[qAH h] at hr; cases hr
 · rw[hr] at h;cases h;exact ⟨qAD _,fun _=>⟨rfl,by omega,by simp,fun _=>by simp⟩⟩
theorem yB {n cap k blk:Nat}{β:AM} (hk:k≤cap):Rep w O (β++[some ⟨blk,n,cap,k⟩]) (.own β.length n k 0 k) (.slice (some ⟨blk,0,none⟩) k cap):=afb (by simp) hk
end
end Go.EM
namespace Go.EM
open Go.Proofs Go.Shelf Go.RowKit Go.Lib Go.Sort
section
variable {P:Program}{ρ:Ren}
set_option maxHeartbeats 2000000 in
set_option maxRecDepth 100000 in
theorem wD (L:SlLaysE0.n41 P ρ) (size:Nat) (z23:∀ w,(Go.sizeOf (ρ.t 23)).run P w = .ok size w) (i0:TypeInfo) (hi0:P.info? (ρ.t 23)=some i0) (ad:Addr) (c:Nat) (w:World) :
   Calls P (ρ.f 41) #[.slice (some ad) 0 c] w fun e w'=>∃ b,e = .returned (.slice (some b) 0 0)∧Below w.heap.size w w':=by
 have mixed:=L.mixed; have t4:=L.t4; have a4:=L.a4; have z4:=L.z4; have v4:=L.v4; have t22:=L.t22; have a22:=L.a22; have z22:=L.z22; have v22:=L.v22
 have q22:∀ (w:World) (a:Option Addr) (n c n' c':Nat),(binOp .eql (ρ.t 22) (.slice a n c) (.slice none n' c')).run P w = .ok (.bool a.isNone) w:=fun w a n c n' c'=>Lib.run_eql_slice_nil w _ _ a n c n' c' L.t22
 have u22:∀ w,Sem.run P (underlying (ρ.t 22)) w = .ok (TypeDesc.slice (ρ.t 23)) w:=run_underlying t22
 have hrun:∀ (W:World) (b:Addr) ty,(Builtin.append_ #[ρ.t 22,ρ.t 22] ty #[.slice (some b) 0 0,.slice (some ad) 0 c]).run P W = .ok (.slice (some b) 0 0) W:=fun W b ty=>by
   have h:=di (P:=P) (w:=W) (ty:=ty) (base:=some b) (sLen:=0) (sCap:=0) (k:=0) (x:=.slice (some ad) 0 c) (new := #[]) t22 t22 (fun k=>by simp) hi0 (by simp[Builtin.lenOf]) (by simp[Builtin.firstCells,loadCells,loadCellsFrom]) (qAD _)
   rw[h];simp[storeCells]
 obtain ⟨_,_,FG⟩:=L.f41
 go_enter FG,SlBodyN.n41_ntmps ρ
 go_wp2_with (at_builtin; refine Lib.wpList_append_run _ rfl _ _ _ _ rfl _ _ rfl rfl _ _ (hrun _ _ _) ?_)
 go_ret
 exact ⟨_,rfl,(Below.refl _ w).alloc (qAD _) _⟩
end
def nt (M e:Nat):SFn:=fun args st=>match args with
 | [.nil]=>some (.nil,st)
 | [.tree _ m ys]=>match ys with
   | []=>some (.tree true 0 [],st)
   | y::r=>if m=M∧r.length+1<most then some (bt st e M (y::r)) else none
 | _=>none
def d9 (M e:Nat):SFn:=fun args st=>match args with
 | [.own r n top off len, .int .i64 i, .tree _ m (y :: ys)] => if n = M ∧ m = M ∧ off = 0 ∧ len = top ∧ rowTy st r = e ∧ 0 ≤ i ∧ i ≤ top ∧ top + (y :: ys).length < most ∧ aJ (y :: ys) = true then
     (rowAt st r n top).map fun xs=>(.own r n (top+(y::ys).length) 0 (top+(y::ys).length),st.set r (.row e n (xs.take i.toNat++(y::ys)++xs.drop i.toNat))) else none
 | [.nil,.int .i64 i,.tree _ m (y::ys)]=>if m=M∧i=0∧(y::ys).length<most then some (bt st e M (y::ys)) else none
 | [.tree true _ [],.int .i64 i,.tree _ m (y::ys)]=>if m=M∧i=0∧(y::ys).length<most then some (bt st e M (y::ys)) else none
 | _=>none
section
variable {P:Program}{G:List (Nat×AVal)}
structure ElemK (P:Program) (te M:Nat) (i0:TypeInfo) (zv:Value):Prop where
 info:P.info? te=some i0
 zero:i0.zero=some zv
 size:i0.size=M
 cells:zv.cells.size=M
 bytes:i0.bytes≤16384
 bytes0:i0.bytes≠0
 one:∀ u∈zv.cells,u.oneCell'=true
 pos:0<M
end
section
variable [Drawn] {w w':World}{O:Nat→Prop}{α:AM}{st:aC}
end
section
variable {P:Program}{G:List (Nat×AVal)}{ρ:Ren}
theorem arY {t te M:Nat}{i0:TypeInfo}{zv:Value} (hE:ElemK P te M i0 zv) (ht:P.underlying t=some (.slice te)):cP P t=some (M,d8 zv)∧bE P t=te:=by
 refine ⟨?_,by unfold bE; rw[ht]⟩;unfold cP;rw[ht];simp only[hE.info,hE.zero];rw[if_pos ⟨by rw[hE.size]; have:=hE.pos; omega,hE.bytes,hE.bytes0,by rw[hE.size,hE.cells]⟩,hE.size]
theorem ahY {w:World}{b o:Nat}{u:Value} (h:w.cell? ⟨b,o,none⟩=some u):∃ t k,w.shape? b=some (t,k+1):=by
 unfold World.cell? at h;unfold World.shape?;simp only at h
 split at h
 · rename_i c el fz hb;have h:c[o]? = some u:=by simpa using h
   have hlt:o<c.size:=by
     rcases qAV o c.size with h' | h'
     · exact h'
     · rw[qCN h'] at h; cases h
   exact ⟨el,c.size-1,by simp; omega⟩
 · cases h
theorem qC [Drawn] (L:InsL P ρ) {M:Nat}{i0:TypeInfo}{zv:Value} (hE:ElemK P (ρ.t 9) M i0 zv) (hM:M≠1) (a9:Bool) (ha9:∀ w,(isAgg (ρ.t 9)).run P w = .ok a9 w) (z9:∀ w,(Go.sizeOf (ρ.t 9)).run P w = .ok M w) (h0:Goes P (ρ.f 22)):bB P G (ρ.f 22) (d9 M (ρ.t 9)):=by
 obtain ⟨hei,het⟩:=arY hE L.t24
 have happ : ∀ {w : World} {O : Nat → Prop} {α : AM} {st : aC} {x y v : AVal} {st' : aC} {base : Option Addr} {n c vb voff m vc : Nat}, Inv w O α st → cJ P [ρ.t 24, ρ.t 24] x y st = some (v, st') → Rep w O α x (.slice base n c) → Rep w O α y (.slice (some ⟨vb, voff, none⟩) m vc) → 0 < m → n ≤ c → (base = none → n = 0) →
     Calls P (ρ.f 22) #[.slice base n c,.int .i64 n,.slice (some ⟨vb,voff,none⟩) m vc] w fun e w'=>∃ v' α',e = .returned v'∧Ext w α w' α'∧Inv w' O α' st'∧Rep w' O α' v v':=by
   intro w O α st x y v st' base n c vb voff m vc hi h hx hy hm hnc hb;obtain ⟨u,w1,α1,hr,g1,g2,g3⟩:=nl (ty:=0) hi h hx hy
   refine (aa6 L M a9 ha9 z9 base n c vb voff m vc w w1 u hm hnc (fun ty=>hr) hb).mono ?_
   rintro e w' ⟨rfl,rfl⟩
   exact ⟨u,α1,rfl,g1,g2,g3⟩
 have hfresh : ∀ {w : World} {O : Nat → Prop} {α : AM} {st : aC} {x : AVal} {base : Option Addr} {fl : Bool} {m : Nat} {y : AVal} {ys : List AVal} {vb voff vc : Nat}, Inv w O α st → (x = .nil ∨ ∃ k, x = .tree true k []) → Rep w O α x (.slice base 0 0) → m = M → (y :: ys).length < most → Rep w O α (.tree fl m (y :: ys)) (.slice (some ⟨vb, voff, none⟩) (y :: ys).length vc) →
     Calls P (ρ.f 22) #[.slice base 0 0,.int .i64 0,.slice (some ⟨vb,voff,none⟩) (y::ys).length vc] w fun e w'=>∃ v' α',e = .returned v'∧Ext w α w' α'∧Inv w' O α' (bt st (ρ.t 9) M (y::ys)).2∧Rep w' O α' (bt st (ρ.t 9) M (y::ys)).1 v':=by
   intro w O α st x base fl m y ys vb voff vc hi hx hxr hm hlt hy;subst hm;refine happ (x:=x) (y:=.tree fl m (y::ys)) hi ?_ hxr hy (by simp) (qAD _) (fun _=>rfl);unfold cJ
   simp only[hei,L.t24,bK];rw[if_pos (.inl trivial)];simp only[qAJ];unfold dO;simp only[hei,het,List.isEmpty_cons,cond_false];rcases hx with rfl | ⟨k,rfl⟩
   · simp only[if_pos hlt]
   · simp only[qAQ,or_true,if_true,qAO,qBB,if_pos hlt]
 refine ⟨h0,fun xs st r st' hF w O α vs hi hG hv => ?_⟩;unfold d9 at hF
 split at hF
 · rename_i r n top off len i fl m y ys
   split at hF
   · rename_i hc;obtain ⟨hnM,hmM,rfl,rfl,hty,hi0,hit,hmost,hcl⟩:=hc;subst hmM;subst hnM;rw[x0] at hF;obtain ⟨zs,hrow,hF⟩:=hF;cases hF;simp only[RepL] at hv
     obtain ⟨v,vs,rfl,hx,u1,us1,rfl,h1,u2,us2,rfl,h2,rfl⟩:=hv;have hx':=hx;have h2':=h2;simp only[Rep] at hx h1 h2;subst h1;obtain ⟨ri,g1,g2,g3,g4,g5,g6,c,el,fz,g7,g8,g9,g10,g11⟩:=hi.alive hrow
     obtain ⟨hrl,a,cap,rfl,k1,k2,k3⟩:=hx;obtain ⟨q1,q2,q3,q4⟩:=(k3 ri g1).2 g4;rw[qCO] at q3;subst q3;obtain ⟨va,vc,rfl,w1,_,w2⟩:=h2;rcases w2 with w2 | ⟨_,vb,voff,rfl,hO,hOw,hvrow⟩
     · cases w2
     obtain ⟨i,rfl⟩:∃ k:Nat,i=(k:Int):=⟨i.toNat,by omega⟩;simp only[qDB] at *;obtain ⟨us,hus,hcell⟩:=gg 0 g9;obtain ⟨ws,hws,hvcell⟩:=gg voff hvrow;have hfl:=aU hus;rw[g5] at hfl
     have hwl:=aU hws;have hel:el=ρ.t 9:=(by simpa [rowTy,g11] using hty);subst hel;by_cases hend:i=len
     · subst hend;have hxs:zs.take i++(y::ys)++zs.drop i=zs++(y::ys):=(by rw[qBI (by omega),qAU (by omega),qAR]);rw[hxs]
       refine happ hi ?_ hx' h2' (by simp) k1 (fun h=>by
         subst h;rcases k2 with k2 | ⟨_,_,k2⟩
         · exact k2
         · cases k2)
       unfold cJ;simp only[hei,L.t24,bK];rw[if_pos (.inl trivial)];simp only[qAJ];unfold dO;simp only[hei,het,List.isEmpty_cons,cond_false]
       rw[if_pos ⟨trivial,trivial,by simp[rowTy,g11]⟩,hrow];simp only[if_pos hmost,if_true]
     · have hil:i<len:=(by omega);have ha:=q4 (by omega);rw[qCA] at ha;subst ha;have hvb:vb≠ri.block:=fun e=>hOw ⟨r,ri,g1,e.symm⟩;obtain ⟨u0,hu0⟩:=nK g3 hvrow;obtain ⟨tA,kA,hsa⟩:=ahY hu0
       have hvw:=block_lt hu0;have hbw:=(hi.fresh r ri g1).2;have hkm:0<(y::ys).length:=(by simp);have p1:(len+(y::ys).length)*n=len*n+(y::ys).length*n:=qBO ..
       have p2:(i+(y::ys).length)*n=i*n+(y::ys).length*n:=qBO ..;have p3:i*n≤len*n:=qBN _ (by omega)
       have hcs:∀ (j:Nat) v,(flat us)[j]? = some v→w.cell? ⟨ri.block,0+j,none⟩=some v:=fun t u ht=>by
         have hlt:t<(flat us).length:=by
           rcases qAV t (flat us).length with h | h
           · exact h
           · rw[qAH h] at ht; cases ht
         rw[hcell t hlt,ht]
       have hvs:∀ (j:Nat) v,(flat ws)[j]? = some v→w.cell? ⟨vb,voff+j,none⟩=some v:=fun t u ht=>by
         have hlt:t<(flat ws).length:=by
           rcases qAV t (flat ws).length with h | h
           · exact h
           · rw[qAH h] at ht; cases ht
         rw[hvcell t hlt,ht]
       have hvv:=ce (ce (fa i hus) hws) (gK i hus);obtain ⟨s1,s2⟩:=hC i hus;have hfv:flat (us.take i++ws++us.drop i)=(flat us).take (i*n)++flat ws++(flat us).drop (i*n):=by rw[db,db,s1,s2]
       have hlen:(zs.take i++(y::ys)++zs.drop i).length=len+(y::ys).length:=by rw[qAA,qAA,qAP,qA2,g5]; omega
       have hdl:((flat us).drop (i*n)).length=len*n-i*n:=(by rw[qA2,hfl]);have hm64:len+(y::ys).length≤140737488355328:=by unfold most at hmost; omega
       have hα:∀ ri',(α.set r (some ri'))[r]? = some (some ri'):=fun ri'=>qAY hrl
       have get:∀ (t:Nat),t<(i*n)+(y::ys).length*n+(len*n-i*n)→((flat us).take (i*n)++flat ws++(flat us).drop (i*n))[t]? = if t<i*n then (flat us)[t]? else if t<i*n+(y::ys).length*n then (flat ws)[t-i*n]? else ((flat us).drop (i*n))[t-(i*n+(y::ys).length*n)]? := by
         intro t ht;have e1:((flat us).take (i*n)).length=i*n:=(by rw[qAP,hfl]; omega);by_cases c1:t<i*n
         · rw[if_pos c1,qAT,qAI (by omega),qBP c1]
         · rw[if_neg c1];by_cases c2:t<i*n+(y::ys).length*n
           · rw[if_pos c2,qAT,qAW (by omega),qAI (by omega),e1]
           · rw[if_neg c2,qAW (by rw[qAA]; omega),qAA,e1,hwl]
       by_cases hroom:len+(y::ys).length≤ri.cap
       · have p4:(len+(y::ys).length)*n≤ri.cap*n:=qBN _ hroom
         refine (tj L n hE.pos a9 ha9 z9 (by rw[hE.info]; simp[hE.size]) ri.block 0 len ri.cap i vb voff (y::ys).length vc (flat us) (flat ws) w hil hkm hroom hvb (by omega) hfl hwl hcs
           (fun j hj=>by rw[qAO,cell_of g7,qA6 (by omega)]; rfl) (fun j hj=>by rw[qAO]; exact g10 j (.inr hM)) hvs (cV hus) (cV hws)
           (fun o lb cb=>vH L n z9 w vb voff ri.block o _ vc lb cb tA (ρ.t 9) kA c.size hvb hsa (by unfold World.shape?; rw[g7]) (fun o=>g10 o (.inr hM)))).mono ?_
         rintro e w' ⟨rfl,hw⟩
         simp only[qAO] at hw;have g7':w.drew.heap[ri.block]? = some (.cells c (ρ.t 9) fz):=g7;obtain ⟨c1,e1,e2⟩:=dR (vs:=(flat us).drop (i*n)) (o:=(i+(y::ys).length)*n) g7' (by omega)
         obtain ⟨c2,e3,e4⟩:=dR (vs:=flat ws) (o:=i*n) e1 (by omega);obtain ⟨r1,r2,r3,r4,r5,r6⟩:=cL (b:=ri.block) ((flat us).drop (i*n)) ((i+(y::ys).length)*n) w.drew
         obtain ⟨t1,t2,t3,t4,t5,t6⟩:=cL (b:=ri.block) (flat ws) (i*n) (w.drew.setCells ri.block ((i+(y::ys).length)*n) ((flat us).drop (i*n)));rw[← hw] at e3 t1 t2 t3 t4 t5 t6
         have hsome:∀ k,k<c.size→(w.drew.cell? ⟨ri.block,k,none⟩).isSome=true:=fun k hk=>by rw[cell_of g7',qA6 hk]; rfl
         obtain ⟨x1,x2⟩:=hi.rerow (w':=w') g1 (cap:=ri.cap) (blk:=ri.block) (el:=ρ.t 9) g3 hvv (by rw[t3,r3]; rfl) (by rw[t4,r4]; rfl) (by rw[t5,r5]; rfl) (by rw[t2,r2]; exact qAD _) (by rw[t6,r6]; exact Nat.le_succ _)
           (fun k _ hk=>by rw[t1 k hk,r1 k hk]; rfl) (.inl rfl) (by rw[hlen]; exact hroom) (by rw[hlen,g4]; omega) (fun h=>by rw[hlen,g4] at h; omega) e3 (by rw[e4,e2,g8]) (fun t ht=>by
             rw[hfv] at ht ⊢;rw[qAA,qAA,qAP,hfl,hwl,hdl,Nat.min_eq_left p3] at ht;rw[← cell_of e3,hw,get t ht];by_cases c1:t<i*n
             · rw[if_pos c1,World.cell?_setCells_out _ _ _ _ _ (fun _ _=>.inl (by show t<_; omega)),World.cell?_setCells_out _ _ _ _ _ (fun _ _=>.inl (by show t<_; omega))];have:=hcell t (by omega)
               rw[qAO] at this;exact this
             · rw[if_neg c1];by_cases c2:t<i*n+(y::ys).length*n
               · have:=World.cell?_setCells_in ri.block (flat ws) (i*n) (w.drew.setCells ri.block ((i+(y::ys).length)*n) ((flat us).drop (i*n))) (fun k hk=>isSome_setCells _ _ _ _ (fun k' hk'=>hsome _ (by omega)) _ (hsome _ (by omega))) (t-i*n) (by omega)
                 rw[show i*n+(t-i*n)=t by omega] at this;rw[if_pos c2,this];exact (qAE (by omega)).symm
               · have:=World.cell?_setCells_in ri.block ((flat us).drop (i*n)) ((i+(y::ys).length)*n) w.drew (fun k hk=>hsome _ (by omega)) (t-(i*n+(y::ys).length*n)) (by omega)
                 rw[p2,show i*n+(y::ys).length*n+(t-(i*n+(y::ys).length*n))=t by omega] at this;rw[if_neg c2,World.cell?_setCells_out _ _ _ _ _ (fun _ _=>.inr (by show _≤t; omega)),p2,this]
                 exact (qAE (by omega)).symm)
           (fun o ho=>by
             rw[hw,World.frozen?_setCells,World.frozen?_setCells];exact g10 o (.inr hM))
         refine ⟨_,_,rfl,x1,x2,?_⟩;rw[hlen] at x1 x2 ⊢;exact afb (hα _) hroom
       · have hb1 : (len + (y :: ys).length) * i0.bytes ≤ 140737488355328 := by
           have:(len+(y::ys).length)*i0.bytes≤4294967296*16384:=qCQ (by unfold most at hmost; omega) hE.bytes;omega
         refine (wb L n i0.bytes hE.pos a9 ha9 z9 i0 zv hE.info hE.zero hE.size rfl hE.bytes0 hE.cells ri.block 0 len ri.cap i vb voff (y::ys).length vc (flat us) (flat ws) w hil hkm (by omega) (by omega) hb1 hm64 hbw hvw hfl hwl hcs hvs (cV hus) (cV hws)).mono ?_
         rintro e w' ⟨rfl,hw⟩
         generalize hG':grownCap w (len+(y::ys).length) ri.cap (ρ.t 9)=gc at hw ⊢;have hge:len+(y::ys).length≤gc:=by rw[← hG']; exact grownCap_ge w _ _ _
         generalize hROW:((flat us).take (i*n)).toArray++Builtin.zeroCells zv.cells (len+(y::ys).length-i)++Builtin.zeroCells zv.cells (gc-(len+(y::ys).length))=ROW at hw;have hRs:ROW.size=gc*n:=by
           rw[← hROW];simp only[qCU,qBX,qAP,bv,hE.cells,hfl];have z1:(len+(y::ys).length-i)*n=(len+(y::ys).length)*n-i*n:=Nat.sub_mul ..
           have z2:(gc-(len+(y::ys).length))*n=gc*n-(len+(y::ys).length)*n:=Nat.sub_mul ..;have z3:(len+(y::ys).length)*n≤gc*n:=qBN _ hge;omega
         have hgn:(len+(y::ys).length)*n≤gc*n:=qBN _ hge;have h7:(w.alloc (.cells ROW (ρ.t 9))).drew.heap[w.heap.size]? = some (.cells ROW (ρ.t 9) (0,0)):=eO ROW (ρ.t 9) (0,0)
         obtain ⟨c1,e1,e2⟩:=dR (vs:=flat ws) (o:=i*n) h7 (by omega)
         have e1':((w.alloc (.cells ROW (ρ.t 9))).drew.setCells w.heap.size (i*n) (flat ws)).drew.heap[w.heap.size]? = some (.cells c1 (ρ.t 9) (0,0)):=e1
         obtain ⟨c2,e3,e4⟩:=dR (vs:=(flat us).drop (i*n)) (o:=(i+(y::ys).length)*n) e1' (by omega);obtain ⟨r1,r2,r3,r4,r5,r6⟩:=cL (b:=w.heap.size) (flat ws) (i*n) (w.alloc (.cells ROW (ρ.t 9))).drew
         obtain ⟨t1,t2,t3,t4,t5,t6⟩:=cL (b:=w.heap.size) ((flat us).drop (i*n)) ((i+(y::ys).length)*n) ((w.alloc (.cells ROW (ρ.t 9))).drew.setCells w.heap.size (i*n) (flat ws)).drew
         rw[← hw] at e3 t1 t2 t3 t4 t5 t6
         have hsome:∀ k,k<ROW.size→((w.alloc (.cells ROW (ρ.t 9))).drew.cell? ⟨w.heap.size,k,none⟩).isSome=true:=fun k hk=>by rw[cell_of h7,qA6 hk]; rfl
         have hq:∀ k,k<w.heap.size→(w.alloc (.cells ROW (ρ.t 9))).heap[k]? = w.heap[k]? := fun k hk=>RowKit.Below.heap_alloc w _ k hk
         obtain ⟨x1,x2⟩:=hi.rerow (w':=w') g1 (cap:=gc) (blk:=w.heap.size) (el:=ρ.t 9) g3 hvv (by rw[t3]; show World.os _=_; rw[show ∀ W:World,W.drew.os=W.os from fun _=>rfl,r3]; rfl) (by rw[t4]; show World.tape _=_; rw[show ∀ W:World,W.drew.tape=W.tape from fun _=>rfl,r4]; rfl) (by rw[t5]; show World.output _=_; rw[show ∀ W:World,W.drew.output=W.output from fun _=>rfl,r5]; rfl)
           (by rw[t2,show ∀ W:World,W.drew.heap=W.heap from fun _=>rfl,r2]; show w.heap.size≤(w.alloc _).heap.size; simp) (by rw[t6]; show _≤World.drawn _+1; rw[r6]; show _≤w.drawn+1+1; omega)
           (fun k hk _=>by rw[t1 k (by omega),show ∀ W:World,W.drew.heap=W.heap from fun _=>rfl,r1 k (by omega)]; exact hq k hk) (.inr ⟨qAD _,by rw[t2,show ∀ W:World,W.drew.heap=W.heap from fun _=>rfl,r2]; show w.heap.size<(w.alloc _).heap.size; simp⟩) (by rw[hlen]; exact hge) (by rw[hlen,g4]; omega) (fun h=>by rw[hlen,g4] at h; omega) e3 (by rw[e4,e2,hRs]) (fun t ht=>by
             rw[hfv] at ht ⊢;rw[qAA,qAA,qAP,hfl,hwl,hdl,Nat.min_eq_left p3] at ht;rw[← cell_of e3,hw,get t ht];by_cases c1:t<i*n
             · rw[if_pos c1,World.cell?_setCells_out _ _ _ _ _ (fun _ _=>.inl (by show t<_; omega))];show World.cell? (World.setCells _ _ _ _) _=_
               rw[World.cell?_setCells_out _ _ _ _ _ (fun _ _=>.inl (by show t<_; omega)),cell_of h7,← hROW,Array.append_assoc,qCM (by rw[qBX,qAP,hfl]; omega)]
               rw[← qB0];simp only[];exact qBP c1
             · rw[if_neg c1];by_cases c2:t<i*n+(y::ys).length*n
               · have:=World.cell?_setCells_in w.heap.size (flat ws) (i*n) (w.alloc (.cells ROW (ρ.t 9))).drew (fun k hk=>hsome _ (by omega)) (t-i*n) (by omega);rw[show i*n+(t-i*n)=t by omega] at this
                 rw[if_pos c2,World.cell?_setCells_out _ _ _ _ _ (fun _ _=>.inl (by show t<_; omega))];show World.cell? (World.setCells _ _ _ _) _=_;rw[this]
                 exact (qAE (by omega)).symm
               · have := World.cell?_setCells_in w.heap.size ((flat us).drop (i * n)) ((i + (y :: ys).length) * n) ((w.alloc (.cells ROW (ρ.t 9))).drew.setCells w.heap.size (i * n) (flat ws)).drew (fun k hk => by
                   show (World.cell? (World.setCells _ _ _ _) _).isSome=true
                   exact isSome_setCells _ _ _ _ (fun k' hk'=>hsome _ (by omega)) _ (hsome _ (by omega))) (t-(i*n+(y::ys).length*n)) (by omega)
                 rw[p2,show i*n+(y::ys).length*n+(t-(i*n+(y::ys).length*n))=t by omega] at this;rw[if_neg c2,p2,this];exact (qAE (by omega)).symm)
           (fun o ho=>by
             simp only[World.frozen?,e3];simp)
         refine ⟨_,_,rfl,x1,x2,?_⟩;rw[hlen] at x1 x2 ⊢;exact afb (hα _) hge
   · cases hF
 · rename_i i fl m y ys
   split at hF
   · rename_i hc;obtain ⟨rfl,rfl,hlt⟩:=hc;cases hF;simp only[RepL] at hv;obtain ⟨v,vs,rfl,hx,u1,us1,rfl,h1,u2,us2,rfl,h2,rfl⟩:=hv;have h2':=h2;have hx':=hx;simp only[Rep] at hx h1 h2;subst hx h1
     obtain ⟨va,vc,rfl,w1,_,w2⟩:=h2;rcases w2 with w2 | ⟨_,vb,voff,rfl,hO,hOw,hvrow⟩
     · cases w2
     exact hfresh hi (.inl rfl) hx' rfl hlt h2'
   · cases hF
 · rename_i k i fl m y ys
   split at hF
   · rename_i hc;obtain ⟨rfl,rfl,hlt⟩:=hc;cases hF;simp only[RepL] at hv;obtain ⟨v,vs,rfl,hx,u1,us1,rfl,h1,u2,us2,rfl,h2,rfl⟩:=hv;have h2':=h2;have hx':=hx;simp only[Rep] at hx h1 h2;subst h1
     obtain ⟨a,cap,rfl,_,hcap,_⟩:=hx;have:=hcap trivial;simp only[qAQ] at this hx';subst this;obtain ⟨va,vc,rfl,w1,_,w2⟩:=h2;rcases w2 with w2 | ⟨_,vb,voff,rfl,hO,hOw,hvrow⟩
     · cases w2
     exact hfresh hi (.inr ⟨k,rfl⟩) hx' rfl hlt h2'
   · cases hF
 · cases hF
theorem ui (L:SlLaysE0.n41 P ρ) {M:Nat}{i0:TypeInfo}{zv:Value} (hE:ElemK P (ρ.t 23) M i0 zv) (z23:∀ w,(Go.sizeOf (ρ.t 23)).run P w = .ok M w) (h0:Goes P (ρ.f 41)):bB P G (ρ.f 41) (nt M (ρ.t 23)):=by
 refine ⟨h0,fun xs st r st' hF w O α vs hi hG hv => ?_⟩;unfold nt at hF
 split at hF
 · cases hF;simp only[RepL,Rep] at hv;obtain ⟨v,vs,rfl,rfl,rfl⟩:=hv;refine (Proofs.AnyE.slices_Clone_nil L 0 0 w).mono ?_
   rintro e w' ⟨rfl,rfl⟩
   exact ⟨_,α,rfl,Ext.refl _ _,hi,by simp only[Rep]⟩
 · rename_i fl m ys;simp only[RepL,Rep] at hv;obtain ⟨v,vs,rfl,⟨a,cap,rfl,hle,_,hrow⟩,rfl⟩:=hv
   split at hF
   · cases hF;cases a with
     | none =>
       refine (Proofs.AnyE.slices_Clone_nil L _ cap w).mono ?_
       rintro e w' ⟨rfl,rfl⟩
       exact ⟨_,α,rfl,Ext.refl _ _,hi,by simp only[Rep]; exact ⟨none,0,rfl,qAD _,fun _=>rfl,.inl trivial⟩⟩
     | some ad =>
       refine (wD L M z23 i0 hE.info ad cap w).mono ?_
       rintro e w' ⟨b,rfl,hw⟩
       have hq:=eP hw;exact ⟨_,α,rfl,hq.ext α,hq.inv hi,by simp only[Rep]; exact ⟨_,0,rfl,qAD _,fun _=>rfl,.inl trivial⟩⟩
   · rename_i y ys _
     split at hF
     · rename_i hm;obtain ⟨rfl,hlt⟩:=hm;cases hF;rcases hrow with hrow | ⟨_,b,off,rfl,hO,hOw,hrow⟩
       · cases hrow
       · obtain ⟨vs,k1,k2⟩:=gg off hrow;have hlen:=aU k1;have hl:ys.length+1<4294967296:=(by simpa [most] using hlt);have hsz:(y::ys).length*i0.bytes≤140737488355328:=by
           have:(y::ys).length*i0.bytes≤4294967296*16384:=qCQ (by simp only[qAM]; omega) hE.bytes;omega
         refine (ug L i0 zv m i0.bytes hE.info hE.zero hE.size rfl hE.cells hE.pos z23 ⟨b,off,none⟩ (y::ys).length cap (flat vs) w hlen (by simp only[qAM]; unfold maxLen; omega) hsz (fun j u hj=>by
           have hj':j<(flat vs).length:=by
             rcases qAV j (flat vs).length with h | h
             · exact h
             · rw[qAH h] at hj; cases hj
           rw[Addr.add_lit,k2 j hj',hj]) (cV k1)).mono ?_
         rintro e w' ⟨v',rfl,hown,_,hw⟩
         have hq:=eP hw;rcases hown.2 with ⟨_,h⟩ | ⟨g,cap',cur,rfl,hg,hcur,hn,_,hcs,htake⟩
         · simp at h
         · obtain ⟨x1, x2⟩ := hi.adopt (w' := w') (r := α.length) (cap := cap') (blk := g) (el := ρ.t 23) (by have := hE.pos; omega) k1 hq.os hq.tape hq.output hq.size hq.dr (fun k hk _ => hq.old k hk) (.inr ⟨hg, (by
               rcases qAV g w'.heap.size with h | h
               · exact h
               · rw[qCN h] at hcur; cases hcur),qAD _⟩) hn hcur hcs (fun j hj=>by
               rw[← htake,qBP (by rw[hlen] at hj; exact hj)];simp) (fun o _=>by simp only[World.frozen?,hcur]; simp)
           rw[qDE (qAD _)] at x1 x2;rw[← hi.len,qDE (qAD _),] at x2;refine ⟨_,_,rfl,x1,x2,?_⟩;rw[hi.len];exact yB hn
     · cases hF
 · cases hF
end
end Go.EM
namespace Go.EM
open Go.Proofs Go.Shelf Go.RowKit Go.Lib Go.Sort
section
variable {P:Program}{G:List (Nat×AVal)}{ρ:Ren}
theorem fC {te M:Nat} (h1:(P.info? te).isSome=true) (h2:((P.info? te).get h1).zero.isSome=true) (h3:Nat.beq ((P.info? te).get h1).size M=true) (h4:Nat.beq (((P.info? te).get h1).zero.get h2).cells.size M=true) (h5:Nat.ble ((P.info? te).get h1).bytes 16384=true)
   (h6:Nat.beq ((P.info? te).get h1).bytes 0=false) (h7:(((P.info? te).get h1).zero.get h2).cells.toList.all Value.oneCell'=true) (h8:Nat.ble 1 M=true):ElemK P te M ((P.info? te).get h1) (((P.info? te).get h1).zero.get h2) where
 info:=(Option.some_get h1).symm
 zero:=(Option.some_get h2).symm
 size:=qA7 h3
 cells:=qA7 h4
 bytes:=qBZ h5
 bytes0:=fun e=>by rw[e] at h6; cases h6
 one:=fun u hu=>qCB.1 h7 u (by simpa using hu)
 pos:=qBZ h8
theorem ElemK.szOf {te M:Nat}{i0:TypeInfo}{zv:Value} (h:ElemK P te M i0 zv):∀ w,(Go.sizeOf te).run P w = .ok M w:=fun w=>by simp[Go.sizeOf,typeInfo,h.info,h.size]
theorem kf [Drawn] (L:InsL P ρ) {M te f:Nat}{i0:TypeInfo}{zv:Value} (hf:ρ.f 22=f) (ht:ρ.t 9=te) (hM:Nat.beq M 1=false) (hE:ElemK P te M i0 zv) (a9:Bool) (ha9:∀ w,(isAgg te).run P w = .ok a9 w) (h0:Goes P f):bB P G f (d9 M te):=by
 subst hf ht;exact qC L hE (fun e=>by rw[e] at hM; cases hM) a9 ha9 hE.szOf h0
theorem uf (L:SlLaysE0.n41 P ρ) {M te f:Nat}{i0:TypeInfo}{zv:Value} (hf:ρ.f 41=f) (ht:ρ.t 23=te) (hE:ElemK P te M i0 zv) (h0:Goes P f):bB P G f (nt M te):=by
 subst hf ht;exact ui L hE hE.szOf h0
end
end Go.EM
namespace Go.EM
open Go.Proofs Go.Shelf Go.RowKit Go.Lib Go.Sort
def clIx (n i:Nat):Nat:=if i<n then i else 0
theorem eM {n i:Nat} (h:0<n):clIx n i<n:=by unfold clIx; split<;>omega
def nr (F:PFn) (xs:List AVal) (i j:Nat):Int :=
 match F [getL xs (clIx xs.length i),getL xs (clIx xs.length j)] with
 | some (.int .i64 c)=>c
 | _=>0
def sg (F:PFn) (xs:List AVal):List Nat:=(pdq (ltOf (nr F xs)) (Array.range xs.length) 0 xs.length (Lib.bitLen xs.length) true true).toList
def asj (F:PFn) (xs:List AVal):Prop:=aJ xs=true∧(∀ i j,i<xs.length→j<xs.length→∃ c,F [getL xs i,getL xs j]=some (.int .i64 c))∧SWO (ltOf (nr F xs))
open Classical in
noncomputable def p7 (F:PFn) (g M e:Nat):SFn:=fun args st=>match args with
 | [.own r n top off len, .func (.func g') [] []] => if n = M ∧ off = 0 ∧ len = top ∧ rowTy st r = e ∧ g' = g then
     (rowAt st r n top).bind fun xs=>if top=0 then some (.tup [],st) else if asj F xs∧top<4611686018427387904 then some (.tup [],st.set r (.row e n ((sg F xs).map (getL xs)))) else none
   else none
 | [.nil,.func (.func _) [] []]=>some (.tup [],st)
 | [.tree _ _ [],.func (.func _) [] []]=>some (.tup [],st)
 | _=>none
section
variable [Drawn] {w w':World}{O:Nat→Prop}{α:AM}{st:aC}
theorem gJ {n:Nat}:∀ {ys:List AVal}{vs:List Value}{i:Nat},aF w O α n ys vs→i<ys.length→∃ v,vs[i]? = some v∧Rep w O α (getL ys i) v∧(getL ys i).cells.length=n∧v.cells.size=n∧∀ u∈v.cells,u.oneCell'=true
 | [],vs,i,h,hi=>by simp at hi
 | y::ys,vs,i,h,hi=>by
   simp only[aF] at h;obtain ⟨v,us,rfl,⟨h1,h2,h3,h4⟩,h5⟩:=h;cases i with
   | zero=>exact ⟨v,rfl,h1,h2,h3,h4⟩
   | succ i =>
     obtain ⟨v',g⟩:=gJ (i:=i) h5 (by simpa using hi);exact ⟨v',g⟩
theorem nH {n:Nat}:∀ {ys:List AVal}{vs:List Value},aF w O α n ys vs→vs.length=ys.length
 | [],vs,h=>by simp only[aF] at h; subst h; rfl
 | y::ys,vs,h=>by
   simp only[aF] at h;obtain ⟨v,us,rfl,_,h5⟩:=h;simp[nH h5]
theorem kV {n:Nat}{ys:List AVal}{vs:List Value} (h:aF w O α n ys vs):∀ {l:List Nat},(∀ i∈l,i<ys.length)→aF w O α n (l.map (getL ys)) (l.map fun i=>(vs[i]?).getD (.bool false))
 | [],_=>by simp[aF]
 | i::l,hl=>by
   obtain ⟨v,g1,g2,g3,g4,g5⟩:=gJ h (hl i (qAL ..));simp only[qBE,aF];exact ⟨v,_,by rw[g1]; rfl,⟨g2,g3,g4,g5⟩,kV h (fun j hj=>hl j (qAK _ hj))⟩
theorem nd {n:Nat}:∀ {ys:List AVal}{vs:List Value}{t:Nat},aF w O α n ys vs→t<ys.length*n→∃ v,vs[t/n]? = some v∧(flat vs)[t]? = v.cells.toList[t%n]? 
 | [],vs,t,h,ht=>by simp at ht
 | y::ys,vs,t,h,ht=>by
   simp only[aF] at h;obtain ⟨v,us,rfl,⟨h1,h2,h3,h4⟩,h5⟩:=h;have hf:flat (v::us)=v.cells.toList++flat us:=by simp[flat]
   have hl:v.cells.toList.length=n:=by simpa using h3
   by_cases hlt:t<n
   · refine ⟨v,by rw[Nat.div_eq_of_lt hlt]; rfl,?_⟩;rw[hf,qAI (by omega),Nat.mod_eq_of_lt hlt]
   · have hn : 0 < n := by
       rcases Nat.eq_zero_or_pos n with h | h
       · subst h; simp at ht
       · exact h
     have e1:t/n=(t-n)/n+1:=(by rw[← Nat.sub_add_cancel (show n≤t by omega),Nat.add_div_right _ hn]; simp);have e2:t%n=(t-n)%n:=by
       have:=Nat.add_mod_right (t-n) n;rw[Nat.sub_add_cancel (by omega)] at this;exact this
     obtain ⟨v',g1,g2⟩:=nd (t:=t-n) h5 (by
       simp only[qAM,qB4] at ht;omega)
     refine ⟨v',by rw[e1]; simpa using g1,?_⟩;rw[hf,qAW (by omega),hl,g2,e2]
end
theorem vD [Drawn] {w w':World} (h:Quiet w w') (h6:w.drawn≤w'.drawn):∃ q os,w'=grow (w.drewN q) os:=by
 have h1:=h.os; have h2:=h.tape; have h3:=h.output; have h4:=h.size; have h5:=h.old;refine ⟨w'.drawn-w.drawn,(w'.heap.toList.drop w.heap.size).toArray,?_⟩;obtain ⟨hp,tp,dr,os,out⟩:=w
 obtain ⟨hp',tp',dr',os',out'⟩:=w';simp only at h1 h2 h3 h4 h5 h6;subst h1; subst h2; subst h3;simp only[grow,World.drewN,World.mk.injEq,and_true,true_and];refine ⟨?_,by omega⟩;apply qBT
 simp only[Array.toList_append];apply qC0;intro i;by_cases hi:i<hp.size
 · rw[qAI (by simpa using hi)];have:=h5 i hi;simpa using this
 · rw[qAW (by simp; omega),qBY];congr 1;simp;omega
section
variable {P:Program}{G:List (Nat×AVal)}{ρ:Ren}
set_option maxHeartbeats 1600000 in
theorem mh [Drawn] (L:SlLaysF0.n6 P ρ) {M:Nat} (hM:M≠1) (aE:∀ w,(isAgg (ρ.t 24)).run P w = .ok true w) (zE:∀ w,(Go.sizeOf (ρ.t 24)).run P w = .ok M w) {g:Nat}{F:PFn} (hF : @aA ⟨True⟩ P G g F) (h0:Goes P (ρ.f 6)):bB P G (ρ.f 6) (p7 F g M (ρ.t 24)):=by
 refine ⟨h0,fun xs st r st' hrun w O α vs hi hG hv => ?_⟩;unfold p7 at hrun
 split at hrun
 · rename_i r n top off len g'
   split at hrun
   · rename_i hc;obtain ⟨rfl,rfl,rfl,hty,rfl⟩:=hc;rw[qAB] at hrun;obtain ⟨ys,hrow,hrun⟩:=hrun;simp only[RepL] at hv;obtain ⟨v,vs,rfl,hx,u1,us1,rfl,h1,rfl⟩:=hv
     simp only[Rep] at hx h1;obtain ⟨l1,l2,rfl,e1,e2⟩:=h1;simp only[RepL] at e1 e2;subst e1; subst e2;obtain ⟨ri,g1,g2,g3,g4,g5,g6,c,el,fz,g7,g8,g9,g10,g11⟩:=hi.alive hrow
     obtain ⟨hrl,a,cap,rfl,k1,k2,k3⟩:=hx;obtain ⟨q1,q2,q3,q4⟩:=(k3 ri g1).2 g4;rw[qCO] at q3;subst q3
     split at hrun
     · rename_i h00;cases hrun;subst h00;refine (AnyF.slices_SortFunc_none L a ri.cap _ w).mono ?_
       rintro e w' ⟨rfl,rfl⟩
       exact ⟨_,α,rfl,Ext.refl _ α,hi,by simp only[Rep]; exact ⟨[],rfl,rfl⟩⟩
     · rename_i h00
       split at hrun
       · rename_i hs;obtain ⟨⟨hcl,htab,hO⟩,hbig⟩:=hs;cases hrun;have ha:=q4 (by omega);rw[qCA] at ha;subst ha;obtain ⟨us,hus,hcell⟩:=gg 0 g9;have hfl:=aU hus;rw[g5] at hfl
         have hel:el=ρ.t 24:=(by simpa [rowTy,g11] using hty);subst hel;have hul:=nH hus;have hcK:len*n≤ri.cap*n:=qBN _ (by omega);have hlen:0<ys.length:=by omega
         -- the encoding by places
         let enc:Nat→List Value:=fun i=>((us[clIx ys.length i]?).getD (.bool false)).cells.toList
         have encv:∀ i,∃ v,us[clIx ys.length i]? = some v∧enc i=v.cells.toList∧Rep w O α (getL ys (clIx ys.length i)) v∧v = .agg v.cells.toList.toArray∧v.cells.size=n∧∀ u∈v.cells,u.oneCell'=true:=by
           intro i;obtain ⟨v,r1,r2,r3,r4,r5⟩:=gJ hus (eM (i:=i) hlen);refine ⟨v,r1,by simp only[enc,r1,qBG],r2,?_,r4,r5⟩
           revert r2 r3
           cases hy:getL ys (clIx ys.length i)<;>intro r2 r3<;>first
             | (exfalso; simp only[AVal.cells,qAM,qAQ] at r3; omega)
             | (simp only[Rep] at r2
                obtain ⟨l,rfl,_⟩:=r2;simp[Value.cells])
         have hk:∀ x,(enc x).length=n:=fun x=>by
           obtain ⟨v,_,h2,_,_,h5,_⟩:=encv x;rw[h2]; simpa using h5
         have h1':∀ x,∀ v∈enc x,v.oneCell'=true:=fun x v hv=>by
           obtain ⟨v',_,h2,_,_,_,h6⟩:=encv x;rw[h2] at hv;exact h6 v (by simpa using hv)
         subst g5;have hblk:ri.block<w.heap.size:=(hi.fresh r ri g1).2;have hown:fH α ri.block:=⟨r,ri,g1,rfl⟩
         -- the sort's worlds
         have hW:∀ (m:Nat) (os:Array Obj) (dk:Array Nat) (b:Nat),b<w.heap.size→b≠ri.block→(sortWorldK enc n w ri.block 0 m dk os).heap[b]? = w.heap[b]? := by
           intro m os dk b hb hne;unfold sortWorldK;rw[heap_grow_old _ _ (by simpa [putRowK,putRow,mapBlock] using hb)];simp[putRowK,putRow,mapBlock,qC8,Ne.symm hne]
         have hWs:∀ (m:Nat) (os:Array Obj) (dk:Array Nat),(sortWorldK enc n w ri.block 0 m dk os).heap.size=w.heap.size+os.size:=by
           intro m os dk;simp[sortWorldK,putRowK,putRow,mapBlock,grow]
         have hWb:∀ (m:Nat) (os:Array Obj) (dk:Array Nat),(sortWorldK enc n w ri.block 0 m dk os).heap[ri.block]? = some (.cells (Go.Sort.putCells id 0 (flatK enc n dk) c) (ρ.t 24) fz):=by
           intro m os dk;unfold sortWorldK;rw[heap_grow_old _ _ (by simpa [putRowK,putRow,mapBlock] using hblk)];simp[putRowK,putRow,mapBlock,qC8,g7,onCells]
         have encAt:∀ i,i<ys.length→∃ v,us[i]? = some v∧enc i=v.cells.toList:=by
           intro i hi';obtain ⟨v,h1,h2,_⟩:=encv i;rw[show clIx ys.length i=i from if_pos hi'] at h1;exact ⟨v,h1,h2⟩
         have divlt:∀ {j m:Nat},j<m*n→j/n<m:=fun {j m} h=>Nat.div_lt_of_lt_mul (by rw[Nat.mul_comm]; exact h);have hn0:0<n:=Nat.pos_of_ne_zero g3
         have hH:HoldsK enc n w ri.block 0 (Array.range ys.length):=by
           intro j hj;have hj':j<ys.length*n:=(by simpa using hj);have hdl:=divlt hj';obtain ⟨v,r1,r2⟩:=nd hus hj';obtain ⟨v',r3,r4⟩:=encAt _ hdl;rw[r1] at r3; cases r3;refine ⟨?_,g10 _ (.inr hM)⟩
           rw[hcell j (by rw[hfl]; exact hj'),r2,get_flatK _ _ _ _ (by simpa using hj')];have e:(Array.range ys.length)[j/n]! = j/n:=by
             rw[getElem!_pos _ _ (by simpa using hdl)]; simp
           have hmod:j%n<v.cells.toList.length:=(by rw[← r4,hk]; exact Nat.mod_lt _ hn0);rw[e,r4,qAE hmod,getElem!_pos v.cells.toList (j%n) hmod];rfl
         have hcmp:CmpLays P g' #[] enc n (nr F ys) ri.block 0 (Array.range ys.length).size w:=by
           intro m os dk hs x y;obtain ⟨v,x1,x2,x3,x4,x5,x6⟩:=encv x;obtain ⟨v',y1,y2,y3,y4,y5,y6⟩:=encv y;have P1:Pres true w O α (sortWorldK enc n w ri.block 0 m dk os) (fun b=>O b∨fH α b) []:=by
             refine ⟨fun b o u h1 h2 hc => ?_,fun b _ _ h1 h2 _=>⟨fun h=>h.elim h1 h2,fun ⟨r,ri,h,_⟩=>by simp at h⟩,(fun h=>Bool.noConfusion h),(fun h=>Bool.noConfusion h)⟩
             rw[jA (hW m os dk b (block_lt hc) (fun e=>h2 (e ▸ hown)))];exact hc
           have cl:∀ i,closed (getL ys (clIx ys.length i))=true:=by
             have all:∀ (l:List AVal) (k:Nat),aJ l=true→k<l.length→closed (getL l k)=true:=by
               intro l
               induction l with
               | nil=>intro k _ h; simp at h
               | cons a l ih =>
                 intro k h hk;simp only[aJ,k9] at h;cases k with
                 | zero=>exact h.1
                 | succ k=>exact ih k h.2 (by simpa using hk)
             exact fun i=>all ys _ hcl (eM hlen)
           obtain ⟨cv,hcv⟩:=htab _ _ (eM (i:=x) hlen) (eM (i:=y) hlen);have hval:nr F ys x y=cv:=by unfold nr; rw[hcv]
           have hrun:=hF.2 _ _ hcv (by simp only[aJ,cl,qCD]) (sortWorldK enc n w ri.block 0 m dk os) (fun b=>O b∨fH α b) [v,v']
             (fun b hb=>by
               rw[hWs];have:b<w.heap.size:=hb.elim (hi.bound b) (fun ⟨r,ri,h1,h2⟩=>by rw[← h2]; exact (hi.fresh r ri h1).2);omega)
             (fun gl u hgv=>⟨(hG gl u hgv).1,bw P1 u _ (fun _=>(hG gl u hgv).1) (hG gl u hgv).2.1,fun cs e=>by
               obtain ⟨h1,h2,c',t,fr,h3,h4⟩:=(hG gl u hgv).2.2 cs e;have hlt:gl<w.heap.size:=by
                 rcases qAV gl w.heap.size with h' | h'
                 · exact h'
                 · rw[qCN h'] at h3; cases h3
               exact ⟨fun h=>h.elim h1 h2,(fun ⟨r,ri,h,_⟩=>by simp at h),c',t,fr,by rw[hW m os dk gl hlt (fun e=>h2 (e ▸ hown))]; exact h3,h4⟩⟩)
             (by simp only[RepL]; exact ⟨v,_,rfl,bw P1 _ _ (fun _=>cl x) x3,v',_,rfl,bw P1 _ _ (fun _=>cl y) y3,rfl⟩)
           have eargs : #[Value.agg (enc x).toArray,Value.agg (enc y).toArray] ++ #[]=[v,v'].toArray:=by
             rw[x2,y2,← x4,← y4]; rfl
           rw[eargs];refine hrun.mono ?_
           rintro e w' ⟨u,rfl,hq,hr,_⟩
           simp only[Rep] at hr;subst hr;exact ⟨by rw[hval],@vD ⟨True⟩ _ _ hq (@Quiet.dr ⟨True⟩ _ _ hq trivial)⟩
         have key:=AnyQ.slices_SortFunc_eq L n aE zE enc hk h1' (nr F ys) hO g' #[] ri.block 0 ri.cap (Array.range ys.length) w (fun args w=>gu hF.1) hcmp hH hblk (by simpa using hbig)
         have perm:=(pdq_sorts (ltOf (nr F ys)) hO (Array.range ys.length) 0 (Array.range ys.length).size (Lib.bitLen (Array.range ys.length).size) true true (qBW _) (qAD _) (Or.inl rfl)).1
         rw[qCE] at key perm;refine key.mono ?_
         rintro e w' ⟨rfl,n',os,rfl⟩
         have hsx:sg F ys=(pdq (ltOf (nr F ys)) (Array.range ys.length) 0 ys.length (Lib.bitLen ys.length) true true).toList:=rfl;rw[hsx]
         generalize pdq (ltOf (nr F ys)) (Array.range ys.length) 0 ys.length (Lib.bitLen ys.length) true true=d' at *;obtain ⟨p1,_,p3⟩:=perm;rw[qCE] at p1
         have hmem:∀ i∈d'.toList,i<ys.length:=by
           intro i hi';have e1:(d'.extract 0 ys.length).toList=d'.toList:=by
             rw[← p1]; simp
           have e2:((Array.range ys.length).extract 0 ys.length).toList=(Array.range ys.length).toList:=by
             have:(Array.range ys.length).extract 0 ys.length=Array.range ys.length:=by
               conv=>lhs; arg 3; rw[← qCE (n:=ys.length)]
               simp
             rw[this]
           rw[e1,e2] at p3;have:=p3.mem_iff.1 hi';simpa using this
         have hv':=kV hus hmem;have hfl':=aU hv';have hll:(d'.toList.map (getL ys)).length=ys.length:=(by simp[p1]);rw[hll] at hfl'
         have hdr:w.drawn≤(sortWorldK enc n w ri.block 0 n' d' os).drawn:=Nat.le_add_right _ _
         obtain ⟨x1,x2⟩:=hi.rerow (w':=sortWorldK enc n w ri.block 0 n' d' os) (r:=r) (cap:=ri.cap) (blk:=ri.block) (el:=ρ.t 24) g1 g3 hv' rfl rfl rfl (by rw[hWs]; omega) hdr
           (fun k hk hne=>hW n' os d' k hk hne) (.inl rfl) (by rw[hll]; omega) (by rw[hll]; omega) (fun _=>by
             rw[hll];obtain ⟨b,s,cp,t⟩:=ri;simp only at g2 g4;rw[g2,g4]) (hWb n' os d') (by simp[Go.Sort.putCells,g8]) (fun t ht=>by
             rw[hfl'] at ht;have hfk:(flatK enc n d').size=ys.length*n:=(by simp[p1]);have htc:t<c.size:=(by rw[g8]; omega);obtain ⟨v,r1,r2⟩:=nd hv' (by rw[hll]; exact ht);have hdl:=divlt ht
             have hdl':t/n<d'.size:=(by rw[p1]; exact hdl);rw[r2];simp only[List.getElem?_map,qB0,qA6 hdl',qAF,qAC] at r1
             obtain ⟨v',r3,r4⟩:=encAt d'[t/n] (hmem _ (by simp));rw[r3] at r1;simp only[qBG] at r1;subst r1;have hmod:t%n<v'.cells.toList.length:=by rw[← r4,hk]; exact Nat.mod_lt _ hn0
             have e:d'[t/n]! = d'[t/n]:=getElem!_pos ..;rw[qAE hmod]
             simp only[Go.Sort.putCells,Array.getElem?_mapIdx,qA6 htc,qAF,qBW,qAO,true_and,qCO,hfk,ht,if_true,id]
             rw[get_flatK _ _ _ _ (by rw[p1]; exact ht),e,r4,getElem!_pos v'.cells.toList (t%n) hmod])
           (fun o ho=>by
             have:(sortWorldK enc n w ri.block 0 n' d' os).frozen? ⟨ri.block,o,none⟩=w.frozen? ⟨ri.block,o,none⟩:=by
               unfold sortWorldK;rw[frozen?_grow _ _ _ (by simpa [putRowK,putRow,mapBlock] using hblk)];exact frozen?_putRow _ _ _ _ _ _
             rw[this];exact g10 o (.inr hM))
         exact ⟨_,_,rfl,x1,x2,by simp only[Rep]; exact ⟨[],rfl,rfl⟩⟩
       · cases hrun
   · cases hrun
 · cases hrun;simp only[RepL] at hv;obtain ⟨v,vs,rfl,hx,u1,us1,rfl,h1,rfl⟩:=hv;simp only[Rep] at hx;subst hx;refine (AnyF.slices_SortFunc_none L none 0 u1 w).mono ?_
   rintro e w' ⟨rfl,rfl⟩
   exact ⟨_,α,rfl,Ext.refl _ α,hi,by simp only[Rep]; exact ⟨[],rfl,rfl⟩⟩
 · cases hrun;simp only[RepL] at hv;obtain ⟨v,vs,rfl,hx,u1,us1,rfl,h1,rfl⟩:=hv;simp only[Rep] at hx;obtain ⟨a,cap,rfl,_⟩:=hx;refine (AnyF.slices_SortFunc_none L a cap u1 w).mono ?_
   rintro e w' ⟨rfl,rfl⟩
   exact ⟨_,α,rfl,Ext.refl _ α,hi,by simp only[Rep]; exact ⟨[],rfl,rfl⟩⟩
 · cases hrun
end
end Go.EM
namespace Go.EM
def oc (v:AVal) (st:aC):Option (AVal×aC) :=
 match v with
 | .own r n top off len=>if off+len≤top then (rowAt st r n top).map fun xs=>(.tree false n ((xs.drop off).take len),st.set r .dead) else none
 | v=>some (v,st)
def jl (F:SFn):SFn:=fun xs st=>(F xs st).bind fun p=>oc p.1 p.2
section
variable [Drawn] {P:Program}{G:List (Nat×AVal)}{w:World}{O:Nat→Prop}{α:AM}{st:aC}
theorem aiJ {x v:AVal}{u:Value}{st':aC} (hi:Inv w O α st) (h:oc x st=some (v,st')) (hx:Rep w O α x u):∃ α',Ext w α w α'∧Inv w O α' st'∧Rep w O α' v u:=by
 unfold oc at h
 split at h
 · rename_i r n top off len
   split at h
   · rename_i hc;rw[x0] at h;obtain ⟨xs,hrow,h⟩:=h;cases h;obtain ⟨ri,g1,g2,g3,g4,g5,g6,c,el,fz,g7,g8,g9,g10,g11⟩:=hi.alive hrow;simp only[Rep] at hx
     obtain ⟨hrl,a,cap,rfl,k1,k2,k3⟩:=hx;obtain ⟨q1,q2,q3,q4⟩:=(k3 ri g1).2 g4;obtain ⟨t1,t2⟩:=hi.drop (w':=w) g1 rfl rfl rfl (qAD _) (qAD _) (fun _ _ _=>rfl);refine ⟨_,t1,t2,?_⟩
     have hl:((xs.drop off).take len).length=len:=(by rw[qAP,qA2,g5]; omega);simp only[Rep];refine ⟨a,cap,by rw[hl],by omega,(fun h=>by cases h),?_⟩;by_cases h0:len=0
     · subst h0;left; simp
     · have ha:=q4 (by omega);have hr:=dP len (dQ off g9);rw[qAO] at hr;refine .inr ⟨g3,ri.block,off*n,ha,(hi.fresh r ri g1).1,?_,hU (Pres.of_ext t1) n ri.block rfl _ _ hr⟩
       rintro ⟨r',ri',h1,h2⟩
       by_cases hr:r'=r
       · subst hr;rw[qAY hrl] at h1; cases h1
       · rw[qBH (Ne.symm hr)] at h1;exact hr (hi.inj r' r ri' ri h1 g1 h2)
   · cases h
 · cases h;exact ⟨α,Ext.refl _ _,hi,hx⟩
theorem iJ {f:Nat}{F:SFn} (h:bB P G f F):bB P G f (jl F):=by
 refine ⟨h.1,fun xs st r st' hF w O α vs hi hG hv => ?_⟩;unfold jl at hF;rw[qAB] at hF;obtain ⟨⟨v,st1⟩,h1,h2⟩:=hF;refine (h.2 xs st v st1 h1 w O α vs hi hG hv).mono ?_
 rintro e w' ⟨u,α',he,k1,k2,k3⟩
 obtain ⟨α2,m1,m2,m3⟩:=aiJ k2 h2 k3;exact ⟨u,α2,he,k1.trans m1,m2,m3⟩
end
end Go.EM
namespace Go.EM
open Go.Proofs Go.Shelf Go.RowKit Go.Lib Go.Sort
section
variable [Drawn] {w w':World}{O:Nat→Prop}{α:AM}{st:aC}
end
section
variable {P:Program}{G:List (Nat×AVal)}{ρ:Ren}
end
end Go.EM
namespace Go.EM
open Go.Proofs Go.Shelf
def wi (M e:Nat):SFn:=fun args st=>match args with
 | [.nil,.int .i64 n]=>if n=0 then some (.nil,st) else if 0<n∧n<most then some (.own st.length M 0 0 0,st++[.row e M []]) else none
 | _=>none
section
variable {P:Program}{G:List (Nat×AVal)}{ρ:Ren}
theorem abb [Drawn] {w:World}{o:Obj}:Quiet w (w.drew.alloc o):=by
 refine ⟨rfl,rfl,rfl,?_,?_,?_⟩
 · simp only[World.alloc,World.drew,Array.size_push]; omega
 · intro b hb;simp only[World.alloc,World.drew];rw[Array.getElem?_push_lt hb];exact (qA6 hb).symm
 · intro _;simp only[World.alloc,World.drew]; omega
theorem wh [Drawn] (L:Lays8.n4 P ρ) {M:Nat}{i0:TypeInfo}{zv:Value} (hE:ElemK P (ρ.t 25) M i0 zv) (h0:Goes P (ρ.f 4)):bB P G (ρ.f 4) (wi M (ρ.t 25)):=by
 refine ⟨h0,fun xs st r st' hF w O α vs hi hG hv => ?_⟩;unfold wi at hF
 split at hF
 · rename_i n;simp only[RepL,Rep] at hv;obtain ⟨v,vs,rfl,rfl,u,us,rfl,rfl,rfl⟩:=hv
   split at hF
   · rename_i h;subst h;cases hF;refine (Any8.slices_Grow_room L none 0 0 0 w (by omega) (by omega) (by omega) (by omega)).mono ?_
     rintro e w' ⟨rfl,rfl⟩
     exact ⟨_,α,rfl,Ext.refl _ _,hi,by simp only[Rep]⟩
   · split at hF
     · rename_i h;cases hF;obtain ⟨n,rfl⟩:∃ k:Nat,n=(k:Int):=⟨n.toNat,by omega⟩;have hn:n<4294967296:=(by have:=h.2; simp only[most] at this; omega);have hb:(0+n)*i0.bytes≤140737488355328:=by
         have:(0+n)*i0.bytes≤4294967296*16384:=qCQ (by omega) hE.bytes;omega
       refine (Any8.slices_Grow_grow L i0 zv hE.info hE.zero (by rw[hE.size]; exact hE.pos) none 0 0 n [] w (by omega) (by omega) hb (by omega) (by simp) (fun _=>rfl) (fun a h=>by cases h)).mono ?_
       rintro e w' ⟨rfl,hw⟩
       have hq:Quiet w w':=(by rw[hw]; exact abb);have hsz:w.heap.size<w'.heap.size:=by rw[hw]; simp only[World.alloc,World.drew,Array.size_push]; omega
       have hcur:w'.heap[w.heap.size]? = some (.cells (([]:List Value).toArray++Builtin.zeroCells zv.cells (0+n-0)++Builtin.zeroCells zv.cells (grownCap w (0+n) 0 (ρ.t 25)-(0+n))) (ρ.t 25)):=by
         rw[hw];simp only[World.alloc,World.drew];exact Array.getElem?_push_size
       have hge:0+n≤grownCap w (0+n) 0 (ρ.t 25):=grownCap_ge w _ _ _
       obtain ⟨x1,x2⟩:=hi.adopt (w':=w') (r:=α.length) (cap:=grownCap w (0+n) 0 (ρ.t 25)) (blk:=w.heap.size) (el:=ρ.t 25) (xs:=[]) (vs:=[]) (n:=M) (by have:=hE.pos; omega) (by simp only[aF]) hq.os hq.tape hq.output hq.size hq.dr (fun k hk _=>hq.old k hk) (.inr ⟨qAD _,hsz,qAD _⟩) (qBW _) hcur (by
         simp only[qCU,bv,hE.cells,qBX,qAQ];rw[qAO,← qBO];congr 1
         omega) (fun j hj=>by simp[flat] at hj) (fun o _=>by simp only[World.frozen?,hcur]; simp)
       rw[qDE (qAD _)] at x1 x2;rw[← hi.len,qDE (qAD _)] at x2;refine ⟨_,_,rfl,x1,x2,?_⟩;rw[hi.len];exact yB (qBW _)
     · cases hF
 · cases hF
theorem aiD [Drawn] (L:Lays8.n4 P ρ) {M te f:Nat}{i0:TypeInfo}{zv:Value} (hf:ρ.f 4=f) (ht:ρ.t 25=te) (hE:ElemK P te M i0 zv) (h0:Goes P f):bB P G f (wi M te):=by
 subst hf ht;exact wh L hE h0
end
end Go.EM
