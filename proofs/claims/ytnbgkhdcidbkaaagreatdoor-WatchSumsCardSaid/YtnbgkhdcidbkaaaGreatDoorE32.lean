import Derived.Test.YtnbgkhdcidbkaaaGreatDoorE19
import Derived.Lib.ItoaNum
import Derived.Lib.LaidTab
import Derived.Sort.Grow
import Derived.Deep.Draws
import Derived.Shelf.Strconv.Itoa3
import Derived.Lib.AtoiAll
import Derived.Lib.Bytealg
import Derived.Shelf.Unicode.DecodeAny
import Derived.Shelf.SlicesE.Clone
import Derived.Maps.AppendAt
import Derived.Shelf.Strings.OnBuilder
import Derived.Shelf.SlicesE.Delete
import Derived.Shelf.Spec.SlicesInsertGrow
import Derived.Shelf.SlSortCmp.NoneTotal
set_option linter.unusedVariables false
set_option linter.unusedSimpArgs false
namespace Go.EM
end Go.EM
namespace Go.EM
theorem fN {w w':World} (h:RowKit.Below w.heap.size w w'):Quiet w w':=⟨h.os,h.tape,h.output,h.size,h.block,fun h=>h.elim⟩
end Go.EM
namespace Go.EM
def cmpF:PFn:=fun xs=>match xs with
 | [.str a,.str b]=>some (.int .i64 (Lib.compareBytes a b))
 | _=>none
theorem rY [Drawn] {P:Program}{G:List (Nat×AVal)}{f:Nat} (h0:Goes P f)
   (hcon:∀ (a b:ByteArray) (w:World),Calls P f #[.string a,.string b] w fun e w'=>e = .returned (.int .i64 (Lib.compareBytes a.data.toList b.data.toList))∧w'=w):aB P G f cmpF:=by
 refine ⟨h0,fun xs r hF hc w O vs hb hG hv => ?_⟩
 unfold cmpF at hF
 split at hF
 · rename_i a b
   cases hF
   simp only[RepL,Rep] at hv
   obtain ⟨v,vs,rfl,rfl,v',vs',rfl,rfl,rfl⟩:=hv
   refine (hcon _ _ w).mono ?_
   rintro e w' ⟨rfl,rfl⟩
   exact ⟨_,rfl,Quiet.refl _,by simp only[Rep],rfl⟩
 · cases hF
end Go.EM
namespace Go.EM
open Go.Proofs Go.Shelf Go.RowKit Go.Lib in
set_option maxHeartbeats 2000000 in
set_option maxRecDepth 100000 in
theorem se {P:Program}{ρ:Ren} (L:SlLaysE0.n41 P ρ) (i0:TypeInfo) (z:Value) (size bytes:Nat) (hi:P.info? (ρ.t 23)=some i0) (hz0:i0.zero=some z) (hz1:i0.size=size) (hz2:i0.bytes=bytes) (hzs:z.cells.size=size) (hsz:0<size)
   (z23:∀ w,(Go.sizeOf (ρ.t 23)).run P w = .ok size w) (ad:Addr) (n c:Nat) (news:List Value) (w:World) (hl:news.length=n*size) (hn:n≤maxLen) (hbig:n*bytes≤140737488355328)
   (hc:∀ j u,news[j]? = some u→w.cell? (ad.add j)=some u) (h1:∀ u∈news,u.oneCell'=true) :
   Calls P (ρ.f 41) #[.slice (some ad) n c] w fun e w'=>∃ v',e = .returned v'∧w'.ownsRow w.heap.size (ρ.t 23) size v' n news∧v' ≠ .slice none 0 0∧Below w.heap.size w w':=by
 have mixed:=L.mixed; have t4:=L.t4; have a4:=L.a4; have z4:=L.z4; have v4:=L.v4; have t22:=L.t22; have a22:=L.a22; have z22:=L.z22; have v22:=L.v22
 have q22:∀ (w:World) (a:Option Addr) (n c n' c':Nat),(binOp .eql (ρ.t 22) (.slice a n c) (.slice none n' c')).run P w = .ok (.bool a.isNone) w:=fun w a n c n' c'=>Lib.run_eql_slice_nil w _ _ a n c n' c' L.t22
 have u22:∀ w,Sem.run P (underlying (ρ.t 22)) w = .ok (TypeDesc.slice (ρ.t 23)) w:=run_underlying t22
 have A:Aside (∀ j u,news[j]? = some u→w.cell? (ad.add j)=some u):=hc
 clear hc
 obtain ⟨_,_,FG⟩:=L.f41
 go_enter FG,SlBodyN.n41_ntmps ρ
 go_wp2_with (at_builtin; refine wpList_append_own_at _ rfl _ _ (ρ.t 22) rfl w.heap.size (ρ.t 23) i0 z size bytes t22 hi hz0 hz1 hz2 hzs hsz _ _ _ rfl (World.ownsRow_made w #[] 0 (Nat.le_refl _) (Nat.zero_le _) (by simp)) ad n c news rfl ?qc1 ?qc2 ?qc3 ?qc4 ?qc5 ?qc6 ?_)
 case qc1=>exact hl
 case qc2 =>
   intro j u hj
   exact Lib.cell?_alloc_some _ (A.out j u hj)
 case qc3=>exact h1
 case qc4=>rw[Nat.zero_add]; exact hn
 case qc5=>rw[Nat.zero_add]; exact hbig
 case qc6=>simp
 intro v' w1 hown hgrow hnil _
 go_wp2
 go_ret
 refine ⟨v',rfl,by simpa using hown,?_,?_⟩
 · exact hnil
 · exact ((Below.refl _ w).alloc (Nat.le_refl _) _).grown hgrow (by simp) (by intro k hk; simp[Value.ownBlock] at hk; omega)
section
variable {P:Program}{G:List (Nat×AVal)}
def j9 (M:Nat):PFn:=fun xs=>match xs with
 | [.nil]=>some (.tree false 0 [])
 | [.tree _ m ys]=>match ys with
   | []=>some (.tree false 0 [])
   | y::r=>if m=M∧r.length+1<most then some (.tree false M (y::r)) else none
 | _=>none
theorem uh {f te M bytes:Nat} (h0:Goes P f) (hM:M≠0) (hb:bytes≤16384)
   (hcon:∀ (ad:Addr) (n c:Nat) (news:List Value) (w:World),news.length=n*M→n≤maxLen→n*bytes≤140737488355328→(∀ j u,news[j]? = some u→w.cell? (ad.add j)=some u)→(∀ u∈news,u.oneCell'=true) →
     Calls P f #[.slice (some ad) n c] w fun e w'=>∃ v',e = .returned v'∧w'.ownsRow w.heap.size te M v' n news∧v' ≠ .slice none 0 0∧RowKit.Below w.heap.size w w')
   (hnil:∀ (n c:Nat) (w:World),Calls P f #[.slice none n c] w fun e w'=>e = .returned (.slice none 0 0)∧w'=w):aB P G f (j9 M):=by
 refine ⟨h0,fun xs r hF hc w O vs hb' hG hv => ?_⟩
 unfold j9 at hF
 split at hF
 · cases hF
   simp only[RepL,Rep] at hv
   obtain ⟨v,vs,rfl,rfl,rfl⟩:=hv
   refine (hnil 0 0 w).mono ?_
   rintro e w' ⟨rfl,rfl⟩
   exact ⟨_,rfl,Quiet.refl _,by simp only[Rep]; exact ⟨none,0,rfl,Nat.le_refl _,(fun h=>by cases h),.inl trivial⟩,rfl⟩
 · rename_i fl m ys
   simp only[RepL,Rep] at hv
   obtain ⟨v,vs,rfl,⟨a,cap,rfl,hle,_,hrow⟩,rfl⟩:=hv
   split at hF
   · cases hF
     cases a with
     | none =>
       refine (hnil _ cap w).mono ?_
       rintro e w' ⟨rfl,rfl⟩
       exact ⟨_,rfl,Quiet.refl _,by simp only[Rep]; exact ⟨none,0,rfl,Nat.le_refl _,(fun h=>by cases h),.inl trivial⟩,rfl⟩
     | some ad =>
       refine (hcon ad 0 cap [] w (by simp) (Nat.zero_le _) (by simp) (fun j u hj=>by simp at hj) (fun u hu=>by cases hu)).mono ?_
       rintro e w' ⟨v',rfl,hown,_,hw⟩
       refine ⟨_,rfl,fN hw,?_,rfl⟩
       simp only[Rep]
       rcases hown.2 with ⟨rfl,_⟩ | ⟨g,cap',cur,rfl,_,_,hn,_⟩
       · exact ⟨none,0,rfl,Nat.le_refl _,(fun h=>by cases h),.inl trivial⟩
       · exact ⟨_,cap',rfl,hn,(fun h=>by cases h),.inl trivial⟩
   · rename_i y ys _
     split at hF
     · rename_i hm
       obtain ⟨rfl,hlt⟩:=hm
       cases hF
       rcases hrow with hrow | ⟨_,b,off,rfl,hO,hOw,hrow⟩
       · cases hrow
       · obtain ⟨vs,k1,k2⟩:=fh off hrow
         have hlen:=aM k1
         have hl:ys.length+1<4294967296:=by simpa [most] using hlt
         have hsz:(y::ys).length*bytes≤140737488355328:=by
           have:(y::ys).length*bytes≤4294967296*16384:=Nat.mul_le_mul (by simp only[List.length_cons]; omega) hb
           omega
         refine (hcon ⟨b,off,none⟩ (y::ys).length cap (flat vs) w hlen (by simp only[List.length_cons]; unfold maxLen; omega) hsz (fun j u hj => ?_) (cO k1)).mono ?_
         · have hj' : j < (flat vs).length := by
             rcases Nat.lt_or_ge j (flat vs).length with h | h
             · exact h
             · rw[List.getElem?_eq_none h] at hj; cases hj
           rw[Addr.add_lit,k2 j hj',hj]
         · rintro e w' ⟨v',rfl,hown,_,hw⟩
           have hq:=fN hw
           have hc':aA (y::ys)=true:=by
             simp only[aA,closed,Bool.and_true] at hc
             simpa only[aA] using hc
           refine ⟨_,rfl,hq,?_,by simpa only[closed] using hc'⟩
           simp only[Rep]
           rcases hown.2 with ⟨_,h⟩ | ⟨g,cap',cur,rfl,hg,hcur,hn,_,_,htake⟩
           · simp at h
           · refine ⟨_,cap',rfl,hn,(fun h=>by cases h),.inr ⟨hM,g,0,rfl,(fun h=>by have:=hb' _ h; omega),(fun ⟨r,ri,h,_⟩=>by simp at h),?_⟩⟩
             refine row_of 0 (bC (Pres.of_ext (hq.ext [])) k1) fun j hj => ?_
             rw[← htake,List.getElem?_take,if_pos (by rw[← hlen]; exact hj)]
             unfold World.cell?
             rw[hcur]
             simp
     · cases hF
 · cases hF
theorem clone_lays {ρ:Shelf.Ren} (L:Proofs.SlLaysE0.n41 P ρ) (M:Nat) (h0:Goes P (ρ.f 41)) (h1:(P.info? (ρ.t 23)).isSome=true) (h2:((P.info? (ρ.t 23)).get h1).zero.isSome=true) (h3:((P.info? (ρ.t 23)).get h1).size=M) (h4:(((P.info? (ρ.t 23)).get h1).zero.get h2).cells.size=M)
   (h5:Nat.ble ((P.info? (ρ.t 23)).get h1).bytes 16384=true) (hM:0<M) (z23:∀ w,(Go.sizeOf (ρ.t 23)).run P w = .ok M w):aB P G (ρ.f 41) (j9 M) :=
 uh (te:=ρ.t 23) h0 (by omega) (Nat.le_of_ble_eq_true h5) (fun ad n c news w k1 k2 k3 k4 k5=>se L _ _ M _ (Option.some_get h1).symm (Option.some_get h2).symm h3 rfl h4 hM z23 ad n c news w k1 k2 k3 k4 k5) (fun n c w=>Proofs.AnyE.slices_Clone_nil L n c w)
end
end Go.EM
namespace Go.EM
open Go.Proofs Go.Shelf Go.RowKit Go.Lib Go.Sort
section
variable {P:Program}{ρ:Ren}
set_option maxHeartbeats 4000000 in
set_option maxRecDepth 1000000 in
theorem ya (L:SlLaysE0.n45 P ρ) (K:Nat) (hK:0<K) (a23:Bool) (ha23:∀ w,(isAgg (ρ.t 23)).run P w = .ok a23 w) (z23:∀ w,(Go.sizeOf (ρ.t 23)).run P w = .ok K w) (zv:Value) (v23:∀ w,(zeroValue (ρ.t 23)).run P w = .ok zv w) (hzs:zv.cells.size=K)
   (i0:TypeInfo) (hi0:P.info? (ρ.t 23)=some i0) (hzk:i0.size=K) (blk off cap i j n:Nat) (cs:List Value) (w:World) (hl:cs.length=n*K) (hz:∀ u∈(Builtin.zeroCells zv.cells (j-i)).toList,u.oneCell'=true) (hz1:∀ u∈(Builtin.zeroCells zv.cells 1).toList,u.oneCell'=true)
   (hc:∀ t u,cs[t]? = some u→w.cell? ⟨blk,off+t,none⟩=some u) (hf:∀ t,t<n*K→w.frozen? ⟨blk,off+t,none⟩=false) (h1:∀ u∈cs,u.oneCell'=true) (hcap:n≤cap) (hij:i<j) (hj:j≤n) :
   Calls P (ρ.f 45) #[.slice (some ⟨blk,off,none⟩) n cap,.int .i64 i,.int .i64 j] w fun e w'=>e = .returned (.slice (some ⟨blk,off,none⟩) (n-(j-i)) cap) ∧
     w'=(w.drew.setCells blk (off+i*K) (cs.drop (j*K))).setCells blk (off+(i+(n-j))*K) (Builtin.zeroCells zv.cells (j-i)).toList:=by
 have mixed:=L.mixed; have t0:=L.t0; have a0:=L.a0; have z0:=L.z0; have v0:=L.v0; have t3:=L.t3; have a3:=L.a3; have z3:=L.z3; have v3:=L.v3; have t4:=L.t4; have a4:=L.a4; have z4:=L.z4; have v4:=L.v4; have t22:=L.t22; have a22:=L.a22; have z22:=L.z22; have v22:=L.v22
 have hjK:j*K≤n*K:=Nat.mul_le_mul_right _ hj
 have hiK:i*K≤j*K:=Nat.mul_le_mul_right _ (by omega)
 have hsub:(n-j)*K=n*K-j*K:=Nat.sub_mul ..
 have hadd:(i+(n-j))*K=i*K+(n-j)*K:=Nat.add_mul ..
 obtain ⟨news,hnews⟩:∃ news,news=cs.drop (j*K):=⟨_,rfl⟩
 have hlen:news.length=(n-j)*K:=by rw[hnews,List.length_drop,hl,hsub]
 obtain ⟨A,hA,hsrc⟩:∃ A:Addr,(if cap=j then some (⟨blk,off,none⟩:Addr) else some ⟨blk,off+j*K,none⟩)=some A∧Hid (∀ t u,news[t]? = some u→w.drew.cell? (A.add t)=some u):=by
   by_cases h:cap=j
   · refine ⟨⟨blk,off,none⟩,by simp[h],fun t u hu => ?_⟩
     have h0:news.length=0:=by rw[hlen,show n-j=0 by omega,Nat.zero_mul]
     rw[List.length_eq_zero_iff.1 h0] at hu
     simp at hu
   · refine ⟨⟨blk,off+j*K,none⟩,by simp[h],fun t u hu => ?_⟩
     rw[hnews,List.getElem?_drop] at hu
     rw[Addr.add_lit,Nat.add_assoc]
     exact hc _ _ hu
 have s1:Hid (news.length=(n-j)*K):=hlen
 have s2:Hid (∀ u∈news,u.oneCell'=true):=by
   intro u hu
   rw[hnews] at hu
   exact h1 u (List.mem_of_mem_drop hu)
 have hcell:∀ t,t<n*K→(w.cell? ⟨blk,off+t,none⟩).isSome=true:=fun t ht=>by
   rw[hc t _ (List.getElem?_eq_getElem (by omega))]; rfl
 have s3:Hid (∀ t,t<news.length→(w.drew.cell? ⟨blk,off+i*K+t,none⟩).isSome=true∧w.drew.frozen? ⟨blk,off+i*K+t,none⟩=false):=by
   intro t ht
   rw[hlen] at ht
   rw[Nat.add_assoc]
   exact ⟨hcell _ (by omega),hf _ (by omega)⟩
 obtain ⟨W1,hW1⟩:∃ W1,W1=w.drew.setCells blk (off+i*K) news:=⟨_,rfl⟩
 have hd1:n-(i+(n-j))=j-i:=by omega
 have hjiK:(j-i)*K=j*K-i*K:=Nat.sub_mul ..
 have hcl:∀ ty,(Builtin.clear_ #[ρ.t 22] ty #[.slice (some ⟨blk,off+(i+(n-j))*K,none⟩) (n-(i+(n-j))) (cap-(i+(n-j)))]).run P W1 = .ok (.tuple #[]) (W1.setCells blk (off+(i+(n-j))*K) (Builtin.zeroCells zv.cells (j-i)).toList):=by
   intro ty
   rw[hd1]
   refine acn W1 _ _ ty _ K t22 v23 hzs hz1 blk _ _ _ (by omega) (fun t ht => ?_) (fun t ht => ?_) hz
   · rw[hW1,Nat.add_assoc]
     refine isSome_setCells blk news (off+i*K) w.drew (fun t' ht'=>(s3.out t' ht').1) _ (hcell _ (by omega))
   · rw[hW1,World.frozen?_setCells,Nat.add_assoc]
     exact hf _ (by omega)
 have hW:Hid (W1=w.drew.setCells blk (off+i*K) news):=hW1
 have hic:i≤cap:=by omega
 have hjc:j≤cap:=by omega
 have hne:¬ i=j:=by omega
 have B:Aside (news=cs.drop (j*K)):=hnews
 clear hW1 hnews hlen hc hf hcell hsub hadd hd1 hjiK hjK hiK hz hz1
 generalize (Builtin.zeroCells zv.cells (j-i)).toList=zs at hcl ⊢
 clear v23 hzs
 obtain ⟨_,_,FG⟩:=L.f45
 go_enter FG,SlBodyN.n45_ntmps ρ
 go_wp2_with fail
 go_region_law_o (refine step_append_room rfl (.tmp 22) (.tmp 25) (ρ.t 22) rfl (ρ.t 23) i0 K t22 hi0 hzk blk off i cap (by simp[Act.eval,Act.put]) A (n-j) (cap-j) news (by simp[Act.eval,Act.put]) s1.out hsrc.out s2.out (by omega) s3.out ?_; rw[← hW.out])
 go_wp2
 go_ret
 refine ⟨by rw[show n-(j-i)=i+(n-j) by omega]; rfl,?_⟩
 rw[hW.out,B.out]
structure InsL (P:Program) (ρ:Ren):Prop where
 mixed:P.follows .mixedOrders=true
 f22:Bears P (ρ.f 22) (Body2.n22 ρ)
 f29:∃ nm:String,(nm == "runtime.NumGoroutine")=false∧Extern.findNext { Body2.n29 ρ with name:=nm }=none∧Extern.find { Body2.n29 ρ with name:=nm }=some (Extern.SlicesOverlaps.overlaps #[(ρ.t 24),(ρ.t 24)] #[(ρ.t 4)])∧P.funcs[ρ.f 29]? = some { Body2.n29 ρ with name:=nm }
 t0:P.underlying (ρ.t 0)=some (TypeDesc.tuple #[])
 a0:∀ w,(isAgg (ρ.t 0)).run P w = .ok false w
 z0:∀ w,(Go.sizeOf (ρ.t 0)).run P w = .ok 1 w
 v0:∀ w,(zeroValue (ρ.t 0)).run P w = .ok (Value.tuple #[]) w
 t3:P.underlying (ρ.t 3)=some (TypeDesc.int IntKind.i64)
 a3:∀ w,(isAgg (ρ.t 3)).run P w = .ok false w
 z3:∀ w,(Go.sizeOf (ρ.t 3)).run P w = .ok 1 w
 v3:∀ w,(zeroValue (ρ.t 3)).run P w = .ok (Value.int IntKind.i64 0) w
 t4:P.underlying (ρ.t 4)=some (TypeDesc.bool)
 a4:∀ w,(isAgg (ρ.t 4)).run P w = .ok false w
 z4:∀ w,(Go.sizeOf (ρ.t 4)).run P w = .ok 1 w
 v4:∀ w,(zeroValue (ρ.t 4)).run P w = .ok (Value.bool false) w
 t24:P.underlying (ρ.t 24)=some (TypeDesc.slice (ρ.t 9))
 a24:∀ w,(isAgg (ρ.t 24)).run P w = .ok false w
 z24:∀ w,(Go.sizeOf (ρ.t 24)).run P w = .ok 1 w
 v24:∀ w,(zeroValue (ρ.t 24)).run P w = .ok (Value.slice none 0 0) w
theorem wi (w:World) (dT sT ty elem:TypeId) (b o dLen dCap:Nat) (a:Addr) (sLen sCap K:Nat) (cs:List Value)
   (hu:P.underlying dT=some (.slice elem)) (hs:(P.info? elem).map (·.size)=some K) (hn:cs.length=Nat.min sLen dLen*K)
   (hsrc:∀ j v,cs[j]? = some v→w.cell? (a.add j)=some v) (hc:∀ j,j<cs.length→(w.cell? ⟨b,o+j,none⟩).isSome=true) (hf:∀ j,j<cs.length→w.frozen? ⟨b,o+j,none⟩=false) (h1:∀ v∈cs,v.oneCell'=true) :
   (Builtin.copy_ #[dT,sT] ty #[.slice (some ⟨b,o,none⟩) dLen dCap,.slice (some a) sLen sCap]).run P w = .ok (goInt (Nat.min sLen dLen)) (w.setCells b o cs):=by
 have hl:=run_loadCells_list (P:=P) w a cs hsrc
 have hst:=run_storeCells_cells (P:=P) b o cs 0 w (by simpa using hc) (by simpa using hf) h1
 cases hq:P.info? elem with
 | none=>simp[hq] at hs
 | some i =>
   have hi:i.size=K:=by simpa [hq] using hs
   simp[Builtin.copy_,run_underlying hu,Builtin.lenOf,Builtin.firstCells,sizeOf,typeInfo,hq,hi,← hn,hl,hst]
theorem mP (w:World) (tS tR e:TypeId) (ht:P.underlying tS=some (.slice e)) (size:Nat) (hz:∀ w,(Go.sizeOf e).run P w = .ok size w) (a b:Addr) (la ca lb cb:Nat) (hne:a.block≠b.block) (tA tB:TypeId) (kA kB:Nat)
   (hsa:w.shape? a.block=some (tA,kA+1)) (hsb:w.shape? b.block=some (tB,kB)) (hf:∀ o,w.frozen? ⟨b.block,o,none⟩=false) (hfb:w.frozen? b=false) :
   (Extern.SlicesOverlaps.overlaps #[tS,tS] #[tR] #[.slice (some a) la ca,.slice (some b) lb cb]).run P w = .ok (.bool false) w:=by
 have hnb:(a.block != b.block)=true:=by simpa using hne
 have hnb':(a.block==b.block)=false:=by simpa using hne
 change Sem.run P (α:=Value) (do
   let some t:=(#[tS,tS]:Array TypeId)[0]? | stuck "slices.overlaps: no parameter types"
   let .slice elem ← underlying t | stuck "slices.overlaps: slice type expected"
   let size ← sizeOf elem
   match (some a:Option Addr),(some b:Option Addr) with
   | some a,some b =>
     if la=0∨lb=0∨size=0 then pure (Value.bool false)
     else if a.block != b.block&&(← frozen a)&&(← frozen b) then unsupported .addressObserved
     else do
       if a.block != b.block then do
         noView a; noView b
         if ← mayBeOne a b then return Value.bool ((← choose (.extern "sameAddr.stringBytes" 2))==1)
       pure (Value.bool (a.block==b.block&&a.off<b.off+lb*size&&b.off<a.off+la*size))
   | _,_=>pure (Value.bool false)) w=_
 by_cases h0:la=0∨lb=0∨size=0
 · simp[run_underlying ht,hz,h0]
 · have hfk:=hf kB
   cases hfa:w.frozen? a<;>cases hfe:w.frozen? { block:=a.block,off:=kA+1 } <;>
   simp[run_underlying ht,hz,h0,hnb,hnb',frozen,noView,viewAt,mayBeOne,stringish,shape,Sem.run,hsa,hsb,hfa,hfe,hfb,hfk]
theorem tw (L:InsL P ρ) (K:Nat) (z9:∀ w,(Go.sizeOf (ρ.t 9)).run P w = .ok K w) (w:World) (vb voff b o m vc lb cb:Nat) (tA tB:TypeId) (kA kB:Nat) (hvb:vb≠b) (hsa:w.shape? vb=some (tA,kA+1)) (hsb:w.shape? b=some (tB,kB)) (hf:∀ o,w.frozen? ⟨b,o,none⟩=false) :
   (callFunc (ρ.f 29) #[.slice (some ⟨vb,voff,none⟩) m vc,.slice (some ⟨b,o,none⟩) lb cb]).run P w = .ok (.value (.bool false)) w:=by
 obtain ⟨nm,h1,h2,h3,h4⟩:=L.f29
 rw[run_callFunc_extern h4 h1 rfl h2 h3,mP w (ρ.t 24) (ρ.t 4) (ρ.t 9) L.t24 K z9 ⟨vb,voff,none⟩ ⟨b,o,none⟩ m vc lb cb hvb tA tB kA kB hsa hsb hf (hf o)]
 rfl
set_option maxHeartbeats 4000000 in
set_option maxRecDepth 100000 in
theorem rz (L:InsL P ρ) (K:Nat) (hK:0<K) (a9:Bool) (ha9:∀ w,(isAgg (ρ.t 9)).run P w = .ok a9 w) (z9:∀ w,(Go.sizeOf (ρ.t 9)).run P w = .ok K w) (hsz:(P.info? (ρ.t 9)).map (·.size)=some K) (b off n c i vb voff m vc:Nat) (cs vs:List Value) (w:World) (hi:i<n) (hm:0<m) (hroom:n+m≤c) (hvb:vb≠b)
   (hn63:n+m≤9223372036854775807)
   (hcl:cs.length=n*K) (hvl:vs.length=m*K)
   (hcs:∀ j v,cs[j]? = some v→w.cell? ⟨b,off+j,none⟩=some v) (hsp:∀ j,j<(n+m)*K→(w.cell? ⟨b,off+j,none⟩).isSome=true) (hfz:∀ j,j<(n+m)*K→w.frozen? ⟨b,off+j,none⟩=false)
   (hvs:∀ j v,vs[j]? = some v→w.cell? ⟨vb,voff+j,none⟩=some v) (h1c:∀ v∈cs,v.oneCell'=true) (h1v:∀ v∈vs,v.oneCell'=true)
   (hov0:∀ o lb cb,(callFunc (ρ.f 29) #[.slice (some ⟨vb,voff,none⟩) m vc,.slice (some ⟨b,o,none⟩) lb cb]).run P w = .ok (.value (.bool false)) w) :
   Calls P (ρ.f 22) #[.slice (some ⟨b,off,none⟩) n c,.int .i64 i,.slice (some ⟨vb,voff,none⟩) m vc] w fun e w' =>
     e = .returned (.slice (some ⟨b,off,none⟩) (n+m) c)∧w'=(w.drew.setCells b (off+(i+m)*K) (cs.drop (i*K))).setCells b (off+i*K) vs:=by
 have t0:=L.t0; have a0:=L.a0; have z0:=L.z0; have v0:=L.v0; have t3:=L.t3; have a3:=L.a3; have z3:=L.z3; have v3:=L.v3; have t4:=L.t4; have a4:=L.a4; have z4:=L.z4; have v4:=L.v4; have t24:=L.t24; have a24:=L.a24; have z24:=L.z24; have v24:=L.v24
 have u0:=run_underlying L.t0; have u3:=run_underlying L.t3; have u4:=run_underlying L.t4; have u24:=run_underlying L.t24
 have hz1:¬ ((m:Int)=0):=by omega
 have hz2:¬ ((i:Int)=(n:Int)):=by omega
 have hov:=hov0 (off+(i+m)*K)
 have q1:(n+m)*K=n*K+m*K:=Nat.add_mul ..
 have q2:(i+m)*K=i*K+m*K:=Nat.add_mul ..
 have q3:i*K≤n*K:=Nat.mul_le_mul_right _ (by omega)
 have q4:(n-i)*K=n*K-i*K:=Nat.sub_mul ..
 have hdl:(cs.drop (i*K)).length=(n-i)*K:=by rw[List.length_drop,hcl,q4]
 have mixed:=L.mixed
 have hw1:IntKind.i64.wrap ((i:Int)+(m:Int))=(i:Int)+(m:Int):=by rw[IntKind.wrap_i64]; omega
 have hb1:(0:Int)≤(i:Int)+(m:Int):=by omega
 have hin:i≤n:=by omega
 have htn:((i:Int)+(m:Int)).toNat=i+m:=by omega
 have hb2:¬ (c=i+m):=by omega
 have hb3:(i:Int)≤(n:Int)+(m:Int):=by omega
 have hb4:¬ (c=i):=by omega
 have mn1:Nat.min (n+m-i) (n+m-(i+m))=n-i:=by simp only[Nat.min_def]; split<;>omega
 have mn2:Nat.min m (n+m-i)=m:=by simp only[Nat.min_def]; split<;>omega
 have hcp1:∀ ty dc sc,(Builtin.copy_ #[(ρ.t 24),(ρ.t 24)] ty #[.slice (some ⟨b,off+(i+m)*K,none⟩) (n+m-(i+m)) dc,.slice (some ⟨b,off+i*K,none⟩) (n+m-i) sc]).run P w.drew = .ok (goInt (n-i:Nat)) (w.drew.setCells b (off+(i+m)*K) (cs.drop (i*K))):=fun ty dc sc=>by
   have:=wi (P:=P) w.drew _ (ρ.t 24) ty (ρ.t 9) b (off+(i+m)*K) (n+m-(i+m)) dc ⟨b,off+i*K,none⟩ (n+m-i) sc K (cs.drop (i*K)) L.t24 hsz (by rw[hdl,mn1])
     (fun j v hj=>by rw[Addr.add_lit,Nat.add_assoc]; exact hcs (i*K+j) v (by rwa [List.getElem?_drop] at hj))
     (fun j hj=>by rw[Nat.add_assoc]; exact hsp _ (by omega)) (fun j hj=>by rw[Nat.add_assoc]; exact hfz _ (by omega)) (fun v hv=>h1c v (List.mem_of_mem_drop hv))
   rw[mn1] at this
   exact this
 obtain ⟨W1,hW1⟩:∃ W1,W1=w.drew.setCells b (off+(i+m)*K) (cs.drop (i*K)):=⟨_,rfl⟩
 have hsp1:∀ k,k<(n+m)*K→(W1.cell? ⟨b,off+k,none⟩).isSome=true:=fun k hk=>by
   rw[hW1]
   exact isSome_setCells b _ _ _ (fun j hj=>by rw[Nat.add_assoc]; exact hsp _ (by omega)) _ (hsp k hk)
 have hcp2:∀ (W:World),(∀ x,W.cell? x=W1.cell? x)→(∀ x,W.frozen? x=W1.frozen? x)→∀ ty dc,(Builtin.copy_ #[(ρ.t 24),(ρ.t 24)] ty #[.slice (some ⟨b,off+i*K,none⟩) (n+m-i) dc,.slice (some ⟨vb,voff,none⟩) m vc]).run P W = .ok (goInt (m:Nat)) (W.setCells b (off+i*K) vs):=fun W hWc hWf ty dc=>by
   have:=wi (P:=P) W _ (ρ.t 24) ty (ρ.t 9) b (off+i*K) (n+m-i) dc ⟨vb,voff,none⟩ m vc K vs L.t24 hsz (by rw[hvl,mn2])
     (fun j v hj=>by
       rw[Addr.add_lit,hWc,hW1,World.cell?_setCells_out b _ _ _ _ (fun h _=>absurd h hvb)]
       exact hvs j v hj)
     (fun j hj=>by rw[hWc,Nat.add_assoc]; exact hsp1 _ (by omega)) (fun j hj=>by rw[hWf,hW1,World.frozen?_setCells,Nat.add_assoc]; exact hfz _ (by omega)) h1v
   rw[mn2] at this
   exact this
 rw[← hW1] at hcp1
 clear q1 q2 q3 q4 hdl mn1 mn2 hcs hsp hfz hvs hsp1
 obtain ⟨_,_,FG⟩:=L.f22
 go_enter FG,Body2.n22_ntmps ρ
 go_wp2_with (simp only[hov])
 go_region_law_o (refine step_copy_runI rfl _ _ (ρ.t 24) (ρ.t 24) rfl _ _ (by simp[Act.eval,Act.put]) (by simp[Act.eval,Act.put]) (hcp1 _ _ _) ?_)
 go_wp2_with (at_builtin; refine wpList_copy_runI _ rfl _ _ (ρ.t 24) (ρ.t 24) rfl _ _ rfl rfl (hcp2 _ (fun _=>rfl) (fun _=>rfl) _ _) ?_)
 go_ret
 first | exact ⟨rfl,rfl⟩ | exact ⟨rfl,by rw[hW1]⟩
set_option maxHeartbeats 4000000 in
set_option maxRecDepth 100000 in
theorem xM (L:InsL P ρ) (K:Nat) (a9:Bool) (ha9:∀ w,(isAgg (ρ.t 9)).run P w = .ok a9 w) (z9:∀ w,(Go.sizeOf (ρ.t 9)).run P w = .ok K w) (base:Option Addr) (n c vb voff m vc:Nat) (w w1:World) (u:Value) (hm:0<m) (hnc:n≤c)
   (hrun:∀ ty,(Builtin.append_ #[(ρ.t 24),(ρ.t 24)] ty #[.slice base n c,.slice (some ⟨vb,voff,none⟩) m vc]).run P w = .ok u w1) (hb:base=none→n=0) :
   Calls P (ρ.f 22) #[.slice base n c,.int .i64 n,.slice (some ⟨vb,voff,none⟩) m vc] w fun e w'=>e = .returned u∧w'=w1:=by
 have t0:=L.t0; have a0:=L.a0; have z0:=L.z0; have v0:=L.v0; have t3:=L.t3; have a3:=L.a3; have z3:=L.z3; have v3:=L.v3; have t4:=L.t4; have a4:=L.a4; have z4:=L.z4; have v4:=L.v4; have t24:=L.t24; have a24:=L.a24; have z24:=L.z24; have v24:=L.v24
 have u0:=run_underlying L.t0; have u3:=run_underlying L.t3; have u4:=run_underlying L.t4; have u24:=run_underlying L.t24
 have mixed:=L.mixed
 have hz1:¬ ((m:Int)=0):=by omega
 obtain ⟨_,_,FG⟩:=L.f22
 cases base with
 | none =>
   have h0:=hb rfl
   subst h0
   go_enter FG,Body2.n22_ntmps ρ
   go_wp2_with (at_builtin; refine Lib.wpList_append_run _ rfl _ _ _ _ rfl _ _ rfl rfl _ _ (hrun _) ?_)
   go_ret
   exact ⟨rfl,rfl⟩
 | some a =>
   obtain ⟨ab,ao,asp⟩:=a
   go_enter FG,Body2.n22_ntmps ρ
   go_wp2_with (at_builtin; refine Lib.wpList_append_run _ rfl _ _ _ _ rfl _ _ rfl rfl _ _ (hrun _) ?_)
   all_goals (go_ret; exact ⟨rfl,rfl⟩)
set_option maxHeartbeats 4000000 in
set_option maxRecDepth 100000 in
theorem tN (L:InsL P ρ) (K bytes:Nat) (hK:0<K) (a9:Bool) (ha9:∀ w,(isAgg (ρ.t 9)).run P w = .ok a9 w) (z9:∀ w,(Go.sizeOf (ρ.t 9)).run P w = .ok K w) (i0:TypeInfo) (zv:Value) (hi0:P.info? (ρ.t 9)=some i0) (hz0:i0.zero=some zv) (hzs:i0.size=K) (hzb:i0.bytes=bytes) (hb0:bytes≠0) (hzc:zv.cells.size=K)
   (b off n c i vb voff m vc:Nat) (cs vs:List Value) (w:World) (hi:i<n) (hm:0<m) (hnc:n≤c) (hroom:c<n+m) (hbig:(n+m)*bytes≤140737488355328) (hn63:n+m≤140737488355328) (hbw:b<w.heap.size) (hvw:vb<w.heap.size)
   (hcl:cs.length=n*K) (hvl:vs.length=m*K)
   (hcs:∀ j v,cs[j]? = some v→w.cell? ⟨b,off+j,none⟩=some v)
   (hvs:∀ j v,vs[j]? = some v→w.cell? ⟨vb,voff+j,none⟩=some v) (h1c:∀ v∈cs,v.oneCell'=true) (h1v:∀ v∈vs,v.oneCell'=true) :
   Calls P (ρ.f 22) #[.slice (some ⟨b,off,none⟩) n c,.int .i64 i,.slice (some ⟨vb,voff,none⟩) m vc] w fun e w' =>
     e = .returned (.slice (some ⟨w.heap.size,0,none⟩) (n+m) (grownCap w (n+m) c (ρ.t 9))) ∧
     w'=(((w.alloc (.cells ((cs.take (i*K)).toArray++Builtin.zeroCells zv.cells (n+m-i)++Builtin.zeroCells zv.cells (grownCap w (n+m) c (ρ.t 9)-(n+m))) (ρ.t 9))).drew.setCells w.heap.size (i*K) vs).drew).setCells w.heap.size ((i+m)*K) (cs.drop (i*K)):=by
 have t0:=L.t0; have a0:=L.a0; have z0:=L.z0; have v0:=L.v0; have t3:=L.t3; have a3:=L.a3; have z3:=L.z3; have v3:=L.v3; have t4:=L.t4; have a4:=L.a4; have z4:=L.z4; have v4:=L.v4; have t24:=L.t24; have a24:=L.a24; have z24:=L.z24; have v24:=L.v24
 have u0:=run_underlying L.t0; have u3:=run_underlying L.t3; have u4:=run_underlying L.t4; have u24:=run_underlying L.t24
 have mixed:=L.mixed
 have hz1:¬ ((m:Int)=0):=by omega
 have hz2:¬ ((i:Int)=(n:Int)):=by omega
 have hz3:(c:Int)<(n:Int)+(m:Int):=by omega
 have hsz:(P.info? (ρ.t 9)).map (·.size)=some K:=by rw[hi0]; simp[hzs]
 have hkk:(n:Int)+(m:Int)-(i:Int)=((n+m-i:Nat):Int):=by omega
 have hik:i+(n+m-i)=n+m:=by omega
 have q1:(n+m)*K=n*K+m*K:=Nat.add_mul ..
 have q2:(i+m)*K=i*K+m*K:=Nat.add_mul ..
 have q3:i*K≤n*K:=Nat.mul_le_mul_right _ (by omega)
 have q4:(n-i)*K=n*K-i*K:=Nat.sub_mul ..
 have hold:(Builtin.firstCells i0.size i (.slice (some ⟨b,off,none⟩) i c)).run P w.drew = .ok (cs.take (i*K)).toArray w.drew:=by
   rw[hzs]
   exact run_firstCells_some w.drew K i ⟨b,off,none⟩ i c (cs.take (i*K)) (by rw[List.length_take]; omega) (fun j v hj=>by
     rw[Addr.add_lit]
     rw[List.getElem?_take] at hj
     split at hj
     · exact hcs j v hj
     · cases hj)
 have hrz : ∀ ty, (Builtin.append_ #[(ρ.t 24), (ρ.t 3)] ty #[.slice (some ⟨b, off, none⟩) i c, .int .i64 ((n : Int) + (m : Int) - (i : Int))]).run P w =
     .ok (.slice (some ⟨w.heap.size,0,none⟩) (n+m) (grownCap w (n+m) c (ρ.t 9))) (w.drew.alloc (.cells ((cs.take (i*K)).toArray++Builtin.zeroCells zv.cells (n+m-i)++Builtin.zeroCells zv.cells (grownCap w (n+m) c (ρ.t 9)-(n+m))) (ρ.t 9))):=fun ty=>by
   have h:=Lib.run_append_grow_zeros w (ρ.t 24) (ρ.t 3) ty (ρ.t 9) i0 _ .i64 .i64 L.t24 L.t3 hi0 hz0 (some ⟨b,off,none⟩) i c (cs.take (i*K)) hold (n+m-i) (by omega) (by omega) (by omega) (by omega) (by rw[hzb]; have:=Nat.mul_le_mul_right bytes (show n+m-i≤n+m by omega); omega) (by rw[hzb,hik]; exact growslice_fits hroom hbig)
   rw[hik] at h
   rw[hkk]
   exact h
 obtain ⟨G,hG⟩:∃ G,G=grownCap w (n+m) c (ρ.t 9):=⟨_,rfl⟩
 obtain ⟨ROW,hROW⟩:∃ ROW:Array Value,ROW=(cs.take (i*K)).toArray++Builtin.zeroCells zv.cells (n+m-i)++Builtin.zeroCells zv.cells (G-(n+m)):=⟨_,rfl⟩
 rw[← hG] at hrz ⊢
 rw[← hROW] at hrz ⊢
 have q5:(n+m-i)*K=(n+m)*K-i*K:=Nat.sub_mul ..
 have hRl:(n+m)*K≤ROW.size:=by
   rw[hROW]
   simp only[Array.size_append,List.size_toArray,List.length_take,bi,hzc]
   omega
 obtain ⟨W1,hW1⟩:∃ W1,W1=w.drew.alloc (.cells ROW (ρ.t 9)):=⟨_,rfl⟩
 rw[← hW1] at hrz
 have hN:∀ j,j<(n+m)*K→(W1.cell? ⟨w.heap.size,j,none⟩).isSome=true:=fun j hj=>by
   rw[hW1,World.cell?_alloc_at (w:=w.drew) ROW _ w.heap.size j rfl,Array.getElem?_eq_getElem (by omega)]; rfl
 have hNf:∀ j,W1.frozen? ⟨w.heap.size,j,none⟩=false:=fun j=>by rw[hW1]; exact World.frozen?_alloc_at (w:=w.drew) ROW _ w.heap.size j rfl
 have hOb:∀ j v,w.cell? ⟨b,j,none⟩=some v→W1.cell? ⟨b,j,none⟩=some v:=fun j v h=>by rw[hW1,World.cell?_alloc_past (w:=w.drew) _ b j hbw]; exact h
 have hOv:∀ j v,w.cell? ⟨vb,j,none⟩=some v→W1.cell? ⟨vb,j,none⟩=some v:=fun j v h=>by rw[hW1,World.cell?_alloc_past (w:=w.drew) _ vb j hvw]; exact h
 have mn2:Nat.min m (n+m-i)=m:=by simp only[Nat.min_def]; split<;>omega
 have hcpA:∀ (W:World),(∀ x,W.cell? x=W1.cell? x)→(∀ x,W.frozen? x=W1.frozen? x)→∀ ty dc,(Builtin.copy_ #[(ρ.t 24),(ρ.t 24)] ty #[.slice (some ⟨w.heap.size,i*K,none⟩) (n+m-i) dc,.slice (some ⟨vb,voff,none⟩) m vc]).run P W = .ok (goInt (m:Nat)) (W.setCells w.heap.size (i*K) vs):=fun W hWc hWf ty dc=>by
   have:=wi (P:=P) W _ (ρ.t 24) ty (ρ.t 9) w.heap.size (i*K) (n+m-i) dc ⟨vb,voff,none⟩ m vc K vs L.t24 hsz (by rw[hvl,mn2])
     (fun j v hj=>by rw[Addr.add_lit,hWc]; exact hOv _ v (hvs j v hj))
     (fun j hj=>by rw[hWc]; exact hN _ (by omega)) (fun j hj=>by rw[hWf]; exact hNf _) h1v
   rw[mn2] at this
   exact this
 have hGn:n+m≤G:=by rw[hG]; exact grownCap_ge w _ _ _
 have hG63:G≤9223372036854775807:=by
   have:=grownCap_le_maxLen w (n+m) c (ρ.t 9) (by unfold maxLen; omega)
   rw[← hG] at this
   unfold maxLen at this
   omega
 have hGi:¬ (G=i):=by omega
 have hGim:¬ (G=i+m):=by omega
 have hci:¬ (c=i):=by omega
 have hbN:b≠w.heap.size:=by omega
 have hdl:(cs.drop (i*K)).length=(n-i)*K:=by rw[List.length_drop,hcl,q4]
 have mn3:Nat.min (n-i) (n+m-(i+m))=n-i:=by simp only[Nat.min_def]; split<;>omega
 have hcpB:∀ (W:World),(∀ x,W.cell? x=(W1.setCells w.heap.size (i*K) vs).cell? x)→(∀ x,W.frozen? x=(W1.setCells w.heap.size (i*K) vs).frozen? x)→∀ ty dc sc,(Builtin.copy_ #[(ρ.t 24),(ρ.t 24)] ty #[.slice (some ⟨w.heap.size,(i+m)*K,none⟩) (n+m-(i+m)) dc,.slice (some ⟨b,off+i*K,none⟩) (n-i) sc]).run P W = .ok (goInt (n-i:Nat)) (W.setCells w.heap.size ((i+m)*K) (cs.drop (i*K))):=fun W hWc hWf ty dc sc=>by
   have:=wi (P:=P) W _ (ρ.t 24) ty (ρ.t 9) w.heap.size ((i+m)*K) (n+m-(i+m)) dc ⟨b,off+i*K,none⟩ (n-i) sc K (cs.drop (i*K)) L.t24 hsz (by rw[hdl,mn3])
     (fun j v hj=>by
       rw[Addr.add_lit,hWc,World.cell?_setCells_out _ _ _ _ _ (fun h _=>absurd h hbN),Nat.add_assoc]
       exact hOb _ v (hcs (i*K+j) v (by rwa [List.getElem?_drop] at hj)))
     (fun j hj=>by rw[hWc]; exact isSome_setCells _ _ _ _ (fun t ht=>hN _ (by omega)) _ (hN _ (by omega)))
     (fun j hj=>by rw[hWf,World.frozen?_setCells]; exact hNf _) (fun v hv=>h1c v (List.mem_of_mem_drop hv))
   rw[mn3] at this
   exact this
 subst hW1
 have hE1:∀ x,((w.alloc (.cells ROW (ρ.t 9))).drew).cell? x=(w.drew.alloc (.cells ROW (ρ.t 9))).cell? x:=fun x=>rfl
 have hE2:∀ x,((w.alloc (.cells ROW (ρ.t 9))).drew).frozen? x=(w.drew.alloc (.cells ROW (ρ.t 9))).frozen? x:=fun x=>rfl
 have hF1:∀ x,(((w.alloc (.cells ROW (ρ.t 9))).drew.setCells w.heap.size (i*K) vs).drew).cell? x=((w.drew.alloc (.cells ROW (ρ.t 9))).setCells w.heap.size (i*K) vs).cell? x:=fun x=>rfl
 have hF2:∀ x,(((w.alloc (.cells ROW (ρ.t 9))).drew.setCells w.heap.size (i*K) vs).drew).frozen? x=((w.drew.alloc (.cells ROW (ρ.t 9))).setCells w.heap.size (i*K) vs).frozen? x:=fun x=>rfl
 have hw1:IntKind.i64.wrap ((i:Int)+(m:Int))=(i:Int)+(m:Int):=by rw[IntKind.wrap_i64]; omega
 have hb1:(0:Int)≤(i:Int)+(m:Int):=by omega
 have hin:i≤n:=by omega
 have htn:((i:Int)+(m:Int)).toNat=i+m:=by omega
 have hb3:(i:Int)≤(n:Int):=by omega
 clear hkk hik hold hROW hG hRl q1 q2 q3 q4 q5 mn2 mn3 hdl hcs hvs hOb hOv hN hNf
 obtain ⟨_,_,FG⟩:=L.f22
 go_enter FG,Body2.n22_ntmps ρ
 go_wp2_with (first
   | (at_builtin; refine Lib.wpList_append_run _ rfl _ _ _ _ rfl _ _ rfl rfl _ _ (hrz _) ?_)
   | (at_builtin; refine wpList_copy_runI _ rfl _ _ (ρ.t 24) (ρ.t 24) rfl _ _ rfl rfl (hcpA _ hE1 hE2 _ _) ?_)
   | (at_builtin; refine wpList_copy_runI _ rfl _ _ (ρ.t 24) (ρ.t 24) rfl _ _ rfl rfl (hcpB _ (fun _=>rfl) (fun _=>rfl) _ _ _) ?_))
 go_region_law_o (refine step_copy_runI rfl _ _ (ρ.t 24) (ρ.t 24) rfl (.slice (some ⟨w.heap.size,(i+m)*K,none⟩) (n+m-(i+m)) (G-(i+m))) (.slice (some ⟨b,off+i*K,none⟩) (n-i) (c-i)) (by simp[Act.eval,Act.put]) (by simp[Act.eval,Act.put]) (hcpB _ hF1 hF2 (ρ.t 3) (G-(i+m)) (c-i)) ?_)
 go_wp2
 go_ret
 exact ⟨rfl,rfl⟩
end
end Go.EM
set_option linter.unusedSectionVars false
namespace Go.EM
open Go.Proofs Go.Shelf Go.RowKit Go.Lib Go.Sort
section
variable [Drawn] {P:Program}{w w':World}{O:Nat→Prop}{α:AM}{st:aq}
theorem Inv.adopt (hi:Inv w O α st) {r:Nat}{xs:List AVal}{vs:List Value}{n cap blk:Nat}{el:TypeId} (hn:n≠0) (hv:ax w O α n xs vs)
   (os:w'.os=w.os) (tape:w'.tape=w.tape) (out:w'.output=w.output) (size:w.heap.size≤w'.heap.size) (dr:Drawn.on→w.drawn≤w'.drawn) (old:∀ k,k<w.heap.size→k≠blk→w'.heap[k]? = w.heap[k]?)
   (hb:(∃ ri,α[r]? = some (some ri)∧ri.block=blk)∨(w.heap.size≤blk∧blk<w'.heap.size∧α.length≤r)) (hlen:xs.length≤cap)
   {c:Array Value}{fz:Nat×Nat} (hc:w'.heap[blk]? = some (.cells c el fz)) (hcs:c.size=cap*n) (hcell:∀ j,j<(flat vs).length→c[j]? = (flat vs)[j]?) (hfz:∀ o,o<c.size∨n≠1→w'.frozen? ⟨blk,o,none⟩=false) :
   Ext w α w' (α.set r none++[some ⟨blk,n,cap,xs.length⟩])∧Inv w' O (α.set r none++[some ⟨blk,n,cap,xs.length⟩]) (st.set r .dead++[.row el n xs]):=by
 have at_:∀ (k:Nat) (rj:RI),(α.set r none++[some ⟨blk,n,cap,xs.length⟩])[k]? = some (some rj)→(k<α.length∧k≠r∧α[k]? = some (some rj))∨(k=α.length∧rj=⟨blk,n,cap,xs.length⟩):=by
   intro k rj hk
   by_cases h1:k<α.length
   · rw[List.getElem?_append_left (by simpa using h1)] at hk
     by_cases h2:k=r
     · subst h2
       rw[List.getElem?_set_self h1] at hk; cases hk
     · rw[List.getElem?_set_ne (Ne.symm h2)] at hk
       exact .inl ⟨h1,h2,hk⟩
   · by_cases h3:k=α.length
     · subst h3
       rw[List.getElem?_append_right (by simp)] at hk
       simp at hk
       exact .inr ⟨rfl,hk.symm⟩
     · rw[List.getElem?_eq_none (by simp; omega)] at hk; cases hk
 have apart:∀ (k:Nat) (rj:RI),k<α.length→k≠r→α[k]? = some (some rj)→rj.block≠blk:=by
   intro k rj h1 h2 h3 e
   rcases hb with ⟨ri,h4,h5⟩ | ⟨h4,_⟩
   · exact h2 (hi.inj k r rj ri h3 h4 (by rw[e,h5]))
   · have:=(hi.fresh k rj h3).2; omega
 have hfr:¬ O blk∧blk<w'.heap.size:=by
   rcases hb with ⟨ri,h4,h5⟩ | ⟨h4,h5,_⟩
   · have:=hi.fresh r ri h4
     rw[h5] at this
     exact ⟨this.1,Nat.lt_of_lt_of_le this.2 size⟩
   · exact ⟨fun ho=>by have:=hi.bound _ ho; omega,h5⟩
 have hext:Ext w α w' (α.set r none++[some ⟨blk,n,cap,xs.length⟩]):=by
   refine ⟨os,tape,out,size,fun b hb' ho=>old b hb' fun e => ?_,by simp,fun k rj hk hx => ?_,fun b hw => ?_,dr⟩
   · subst e
     rcases hb with ⟨ri,h4,h5⟩ | ⟨h4,_⟩
     · exact ho ⟨r,ri,h4,h5⟩
     · omega
   · rcases at_ k rj hx with ⟨_,_,h3⟩ | ⟨h1,_⟩
     · exact ⟨rj,h3,Nat.le_refl _,fun _=>rfl⟩
     · omega
   · obtain ⟨k,rj,hk,rfl⟩:=hw
     rcases at_ k rj hk with ⟨_,_,h3⟩ | ⟨_,rfl⟩
     · exact .inr ⟨k,rj,h3,rfl⟩
     · rcases hb with ⟨ri,h4,h5⟩ | ⟨h4,_⟩
       · exact .inr ⟨r,ri,h4,h5⟩
       · exact .inl h4
 have hpres:Pres false w O α w' O (α.set r none++[some ⟨blk,n,cap,xs.length⟩]):=Pres.of_ext hext
 have hsame:∀ k,k<α.length→k≠r→(α.set r none++[some ⟨blk,n,cap,xs.length⟩])[k]? = α[k]? := fun k h1 h2=>by
   rw[List.getElem?_append_left (by simpa using h1),List.getElem?_set_ne (Ne.symm h2)]
 refine ⟨hext,?_,?_,?_,?_,fun b hb'=>Nat.lt_of_lt_of_le (hi.bound b hb') size⟩
 · simp[hi.len]
 · intro k g hk
   by_cases h1:k<st.length
   · rw[List.getElem?_append_left (by simpa using h1)] at hk
     by_cases h2:k=r
     · subst h2
       rw[List.getElem?_set_self h1] at hk
       cases hk
       simp only[cX]
       rw[List.getElem?_append_left (by simpa [← hi.len] using h1),List.getElem?_set_self (by rw[← hi.len]; exact h1)]
     · rw[List.getElem?_set_ne (Ne.symm h2)] at hk
       have h1':k<α.length:=by rw[← hi.len]; exact h1
       exact eK hpres (hsame k h1' h2) (fun rj hj=>old _ (hi.fresh k rj hj).2 (apart k rj h1' h2 hj)) (hi.reg k g hk)
   · by_cases h3:k=st.length
     · subst h3
       rw[List.getElem?_append_right (by simp)] at hk
       simp at hk
       subst hk
       simp only[cX]
       refine ⟨⟨blk,n,cap,xs.length⟩,by rw[List.getElem?_append_right (by simp[hi.len])]; simp[hi.len],rfl,hn,rfl,hlen,c,el,fz,hc,hcs,?_,hfz,rfl⟩
       refine row_of 0 (bC hpres hv) fun j hj => ?_
       rw[Nat.zero_add,← hcell j hj]
       simp only[World.cell?,hc]
       simp
     · rw[List.getElem?_eq_none (by simp; omega)] at hk; cases hk
 · intro a b ra rb ha hb' hab
   rcases at_ a ra ha with ⟨h1,h2,h3⟩ | ⟨h1,rfl⟩<;>rcases at_ b rb hb' with ⟨k1,k2,k3⟩ | ⟨k1,rfl⟩
   · exact hi.inj a b ra rb h3 k3 hab
   · exact absurd hab (apart a ra h1 h2 h3)
   · exact absurd hab.symm (apart b rb k1 k2 k3)
   · omega
 · intro k rj hk
   rcases at_ k rj hk with ⟨h1,h2,h3⟩ | ⟨h1,rfl⟩
   · exact ⟨(hi.fresh k rj h3).1,Nat.lt_of_lt_of_le (hi.fresh k rj h3).2 size⟩
   · exact hfr
theorem abd {r n cap k blk:Nat}{α:AM} (hr:α[r]? = some (some ⟨blk,n,cap,k⟩)) (hk:k≤cap):Rep w O α (.own r n k 0 k) (.slice (some ⟨blk,0,none⟩) k cap):=by
 simp only[Rep]
 refine ⟨?_,_,_,rfl,hk,.inr ⟨_,_,rfl⟩,fun ri h => ?_⟩
 · rcases Nat.lt_or_ge r α.length with h | h
   · exact h
   · rw[List.getElem?_eq_none h] at hr; cases hr
 · rw[hr] at h
   cases h
   exact ⟨Nat.le_refl _,fun _=>⟨rfl,by omega,by simp,fun _=>by simp⟩⟩
theorem vA {n cap k blk:Nat}{β:AM} (hk:k≤cap):Rep w O (β++[some ⟨blk,n,cap,k⟩]) (.own β.length n k 0 k) (.slice (some ⟨blk,0,none⟩) k cap):=abd (by simp) hk
end
end Go.EM
namespace Go.EM
open Go.Proofs Go.Shelf Go.RowKit Go.Lib Go.Sort
section
variable {P:Program}{ρ:Ren}
set_option maxHeartbeats 2000000 in
set_option maxRecDepth 100000 in
theorem ui (L:SlLaysE0.n41 P ρ) (size:Nat) (z23:∀ w,(Go.sizeOf (ρ.t 23)).run P w = .ok size w) (i0:TypeInfo) (hi0:P.info? (ρ.t 23)=some i0) (ad:Addr) (c:Nat) (w:World) :
   Calls P (ρ.f 41) #[.slice (some ad) 0 c] w fun e w'=>∃ b,e = .returned (.slice (some b) 0 0)∧Below w.heap.size w w':=by
 have mixed:=L.mixed; have t4:=L.t4; have a4:=L.a4; have z4:=L.z4; have v4:=L.v4; have t22:=L.t22; have a22:=L.a22; have z22:=L.z22; have v22:=L.v22
 have q22:∀ (w:World) (a:Option Addr) (n c n' c':Nat),(binOp .eql (ρ.t 22) (.slice a n c) (.slice none n' c')).run P w = .ok (.bool a.isNone) w:=fun w a n c n' c'=>Lib.run_eql_slice_nil w _ _ a n c n' c' L.t22
 have u22:∀ w,Sem.run P (underlying (ρ.t 22)) w = .ok (TypeDesc.slice (ρ.t 23)) w:=run_underlying t22
 have hrun:∀ (W:World) (b:Addr) ty,(Builtin.append_ #[ρ.t 22,ρ.t 22] ty #[.slice (some b) 0 0,.slice (some ad) 0 c]).run P W = .ok (.slice (some b) 0 0) W:=fun W b ty=>by
   have h:=cZ (P:=P) (w:=W) (ty:=ty) (base:=some b) (sLen:=0) (sCap:=0) (k:=0) (x:=.slice (some ad) 0 c) (new := #[]) t22 t22 (fun k=>by simp) hi0 (by simp[Builtin.lenOf]) (by simp[Builtin.firstCells,loadCells,loadCellsFrom]) (Nat.le_refl _)
   rw[h]
   simp[storeCells]
 obtain ⟨_,_,FG⟩:=L.f41
 go_enter FG,SlBodyN.n41_ntmps ρ
 go_wp2_with (at_builtin; refine Lib.wpList_append_run _ rfl _ _ _ _ rfl _ _ rfl rfl _ _ (hrun _ _ _) ?_)
 go_ret
 exact ⟨_,rfl,(Below.refl _ w).alloc (Nat.le_refl _) _⟩
end
def oh (M e:Nat):SFn:=fun args st=>match args with
 | [.nil]=>some (.nil,st)
 | [.tree _ m ys]=>match ys with
   | []=>some (.tree true 0 [],st)
   | y::r=>if m=M∧r.length+1<most then some (bf st e M (y::r)) else none
 | _=>none
def ij (M e:Nat):SFn:=fun args st=>match args with
 | [.own r n top off len, .int .i64 i, .int .i64 j] => if n = M ∧ off = 0 ∧ len = top ∧ rowTy st r = e ∧ 0 ≤ i ∧ i < j ∧ j ≤ top then
     (rowAt st r n top).map fun xs=>(.own st.length n (top-(j.toNat-i.toNat)) 0 (top-(j.toNat-i.toNat)),st.set r .dead++[.row e n (xs.take i.toNat++xs.drop j.toNat)]) else none
 | _=>none
def ey (M e:Nat):SFn:=fun args st=>match args with
 | [.own r n top off len, .int .i64 i, .tree _ m (y :: ys)] => if n = M ∧ m = M ∧ off = 0 ∧ len = top ∧ rowTy st r = e ∧ 0 ≤ i ∧ i ≤ top ∧ top + (y :: ys).length < most ∧ aA (y :: ys) = true then
     (rowAt st r n top).map fun xs=>(.own r n (top+(y::ys).length) 0 (top+(y::ys).length),st.set r (.row e n (xs.take i.toNat++(y::ys)++xs.drop i.toNat))) else none
 | [.nil,.int .i64 i,.tree _ m (y::ys)]=>if m=M∧i=0∧(y::ys).length<most then some (bf st e M (y::ys)) else none
 | [.tree true _ [],.int .i64 i,.tree _ m (y::ys)]=>if m=M∧i=0∧(y::ys).length<most then some (bf st e M (y::ys)) else none
 | _=>none
section
variable {P:Program}{G:List (Nat×AVal)}
structure ElemK (P:Program) (te M:Nat) (i0:TypeInfo) (zv:Value):Prop where
 info:P.info? te=some i0
 zero:i0.zero=some zv
 size:i0.size=M
 cells:zv.cells.size=M
 bytes:i0.bytes≤16384
 bytes0:i0.bytes≠0
 one:∀ u∈zv.cells,u.oneCell'=true
 pos:0<M
theorem ElemK.zeros {te M:Nat}{i0:TypeInfo}{zv:Value} (h:ElemK P te M i0 zv) (k:Nat):∀ u∈(Builtin.zeroCells zv.cells k).toList,u.oneCell'=true:=by
 intro u hu
 simp only[Builtin.zeroCells,Array.toList_map,List.mem_map] at hu
 obtain ⟨x,_,rfl⟩:=hu
 rcases Nat.lt_or_ge (x%zv.cells.size) zv.cells.size with hlt | hge
 · have:zv.cells[x%zv.cells.size]! = zv.cells[x%zv.cells.size]:=getElem!_pos ..
   first
     | exact h.one _ (by simp[hlt])
     | (rw[this]; exact h.one _ (Array.getElem_mem _))
 · have:=Nat.mod_lt x (show 0<zv.cells.size by rw[h.cells]; exact h.pos)
   omega
end
section
variable [Drawn] {w w':World}{O:Nat→Prop}{α:AM}{st:aq}
end
section
variable {P:Program}{G:List (Nat×AVal)}{ρ:Ren}
theorem pR [Drawn] (L:SlLaysE0.n45 P ρ) {M:Nat}{i0:TypeInfo}{zv:Value} (hE:ElemK P (ρ.t 23) M i0 zv) (a23:Bool) (ha23:∀ w,(isAgg (ρ.t 23)).run P w = .ok a23 w) (z23:∀ w,(Go.sizeOf (ρ.t 23)).run P w = .ok M w) (v23:∀ w,(zeroValue (ρ.t 23)).run P w = .ok zv w) (h0:Goes P (ρ.f 45)):bL P G (ρ.f 45) (ij M (ρ.t 23)):=by
 refine ⟨h0,fun xs st r st' hF w O α vs hi hG hv => ?_⟩
 unfold ij at hF
 split at hF
 · rename_i r n top off len i j
   split at hF
   · rename_i hc
     obtain ⟨rfl,rfl,rfl,hty,hi0,hij,hjt⟩:=hc
     rw[Option.map_eq_some_iff] at hF
     obtain ⟨ys,hrow,hF⟩:=hF
     cases hF
     simp only[RepL] at hv
     obtain ⟨v,vs,rfl,hx,u1,us1,rfl,h1,u2,us2,rfl,h2,rfl⟩:=hv
     simp only[Rep] at hx h1 h2
     subst h1 h2
     obtain ⟨ri,g1,g2,g3,g4,g5,g6,c,el,fz,g7,g8,g9,g10,g11⟩:=hi.alive hrow
     obtain ⟨hrl,a,cap,rfl,k1,k2,k3⟩:=hx
     obtain ⟨q1,q2,q3,q4⟩:=(k3 ri g1).2 g4
     rw[Nat.sub_zero] at q3
     subst q3
     obtain ⟨i,rfl⟩:∃ k:Nat,i=(k:Int):=⟨i.toNat,by omega⟩
     obtain ⟨j,rfl⟩:∃ k:Nat,j=(k:Int):=⟨j.toNat,by omega⟩
     simp only[Int.toNat_natCast] at *
     have ha:=q4 (by omega)
     rw[Nat.zero_mul] at ha
     subst ha
     obtain ⟨us,hus,hcell⟩:=fh 0 g9
     have hfl:=aM hus
     rw[g5] at hfl
     have hel:el=ρ.t 23:=by simpa [rowTy,g11] using hty
     subst hel
     have hjK:j*n≤len*n:=Nat.mul_le_mul_right _ (by omega)
     have hiK:i*n≤j*n:=Nat.mul_le_mul_right _ (by omega)
     have hcK:len*n≤ri.cap*n:=Nat.mul_le_mul_right _ (by omega)
     have hsub:(len-j)*n=len*n-j*n:=Nat.sub_mul ..
     have hadd:(i+(len-j))*n=i*n+(len-j)*n:=Nat.add_mul ..
     have hjiK:(j-i)*n=j*n-i*n:=Nat.sub_mul ..
     refine (ya L n hE.pos a23 ha23 z23 zv v23 hE.cells i0 hE.info hE.size ri.block 0 ri.cap i j len (flat us) w hfl (hE.zeros _) (hE.zeros _) (fun t u ht=>by
       have hlt:t<(flat us).length:=by
         rcases Nat.lt_or_ge t (flat us).length with h | h
         · exact h
         · rw[List.getElem?_eq_none h] at ht; cases ht
       rw[hcell t hlt,ht]) (fun t ht=>by rw[Nat.zero_add]; exact g10 t (.inl (by omega))) (cO hus) (by omega) (by omega) (by omega)).mono ?_
     rintro e w' ⟨rfl,hw⟩
     simp only[Nat.zero_add] at hw
     have hzl:(Builtin.zeroCells zv.cells (j-i)).toList.length=(j-i)*n:=by rw[Array.length_toList,bi,hE.cells]
     have hdl:((flat us).drop (j*n)).length=(len-j)*n:=by rw[List.length_drop,hfl,hsub]
     have g7':w.drew.heap[ri.block]? = some (.cells c (ρ.t 23) fz):=g7
     obtain ⟨c1,e1,e2⟩:=cm (vs:=(flat us).drop (j*n)) (o:=i*n) g7' (by omega)
     obtain ⟨c2,e3,e4⟩:=cm (vs:=(Builtin.zeroCells zv.cells (j-i)).toList) (o:=(i+(len-j))*n) e1 (by omega)
     obtain ⟨r1,r2,r3,r4,r5,r6⟩:=bQ (b:=ri.block) ((flat us).drop (j*n)) (i*n) w.drew
     obtain ⟨t1,t2,t3,t4,t5,t6⟩:=bQ (b:=ri.block) (Builtin.zeroCells zv.cells (j-i)).toList ((i+(len-j))*n) (w.drew.setCells ri.block (i*n) ((flat us).drop (j*n)))
     rw[← hw] at e3 t1 t2 t3 t4 t5 t6
     have hv':=bD (dV i hus) (eT j hus)
     have hlen:(ys.take i++ys.drop j).length=len-(j-i):=by rw[List.length_append,List.length_take,List.length_drop,g5]; omega
     obtain ⟨s1,s2⟩:=ec i hus
     obtain ⟨s3,s4⟩:=ec j hus
     have hfv:flat (us.take i++us.drop j)=(flat us).take (i*n)++(flat us).drop (j*n):=by rw[cB,s1,s4]
     obtain ⟨x1,x2⟩:=hi.adopt (w':=w') (r:=r) (cap:=ri.cap) (blk:=ri.block) (el:=ρ.t 23) g3 hv' (by rw[t3,r3]; rfl) (by rw[t4,r4]; rfl) (by rw[t5,r5]; rfl) (by rw[t2,r2]; exact Nat.le_refl _) (fun _=>by rw[t6,r6]; exact Nat.le_succ _)
       (fun k _ hk=>by rw[t1 k hk,r1 k hk]; rfl) (.inl ⟨ri,g1,rfl⟩) (by rw[hlen]; omega) e3 (by rw[e4,e2,g8]) (fun t ht=>by
         rw[hfv] at ht ⊢
         rw[List.length_append,List.length_take,hdl,hfl] at ht
         rw[← cell_of e3,hw]
         rw[World.cell?_setCells_out _ _ _ _ _ (fun _ _=>.inl (by show t<_; omega))]
         by_cases hlt:t<i*n
         · rw[World.cell?_setCells_out _ _ _ _ _ (fun _ _=>.inl (by show t<_; omega)),List.getElem?_append_left (by rw[List.length_take,hfl]; omega),List.getElem?_take_of_lt hlt]
           have:=hcell t (by omega)
           rw[Nat.zero_add] at this
           exact this
         · have := World.cell?_setCells_in ri.block ((flat us).drop (j * n)) (i * n) w.drew (fun k hk => by
             rw[cell_of g7',Array.getElem?_eq_getElem (by omega)]; rfl) (t-i*n) (by omega)
           rw[show i*n+(t-i*n)=t by omega] at this
           rw[this,List.getElem?_append_right (by rw[List.length_take,hfl]; omega),List.length_take,hfl,show min (i*n) (len*n)=i*n by omega]
           exact (List.getElem?_eq_getElem (by omega)).symm)
       (fun o ho=>by
         rw[hw,World.frozen?_setCells,World.frozen?_setCells]
         exact g10 o (by rw[e4,e2] at ho; exact ho))
     refine ⟨_,_,rfl,x1,x2,?_⟩
     rw[hlen]
     have:=vA (w:=w') (O:=O) (β:=α.set r none) (n:=n) (blk:=ri.block) (k:=len-(j-i)) (cap:=ri.cap) (by omega)
     rw[List.length_set,← hi.len] at this
     exact this
   · cases hF
 · cases hF
theorem ajY {t te M:Nat}{i0:TypeInfo}{zv:Value} (hE:ElemK P te M i0 zv) (ht:P.underlying t=some (.slice te)):cG P t=some (M,dW zv)∧bp P t=te:=by
 refine ⟨?_,by unfold bp; rw[ht]⟩
 unfold cG
 rw[ht]
 simp only[hE.info,hE.zero]
 rw[if_pos ⟨by rw[hE.size]; have:=hE.pos; omega,hE.bytes,hE.bytes0,by rw[hE.size,hE.cells]⟩,hE.size]
theorem adD {w:World}{b o:Nat}{u:Value} (h:w.cell? ⟨b,o,none⟩=some u):∃ t k,w.shape? b=some (t,k+1):=by
 unfold World.cell? at h
 unfold World.shape?
 simp only at h
 split at h
 · rename_i c el fz hb
   have h:c[o]? = some u:=by simpa using h
   have hlt:o<c.size:=by
     rcases Nat.lt_or_ge o c.size with h' | h'
     · exact h'
     · rw[Array.getElem?_eq_none h'] at h; cases h
   exact ⟨el,c.size-1,by simp; omega⟩
 · cases h
theorem pB [Drawn] (L:InsL P ρ) {M:Nat}{i0:TypeInfo}{zv:Value} (hE:ElemK P (ρ.t 9) M i0 zv) (hM:M≠1) (a9:Bool) (ha9:∀ w,(isAgg (ρ.t 9)).run P w = .ok a9 w) (z9:∀ w,(Go.sizeOf (ρ.t 9)).run P w = .ok M w) (h0:Goes P (ρ.f 22)):bL P G (ρ.f 22) (ey M (ρ.t 9)):=by
 obtain ⟨hei,het⟩:=ajY hE L.t24
 have happ : ∀ {w : World} {O : Nat → Prop} {α : AM} {st : aq} {x y v : AVal} {st' : aq} {base : Option Addr} {n c vb voff m vc : Nat}, Inv w O α st → cD P [ρ.t 24, ρ.t 24] x y st = some (v, st') → Rep w O α x (.slice base n c) → Rep w O α y (.slice (some ⟨vb, voff, none⟩) m vc) → 0 < m → n ≤ c → (base = none → n = 0) →
     Calls P (ρ.f 22) #[.slice base n c,.int .i64 n,.slice (some ⟨vb,voff,none⟩) m vc] w fun e w'=>∃ v' α',e = .returned v'∧Ext w α w' α'∧Inv w' O α' st'∧Rep w' O α' v v':=by
   intro w O α st x y v st' base n c vb voff m vc hi h hx hy hm hnc hb
   obtain ⟨u,w1,α1,hr,g1,g2,g3⟩:=mi (ty:=0) hi h hx hy
   refine (xM L M a9 ha9 z9 base n c vb voff m vc w w1 u hm hnc (fun ty=>hr) hb).mono ?_
   rintro e w' ⟨rfl,rfl⟩
   exact ⟨u,α1,rfl,g1,g2,g3⟩
 have hfresh : ∀ {w : World} {O : Nat → Prop} {α : AM} {st : aq} {x : AVal} {base : Option Addr} {fl : Bool} {m : Nat} {y : AVal} {ys : List AVal} {vb voff vc : Nat}, Inv w O α st → (x = .nil ∨ ∃ k, x = .tree true k []) → Rep w O α x (.slice base 0 0) → m = M → (y :: ys).length < most → Rep w O α (.tree fl m (y :: ys)) (.slice (some ⟨vb, voff, none⟩) (y :: ys).length vc) →
     Calls P (ρ.f 22) #[.slice base 0 0,.int .i64 0,.slice (some ⟨vb,voff,none⟩) (y::ys).length vc] w fun e w'=>∃ v' α',e = .returned v'∧Ext w α w' α'∧Inv w' O α' (bf st (ρ.t 9) M (y::ys)).2∧Rep w' O α' (bf st (ρ.t 9) M (y::ys)).1 v':=by
   intro w O α st x base fl m y ys vb voff vc hi hx hxr hm hlt hy
   subst hm
   refine happ (x:=x) (y:=.tree fl m (y::ys)) hi ?_ hxr hy (by simp) (Nat.le_refl _) (fun _=>rfl)
   unfold cD
   simp only[hei,L.t24,bw]
   rw[if_pos (.inl trivial)]
   simp only[Option.bind_some]
   unfold dE
   simp only[hei,het,List.isEmpty_cons,cond_false]
   rcases hx with rfl | ⟨k,rfl⟩
   · simp only[if_pos hlt]
   · simp only[List.length_nil,or_true,if_true,Nat.zero_add,List.nil_append,if_pos hlt]
 refine ⟨h0,fun xs st r st' hF w O α vs hi hG hv => ?_⟩
 unfold ey at hF
 split at hF
 · rename_i r n top off len i fl m y ys
   split at hF
   · rename_i hc
     obtain ⟨hnM,hmM,rfl,rfl,hty,hi0,hit,hmost,hcl⟩:=hc
     subst hmM
     subst hnM
     rw[Option.map_eq_some_iff] at hF
     obtain ⟨zs,hrow,hF⟩:=hF
     cases hF
     simp only[RepL] at hv
     obtain ⟨v,vs,rfl,hx,u1,us1,rfl,h1,u2,us2,rfl,h2,rfl⟩:=hv
     have hx':=hx
     have h2':=h2
     simp only[Rep] at hx h1 h2
     subst h1
     obtain ⟨ri,g1,g2,g3,g4,g5,g6,c,el,fz,g7,g8,g9,g10,g11⟩:=hi.alive hrow
     obtain ⟨hrl,a,cap,rfl,k1,k2,k3⟩:=hx
     obtain ⟨q1,q2,q3,q4⟩:=(k3 ri g1).2 g4
     rw[Nat.sub_zero] at q3
     subst q3
     obtain ⟨va,vc,rfl,w1,_,w2⟩:=h2
     rcases w2 with w2 | ⟨_,vb,voff,rfl,hO,hOw,hvrow⟩
     · cases w2
     obtain ⟨i,rfl⟩:∃ k:Nat,i=(k:Int):=⟨i.toNat,by omega⟩
     simp only[Int.toNat_natCast] at *
     obtain ⟨us,hus,hcell⟩:=fh 0 g9
     obtain ⟨ws,hws,hvcell⟩:=fh voff hvrow
     have hfl:=aM hus
     rw[g5] at hfl
     have hwl:=aM hws
     have hel:el=ρ.t 9:=by simpa [rowTy,g11] using hty
     subst hel
     by_cases hend:i=len
     · subst hend
       have hxs:zs.take i++(y::ys)++zs.drop i=zs++(y::ys):=by rw[List.take_of_length_le (by omega),List.drop_eq_nil_of_le (by omega),List.append_nil]
       rw[hxs]
       refine happ hi ?_ hx' h2' (by simp) k1 (fun h=>by
         subst h
         rcases k2 with k2 | ⟨_,_,k2⟩
         · exact k2
         · cases k2)
       unfold cD
       simp only[hei,L.t24,bw]
       rw[if_pos (.inl trivial)]
       simp only[Option.bind_some]
       unfold dE
       simp only[hei,het,List.isEmpty_cons,cond_false]
       rw[if_pos ⟨trivial,trivial,by simp[rowTy,g11]⟩,hrow]
       simp only[if_pos hmost,if_true]
     · have hil:i<len:=by omega
       have ha:=q4 (by omega)
       rw[Nat.zero_mul] at ha
       subst ha
       have hvb:vb≠ri.block:=fun e=>hOw ⟨r,ri,g1,e.symm⟩
       obtain ⟨u0,hu0⟩:=mE g3 hvrow
       obtain ⟨tA,kA,hsa⟩:=adD hu0
       have hvw:=block_lt hu0
       have hbw:=(hi.fresh r ri g1).2
       have hkm:0<(y::ys).length:=by simp
       have p1:(len+(y::ys).length)*n=len*n+(y::ys).length*n:=Nat.add_mul ..
       have p2:(i+(y::ys).length)*n=i*n+(y::ys).length*n:=Nat.add_mul ..
       have p3:i*n≤len*n:=Nat.mul_le_mul_right _ (by omega)
       have hcs:∀ (j:Nat) v,(flat us)[j]? = some v→w.cell? ⟨ri.block,0+j,none⟩=some v:=fun t u ht=>by
         have hlt:t<(flat us).length:=by
           rcases Nat.lt_or_ge t (flat us).length with h | h
           · exact h
           · rw[List.getElem?_eq_none h] at ht; cases ht
         rw[hcell t hlt,ht]
       have hvs:∀ (j:Nat) v,(flat ws)[j]? = some v→w.cell? ⟨vb,voff+j,none⟩=some v:=fun t u ht=>by
         have hlt:t<(flat ws).length:=by
           rcases Nat.lt_or_ge t (flat ws).length with h | h
           · exact h
           · rw[List.getElem?_eq_none h] at ht; cases ht
         rw[hvcell t hlt,ht]
       have hvv:=bD (bD (dV i hus) hws) (eT i hus)
       obtain ⟨s1,s2⟩:=ec i hus
       have hfv:flat (us.take i++ws++us.drop i)=(flat us).take (i*n)++flat ws++(flat us).drop (i*n):=by rw[cB,cB,s1,s2]
       have hlen:(zs.take i++(y::ys)++zs.drop i).length=len+(y::ys).length:=by rw[List.length_append,List.length_append,List.length_take,List.length_drop,g5]; omega
       have hdl:((flat us).drop (i*n)).length=len*n-i*n:=by rw[List.length_drop,hfl]
       have hm64:len+(y::ys).length≤140737488355328:=by unfold most at hmost; omega
       have hα:∀ ri',(α.set r (some ri'))[r]? = some (some ri'):=fun ri'=>List.getElem?_set_self hrl
       have get:∀ (t:Nat),t<(i*n)+(y::ys).length*n+(len*n-i*n)→((flat us).take (i*n)++flat ws++(flat us).drop (i*n))[t]? = if t<i*n then (flat us)[t]? else if t<i*n+(y::ys).length*n then (flat ws)[t-i*n]? else ((flat us).drop (i*n))[t-(i*n+(y::ys).length*n)]? := by
         intro t ht
         have e1:((flat us).take (i*n)).length=i*n:=by rw[List.length_take,hfl]; omega
         by_cases c1:t<i*n
         · rw[if_pos c1,List.append_assoc,List.getElem?_append_left (by omega),List.getElem?_take_of_lt c1]
         · rw[if_neg c1]
           by_cases c2:t<i*n+(y::ys).length*n
           · rw[if_pos c2,List.append_assoc,List.getElem?_append_right (by omega),List.getElem?_append_left (by omega),e1]
           · rw[if_neg c2,List.getElem?_append_right (by rw[List.length_append]; omega),List.length_append,e1,hwl]
       by_cases hroom:len+(y::ys).length≤ri.cap
       · have p4:(len+(y::ys).length)*n≤ri.cap*n:=Nat.mul_le_mul_right _ hroom
         refine (rz L n hE.pos a9 ha9 z9 (by rw[hE.info]; simp[hE.size]) ri.block 0 len ri.cap i vb voff (y::ys).length vc (flat us) (flat ws) w hil hkm hroom hvb (by omega) hfl hwl hcs
           (fun j hj=>by rw[Nat.zero_add,cell_of g7,Array.getElem?_eq_getElem (by omega)]; rfl) (fun j hj=>by rw[Nat.zero_add]; exact g10 j (.inr hM)) hvs (cO hus) (cO hws)
           (fun o lb cb=>tw L n z9 w vb voff ri.block o _ vc lb cb tA (ρ.t 9) kA c.size hvb hsa (by unfold World.shape?; rw[g7]) (fun o=>g10 o (.inr hM)))).mono ?_
         rintro e w' ⟨rfl,hw⟩
         simp only[Nat.zero_add] at hw
         have g7':w.drew.heap[ri.block]? = some (.cells c (ρ.t 9) fz):=g7
         obtain ⟨c1,e1,e2⟩:=cm (vs:=(flat us).drop (i*n)) (o:=(i+(y::ys).length)*n) g7' (by omega)
         obtain ⟨c2,e3,e4⟩:=cm (vs:=flat ws) (o:=i*n) e1 (by omega)
         obtain ⟨r1,r2,r3,r4,r5,r6⟩:=bQ (b:=ri.block) ((flat us).drop (i*n)) ((i+(y::ys).length)*n) w.drew
         obtain ⟨t1,t2,t3,t4,t5,t6⟩:=bQ (b:=ri.block) (flat ws) (i*n) (w.drew.setCells ri.block ((i+(y::ys).length)*n) ((flat us).drop (i*n)))
         rw[← hw] at e3 t1 t2 t3 t4 t5 t6
         have hsome:∀ k,k<c.size→(w.drew.cell? ⟨ri.block,k,none⟩).isSome=true:=fun k hk=>by rw[cell_of g7',Array.getElem?_eq_getElem hk]; rfl
         obtain ⟨x1,x2⟩:=hi.rerow (w':=w') g1 (cap:=ri.cap) (blk:=ri.block) (el:=ρ.t 9) g3 hvv (by rw[t3,r3]; rfl) (by rw[t4,r4]; rfl) (by rw[t5,r5]; rfl) (by rw[t2,r2]; exact Nat.le_refl _) (by rw[t6,r6]; exact Nat.le_succ _)
           (fun k _ hk=>by rw[t1 k hk,r1 k hk]; rfl) (.inl rfl) (by rw[hlen]; exact hroom) (by rw[hlen,g4]; omega) (fun h=>by rw[hlen,g4] at h; omega) e3 (by rw[e4,e2,g8]) (fun t ht=>by
             rw[hfv] at ht ⊢
             rw[List.length_append,List.length_append,List.length_take,hfl,hwl,hdl,Nat.min_eq_left p3] at ht
             rw[← cell_of e3,hw,get t ht]
             by_cases c1:t<i*n
             · rw[if_pos c1,World.cell?_setCells_out _ _ _ _ _ (fun _ _=>.inl (by show t<_; omega)),World.cell?_setCells_out _ _ _ _ _ (fun _ _=>.inl (by show t<_; omega))]
               have:=hcell t (by omega)
               rw[Nat.zero_add] at this
               exact this
             · rw[if_neg c1]
               by_cases c2:t<i*n+(y::ys).length*n
               · have:=World.cell?_setCells_in ri.block (flat ws) (i*n) (w.drew.setCells ri.block ((i+(y::ys).length)*n) ((flat us).drop (i*n))) (fun k hk=>isSome_setCells _ _ _ _ (fun k' hk'=>hsome _ (by omega)) _ (hsome _ (by omega))) (t-i*n) (by omega)
                 rw[show i*n+(t-i*n)=t by omega] at this
                 rw[if_pos c2,this]
                 exact (List.getElem?_eq_getElem (by omega)).symm
               · have:=World.cell?_setCells_in ri.block ((flat us).drop (i*n)) ((i+(y::ys).length)*n) w.drew (fun k hk=>hsome _ (by omega)) (t-(i*n+(y::ys).length*n)) (by omega)
                 rw[p2,show i*n+(y::ys).length*n+(t-(i*n+(y::ys).length*n))=t by omega] at this
                 rw[if_neg c2,World.cell?_setCells_out _ _ _ _ _ (fun _ _=>.inr (by show _≤t; omega)),p2,this]
                 exact (List.getElem?_eq_getElem (by omega)).symm)
           (fun o ho=>by
             rw[hw,World.frozen?_setCells,World.frozen?_setCells]
             exact g10 o (.inr hM))
         refine ⟨_,_,rfl,x1,x2,?_⟩
         rw[hlen] at x1 x2 ⊢
         exact abd (hα _) hroom
       · have hb1 : (len + (y :: ys).length) * i0.bytes ≤ 140737488355328 := by
           have:(len+(y::ys).length)*i0.bytes≤4294967296*16384:=Nat.mul_le_mul (by unfold most at hmost; omega) hE.bytes
           omega
         refine (tN L n i0.bytes hE.pos a9 ha9 z9 i0 zv hE.info hE.zero hE.size rfl hE.bytes0 hE.cells ri.block 0 len ri.cap i vb voff (y::ys).length vc (flat us) (flat ws) w hil hkm (by omega) (by omega) hb1 hm64 hbw hvw hfl hwl hcs hvs (cO hus) (cO hws)).mono ?_
         rintro e w' ⟨rfl,hw⟩
         generalize hG':grownCap w (len+(y::ys).length) ri.cap (ρ.t 9)=gc at hw ⊢
         have hge:len+(y::ys).length≤gc:=by rw[← hG']; exact grownCap_ge w _ _ _
         generalize hROW:((flat us).take (i*n)).toArray++Builtin.zeroCells zv.cells (len+(y::ys).length-i)++Builtin.zeroCells zv.cells (gc-(len+(y::ys).length))=ROW at hw
         have hRs:ROW.size=gc*n:=by
           rw[← hROW]
           simp only[Array.size_append,List.size_toArray,List.length_take,bi,hE.cells,hfl]
           have z1:(len+(y::ys).length-i)*n=(len+(y::ys).length)*n-i*n:=Nat.sub_mul ..
           have z2:(gc-(len+(y::ys).length))*n=gc*n-(len+(y::ys).length)*n:=Nat.sub_mul ..
           have z3:(len+(y::ys).length)*n≤gc*n:=Nat.mul_le_mul_right _ hge
           omega
         have hgn:(len+(y::ys).length)*n≤gc*n:=Nat.mul_le_mul_right _ hge
         have h7:(w.alloc (.cells ROW (ρ.t 9))).drew.heap[w.heap.size]? = some (.cells ROW (ρ.t 9) (0,0)):=eF ROW (ρ.t 9) (0,0)
         obtain ⟨c1,e1,e2⟩:=cm (vs:=flat ws) (o:=i*n) h7 (by omega)
         have e1':((w.alloc (.cells ROW (ρ.t 9))).drew.setCells w.heap.size (i*n) (flat ws)).drew.heap[w.heap.size]? = some (.cells c1 (ρ.t 9) (0,0)):=e1
         obtain ⟨c2,e3,e4⟩:=cm (vs:=(flat us).drop (i*n)) (o:=(i+(y::ys).length)*n) e1' (by omega)
         obtain ⟨r1,r2,r3,r4,r5,r6⟩:=bQ (b:=w.heap.size) (flat ws) (i*n) (w.alloc (.cells ROW (ρ.t 9))).drew
         obtain ⟨t1,t2,t3,t4,t5,t6⟩:=bQ (b:=w.heap.size) ((flat us).drop (i*n)) ((i+(y::ys).length)*n) ((w.alloc (.cells ROW (ρ.t 9))).drew.setCells w.heap.size (i*n) (flat ws)).drew
         rw[← hw] at e3 t1 t2 t3 t4 t5 t6
         have hsome:∀ k,k<ROW.size→((w.alloc (.cells ROW (ρ.t 9))).drew.cell? ⟨w.heap.size,k,none⟩).isSome=true:=fun k hk=>by rw[cell_of h7,Array.getElem?_eq_getElem hk]; rfl
         have hq:∀ k,k<w.heap.size→(w.alloc (.cells ROW (ρ.t 9))).heap[k]? = w.heap[k]? := fun k hk=>RowKit.Below.heap_alloc w _ k hk
         obtain ⟨x1,x2⟩:=hi.rerow (w':=w') g1 (cap:=gc) (blk:=w.heap.size) (el:=ρ.t 9) g3 hvv (by rw[t3]; show World.os _=_; rw[show ∀ W:World,W.drew.os=W.os from fun _=>rfl,r3]; rfl) (by rw[t4]; show World.tape _=_; rw[show ∀ W:World,W.drew.tape=W.tape from fun _=>rfl,r4]; rfl) (by rw[t5]; show World.output _=_; rw[show ∀ W:World,W.drew.output=W.output from fun _=>rfl,r5]; rfl)
           (by rw[t2,show ∀ W:World,W.drew.heap=W.heap from fun _=>rfl,r2]; show w.heap.size≤(w.alloc _).heap.size; simp) (by rw[t6]; show _≤World.drawn _+1; rw[r6]; show _≤w.drawn+1+1; omega)
           (fun k hk _=>by rw[t1 k (by omega),show ∀ W:World,W.drew.heap=W.heap from fun _=>rfl,r1 k (by omega)]; exact hq k hk) (.inr ⟨Nat.le_refl _,by rw[t2,show ∀ W:World,W.drew.heap=W.heap from fun _=>rfl,r2]; show w.heap.size<(w.alloc _).heap.size; simp⟩) (by rw[hlen]; exact hge) (by rw[hlen,g4]; omega) (fun h=>by rw[hlen,g4] at h; omega) e3 (by rw[e4,e2,hRs]) (fun t ht=>by
             rw[hfv] at ht ⊢
             rw[List.length_append,List.length_append,List.length_take,hfl,hwl,hdl,Nat.min_eq_left p3] at ht
             rw[← cell_of e3,hw,get t ht]
             by_cases c1:t<i*n
             · rw[if_pos c1,World.cell?_setCells_out _ _ _ _ _ (fun _ _=>.inl (by show t<_; omega))]
               show World.cell? (World.setCells _ _ _ _) _=_
               rw[World.cell?_setCells_out _ _ _ _ _ (fun _ _=>.inl (by show t<_; omega)),cell_of h7,← hROW,Array.append_assoc,Array.getElem?_append_left (by rw[List.size_toArray,List.length_take,hfl]; omega)]
               rw[← Array.getElem?_toList]
               simp only[]
               exact List.getElem?_take_of_lt c1
             · rw[if_neg c1]
               by_cases c2:t<i*n+(y::ys).length*n
               · have:=World.cell?_setCells_in w.heap.size (flat ws) (i*n) (w.alloc (.cells ROW (ρ.t 9))).drew (fun k hk=>hsome _ (by omega)) (t-i*n) (by omega)
                 rw[show i*n+(t-i*n)=t by omega] at this
                 rw[if_pos c2,World.cell?_setCells_out _ _ _ _ _ (fun _ _=>.inl (by show t<_; omega))]
                 show World.cell? (World.setCells _ _ _ _) _=_
                 rw[this]
                 exact (List.getElem?_eq_getElem (by omega)).symm
               · have := World.cell?_setCells_in w.heap.size ((flat us).drop (i * n)) ((i + (y :: ys).length) * n) ((w.alloc (.cells ROW (ρ.t 9))).drew.setCells w.heap.size (i * n) (flat ws)).drew (fun k hk => by
                   show (World.cell? (World.setCells _ _ _ _) _).isSome=true
                   exact isSome_setCells _ _ _ _ (fun k' hk'=>hsome _ (by omega)) _ (hsome _ (by omega))) (t-(i*n+(y::ys).length*n)) (by omega)
                 rw[p2,show i*n+(y::ys).length*n+(t-(i*n+(y::ys).length*n))=t by omega] at this
                 rw[if_neg c2,p2,this]
                 exact (List.getElem?_eq_getElem (by omega)).symm)
           (fun o ho=>by
             simp only[World.frozen?,e3]
             simp)
         refine ⟨_,_,rfl,x1,x2,?_⟩
         rw[hlen] at x1 x2 ⊢
         exact abd (hα _) hge
   · cases hF
 · rename_i i fl m y ys
   split at hF
   · rename_i hc
     obtain ⟨rfl,rfl,hlt⟩:=hc
     cases hF
     simp only[RepL] at hv
     obtain ⟨v,vs,rfl,hx,u1,us1,rfl,h1,u2,us2,rfl,h2,rfl⟩:=hv
     have h2':=h2
     have hx':=hx
     simp only[Rep] at hx h1 h2
     subst hx h1
     obtain ⟨va,vc,rfl,w1,_,w2⟩:=h2
     rcases w2 with w2 | ⟨_,vb,voff,rfl,hO,hOw,hvrow⟩
     · cases w2
     exact hfresh hi (.inl rfl) hx' rfl hlt h2'
   · cases hF
 · rename_i k i fl m y ys
   split at hF
   · rename_i hc
     obtain ⟨rfl,rfl,hlt⟩:=hc
     cases hF
     simp only[RepL] at hv
     obtain ⟨v,vs,rfl,hx,u1,us1,rfl,h1,u2,us2,rfl,h2,rfl⟩:=hv
     have h2':=h2
     have hx':=hx
     simp only[Rep] at hx h1 h2
     subst h1
     obtain ⟨a,cap,rfl,_,hcap,_⟩:=hx
     have:=hcap trivial
     simp only[List.length_nil] at this hx'
     subst this
     obtain ⟨va,vc,rfl,w1,_,w2⟩:=h2
     rcases w2 with w2 | ⟨_,vb,voff,rfl,hO,hOw,hvrow⟩
     · cases w2
     exact hfresh hi (.inr ⟨k,rfl⟩) hx' rfl hlt h2'
   · cases hF
 · cases hF
theorem sf (L:SlLaysE0.n41 P ρ) {M:Nat}{i0:TypeInfo}{zv:Value} (hE:ElemK P (ρ.t 23) M i0 zv) (z23:∀ w,(Go.sizeOf (ρ.t 23)).run P w = .ok M w) (h0:Goes P (ρ.f 41)):bL P G (ρ.f 41) (oh M (ρ.t 23)):=by
 refine ⟨h0,fun xs st r st' hF w O α vs hi hG hv => ?_⟩
 unfold oh at hF
 split at hF
 · cases hF
   simp only[RepL,Rep] at hv
   obtain ⟨v,vs,rfl,rfl,rfl⟩:=hv
   refine (Proofs.AnyE.slices_Clone_nil L 0 0 w).mono ?_
   rintro e w' ⟨rfl,rfl⟩
   exact ⟨_,α,rfl,Ext.refl _ _,hi,by simp only[Rep]⟩
 · rename_i fl m ys
   simp only[RepL,Rep] at hv
   obtain ⟨v,vs,rfl,⟨a,cap,rfl,hle,_,hrow⟩,rfl⟩:=hv
   split at hF
   · cases hF
     cases a with
     | none =>
       refine (Proofs.AnyE.slices_Clone_nil L _ cap w).mono ?_
       rintro e w' ⟨rfl,rfl⟩
       exact ⟨_,α,rfl,Ext.refl _ _,hi,by simp only[Rep]; exact ⟨none,0,rfl,Nat.le_refl _,fun _=>rfl,.inl trivial⟩⟩
     | some ad =>
       refine (ui L M z23 i0 hE.info ad cap w).mono ?_
       rintro e w' ⟨b,rfl,hw⟩
       have hq:=fN hw
       exact ⟨_,α,rfl,hq.ext α,hq.inv hi,by simp only[Rep]; exact ⟨_,0,rfl,Nat.le_refl _,fun _=>rfl,.inl trivial⟩⟩
   · rename_i y ys _
     split at hF
     · rename_i hm
       obtain ⟨rfl,hlt⟩:=hm
       cases hF
       rcases hrow with hrow | ⟨_,b,off,rfl,hO,hOw,hrow⟩
       · cases hrow
       · obtain ⟨vs,k1,k2⟩:=fh off hrow
         have hlen:=aM k1
         have hl:ys.length+1<4294967296:=by simpa [most] using hlt
         have hsz:(y::ys).length*i0.bytes≤140737488355328:=by
           have:(y::ys).length*i0.bytes≤4294967296*16384:=Nat.mul_le_mul (by simp only[List.length_cons]; omega) hE.bytes
           omega
         refine (se L i0 zv m i0.bytes hE.info hE.zero hE.size rfl hE.cells hE.pos z23 ⟨b,off,none⟩ (y::ys).length cap (flat vs) w hlen (by simp only[List.length_cons]; unfold maxLen; omega) hsz (fun j u hj=>by
           have hj':j<(flat vs).length:=by
             rcases Nat.lt_or_ge j (flat vs).length with h | h
             · exact h
             · rw[List.getElem?_eq_none h] at hj; cases hj
           rw[Addr.add_lit,k2 j hj',hj]) (cO k1)).mono ?_
         rintro e w' ⟨v',rfl,hown,_,hw⟩
         have hq:=fN hw
         rcases hown.2 with ⟨_,h⟩ | ⟨g,cap',cur,rfl,hg,hcur,hn,_,hcs,htake⟩
         · simp at h
         · obtain ⟨x1, x2⟩ := hi.adopt (w' := w') (r := α.length) (cap := cap') (blk := g) (el := ρ.t 23) (by have := hE.pos; omega) k1 hq.os hq.tape hq.output hq.size hq.dr (fun k hk _ => hq.old k hk) (.inr ⟨hg, (by
               rcases Nat.lt_or_ge g w'.heap.size with h | h
               · exact h
               · rw[Array.getElem?_eq_none h] at hcur; cases hcur),Nat.le_refl _⟩) hn hcur hcs (fun j hj=>by
               rw[← htake,List.getElem?_take_of_lt (by rw[hlen] at hj; exact hj)]
               simp) (fun o _=>by simp only[World.frozen?,hcur]; simp)
           rw[List.set_eq_of_length_le (Nat.le_refl _)] at x1 x2
           rw[← hi.len,List.set_eq_of_length_le (Nat.le_refl _),] at x2
           refine ⟨_,_,rfl,x1,x2,?_⟩
           rw[hi.len]
           exact vA hn
     · cases hF
 · cases hF
end
end Go.EM
namespace Go.EM
open Go.Proofs Go.Shelf Go.RowKit Go.Lib Go.Sort
section
variable {P:Program}{G:List (Nat×AVal)}{ρ:Ren}
theorem iZ {te M:Nat} (h1:(P.info? te).isSome=true) (h2:((P.info? te).get h1).zero.isSome=true) (h3:Nat.beq ((P.info? te).get h1).size M=true) (h4:Nat.beq (((P.info? te).get h1).zero.get h2).cells.size M=true) (h5:Nat.ble ((P.info? te).get h1).bytes 16384=true)
   (h6:Nat.beq ((P.info? te).get h1).bytes 0=false) (h7:(((P.info? te).get h1).zero.get h2).cells.toList.all Value.oneCell'=true) (h8:Nat.ble 1 M=true):ElemK P te M ((P.info? te).get h1) (((P.info? te).get h1).zero.get h2) where
 info:=(Option.some_get h1).symm
 zero:=(Option.some_get h2).symm
 size:=Nat.eq_of_beq_eq_true h3
 cells:=Nat.eq_of_beq_eq_true h4
 bytes:=Nat.le_of_ble_eq_true h5
 bytes0:=fun e=>by rw[e] at h6; cases h6
 one:=fun u hu=>List.all_eq_true.1 h7 u (by simpa using hu)
 pos:=Nat.le_of_ble_eq_true h8
theorem ElemK.szOf {te M:Nat}{i0:TypeInfo}{zv:Value} (h:ElemK P te M i0 zv):∀ w,(Go.sizeOf te).run P w = .ok M w:=fun w=>by simp[Go.sizeOf,typeInfo,h.info,h.size]
theorem ElemK.zval {te M:Nat}{i0:TypeInfo}{zv:Value} (h:ElemK P te M i0 zv):∀ w,(zeroValue te).run P w = .ok zv w:=fun w=>by simp[zeroValue,typeInfo,h.info,h.zero]
theorem xZ [Drawn] (L:SlLaysE0.n45 P ρ) {M te f:Nat}{i0:TypeInfo}{zv:Value} (hf:ρ.f 45=f) (ht:ρ.t 23=te) (hE:ElemK P te M i0 zv) (a23:Bool) (ha23:∀ w,(isAgg te).run P w = .ok a23 w) (h0:Goes P f):bL P G f (ij M te):=by
 subst hf ht
 exact pR L hE a23 ha23 hE.szOf hE.zval h0
theorem nX [Drawn] (L:InsL P ρ) {M te f:Nat}{i0:TypeInfo}{zv:Value} (hf:ρ.f 22=f) (ht:ρ.t 9=te) (hM:Nat.beq M 1=false) (hE:ElemK P te M i0 zv) (a9:Bool) (ha9:∀ w,(isAgg te).run P w = .ok a9 w) (h0:Goes P f):bL P G f (ey M te):=by
 subst hf ht
 exact pB L hE (fun e=>by rw[e] at hM; cases hM) a9 ha9 hE.szOf h0
theorem acl (L:SlLaysE0.n41 P ρ) {M te f:Nat}{i0:TypeInfo}{zv:Value} (hf:ρ.f 41=f) (ht:ρ.t 23=te) (hE:ElemK P te M i0 zv) (h0:Goes P f):bL P G f (oh M te):=by
 subst hf ht
 exact sf L hE hE.szOf h0
end
end Go.EM
namespace Go.EM
open Go.Proofs Go.Shelf Go.RowKit Go.Lib Go.Sort
def clIx (n i:Nat):Nat:=if i<n then i else 0
theorem eE {n i:Nat} (h:0<n):clIx n i<n:=by unfold clIx; split<;>omega
def ml (F:PFn) (xs:List AVal) (i j:Nat):Int :=
 match F [getL xs (clIx xs.length i),getL xs (clIx xs.length j)] with
 | some (.int .i64 c)=>c
 | _=>0
def qI (F:PFn) (xs:List AVal):List Nat:=(pdq (ltOf (ml F xs)) (Array.range xs.length) 0 xs.length (Lib.bitLen xs.length) true true).toList
def akm (F:PFn) (xs:List AVal):Prop:=aA xs=true∧(∀ i j,i<xs.length→j<xs.length→∃ c,F [getL xs i,getL xs j]=some (.int .i64 c))∧SWO (ltOf (ml F xs))
open Classical in
noncomputable def oT (F:PFn) (g M e:Nat):SFn:=fun args st=>match args with
 | [.own r n top off len, .func (.func g') [] []] => if n = M ∧ off = 0 ∧ len = top ∧ rowTy st r = e ∧ g' = g then
     (rowAt st r n top).bind fun xs=>if top=0 then some (.tup [],st) else if akm F xs∧top<4611686018427387904 then some (.tup [],st.set r (.row e n ((qI F xs).map (getL xs)))) else none
   else none
 | [.nil,.func (.func _) [] []]=>some (.tup [],st)
 | [.tree _ _ [],.func (.func _) [] []]=>some (.tup [],st)
 | _=>none
section
variable [Drawn] {w w':World}{O:Nat→Prop}{α:AM}{st:aq}
theorem gz {n:Nat}:∀ {ys:List AVal}{vs:List Value}{i:Nat},ax w O α n ys vs→i<ys.length→∃ v,vs[i]? = some v∧Rep w O α (getL ys i) v∧(getL ys i).cells.length=n∧v.cells.size=n∧∀ u∈v.cells,u.oneCell'=true
 | [],vs,i,h,hi=>by simp at hi
 | y::ys,vs,i,h,hi=>by
   simp only[ax] at h
   obtain ⟨v,us,rfl,⟨h1,h2,h3,h4⟩,h5⟩:=h
   cases i with
   | zero=>exact ⟨v,rfl,h1,h2,h3,h4⟩
   | succ i =>
     obtain ⟨v',g⟩:=gz (i:=i) h5 (by simpa using hi)
     exact ⟨v',g⟩
theorem mB {n:Nat}:∀ {ys:List AVal}{vs:List Value},ax w O α n ys vs→vs.length=ys.length
 | [],vs,h=>by simp only[ax] at h; subst h; rfl
 | y::ys,vs,h=>by
   simp only[ax] at h
   obtain ⟨v,us,rfl,_,h5⟩:=h
   simp[mB h5]
theorem kg {n:Nat}{ys:List AVal}{vs:List Value} (h:ax w O α n ys vs):∀ {l:List Nat},(∀ i∈l,i<ys.length)→ax w O α n (l.map (getL ys)) (l.map fun i=>(vs[i]?).getD (.bool false))
 | [],_=>by simp[ax]
 | i::l,hl=>by
   obtain ⟨v,g1,g2,g3,g4,g5⟩:=gz h (hl i (List.mem_cons_self ..))
   simp only[List.map_cons,ax]
   exact ⟨v,_,by rw[g1]; rfl,⟨g2,g3,g4,g5⟩,kg h (fun j hj=>hl j (List.mem_cons_of_mem _ hj))⟩
theorem lZ {n:Nat}:∀ {ys:List AVal}{vs:List Value}{t:Nat},ax w O α n ys vs→t<ys.length*n→∃ v,vs[t/n]? = some v∧(flat vs)[t]? = v.cells.toList[t%n]? 
 | [],vs,t,h,ht=>by simp at ht
 | y::ys,vs,t,h,ht=>by
   simp only[ax] at h
   obtain ⟨v,us,rfl,⟨h1,h2,h3,h4⟩,h5⟩:=h
   have hf:flat (v::us)=v.cells.toList++flat us:=by simp[flat]
   have hl:v.cells.toList.length=n:=by simpa using h3
   by_cases hlt:t<n
   · refine ⟨v,by rw[Nat.div_eq_of_lt hlt]; rfl,?_⟩
     rw[hf,List.getElem?_append_left (by omega),Nat.mod_eq_of_lt hlt]
   · have hn : 0 < n := by
       rcases Nat.eq_zero_or_pos n with h | h
       · subst h; simp at ht
       · exact h
     have e1:t/n=(t-n)/n+1:=by rw[← Nat.sub_add_cancel (show n≤t by omega),Nat.add_div_right _ hn]; simp
     have e2:t%n=(t-n)%n:=by
       have:=Nat.add_mod_right (t-n) n
       rw[Nat.sub_add_cancel (by omega)] at this
       exact this
     obtain ⟨v',g1,g2⟩:=lZ (t:=t-n) h5 (by
       simp only[List.length_cons,Nat.succ_mul] at ht
       omega)
     refine ⟨v',by rw[e1]; simpa using g1,?_⟩
     rw[hf,List.getElem?_append_right (by omega),hl,g2,e2]
end
theorem tl [Drawn] {w w':World} (h:Quiet w w') (h6:w.drawn≤w'.drawn):∃ q os,w'=grow (w.drewN q) os:=by
 have h1:=h.os; have h2:=h.tape; have h3:=h.output; have h4:=h.size; have h5:=h.old
 refine ⟨w'.drawn-w.drawn,(w'.heap.toList.drop w.heap.size).toArray,?_⟩
 obtain ⟨hp,tp,dr,os,out⟩:=w
 obtain ⟨hp',tp',dr',os',out'⟩:=w'
 simp only at h1 h2 h3 h4 h5 h6
 subst h1; subst h2; subst h3
 simp only[grow,World.drewN,World.mk.injEq,and_true,true_and]
 refine ⟨?_,by omega⟩
 apply Array.ext'
 simp only[Array.toList_append]
 apply List.ext_getElem?
 intro i
 by_cases hi:i<hp.size
 · rw[List.getElem?_append_left (by simpa using hi)]
   have:=h5 i hi
   simpa using this
 · rw[List.getElem?_append_right (by simp; omega),List.getElem?_drop]
   congr 1
   simp
   omega
section
variable {P:Program}{G:List (Nat×AVal)}{ρ:Ren}
set_option maxHeartbeats 1600000 in
theorem kY [Drawn] (L:SlLaysF0.n6 P ρ) {M:Nat} (hM:M≠1) (aE:∀ w,(isAgg (ρ.t 24)).run P w = .ok true w) (zE:∀ w,(Go.sizeOf (ρ.t 24)).run P w = .ok M w) {g:Nat}{F:PFn} (hF : @aB ⟨True⟩ P G g F) (h0:Goes P (ρ.f 6)):bL P G (ρ.f 6) (oT F g M (ρ.t 24)):=by
 refine ⟨h0,fun xs st r st' hrun w O α vs hi hG hv => ?_⟩
 unfold oT at hrun
 split at hrun
 · rename_i r n top off len g'
   split at hrun
   · rename_i hc
     obtain ⟨rfl,rfl,rfl,hty,rfl⟩:=hc
     rw[Option.bind_eq_some_iff] at hrun
     obtain ⟨ys,hrow,hrun⟩:=hrun
     simp only[RepL] at hv
     obtain ⟨v,vs,rfl,hx,u1,us1,rfl,h1,rfl⟩:=hv
     simp only[Rep] at hx h1
     obtain ⟨l1,l2,rfl,e1,e2⟩:=h1
     simp only[RepL] at e1 e2
     subst e1; subst e2
     obtain ⟨ri,g1,g2,g3,g4,g5,g6,c,el,fz,g7,g8,g9,g10,g11⟩:=hi.alive hrow
     obtain ⟨hrl,a,cap,rfl,k1,k2,k3⟩:=hx
     obtain ⟨q1,q2,q3,q4⟩:=(k3 ri g1).2 g4
     rw[Nat.sub_zero] at q3
     subst q3
     split at hrun
     · rename_i h00
       cases hrun
       subst h00
       refine (AnyF.slices_SortFunc_none L a ri.cap _ w).mono ?_
       rintro e w' ⟨rfl,rfl⟩
       exact ⟨_,α,rfl,Ext.refl _ α,hi,by simp only[Rep]; exact ⟨[],rfl,rfl⟩⟩
     · rename_i h00
       split at hrun
       · rename_i hs
         obtain ⟨⟨hcl,htab,hO⟩,hbig⟩:=hs
         cases hrun
         have ha:=q4 (by omega)
         rw[Nat.zero_mul] at ha
         subst ha
         obtain ⟨us,hus,hcell⟩:=fh 0 g9
         have hfl:=aM hus
         rw[g5] at hfl
         have hel:el=ρ.t 24:=by simpa [rowTy,g11] using hty
         subst hel
         have hul:=mB hus
         have hcK:len*n≤ri.cap*n:=Nat.mul_le_mul_right _ (by omega)
         have hlen:0<ys.length:=by omega
         -- the encoding by places
         let enc:Nat→List Value:=fun i=>((us[clIx ys.length i]?).getD (.bool false)).cells.toList
         have encv:∀ i,∃ v,us[clIx ys.length i]? = some v∧enc i=v.cells.toList∧Rep w O α (getL ys (clIx ys.length i)) v∧v = .agg v.cells.toList.toArray∧v.cells.size=n∧∀ u∈v.cells,u.oneCell'=true:=by
           intro i
           obtain ⟨v,r1,r2,r3,r4,r5⟩:=gz hus (eE (i:=i) hlen)
           refine ⟨v,r1,by simp only[enc,r1,Option.getD_some],r2,?_,r4,r5⟩
           revert r2 r3
           cases hy:getL ys (clIx ys.length i)<;>intro r2 r3<;>first
             | (exfalso; simp only[AVal.cells,List.length_cons,List.length_nil] at r3; omega)
             | (simp only[Rep] at r2
                obtain ⟨l,rfl,_⟩:=r2
                simp[Value.cells])
         have hk:∀ x,(enc x).length=n:=fun x=>by
           obtain ⟨v,_,h2,_,_,h5,_⟩:=encv x
           rw[h2]; simpa using h5
         have h1':∀ x,∀ v∈enc x,v.oneCell'=true:=fun x v hv=>by
           obtain ⟨v',_,h2,_,_,_,h6⟩:=encv x
           rw[h2] at hv
           exact h6 v (by simpa using hv)
         subst g5
         have hblk:ri.block<w.heap.size:=(hi.fresh r ri g1).2
         have hown:fu α ri.block:=⟨r,ri,g1,rfl⟩
         -- the sort's worlds
         have hW:∀ (m:Nat) (os:Array Obj) (dk:Array Nat) (b:Nat),b<w.heap.size→b≠ri.block→(sortWorldK enc n w ri.block 0 m dk os).heap[b]? = w.heap[b]? := by
           intro m os dk b hb hne
           unfold sortWorldK
           rw[heap_grow_old _ _ (by simpa [putRowK,putRow,mapBlock] using hb)]
           simp[putRowK,putRow,mapBlock,Array.getElem?_modify,Ne.symm hne]
         have hWs:∀ (m:Nat) (os:Array Obj) (dk:Array Nat),(sortWorldK enc n w ri.block 0 m dk os).heap.size=w.heap.size+os.size:=by
           intro m os dk
           simp[sortWorldK,putRowK,putRow,mapBlock,grow]
         have hWb:∀ (m:Nat) (os:Array Obj) (dk:Array Nat),(sortWorldK enc n w ri.block 0 m dk os).heap[ri.block]? = some (.cells (Go.Sort.putCells id 0 (flatK enc n dk) c) (ρ.t 24) fz):=by
           intro m os dk
           unfold sortWorldK
           rw[heap_grow_old _ _ (by simpa [putRowK,putRow,mapBlock] using hblk)]
           simp[putRowK,putRow,mapBlock,Array.getElem?_modify,g7,onCells]
         have encAt:∀ i,i<ys.length→∃ v,us[i]? = some v∧enc i=v.cells.toList:=by
           intro i hi'
           obtain ⟨v,h1,h2,_⟩:=encv i
           rw[show clIx ys.length i=i from if_pos hi'] at h1
           exact ⟨v,h1,h2⟩
         have divlt:∀ {j m:Nat},j<m*n→j/n<m:=fun {j m} h=>Nat.div_lt_of_lt_mul (by rw[Nat.mul_comm]; exact h)
         have hn0:0<n:=Nat.pos_of_ne_zero g3
         have hH:HoldsK enc n w ri.block 0 (Array.range ys.length):=by
           intro j hj
           have hj':j<ys.length*n:=by simpa using hj
           have hdl:=divlt hj'
           obtain ⟨v,r1,r2⟩:=lZ hus hj'
           obtain ⟨v',r3,r4⟩:=encAt _ hdl
           rw[r1] at r3; cases r3
           refine ⟨?_,g10 _ (.inr hM)⟩
           rw[hcell j (by rw[hfl]; exact hj'),r2,get_flatK _ _ _ _ (by simpa using hj')]
           have e:(Array.range ys.length)[j/n]! = j/n:=by
             rw[getElem!_pos _ _ (by simpa using hdl)]; simp
           have hmod:j%n<v.cells.toList.length:=by rw[← r4,hk]; exact Nat.mod_lt _ hn0
           rw[e,r4,List.getElem?_eq_getElem hmod,getElem!_pos v.cells.toList (j%n) hmod]
           rfl
         have hcmp:CmpLays P g' #[] enc n (ml F ys) ri.block 0 (Array.range ys.length).size w:=by
           intro m os dk hs x y
           obtain ⟨v,x1,x2,x3,x4,x5,x6⟩:=encv x
           obtain ⟨v',y1,y2,y3,y4,y5,y6⟩:=encv y
           have P1:Pres true w O α (sortWorldK enc n w ri.block 0 m dk os) (fun b=>O b∨fu α b) []:=by
             refine ⟨fun b o u h1 h2 hc => ?_,fun b _ _ h1 h2 _=>⟨fun h=>h.elim h1 h2,fun ⟨r,ri,h,_⟩=>by simp at h⟩,(fun h=>Bool.noConfusion h),(fun h=>Bool.noConfusion h)⟩
             rw[je (hW m os dk b (block_lt hc) (fun e=>h2 (e ▸ hown)))]
             exact hc
           have cl:∀ i,closed (getL ys (clIx ys.length i))=true:=by
             have all:∀ (l:List AVal) (k:Nat),aA l=true→k<l.length→closed (getL l k)=true:=by
               intro l
               induction l with
               | nil=>intro k _ h; simp at h
               | cons a l ih =>
                 intro k h hk
                 simp only[aA,Bool.and_eq_true] at h
                 cases k with
                 | zero=>exact h.1
                 | succ k=>exact ih k h.2 (by simpa using hk)
             exact fun i=>all ys _ hcl (eE hlen)
           obtain ⟨cv,hcv⟩:=htab _ _ (eE (i:=x) hlen) (eE (i:=y) hlen)
           have hval:ml F ys x y=cv:=by unfold ml; rw[hcv]
           have hrun:=hF.2 _ _ hcv (by simp only[aA,cl,Bool.and_self]) (sortWorldK enc n w ri.block 0 m dk os) (fun b=>O b∨fu α b) [v,v']
             (fun b hb=>by
               rw[hWs]
               have:b<w.heap.size:=hb.elim (hi.bound b) (fun ⟨r,ri,h1,h2⟩=>by rw[← h2]; exact (hi.fresh r ri h1).2)
               omega)
             (fun gl u hgv=>⟨(hG gl u hgv).1,bj P1 u _ (fun _=>(hG gl u hgv).1) (hG gl u hgv).2.1,fun cs e=>by
               obtain ⟨h1,h2,c',t,fr,h3,h4⟩:=(hG gl u hgv).2.2 cs e
               have hlt:gl<w.heap.size:=by
                 rcases Nat.lt_or_ge gl w.heap.size with h' | h'
                 · exact h'
                 · rw[Array.getElem?_eq_none h'] at h3; cases h3
               exact ⟨fun h=>h.elim h1 h2,(fun ⟨r,ri,h,_⟩=>by simp at h),c',t,fr,by rw[hW m os dk gl hlt (fun e=>h2 (e ▸ hown))]; exact h3,h4⟩⟩)
             (by simp only[RepL]; exact ⟨v,_,rfl,bj P1 _ _ (fun _=>cl x) x3,v',_,rfl,bj P1 _ _ (fun _=>cl y) y3,rfl⟩)
           have eargs : #[Value.agg (enc x).toArray,Value.agg (enc y).toArray] ++ #[]=[v,v'].toArray:=by
             rw[x2,y2,← x4,← y4]; rfl
           rw[eargs]
           refine hrun.mono ?_
           rintro e w' ⟨u,rfl,hq,hr,_⟩
           simp only[Rep] at hr
           subst hr
           exact ⟨by rw[hval],@tl ⟨True⟩ _ _ hq (@Quiet.dr ⟨True⟩ _ _ hq trivial)⟩
         have key:=AnyQ.slices_SortFunc_eq L n aE zE enc hk h1' (ml F ys) hO g' #[] ri.block 0 ri.cap (Array.range ys.length) w (fun args w=>gd hF.1) hcmp hH hblk (by simpa using hbig)
         have perm:=(pdq_sorts (ltOf (ml F ys)) hO (Array.range ys.length) 0 (Array.range ys.length).size (Lib.bitLen (Array.range ys.length).size) true true (Nat.zero_le _) (Nat.le_refl _) (Or.inl rfl)).1
         rw[Array.size_range] at key perm
         refine key.mono ?_
         rintro e w' ⟨rfl,n',os,rfl⟩
         have hsx:qI F ys=(pdq (ltOf (ml F ys)) (Array.range ys.length) 0 ys.length (Lib.bitLen ys.length) true true).toList:=rfl
         rw[hsx]
         generalize pdq (ltOf (ml F ys)) (Array.range ys.length) 0 ys.length (Lib.bitLen ys.length) true true=d' at *
         obtain ⟨p1,_,p3⟩:=perm
         rw[Array.size_range] at p1
         have hmem:∀ i∈d'.toList,i<ys.length:=by
           intro i hi'
           have e1:(d'.extract 0 ys.length).toList=d'.toList:=by
             rw[← p1]; simp
           have e2:((Array.range ys.length).extract 0 ys.length).toList=(Array.range ys.length).toList:=by
             have:(Array.range ys.length).extract 0 ys.length=Array.range ys.length:=by
               conv=>lhs; arg 3; rw[← Array.size_range (n:=ys.length)]
               simp
             rw[this]
           rw[e1,e2] at p3
           have:=p3.mem_iff.1 hi'
           simpa using this
         have hv':=kg hus hmem
         have hfl':=aM hv'
         have hll:(d'.toList.map (getL ys)).length=ys.length:=by simp[p1]
         rw[hll] at hfl'
         have hdr:w.drawn≤(sortWorldK enc n w ri.block 0 n' d' os).drawn:=Nat.le_add_right _ _
         obtain ⟨x1,x2⟩:=hi.rerow (w':=sortWorldK enc n w ri.block 0 n' d' os) (r:=r) (cap:=ri.cap) (blk:=ri.block) (el:=ρ.t 24) g1 g3 hv' rfl rfl rfl (by rw[hWs]; omega) hdr
           (fun k hk hne=>hW n' os d' k hk hne) (.inl rfl) (by rw[hll]; omega) (by rw[hll]; omega) (fun _=>by
             rw[hll]
             obtain ⟨b,s,cp,t⟩:=ri
             simp only at g2 g4
             rw[g2,g4]) (hWb n' os d') (by simp[Go.Sort.putCells,g8]) (fun t ht=>by
             rw[hfl'] at ht
             have hfk:(flatK enc n d').size=ys.length*n:=by simp[p1]
             have htc:t<c.size:=by rw[g8]; omega
             obtain ⟨v,r1,r2⟩:=lZ hv' (by rw[hll]; exact ht)
             have hdl:=divlt ht
             have hdl':t/n<d'.size:=by rw[p1]; exact hdl
             rw[r2]
             simp only[List.getElem?_map,Array.getElem?_toList,Array.getElem?_eq_getElem hdl',Option.map_some,Option.some.injEq] at r1
             obtain ⟨v',r3,r4⟩:=encAt d'[t/n] (hmem _ (by simp))
             rw[r3] at r1
             simp only[Option.getD_some] at r1
             subst r1
             have hmod:t%n<v'.cells.toList.length:=by rw[← r4,hk]; exact Nat.mod_lt _ hn0
             have e:d'[t/n]! = d'[t/n]:=getElem!_pos ..
             rw[List.getElem?_eq_getElem hmod]
             simp only[Go.Sort.putCells,Array.getElem?_mapIdx,Array.getElem?_eq_getElem htc,Option.map_some,Nat.zero_le,Nat.zero_add,true_and,Nat.sub_zero,hfk,ht,if_true,id]
             rw[get_flatK _ _ _ _ (by rw[p1]; exact ht),e,r4,getElem!_pos v'.cells.toList (t%n) hmod])
           (fun o ho=>by
             have:(sortWorldK enc n w ri.block 0 n' d' os).frozen? ⟨ri.block,o,none⟩=w.frozen? ⟨ri.block,o,none⟩:=by
               unfold sortWorldK
               rw[frozen?_grow _ _ _ (by simpa [putRowK,putRow,mapBlock] using hblk)]
               exact frozen?_putRow _ _ _ _ _ _
             rw[this]
             exact g10 o (.inr hM))
         exact ⟨_,_,rfl,x1,x2,by simp only[Rep]; exact ⟨[],rfl,rfl⟩⟩
       · cases hrun
   · cases hrun
 · cases hrun
   simp only[RepL] at hv
   obtain ⟨v,vs,rfl,hx,u1,us1,rfl,h1,rfl⟩:=hv
   simp only[Rep] at hx
   subst hx
   refine (AnyF.slices_SortFunc_none L none 0 u1 w).mono ?_
   rintro e w' ⟨rfl,rfl⟩
   exact ⟨_,α,rfl,Ext.refl _ α,hi,by simp only[Rep]; exact ⟨[],rfl,rfl⟩⟩
 · cases hrun
   simp only[RepL] at hv
   obtain ⟨v,vs,rfl,hx,u1,us1,rfl,h1,rfl⟩:=hv
   simp only[Rep] at hx
   obtain ⟨a,cap,rfl,_⟩:=hx
   refine (AnyF.slices_SortFunc_none L a cap u1 w).mono ?_
   rintro e w' ⟨rfl,rfl⟩
   exact ⟨_,α,rfl,Ext.refl _ α,hi,by simp only[Rep]; exact ⟨[],rfl,rfl⟩⟩
 · cases hrun
end
end Go.EM
namespace Go.EM
def tP (v:AVal) (st:aq):Option (AVal×aq) :=
 match v with
 | .own r n top off len=>if off+len≤top then (rowAt st r n top).map fun xs=>(.tree false n ((xs.drop off).take len),st.set r .dead) else none
 | v=>some (v,st)
def pI (F:SFn):SFn:=fun xs st=>(F xs st).bind fun p=>tP p.1 p.2
section
variable [Drawn] {P:Program}{G:List (Nat×AVal)}{w:World}{O:Nat→Prop}{α:AM}{st:aq}
theorem aek {x v:AVal}{u:Value}{st':aq} (hi:Inv w O α st) (h:tP x st=some (v,st')) (hx:Rep w O α x u):∃ α',Ext w α w α'∧Inv w O α' st'∧Rep w O α' v u:=by
 unfold tP at h
 split at h
 · rename_i r n top off len
   split at h
   · rename_i hc
     rw[Option.map_eq_some_iff] at h
     obtain ⟨xs,hrow,h⟩:=h
     cases h
     obtain ⟨ri,g1,g2,g3,g4,g5,g6,c,el,fz,g7,g8,g9,g10,g11⟩:=hi.alive hrow
     simp only[Rep] at hx
     obtain ⟨hrl,a,cap,rfl,k1,k2,k3⟩:=hx
     obtain ⟨q1,q2,q3,q4⟩:=(k3 ri g1).2 g4
     obtain ⟨t1,t2⟩:=hi.drop (w':=w) g1 rfl rfl rfl (Nat.le_refl _) (Nat.le_refl _) (fun _ _ _=>rfl)
     refine ⟨_,t1,t2,?_⟩
     have hl:((xs.drop off).take len).length=len:=by rw[List.length_take,List.length_drop,g5]; omega
     simp only[Rep]
     refine ⟨a,cap,by rw[hl],by omega,(fun h=>by cases h),?_⟩
     by_cases h0:len=0
     · subst h0
       left; simp
     · have ha:=q4 (by omega)
       have hr:=dG len (dH off g9)
       rw[Nat.zero_add] at hr
       refine .inr ⟨g3,ri.block,off*n,ha,(hi.fresh r ri g1).1,?_,gO (Pres.of_ext t1) n ri.block rfl _ _ hr⟩
       rintro ⟨r',ri',h1,h2⟩
       by_cases hr:r'=r
       · subst hr
         rw[List.getElem?_set_self hrl] at h1; cases h1
       · rw[List.getElem?_set_ne (Ne.symm hr)] at h1
         exact hr (hi.inj r' r ri' ri h1 g1 h2)
   · cases h
 · cases h
   exact ⟨α,Ext.refl _ _,hi,hx⟩
theorem lX {f:Nat}{F:SFn} (h:bL P G f F):bL P G f (pI F):=by
 refine ⟨h.1,fun xs st r st' hF w O α vs hi hG hv => ?_⟩
 unfold pI at hF
 rw[Option.bind_eq_some_iff] at hF
 obtain ⟨⟨v,st1⟩,h1,h2⟩:=hF
 refine (h.2 xs st v st1 h1 w O α vs hi hG hv).mono ?_
 rintro e w' ⟨u,α',he,k1,k2,k3⟩
 obtain ⟨α2,m1,m2,m3⟩:=aek k2 h2 k3
 exact ⟨u,α2,he,k1.trans m1,m2,m3⟩
end
end Go.EM
namespace Go.EM
open Go.Proofs Go.Shelf Go.RowKit Go.Lib Go.Sort
section
variable [Drawn] {w w':World}{O:Nat→Prop}{α:AM}{st:aq}
end
section
variable {P:Program}{G:List (Nat×AVal)}{ρ:Ren}
end
end Go.EM
