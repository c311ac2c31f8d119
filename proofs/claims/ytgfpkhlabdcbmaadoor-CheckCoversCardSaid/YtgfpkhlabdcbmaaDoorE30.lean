import Derived.Test.YtgfpkhlabdcbmaaDoorE19
import Derived.Lib.ItoaNum
import Derived.Lib.LaidTab
import Derived.Sort.Grow
import Derived.Deep.Draws
import Derived.Shelf.Strconv.Itoa3
import Derived.Lib.AtoiAll
import Derived.Lib.Bytealg
import Derived.Shelf.Unicode.DecodeAny
import Derived.Shelf.SlicesE.Clone
import Derived.Maps.AppendAt
import Derived.Shelf.Strings.OnBuilder
import Derived.Shelf.SlicesE.Delete
import Derived.Shelf.Spec.SlicesInsertGrow
import Derived.Shelf.SlSortCmp.NoneTotal
set_option linter.unusedVariables false
set_option linter.unusedSimpArgs false
namespace Go.EM
theorem repMem_at {w:World}{O:Nat→Prop}{α:AM}{b:Nat}:∀ {cs:List AVal}{off i:Nat}{a:AVal},RepMem w O α b off cs→cs[i]? = some a→∃ v,w.cell? ⟨b,off+i,none⟩=some v∧Rep w O α a v
 | [],off,i,a,h,hi=>by simp at hi
 | c::cs,off,0,a,h,hi=>by
   simp only[RepMem] at h
   simp only[List.getElem?_cons_zero,Option.some.injEq] at hi
   subst hi
   exact h.1
 | c::cs,off,i+1,a,h,hi=>by
   simp only[RepMem] at h
   obtain ⟨v,h1,h2⟩:=repMem_at h.2 (by simpa using hi)
   exact ⟨v,by rw[← h1]; congr 2; omega,h2⟩
end Go.EM
namespace Go.EM
theorem below_quiet {w w':World} (h:RowKit.Below w.heap.size w w'):Quiet w w':=⟨h.os,h.tape,h.output,h.size,h.block,fun h=>h.elim⟩
end Go.EM
namespace Go.EM
def tabFirst8:List AVal:=(List.range 256).map fun c=>AVal.int .u8 (Lib.firstT c:Nat)
def tabAccept8:List AVal:=(List.range 16).flatMap fun i=>[AVal.int .u8 (Lib.accLo i:Nat),AVal.int .u8 (Lib.accHi i:Nat)]
def decodeF:PFn:=fun xs=>match xs with
 | [.str s]=>some (.tup [.int .i32 (Lib.decodeGo ⟨s.toArray⟩).1,.int .i64 (Lib.decodeGo ⟨s.toArray⟩).2])
 | _=>none
theorem glob_cell {G:List (Nat×AVal)}{w:World}{O:Nat→Prop}{g i:Nat}{cs:List AVal}{a:AVal} (hG:GlobOk G w O []) (hl:lookN G g=some (.rptr cs)) (hi:cs[i]? = some a):∃ v,w.cell? ⟨g,i,none⟩=some v∧Rep w O [] a v:=by
 have h2:=(hG g _ hl).2.1
 simp only[Rep] at h2
 obtain ⟨b,off,he,h2⟩:=h2
 cases he
 rcases h2 with h2 | ⟨_,_,h2⟩
 · rw[h2] at hi; simp at hi
 · obtain ⟨v,g1,g2⟩:=repMem_at h2 hi
   rw[Nat.zero_add] at g1
   exact ⟨v,g1,g2⟩
theorem acc_get:∀ i:Fin 16,(List.range 16).flatMap (fun i=>[(Lib.accLo i),(Lib.accHi i)]) |>.drop (2*i.val) |>.take 2 |> (· = [Lib.accLo i.val,Lib.accHi i.val]):=by decide
theorem tabs8 {G:List (Nat×AVal)}{w:World}{O:Nat→Prop}{g3 g4:Nat} (hG:GlobOk G w O []) (h3:lookN G g3=some (.rptr tabFirst8)) (h4:lookN G g4=some (.rptr tabAccept8)):Lib.Utf8Tabs g3 g4 w:=by
 refine ⟨fun c hc => ?_,fun i hi => ?_⟩
 · obtain ⟨v,e1,e2⟩:=glob_cell (i:=c) (a:=AVal.int .u8 (Lib.firstT c:Nat)) hG h3 (by unfold tabFirst8; rw[List.getElem?_map,List.getElem?_range hc]; rfl)
   simp only[Rep] at e2
   subst e2; exact e1
 · have hm:tabAccept8=((List.range 16).flatMap fun i=>[(Lib.accLo i),(Lib.accHi i)]).map fun (n:Nat)=>AVal.int .u8 n:=rfl
   have ha:=acc_get ⟨i,hi⟩
   simp only at ha
   have k0:((List.range 16).flatMap fun i=>[(Lib.accLo i),(Lib.accHi i)])[2*i]? = some (Lib.accLo i):=by
     have:=congrArg (fun l=>l[0]?) ha
     simpa [List.getElem?_take,List.getElem?_drop] using this
   have k1:((List.range 16).flatMap fun i=>[(Lib.accLo i),(Lib.accHi i)])[2*i+1]? = some (Lib.accHi i):=by
     have:=congrArg (fun l=>l[1]?) ha
     simpa [List.getElem?_take,List.getElem?_drop] using this
   obtain ⟨v,e1,e2⟩:=glob_cell (i:=2*i) (a:=AVal.int .u8 (Lib.accLo i:Nat)) hG h4 (by rw[hm,List.getElem?_map,k0]; rfl)
   obtain ⟨u,e3,e4⟩:=glob_cell (i:=2*i+1) (a:=AVal.int .u8 (Lib.accHi i:Nat)) hG h4 (by rw[hm,List.getElem?_map,k1]; rfl)
   simp only[Rep] at e2 e4
   subst e2; subst e4
   exact ⟨e1,e3⟩
theorem decode_sound {P:Program}{G:List (Nat×AVal)}{f g3 g4:Nat} (h0:Goes P f) (h3:lookN G g3=some (.rptr tabFirst8)) (h4:lookN G g4=some (.rptr tabAccept8))
   (hcon:∀ (s:ByteArray) (w:World),Lib.Utf8Tabs g3 g4 w→Calls P f #[.string s] w fun e w'=>e = .returned (.tuple #[.int .i32 (Lib.decodeGo s).1,.int .i64 (Lib.decodeGo s).2])∧RowKit.Below w.heap.size w w'):SoundP P G f decodeF:=by
 refine ⟨h0,fun xs r hF hc w O vs hb hG hv => ?_⟩
 unfold decodeF at hF
 split at hF
 · rename_i s
   cases hF
   simp only[RepL,Rep] at hv
   obtain ⟨v,vs,rfl,rfl,rfl⟩:=hv
   refine (hcon _ w (tabs8 hG h3 h4)).mono ?_
   rintro e w' ⟨rfl,hw⟩
   refine ⟨_,rfl,below_quiet hw,?_,rfl⟩
   simp only[Rep,RepL]
   exact ⟨[.int .i32 (Lib.decodeGo ⟨s.toArray⟩).1,.int .i64 (Lib.decodeGo ⟨s.toArray⟩).2],rfl,_,_,rfl,rfl,_,_,rfl,rfl,rfl⟩
 · cases hF
end Go.EM
namespace Go.EM
open Go.Proofs Go.Shelf Go.RowKit Go.Lib in
set_option maxHeartbeats 2000000 in
set_option maxRecDepth 100000 in
theorem clone_any {P:Program}{ρ:Ren} (L:SlLaysE0.n41 P ρ) (i0:TypeInfo) (z:Value) (size bytes:Nat) (hi:P.info? (ρ.t 23)=some i0) (hz0:i0.zero=some z) (hz1:i0.size=size) (hz2:i0.bytes=bytes) (hzs:z.cells.size=size) (hsz:0<size)
   (z23:∀ w,(Go.sizeOf (ρ.t 23)).run P w = .ok size w) (ad:Addr) (n c:Nat) (news:List Value) (w:World) (hl:news.length=n*size) (hn:n≤maxLen) (hbig:n*bytes≤140737488355328)
   (hc:∀ j u,news[j]? = some u→w.cell? (ad.add j)=some u) (h1:∀ u∈news,u.oneCell'=true) :
   Calls P (ρ.f 41) #[.slice (some ad) n c] w fun e w'=>∃ v',e = .returned v'∧w'.ownsRow w.heap.size (ρ.t 23) size v' n news∧v' ≠ .slice none 0 0∧Below w.heap.size w w':=by
 have mixed:=L.mixed; have t4:=L.t4; have a4:=L.a4; have z4:=L.z4; have v4:=L.v4; have t22:=L.t22; have a22:=L.a22; have z22:=L.z22; have v22:=L.v22
 have q22:∀ (w:World) (a:Option Addr) (n c n' c':Nat),(binOp .eql (ρ.t 22) (.slice a n c) (.slice none n' c')).run P w = .ok (.bool a.isNone) w:=fun w a n c n' c'=>Lib.run_eql_slice_nil w _ _ a n c n' c' L.t22
 have u22:∀ w,Sem.run P (underlying (ρ.t 22)) w = .ok (TypeDesc.slice (ρ.t 23)) w:=run_underlying t22
 have A:Aside (∀ j u,news[j]? = some u→w.cell? (ad.add j)=some u):=hc
 clear hc
 obtain ⟨_,_,FG⟩:=L.f41
 go_enter FG,SlBodyN.n41_ntmps ρ
 go_wp2_with (at_builtin; refine wpList_append_own_at _ rfl _ _ (ρ.t 22) rfl w.heap.size (ρ.t 23) i0 z size bytes t22 hi hz0 hz1 hz2 hzs hsz _ _ _ rfl (World.ownsRow_made w #[] 0 (Nat.le_refl _) (Nat.zero_le _) (by simp)) ad n c news rfl ?qc1 ?qc2 ?qc3 ?qc4 ?qc5 ?qc6 ?_)
 case qc1=>exact hl
 case qc2 =>
   intro j u hj
   exact Lib.cell?_alloc_some _ (A.out j u hj)
 case qc3=>exact h1
 case qc4=>rw[Nat.zero_add]; exact hn
 case qc5=>rw[Nat.zero_add]; exact hbig
 case qc6=>simp
 intro v' w1 hown hgrow hnil _
 go_wp2
 go_ret
 refine ⟨v',rfl,by simpa using hown,?_,?_⟩
 · exact hnil
 · exact ((Below.refl _ w).alloc (Nat.le_refl _) _).grown hgrow (by simp) (by intro k hk; simp[Value.ownBlock] at hk; omega)
section
variable {P:Program}{G:List (Nat×AVal)}
def cloneF (M:Nat):PFn:=fun xs=>match xs with
 | [.nil]=>some (.tree false 0 [])
 | [.tree _ m ys]=>match ys with
   | []=>some (.tree false 0 [])
   | y::r=>if m=M∧r.length+1<most then some (.tree false M (y::r)) else none
 | _=>none
theorem clone_sound {f te M bytes:Nat} (h0:Goes P f) (hM:M≠0) (hb:bytes≤16384)
   (hcon:∀ (ad:Addr) (n c:Nat) (news:List Value) (w:World),news.length=n*M→n≤maxLen→n*bytes≤140737488355328→(∀ j u,news[j]? = some u→w.cell? (ad.add j)=some u)→(∀ u∈news,u.oneCell'=true) →
     Calls P f #[.slice (some ad) n c] w fun e w'=>∃ v',e = .returned v'∧w'.ownsRow w.heap.size te M v' n news∧v' ≠ .slice none 0 0∧RowKit.Below w.heap.size w w')
   (hnil:∀ (n c:Nat) (w:World),Calls P f #[.slice none n c] w fun e w'=>e = .returned (.slice none 0 0)∧w'=w):SoundP P G f (cloneF M):=by
 refine ⟨h0,fun xs r hF hc w O vs hb' hG hv => ?_⟩
 unfold cloneF at hF
 split at hF
 · cases hF
   simp only[RepL,Rep] at hv
   obtain ⟨v,vs,rfl,rfl,rfl⟩:=hv
   refine (hnil 0 0 w).mono ?_
   rintro e w' ⟨rfl,rfl⟩
   exact ⟨_,rfl,Quiet.refl _,by simp only[Rep]; exact ⟨none,0,rfl,Nat.le_refl _,(fun h=>by cases h),.inl trivial⟩,rfl⟩
 · rename_i fl m ys
   simp only[RepL,Rep] at hv
   obtain ⟨v,vs,rfl,⟨a,cap,rfl,hle,_,hrow⟩,rfl⟩:=hv
   split at hF
   · cases hF
     cases a with
     | none =>
       refine (hnil _ cap w).mono ?_
       rintro e w' ⟨rfl,rfl⟩
       exact ⟨_,rfl,Quiet.refl _,by simp only[Rep]; exact ⟨none,0,rfl,Nat.le_refl _,(fun h=>by cases h),.inl trivial⟩,rfl⟩
     | some ad =>
       refine (hcon ad 0 cap [] w (by simp) (Nat.zero_le _) (by simp) (fun j u hj=>by simp at hj) (fun u hu=>by cases hu)).mono ?_
       rintro e w' ⟨v',rfl,hown,_,hw⟩
       refine ⟨_,rfl,below_quiet hw,?_,rfl⟩
       simp only[Rep]
       rcases hown.2 with ⟨rfl,_⟩ | ⟨g,cap',cur,rfl,_,_,hn,_⟩
       · exact ⟨none,0,rfl,Nat.le_refl _,(fun h=>by cases h),.inl trivial⟩
       · exact ⟨_,cap',rfl,hn,(fun h=>by cases h),.inl trivial⟩
   · rename_i y ys _
     split at hF
     · rename_i hm
       obtain ⟨rfl,hlt⟩:=hm
       cases hF
       rcases hrow with hrow | ⟨_,b,off,rfl,hO,hOw,hrow⟩
       · cases hrow
       · obtain ⟨vs,k1,k2⟩:=of_row off hrow
         have hlen:=flat_length k1
         have hl:ys.length+1<4294967296:=by simpa [most] using hlt
         have hsz:(y::ys).length*bytes≤140737488355328:=by
           have:(y::ys).length*bytes≤4294967296*16384:=Nat.mul_le_mul (by simp only[List.length_cons]; omega) hb
           omega
         refine (hcon ⟨b,off,none⟩ (y::ys).length cap (flat vs) w hlen (by simp only[List.length_cons]; unfold maxLen; omega) hsz (fun j u hj => ?_) (flat_one k1)).mono ?_
         · have hj' : j < (flat vs).length := by
             rcases Nat.lt_or_ge j (flat vs).length with h | h
             · exact h
             · rw[List.getElem?_eq_none h] at hj; cases hj
           rw[Addr.add_lit,k2 j hj',hj]
         · rintro e w' ⟨v',rfl,hown,_,hw⟩
           have hq:=below_quiet hw
           have hc':closedL (y::ys)=true:=by
             simp only[closedL,closed,Bool.and_true] at hc
             simpa only[closedL] using hc
           refine ⟨_,rfl,hq,?_,by simpa only[closed] using hc'⟩
           simp only[Rep]
           rcases hown.2 with ⟨_,h⟩ | ⟨g,cap',cur,rfl,hg,hcur,hn,_,_,htake⟩
           · simp at h
           · refine ⟨_,cap',rfl,hn,(fun h=>by cases h),.inr ⟨hM,g,0,rfl,(fun h=>by have:=hb' _ h; omega),(fun ⟨r,ri,h,_⟩=>by simp at h),?_⟩⟩
             refine row_of 0 (RowVals_pres (Pres.of_ext (hq.ext [])) k1) fun j hj => ?_
             rw[← htake,List.getElem?_take,if_pos (by rw[← hlen]; exact hj)]
             unfold World.cell?
             rw[hcur]
             simp
     · cases hF
 · cases hF
theorem clone_lays {ρ:Shelf.Ren} (L:Proofs.SlLaysE0.n41 P ρ) (M:Nat) (h0:Goes P (ρ.f 41)) (h1:(P.info? (ρ.t 23)).isSome=true) (h2:((P.info? (ρ.t 23)).get h1).zero.isSome=true) (h3:((P.info? (ρ.t 23)).get h1).size=M) (h4:(((P.info? (ρ.t 23)).get h1).zero.get h2).cells.size=M)
   (h5:Nat.ble ((P.info? (ρ.t 23)).get h1).bytes 16384=true) (hM:0<M) (z23:∀ w,(Go.sizeOf (ρ.t 23)).run P w = .ok M w):SoundP P G (ρ.f 41) (cloneF M) :=
 clone_sound (te:=ρ.t 23) h0 (by omega) (Nat.le_of_ble_eq_true h5) (fun ad n c news w k1 k2 k3 k4 k5=>clone_any L _ _ M _ (Option.some_get h1).symm (Option.some_get h2).symm h3 rfl h4 hM z23 ad n c news w k1 k2 k3 k4 k5) (fun n c w=>Proofs.AnyE.slices_Clone_nil L n c w)
end
end Go.EM
namespace Go.EM
open Go.Proofs Go.Shelf Go.RowKit Go.Lib Go.Sort
section
variable {P:Program}{ρ:Ren}
structure InsL (P:Program) (ρ:Ren):Prop where
 mixed:P.follows .mixedOrders=true
 f22:Bears P (ρ.f 22) (Body2.n22 ρ)
 f29:∃ nm:String,(nm == "runtime.NumGoroutine")=false∧Extern.findNext { Body2.n29 ρ with name:=nm }=none∧Extern.find { Body2.n29 ρ with name:=nm }=some (Extern.SlicesOverlaps.overlaps #[(ρ.t 24),(ρ.t 24)] #[(ρ.t 4)])∧P.funcs[ρ.f 29]? = some { Body2.n29 ρ with name:=nm }
 t0:P.underlying (ρ.t 0)=some (TypeDesc.tuple #[])
 a0:∀ w,(isAgg (ρ.t 0)).run P w = .ok false w
 z0:∀ w,(Go.sizeOf (ρ.t 0)).run P w = .ok 1 w
 v0:∀ w,(zeroValue (ρ.t 0)).run P w = .ok (Value.tuple #[]) w
 t3:P.underlying (ρ.t 3)=some (TypeDesc.int IntKind.i64)
 a3:∀ w,(isAgg (ρ.t 3)).run P w = .ok false w
 z3:∀ w,(Go.sizeOf (ρ.t 3)).run P w = .ok 1 w
 v3:∀ w,(zeroValue (ρ.t 3)).run P w = .ok (Value.int IntKind.i64 0) w
 t4:P.underlying (ρ.t 4)=some (TypeDesc.bool)
 a4:∀ w,(isAgg (ρ.t 4)).run P w = .ok false w
 z4:∀ w,(Go.sizeOf (ρ.t 4)).run P w = .ok 1 w
 v4:∀ w,(zeroValue (ρ.t 4)).run P w = .ok (Value.bool false) w
 t24:P.underlying (ρ.t 24)=some (TypeDesc.slice (ρ.t 9))
 a24:∀ w,(isAgg (ρ.t 24)).run P w = .ok false w
 z24:∀ w,(Go.sizeOf (ρ.t 24)).run P w = .ok 1 w
 v24:∀ w,(zeroValue (ρ.t 24)).run P w = .ok (Value.slice none 0 0) w
end
end Go.EM
set_option linter.unusedSectionVars false
namespace Go.EM
open Go.Proofs Go.Shelf Go.RowKit Go.Lib Go.Sort
section
variable [Drawn] {P:Program}{w w':World}{O:Nat→Prop}{α:AM}{st:Store}
end
end Go.EM
namespace Go.EM
open Go.Proofs Go.Shelf Go.RowKit Go.Lib Go.Sort
section
variable {P:Program}{ρ:Ren}
end
section
variable {P:Program}{G:List (Nat×AVal)}
structure ElemK (P:Program) (te M:Nat) (i0:TypeInfo) (zv:Value):Prop where
 info:P.info? te=some i0
 zero:i0.zero=some zv
 size:i0.size=M
 cells:zv.cells.size=M
 bytes:i0.bytes≤16384
 bytes0:i0.bytes≠0
 one:∀ u∈zv.cells,u.oneCell'=true
 pos:0<M
end
section
variable [Drawn] {w w':World}{O:Nat→Prop}{α:AM}{st:Store}
end
section
variable {P:Program}{G:List (Nat×AVal)}{ρ:Ren}
end
end Go.EM
namespace Go.EM
open Go.Proofs Go.Shelf Go.RowKit Go.Lib Go.Sort
section
variable {P:Program}{G:List (Nat×AVal)}{ρ:Ren}
theorem ElemK.szOf {te M:Nat}{i0:TypeInfo}{zv:Value} (h:ElemK P te M i0 zv):∀ w,(Go.sizeOf te).run P w = .ok M w:=fun w=>by simp[Go.sizeOf,typeInfo,h.info,h.size]
end
end Go.EM
namespace Go.EM
open Go.Proofs Go.Shelf Go.RowKit Go.Lib Go.Sort
def clIx (n i:Nat):Nat:=if i<n then i else 0
theorem clIx_lt {n i:Nat} (h:0<n):clIx n i<n:=by unfold clIx; split<;>omega
def cmpAt (F:PFn) (xs:List AVal) (i j:Nat):Int :=
 match F [getL xs (clIx xs.length i),getL xs (clIx xs.length j)] with
 | some (.int .i64 c)=>c
 | _=>0
def sortIx (F:PFn) (xs:List AVal):List Nat:=(pdq (ltOf (cmpAt F xs)) (Array.range xs.length) 0 xs.length (Lib.bitLen xs.length) true true).toList
def SortsOk (F:PFn) (xs:List AVal):Prop:=closedL xs=true∧(∀ i j,i<xs.length→j<xs.length→∃ c,F [getL xs i,getL xs j]=some (.int .i64 c))∧SWO (ltOf (cmpAt F xs))
open Classical in
noncomputable def sortS (F:PFn) (g M e:Nat):SFn:=fun args st=>match args with
 | [.own r n top off len, .func (.func g') [] []] => if n = M ∧ off = 0 ∧ len = top ∧ rowTy st r = e ∧ g' = g then
     (rowAt st r n top).bind fun xs=>if top=0 then some (.tup [],st) else if SortsOk F xs∧top<4611686018427387904 then some (.tup [],st.set r (.row e n ((sortIx F xs).map (getL xs)))) else none
   else none
 | [.nil,.func (.func _) [] []]=>some (.tup [],st)
 | [.tree _ _ [],.func (.func _) [] []]=>some (.tup [],st)
 | _=>none
section
variable [Drawn] {w w':World}{O:Nat→Prop}{α:AM}{st:Store}
theorem RowVals_getL {n:Nat}:∀ {ys:List AVal}{vs:List Value}{i:Nat},RowVals w O α n ys vs→i<ys.length→∃ v,vs[i]? = some v∧Rep w O α (getL ys i) v∧(getL ys i).cells.length=n∧v.cells.size=n∧∀ u∈v.cells,u.oneCell'=true
 | [],vs,i,h,hi=>by simp at hi
 | y::ys,vs,i,h,hi=>by
   simp only[RowVals] at h
   obtain ⟨v,us,rfl,⟨h1,h2,h3,h4⟩,h5⟩:=h
   cases i with
   | zero=>exact ⟨v,rfl,h1,h2,h3,h4⟩
   | succ i =>
     obtain ⟨v',g⟩:=RowVals_getL (i:=i) h5 (by simpa using hi)
     exact ⟨v',g⟩
theorem RowVals_len {n:Nat}:∀ {ys:List AVal}{vs:List Value},RowVals w O α n ys vs→vs.length=ys.length
 | [],vs,h=>by simp only[RowVals] at h; subst h; rfl
 | y::ys,vs,h=>by
   simp only[RowVals] at h
   obtain ⟨v,us,rfl,_,h5⟩:=h
   simp[RowVals_len h5]
theorem RowVals_pick {n:Nat}{ys:List AVal}{vs:List Value} (h:RowVals w O α n ys vs):∀ {l:List Nat},(∀ i∈l,i<ys.length)→RowVals w O α n (l.map (getL ys)) (l.map fun i=>(vs[i]?).getD (.bool false))
 | [],_=>by simp[RowVals]
 | i::l,hl=>by
   obtain ⟨v,g1,g2,g3,g4,g5⟩:=RowVals_getL h (hl i (List.mem_cons_self ..))
   simp only[List.map_cons,RowVals]
   exact ⟨v,_,by rw[g1]; rfl,⟨g2,g3,g4,g5⟩,RowVals_pick h (fun j hj=>hl j (List.mem_cons_of_mem _ hj))⟩
theorem flat_getL {n:Nat}:∀ {ys:List AVal}{vs:List Value}{t:Nat},RowVals w O α n ys vs→t<ys.length*n→∃ v,vs[t/n]? = some v∧(flat vs)[t]? = v.cells.toList[t%n]? 
 | [],vs,t,h,ht=>by simp at ht
 | y::ys,vs,t,h,ht=>by
   simp only[RowVals] at h
   obtain ⟨v,us,rfl,⟨h1,h2,h3,h4⟩,h5⟩:=h
   have hf:flat (v::us)=v.cells.toList++flat us:=by simp[flat]
   have hl:v.cells.toList.length=n:=by simpa using h3
   by_cases hlt:t<n
   · refine ⟨v,by rw[Nat.div_eq_of_lt hlt]; rfl,?_⟩
     rw[hf,List.getElem?_append_left (by omega),Nat.mod_eq_of_lt hlt]
   · have hn : 0 < n := by
       rcases Nat.eq_zero_or_pos n with h | h
       · subst h; simp at ht
       · exact h
     have e1:t/n=(t-n)/n+1:=by rw[← Nat.sub_add_cancel (show n≤t by omega),Nat.add_div_right _ hn]; simp
     have e2:t%n=(t-n)%n:=by
       have:=Nat.add_mod_right (t-n) n
       rw[Nat.sub_add_cancel (by omega)] at this
       exact this
     obtain ⟨v',g1,g2⟩:=flat_getL (t:=t-n) h5 (by
       simp only[List.length_cons,Nat.succ_mul] at ht
       omega)
     refine ⟨v',by rw[e1]; simpa using g1,?_⟩
     rw[hf,List.getElem?_append_right (by omega),hl,g2,e2]
end
theorem quiet_grown [Drawn] {w w':World} (h:Quiet w w') (h6:w.drawn≤w'.drawn):∃ q os,w'=grow (w.drewN q) os:=by
 have h1:=h.os; have h2:=h.tape; have h3:=h.output; have h4:=h.size; have h5:=h.old
 refine ⟨w'.drawn-w.drawn,(w'.heap.toList.drop w.heap.size).toArray,?_⟩
 obtain ⟨hp,tp,dr,os,out⟩:=w
 obtain ⟨hp',tp',dr',os',out'⟩:=w'
 simp only at h1 h2 h3 h4 h5 h6
 subst h1; subst h2; subst h3
 simp only[grow,World.drewN,World.mk.injEq,and_true,true_and]
 refine ⟨?_,by omega⟩
 apply Array.ext'
 simp only[Array.toList_append]
 apply List.ext_getElem?
 intro i
 by_cases hi:i<hp.size
 · rw[List.getElem?_append_left (by simpa using hi)]
   have:=h5 i hi
   simpa using this
 · rw[List.getElem?_append_right (by simp; omega),List.getElem?_drop]
   congr 1
   simp
   omega
section
variable {P:Program}{G:List (Nat×AVal)}{ρ:Ren}
set_option maxHeartbeats 1600000 in
theorem sortS_sound [Drawn] (L:SlLaysF0.n6 P ρ) {M:Nat} (hM:M≠1) (aE:∀ w,(isAgg (ρ.t 24)).run P w = .ok true w) (zE:∀ w,(Go.sizeOf (ρ.t 24)).run P w = .ok M w) {g:Nat}{F:PFn} (hF : @SoundP ⟨True⟩ P G g F) (h0:Goes P (ρ.f 6)):SoundS P G (ρ.f 6) (sortS F g M (ρ.t 24)):=by
 refine ⟨h0,fun xs st r st' hrun w O α vs hi hG hv => ?_⟩
 unfold sortS at hrun
 split at hrun
 · rename_i r n top off len g'
   split at hrun
   · rename_i hc
     obtain ⟨rfl,rfl,rfl,hty,rfl⟩:=hc
     rw[Option.bind_eq_some_iff] at hrun
     obtain ⟨ys,hrow,hrun⟩:=hrun
     simp only[RepL] at hv
     obtain ⟨v,vs,rfl,hx,u1,us1,rfl,h1,rfl⟩:=hv
     simp only[Rep] at hx h1
     obtain ⟨l1,l2,rfl,e1,e2⟩:=h1
     simp only[RepL] at e1 e2
     subst e1; subst e2
     obtain ⟨ri,g1,g2,g3,g4,g5,g6,c,el,fz,g7,g8,g9,g10,g11⟩:=hi.alive hrow
     obtain ⟨hrl,a,cap,rfl,k1,k2,k3⟩:=hx
     obtain ⟨q1,q2,q3,q4⟩:=(k3 ri g1).2 g4
     rw[Nat.sub_zero] at q3
     subst q3
     split at hrun
     · rename_i h00
       cases hrun
       subst h00
       refine (AnyF.slices_SortFunc_none L a ri.cap _ w).mono ?_
       rintro e w' ⟨rfl,rfl⟩
       exact ⟨_,α,rfl,Ext.refl _ α,hi,by simp only[Rep]; exact ⟨[],rfl,rfl⟩⟩
     · rename_i h00
       split at hrun
       · rename_i hs
         obtain ⟨⟨hcl,htab,hO⟩,hbig⟩:=hs
         cases hrun
         have ha:=q4 (by omega)
         rw[Nat.zero_mul] at ha
         subst ha
         obtain ⟨us,hus,hcell⟩:=of_row 0 g9
         have hfl:=flat_length hus
         rw[g5] at hfl
         have hel:el=ρ.t 24:=by simpa [rowTy,g11] using hty
         subst hel
         have hul:=RowVals_len hus
         have hcK:len*n≤ri.cap*n:=Nat.mul_le_mul_right _ (by omega)
         have hlen:0<ys.length:=by omega
         -- the encoding by places
         let enc:Nat→List Value:=fun i=>((us[clIx ys.length i]?).getD (.bool false)).cells.toList
         have encv:∀ i,∃ v,us[clIx ys.length i]? = some v∧enc i=v.cells.toList∧Rep w O α (getL ys (clIx ys.length i)) v∧v = .agg v.cells.toList.toArray∧v.cells.size=n∧∀ u∈v.cells,u.oneCell'=true:=by
           intro i
           obtain ⟨v,r1,r2,r3,r4,r5⟩:=RowVals_getL hus (clIx_lt (i:=i) hlen)
           refine ⟨v,r1,by simp only[enc,r1,Option.getD_some],r2,?_,r4,r5⟩
           revert r2 r3
           cases hy:getL ys (clIx ys.length i)<;>intro r2 r3<;>first
             | (exfalso; simp only[AVal.cells,List.length_cons,List.length_nil] at r3; omega)
             | (simp only[Rep] at r2
                obtain ⟨l,rfl,_⟩:=r2
                simp[Value.cells])
         have hk:∀ x,(enc x).length=n:=fun x=>by
           obtain ⟨v,_,h2,_,_,h5,_⟩:=encv x
           rw[h2]; simpa using h5
         have h1':∀ x,∀ v∈enc x,v.oneCell'=true:=fun x v hv=>by
           obtain ⟨v',_,h2,_,_,_,h6⟩:=encv x
           rw[h2] at hv
           exact h6 v (by simpa using hv)
         subst g5
         have hblk:ri.block<w.heap.size:=(hi.fresh r ri g1).2
         have hown:Owned α ri.block:=⟨r,ri,g1,rfl⟩
         -- the sort's worlds
         have hW:∀ (m:Nat) (os:Array Obj) (dk:Array Nat) (b:Nat),b<w.heap.size→b≠ri.block→(sortWorldK enc n w ri.block 0 m dk os).heap[b]? = w.heap[b]? := by
           intro m os dk b hb hne
           unfold sortWorldK
           rw[heap_grow_old _ _ (by simpa [putRowK,putRow,mapBlock] using hb)]
           simp[putRowK,putRow,mapBlock,Array.getElem?_modify,Ne.symm hne]
         have hWs:∀ (m:Nat) (os:Array Obj) (dk:Array Nat),(sortWorldK enc n w ri.block 0 m dk os).heap.size=w.heap.size+os.size:=by
           intro m os dk
           simp[sortWorldK,putRowK,putRow,mapBlock,grow]
         have hWb:∀ (m:Nat) (os:Array Obj) (dk:Array Nat),(sortWorldK enc n w ri.block 0 m dk os).heap[ri.block]? = some (.cells (Go.Sort.putCells id 0 (flatK enc n dk) c) (ρ.t 24) fz):=by
           intro m os dk
           unfold sortWorldK
           rw[heap_grow_old _ _ (by simpa [putRowK,putRow,mapBlock] using hblk)]
           simp[putRowK,putRow,mapBlock,Array.getElem?_modify,g7,onCells]
         have encAt:∀ i,i<ys.length→∃ v,us[i]? = some v∧enc i=v.cells.toList:=by
           intro i hi'
           obtain ⟨v,h1,h2,_⟩:=encv i
           rw[show clIx ys.length i=i from if_pos hi'] at h1
           exact ⟨v,h1,h2⟩
         have divlt:∀ {j m:Nat},j<m*n→j/n<m:=fun {j m} h=>Nat.div_lt_of_lt_mul (by rw[Nat.mul_comm]; exact h)
         have hn0:0<n:=Nat.pos_of_ne_zero g3
         have hH:HoldsK enc n w ri.block 0 (Array.range ys.length):=by
           intro j hj
           have hj':j<ys.length*n:=by simpa using hj
           have hdl:=divlt hj'
           obtain ⟨v,r1,r2⟩:=flat_getL hus hj'
           obtain ⟨v',r3,r4⟩:=encAt _ hdl
           rw[r1] at r3; cases r3
           refine ⟨?_,g10 _ (.inr hM)⟩
           rw[hcell j (by rw[hfl]; exact hj'),r2,get_flatK _ _ _ _ (by simpa using hj')]
           have e:(Array.range ys.length)[j/n]! = j/n:=by
             rw[getElem!_pos _ _ (by simpa using hdl)]; simp
           have hmod:j%n<v.cells.toList.length:=by rw[← r4,hk]; exact Nat.mod_lt _ hn0
           rw[e,r4,List.getElem?_eq_getElem hmod,getElem!_pos v.cells.toList (j%n) hmod]
           rfl
         have hcmp:CmpLays P g' #[] enc n (cmpAt F ys) ri.block 0 (Array.range ys.length).size w:=by
           intro m os dk hs x y
           obtain ⟨v,x1,x2,x3,x4,x5,x6⟩:=encv x
           obtain ⟨v',y1,y2,y3,y4,y5,y6⟩:=encv y
           have P1:Pres true w O α (sortWorldK enc n w ri.block 0 m dk os) (fun b=>O b∨Owned α b) []:=by
             refine ⟨fun b o u h1 h2 hc => ?_,fun b _ _ h1 h2 _=>⟨fun h=>h.elim h1 h2,fun ⟨r,ri,h,_⟩=>by simp at h⟩,(fun h=>Bool.noConfusion h),(fun h=>Bool.noConfusion h)⟩
             rw[cell_same (hW m os dk b (block_lt hc) (fun e=>h2 (e ▸ hown)))]
             exact hc
           have cl:∀ i,closed (getL ys (clIx ys.length i))=true:=by
             have all:∀ (l:List AVal) (k:Nat),closedL l=true→k<l.length→closed (getL l k)=true:=by
               intro l
               induction l with
               | nil=>intro k _ h; simp at h
               | cons a l ih =>
                 intro k h hk
                 simp only[closedL,Bool.and_eq_true] at h
                 cases k with
                 | zero=>exact h.1
                 | succ k=>exact ih k h.2 (by simpa using hk)
             exact fun i=>all ys _ hcl (clIx_lt hlen)
           obtain ⟨cv,hcv⟩:=htab _ _ (clIx_lt (i:=x) hlen) (clIx_lt (i:=y) hlen)
           have hval:cmpAt F ys x y=cv:=by unfold cmpAt; rw[hcv]
           have hrun:=hF.2 _ _ hcv (by simp only[closedL,cl,Bool.and_self]) (sortWorldK enc n w ri.block 0 m dk os) (fun b=>O b∨Owned α b) [v,v']
             (fun b hb=>by
               rw[hWs]
               have:b<w.heap.size:=hb.elim (hi.bound b) (fun ⟨r,ri,h1,h2⟩=>by rw[← h2]; exact (hi.fresh r ri h1).2)
               omega)
             (fun gl u hgv=>⟨(hG gl u hgv).1,Rep_pres P1 u _ (fun _=>(hG gl u hgv).1) (hG gl u hgv).2.1,fun cs e=>by
               obtain ⟨h1,h2,c',t,fr,h3,h4⟩:=(hG gl u hgv).2.2 cs e
               have hlt:gl<w.heap.size:=by
                 rcases Nat.lt_or_ge gl w.heap.size with h' | h'
                 · exact h'
                 · rw[Array.getElem?_eq_none h'] at h3; cases h3
               exact ⟨fun h=>h.elim h1 h2,(fun ⟨r,ri,h,_⟩=>by simp at h),c',t,fr,by rw[hW m os dk gl hlt (fun e=>h2 (e ▸ hown))]; exact h3,h4⟩⟩)
             (by simp only[RepL]; exact ⟨v,_,rfl,Rep_pres P1 _ _ (fun _=>cl x) x3,v',_,rfl,Rep_pres P1 _ _ (fun _=>cl y) y3,rfl⟩)
           have eargs : #[Value.agg (enc x).toArray,Value.agg (enc y).toArray] ++ #[]=[v,v'].toArray:=by
             rw[x2,y2,← x4,← y4]; rfl
           rw[eargs]
           refine hrun.mono ?_
           rintro e w' ⟨u,rfl,hq,hr,_⟩
           simp only[Rep] at hr
           subst hr
           exact ⟨by rw[hval],@quiet_grown ⟨True⟩ _ _ hq (@Quiet.dr ⟨True⟩ _ _ hq trivial)⟩
         have key:=AnyQ.slices_SortFunc_eq L n aE zE enc hk h1' (cmpAt F ys) hO g' #[] ri.block 0 ri.cap (Array.range ys.length) w (fun args w=>run_callFunc hF.1) hcmp hH hblk (by simpa using hbig)
         have perm:=(pdq_sorts (ltOf (cmpAt F ys)) hO (Array.range ys.length) 0 (Array.range ys.length).size (Lib.bitLen (Array.range ys.length).size) true true (Nat.zero_le _) (Nat.le_refl _) (Or.inl rfl)).1
         rw[Array.size_range] at key perm
         refine key.mono ?_
         rintro e w' ⟨rfl,n',os,rfl⟩
         have hsx:sortIx F ys=(pdq (ltOf (cmpAt F ys)) (Array.range ys.length) 0 ys.length (Lib.bitLen ys.length) true true).toList:=rfl
         rw[hsx]
         generalize pdq (ltOf (cmpAt F ys)) (Array.range ys.length) 0 ys.length (Lib.bitLen ys.length) true true=d' at *
         obtain ⟨p1,_,p3⟩:=perm
         rw[Array.size_range] at p1
         have hmem:∀ i∈d'.toList,i<ys.length:=by
           intro i hi'
           have e1:(d'.extract 0 ys.length).toList=d'.toList:=by
             rw[← p1]; simp
           have e2:((Array.range ys.length).extract 0 ys.length).toList=(Array.range ys.length).toList:=by
             have:(Array.range ys.length).extract 0 ys.length=Array.range ys.length:=by
               conv=>lhs; arg 3; rw[← Array.size_range (n:=ys.length)]
               simp
             rw[this]
           rw[e1,e2] at p3
           have:=p3.mem_iff.1 hi'
           simpa using this
         have hv':=RowVals_pick hus hmem
         have hfl':=flat_length hv'
         have hll:(d'.toList.map (getL ys)).length=ys.length:=by simp[p1]
         rw[hll] at hfl'
         have hdr:w.drawn≤(sortWorldK enc n w ri.block 0 n' d' os).drawn:=Nat.le_add_right _ _
         obtain ⟨x1,x2⟩:=hi.rerow (w':=sortWorldK enc n w ri.block 0 n' d' os) (r:=r) (cap:=ri.cap) (blk:=ri.block) (el:=ρ.t 24) g1 g3 hv' rfl rfl rfl (by rw[hWs]; omega) hdr
           (fun k hk hne=>hW n' os d' k hk hne) (.inl rfl) (by rw[hll]; omega) (by rw[hll]; omega) (fun _=>by
             rw[hll]
             obtain ⟨b,s,cp,t⟩:=ri
             simp only at g2 g4
             rw[g2,g4]) (hWb n' os d') (by simp[Go.Sort.putCells,g8]) (fun t ht=>by
             rw[hfl'] at ht
             have hfk:(flatK enc n d').size=ys.length*n:=by simp[p1]
             have htc:t<c.size:=by rw[g8]; omega
             obtain ⟨v,r1,r2⟩:=flat_getL hv' (by rw[hll]; exact ht)
             have hdl:=divlt ht
             have hdl':t/n<d'.size:=by rw[p1]; exact hdl
             rw[r2]
             simp only[List.getElem?_map,Array.getElem?_toList,Array.getElem?_eq_getElem hdl',Option.map_some,Option.some.injEq] at r1
             obtain ⟨v',r3,r4⟩:=encAt d'[t/n] (hmem _ (by simp))
             rw[r3] at r1
             simp only[Option.getD_some] at r1
             subst r1
             have hmod:t%n<v'.cells.toList.length:=by rw[← r4,hk]; exact Nat.mod_lt _ hn0
             have e:d'[t/n]! = d'[t/n]:=getElem!_pos ..
             rw[List.getElem?_eq_getElem hmod]
             simp only[Go.Sort.putCells,Array.getElem?_mapIdx,Array.getElem?_eq_getElem htc,Option.map_some,Nat.zero_le,Nat.zero_add,true_and,Nat.sub_zero,hfk,ht,if_true,id]
             rw[get_flatK _ _ _ _ (by rw[p1]; exact ht),e,r4,getElem!_pos v'.cells.toList (t%n) hmod])
           (fun o ho=>by
             have:(sortWorldK enc n w ri.block 0 n' d' os).frozen? ⟨ri.block,o,none⟩=w.frozen? ⟨ri.block,o,none⟩:=by
               unfold sortWorldK
               rw[frozen?_grow _ _ _ (by simpa [putRowK,putRow,mapBlock] using hblk)]
               exact frozen?_putRow _ _ _ _ _ _
             rw[this]
             exact g10 o (.inr hM))
         exact ⟨_,_,rfl,x1,x2,by simp only[Rep]; exact ⟨[],rfl,rfl⟩⟩
       · cases hrun
   · cases hrun
 · cases hrun
   simp only[RepL] at hv
   obtain ⟨v,vs,rfl,hx,u1,us1,rfl,h1,rfl⟩:=hv
   simp only[Rep] at hx
   subst hx
   refine (AnyF.slices_SortFunc_none L none 0 u1 w).mono ?_
   rintro e w' ⟨rfl,rfl⟩
   exact ⟨_,α,rfl,Ext.refl _ α,hi,by simp only[Rep]; exact ⟨[],rfl,rfl⟩⟩
 · cases hrun
   simp only[RepL] at hv
   obtain ⟨v,vs,rfl,hx,u1,us1,rfl,h1,rfl⟩:=hv
   simp only[Rep] at hx
   obtain ⟨a,cap,rfl,_⟩:=hx
   refine (AnyF.slices_SortFunc_none L a cap u1 w).mono ?_
   rintro e w' ⟨rfl,rfl⟩
   exact ⟨_,α,rfl,Ext.refl _ α,hi,by simp only[Rep]; exact ⟨[],rfl,rfl⟩⟩
 · cases hrun
end
end Go.EM
namespace Go.EM
section
variable [Drawn] {P:Program}{G:List (Nat×AVal)}{w:World}{O:Nat→Prop}{α:AM}{st:Store}
end
end Go.EM
namespace Go.EM
open Go.Proofs Go.Shelf Go.RowKit Go.Lib Go.Sort
section
variable [Drawn] {w w':World}{O:Nat→Prop}{α:AM}{st:Store}
end
section
variable {P:Program}{G:List (Nat×AVal)}{ρ:Ren}
end
end Go.EM
