import Derived.Test.YtljlahifmblbbaaE19
import Derived.Lib.ItoaNum
import Derived.Lib.LaidTab
import Derived.Sort.Grow
import Derived.Deep.Draws
import Derived.Shelf.Strconv.Itoa3
import Derived.Lib.AtoiAll
import Derived.Lib.Bytealg
import Derived.Shelf.Unicode.DecodeAny
import Derived.Shelf.SlicesE.Clone
import Derived.Maps.AppendAt
import Derived.Shelf.Strings.OnBuilder
import Derived.Shelf.SlicesE.Delete
import Derived.Shelf.Spec.SlicesInsertGrow
import Derived.Shelf.SlSortCmp.NoneTotal
import Derived.Shelf.Spec.SlicesGrow
import Derived.Maps.RangeRun
set_option linter.unusedVariables false
set_option linter.unusedSimpArgs false
namespace Go.EM
end Go.EM
set_option linter.unusedVariables false
set_option linter.unusedSimpArgs false
namespace Go.EM
theorem below_quiet {w w':World} (h:RowKit.Below w.heap.size w w'):Quiet w w':=⟨h.os,h.tape,h.output,h.size,h.block,fun h=>h.elim⟩
end Go.EM
set_option linter.unusedVariables false
namespace Go.EM
end Go.EM
set_option linter.unusedVariables false
namespace Go.EM
section
variable {P:Program}{G:List (Nat×AVal)}
end
end Go.EM
set_option linter.unusedVariables false
namespace Go.EM
open Go.Proofs Go.Shelf Go.RowKit Go.Lib Go.Sort
section
variable {P:Program}{ρ:Ren}
structure InsL (P:Program) (ρ:Ren):Prop where
  mixed:P.follows .mixedOrders=true
  f22:Bears P (ρ.f 22) (Body2.n22 ρ)
  f29:∃ nm:String,(nm == "runtime.NumGoroutine")=false∧Extern.findNext { Body2.n29 ρ with name:=nm }=none∧Extern.find { Body2.n29 ρ with name:=nm }=some (Extern.SlicesOverlaps.overlaps #[(ρ.t 24),(ρ.t 24)] #[(ρ.t 4)])∧P.funcs[ρ.f 29]? = some { Body2.n29 ρ with name:=nm }
  t0:P.underlying (ρ.t 0)=some (TypeDesc.tuple #[])
  a0:∀ w,(isAgg (ρ.t 0)).run P w = .ok false w
  z0:∀ w,(Go.sizeOf (ρ.t 0)).run P w = .ok 1 w
  v0:∀ w,(zeroValue (ρ.t 0)).run P w = .ok (Value.tuple #[]) w
  t3:P.underlying (ρ.t 3)=some (TypeDesc.int IntKind.i64)
  a3:∀ w,(isAgg (ρ.t 3)).run P w = .ok false w
  z3:∀ w,(Go.sizeOf (ρ.t 3)).run P w = .ok 1 w
  v3:∀ w,(zeroValue (ρ.t 3)).run P w = .ok (Value.int IntKind.i64 0) w
  t4:P.underlying (ρ.t 4)=some (TypeDesc.bool)
  a4:∀ w,(isAgg (ρ.t 4)).run P w = .ok false w
  z4:∀ w,(Go.sizeOf (ρ.t 4)).run P w = .ok 1 w
  v4:∀ w,(zeroValue (ρ.t 4)).run P w = .ok (Value.bool false) w
  t24:P.underlying (ρ.t 24)=some (TypeDesc.slice (ρ.t 9))
  a24:∀ w,(isAgg (ρ.t 24)).run P w = .ok false w
  z24:∀ w,(Go.sizeOf (ρ.t 24)).run P w = .ok 1 w
  v24:∀ w,(zeroValue (ρ.t 24)).run P w = .ok (Value.slice none 0 0) w
end
end Go.EM
set_option linter.unusedVariables false
set_option linter.unusedSectionVars false
set_option linter.unusedSimpArgs false
namespace Go.EM
open Go.Proofs Go.Shelf Go.RowKit Go.Lib Go.Sort
section
variable [Drawn] {P:Program}{w w':World}{O:Nat→Prop}{α:AM}{st:Store}
end
end Go.EM
set_option linter.unusedVariables false
set_option linter.unusedSectionVars false
set_option linter.unusedSimpArgs false
namespace Go.EM
open Go.Proofs Go.Shelf Go.RowKit Go.Lib Go.Sort
section
variable {P:Program}{ρ:Ren}
end
section
variable {P:Program}{G:List (Nat×AVal)}
structure ElemK (P:Program) (te M:Nat) (i0:TypeInfo) (zv:Value):Prop where
  info:P.info? te=some i0
  zero:i0.zero=some zv
  size:i0.size=M
  cells:zv.cells.size=M
  bytes:i0.bytes≤16384
  bytes0:i0.bytes≠0
  one:∀ u∈zv.cells,u.oneCell'=true
  pos:0<M
end
section
variable [Drawn] {w w':World}{O:Nat→Prop}{α:AM}{st:Store}
end
section
variable {P:Program}{G:List (Nat×AVal)}{ρ:Ren}
end
end Go.EM
set_option linter.unusedVariables false
namespace Go.EM
open Go.Proofs Go.Shelf Go.RowKit Go.Lib Go.Sort
section
variable {P:Program}{G:List (Nat×AVal)}{ρ:Ren}
theorem ElemK.szOf {te M:Nat}{i0:TypeInfo}{zv:Value} (h:ElemK P te M i0 zv):∀ w,(Go.sizeOf te).run P w = .ok M w:=fun w=>by simp[Go.sizeOf,typeInfo,h.info,h.size]
end
end Go.EM
set_option linter.unusedVariables false
set_option linter.unusedSectionVars false
set_option linter.unusedSimpArgs false
namespace Go.EM
open Go.Proofs Go.Shelf Go.RowKit Go.Lib Go.Sort
section
variable [Drawn] {w w':World}{O:Nat→Prop}{α:AM}{st:Store}
end
section
variable {P:Program}{G:List (Nat×AVal)}{ρ:Ren}
end
end Go.EM
set_option linter.unusedVariables false
set_option linter.unusedSectionVars false
set_option linter.unusedSimpArgs false
namespace Go.EM
section
variable [Drawn] {P:Program}{G:List (Nat×AVal)}{w:World}{O:Nat→Prop}{α:AM}{st:Store}
end
end Go.EM
set_option linter.unusedVariables false
set_option linter.unusedSectionVars false
set_option linter.unusedSimpArgs false
namespace Go.EM
open Go.Proofs Go.Shelf Go.RowKit Go.Lib Go.Sort
section
variable [Drawn] {w w':World}{O:Nat→Prop}{α:AM}{st:Store}
end
section
variable {P:Program}{G:List (Nat×AVal)}{ρ:Ren}
end
end Go.EM
set_option linter.unusedVariables false
set_option linter.unusedSimpArgs false
namespace Go.EM
open Go.Proofs Go.Shelf
section
variable {P:Program}{G:List (Nat×AVal)}{ρ:Ren}
end
end Go.EM
set_option linter.unusedVariables false
set_option linter.unusedSectionVars false
set_option linter.unusedSimpArgs false
namespace Go.EM
open Go.Proofs Go.Shelf Go.RowKit Go.Lib Go.Sort
section
variable [Drawn] {P:Program}{G:List (Nat×AVal)}{w:World}{O:Nat→Prop}{α:AM}{st:Store}
end
end Go.EM
set_option linter.unusedVariables false
set_option linter.unusedSectionVars false
set_option linter.unusedSimpArgs false
namespace Go.EM
variable [Drawn]
mutual
def lowV (n:Nat):AVal→Bool
  | .agg cs=>lowL n cs
  | .tup vs=>lowL n vs
  | .tree _ _ xs=>lowL n xs
  | .own r _ _ _ _=>Nat.ble (r+1) n
  | .ptr r _ _ _=>Nat.ble (r+1) n
  | .rptr cs=>lowL n cs
  | .func _ a b=>lowL n a&&lowL n b
  | .iface _ v=>lowV n v
  | .map r=>Nat.ble (r+1) n
  | .int _ _=>true
  | .bool _=>true
  | .str _=>true
  | .nil=>true
  | .nilptr=>true
  | .nilfunc=>true
  | .niliface=>true
  | .nilmap=>true
  | .any=>true
def lowL (n:Nat):List AVal→Bool
  | []=>true
  | v::l=>lowV n v&&lowL n l
end
def lowG (n:Nat):AReg→Bool
  | .row _ _ xs=>lowL n xs
  | .map es=>es.all fun e=>lowV n e.1&&lowV n e.2
  | _=>true
section
variable {w:World}{O:Nat→Prop}{α:AM}{n:Nat}
theorem take_some {A:Type}{l:List A}{n r:Nat}{x:A} (h:(l.take n)[r]? = some x):l[r]? = some x∧r<n:=by
  rw[List.getElem?_take] at h
  split at h
  · exact ⟨h,by assumption⟩
  · cases h
theorem owned_take {b:Nat} (h:Owned (α.take n) b):Owned α b:=by
  obtain ⟨r,ri,h1,h2⟩:=h
  exact ⟨r,ri,(take_some h1).1,h2⟩
theorem len_take {r:Nat} (h:r<α.length) (hn:r<n):r<(α.take n).length:=by
  rw[List.length_take]; omega
mutual
theorem Rep_cut:∀ (x:AVal) (v:Value),lowV n x=true→Rep w O α x v→Rep w O (α.take n) x v
  | .int ..,_,_,h=>h
  | .bool _,_,_,h=>h
  | .str _,_,_,h=>h
  | .agg cs,v,hc,h=>by
    simp only[Rep] at h ⊢
    obtain ⟨l,e,hl⟩:=h
    exact ⟨l,e,RepL_cut cs l (by simpa only[lowV] using hc) hl⟩
  | .tup cs,v,hc,h=>by
    simp only[Rep] at h ⊢
    obtain ⟨l,e,hl⟩:=h
    exact ⟨l,e,RepL_cut cs l (by simpa only[lowV] using hc) hl⟩
  | .nil,_,_,h=>by simpa only[Rep] using h
  | .tree full m xs,v,hc,h=>by
    simp only[Rep] at h ⊢
    obtain ⟨a,cap,e,h1,h2,h3⟩:=h
    refine ⟨a,cap,e,h1,h2,?_⟩
    rcases h3 with h3 | ⟨hn,b,off,ha,hO,hW,hr⟩
    · exact .inl h3
    · exact .inr ⟨hn,b,off,ha,hO,fun h=>hW (owned_take h),RepRow_cut m b off xs (by simpa only[lowV] using hc) hr⟩
  | .own r m top off len,v,hc,h=>by
    simp only[lowV,Nat.ble_eq] at hc
    simp only[Rep] at h ⊢
    obtain ⟨h1,a,cap,e0,e1,e2,h2⟩:=h
    exact ⟨len_take h1 hc,a,cap,e0,e1,e2,fun ri hr=>h2 ri (take_some hr).1⟩
  | .ptr r top i off,v,hc,h=>by
    simp only[lowV,Nat.ble_eq] at hc
    simp only[Rep] at h ⊢
    obtain ⟨h1,b,o,e0,h2⟩:=h
    exact ⟨len_take h1 hc,b,o,e0,fun ri hr=>h2 ri (take_some hr).1⟩
  | .rptr cs,v,hc,h=>by
    simp only[Rep] at h ⊢
    obtain ⟨b,off,e,h3⟩:=h
    refine ⟨b,off,e,?_⟩
    rcases h3 with h3 | ⟨hO,hW,hr⟩
    · exact .inl h3
    · exact .inr ⟨hO,fun h=>hW (owned_take h),RepMem_cut b off cs (by simpa only[lowV] using hc) hr⟩
  | .nilptr,_,_,h=>h
  | .func fn a b,v,hc,h=>by
    simp only[lowV,Bool.and_eq_true] at hc
    simp only[Rep] at h ⊢
    obtain ⟨l,m,e,hl,hm⟩:=h
    exact ⟨l,m,e,RepL_cut a l hc.1 hl,RepL_cut b m hc.2 hm⟩
  | .nilfunc,_,_,h=>h
  | .iface t x,v,hc,h=>by
    simp only[Rep] at h ⊢
    obtain ⟨u,e,hu⟩:=h
    exact ⟨u,e,Rep_cut x u (by simpa only[lowV] using hc) hu⟩
  | .niliface,_,_,h=>h
  | .map r,v,hc,h=>by
    simp only[lowV,Nat.ble_eq] at hc
    simp only[Rep] at h ⊢
    obtain ⟨h1,b,e0,h2⟩:=h
    exact ⟨len_take h1 hc,b,e0,fun ri hr=>h2 ri (take_some hr).1⟩
  | .nilmap,_,_,h=>h
  | .any,_,_,_=>by simp only[Rep]
theorem RepL_cut:∀ (xs:List AVal) (l:List Value),lowL n xs=true→RepL w O α xs l→RepL w O (α.take n) xs l
  | [],l,_,h=>by simpa only[RepL] using h
  | x::xs,l,hc,h=>by
    simp only[lowL,Bool.and_eq_true] at hc
    simp only[RepL] at h ⊢
    obtain ⟨v,vs,e,h1,h2⟩:=h
    exact ⟨v,vs,e,Rep_cut x v hc.1 h1,RepL_cut xs vs hc.2 h2⟩
theorem RepRow_cut (m b:Nat):∀ (off:Nat) (xs:List AVal),lowL n xs=true→RepRow w O α m b off xs→RepRow w O (α.take n) m b off xs
  | _,[],_,_=>by simp only[RepRow]
  | off,x::xs,hc,h=>by
    simp only[lowL,Bool.and_eq_true] at hc
    simp only[RepRow] at h ⊢
    obtain ⟨⟨v,h1,h2⟩,h5⟩:=h
    exact ⟨⟨v,Rep_cut x v hc.1 h1,h2⟩,RepRow_cut m b _ xs hc.2 h5⟩
theorem RepMem_cut (b:Nat):∀ (off:Nat) (xs:List AVal),lowL n xs=true→RepMem w O α b off xs→RepMem w O (α.take n) b off xs
  | _,[],_,_=>by simp only[RepMem]
  | off,x::xs,hc,h=>by
    simp only[lowL,Bool.and_eq_true] at hc
    simp only[RepMem] at h ⊢
    obtain ⟨⟨v,h1,h2⟩,h5⟩:=h
    exact ⟨⟨v,h1,Rep_cut x v hc.1 h2⟩,RepMem_cut b _ xs hc.2 h5⟩
end
theorem RepEs_cut:∀ (es:List (AVal×AVal)) (l:List MapEntry),(es.all fun e=>lowV n e.1&&lowV n e.2)=true→RepEs w O α es l→RepEs w O (α.take n) es l
  | [],l,_,h=>h
  | e::es,l,hc,h=>by
    simp only[List.all_cons,Bool.and_eq_true] at hc
    simp only[RepEs] at h ⊢
    obtain ⟨m,ms,h0,h1,h2,h3⟩:=h
    exact ⟨m,ms,h0,Rep_cut _ _ hc.1.1 h1,Rep_cut _ _ hc.1.2 h2,RepEs_cut es ms hc.2 h3⟩
theorem Inv.cut {st:Store} (hi:Inv w O α st) (n:Nat) (hl:∀ r g,r<n→st[r]? = some g→lowG n g=true):Inv w O (α.take n) (st.take n) where
  len:=by rw[List.length_take,List.length_take,hi.len]
  reg r g hg:=by
    obtain ⟨hg,hr⟩:=take_some hg
    have hlow:=hl r g hr hg
    have h:=hi.reg r g hg
    have hat:(α.take n)[r]? = α[r]? := List.getElem?_take_of_lt hr
    cases g with
    | dead=>simp only[RegRep] at h ⊢; rw[hat]; exact h
    | row e k xs =>
      simp only[RegRep] at h ⊢
      obtain ⟨ri,h1,h2,h3,h4,h5,c,el,fz,h6,h7,h8,h9,h10⟩:=h
      exact ⟨ri,by rw[hat]; exact h1,h2,h3,h4,h5,c,el,fz,h6,h7,RepRow_cut _ _ 0 xs hlow h8,h9,h10⟩
    | iter s pos =>
      simp only[RegRep] at h ⊢
      rw[hat]; exact h
    | fix o =>
      simp only[RegRep] at h ⊢
      rw[hat]; exact h
    | map es =>
      simp only[RegRep] at h ⊢
      obtain ⟨ri,h1,h2,ms,clock,h4,h5,h6⟩:=h
      exact ⟨ri,by rw[hat]; exact h1,h2,ms,clock,h4,RepEs_cut es _ hlow h5,h6⟩
  inj r r' ri ri' h1 h2:=hi.inj r r' ri ri' (take_some h1).1 (take_some h2).1
  fresh r ri h:=hi.fresh r ri (take_some h).1
  bound:=hi.bound
theorem Ext.cut {w':World}{α':AM} (h:Ext w α w' α') {n:Nat} (hn:α.length≤n):Ext w α w' (α'.take n) :=
  ⟨h.os,h.tape,h.output,h.size,h.old,by rw[List.length_take]; have:=h.len; omega,fun r ri hr hx=>h.keep r ri hr (take_some hx).1,fun b hb=>h.own b (owned_take hb),h.dr⟩
theorem Ext.fixed {w':World}{α':AM} (h:Ext w α w' α') {i:Nat}{ri ri':RI} (h1:α[i]? = some (some ri)) (t1:ri.top=0) (h2:α'[i]? = some (some ri')) (t2:ri'.top=0):ri'=ri:=by
  have hl:i<α.length:=by
    rcases Nat.lt_or_ge i α.length with h' | h'
    · exact h'
    · rw[List.getElem?_eq_none h'] at h1; cases h1
  obtain ⟨rj,g1,g2,g3⟩:=h.keep i ri' hl h2
  rw[h1] at g1
  cases g1
  exact (g3 (by omega)).symm
theorem fix_at {st:Store} (hi:Inv w O α st) {i:Nat}{o:Obj} (h:st[i]? = some (.fix o)):∃ ri,α[i]? = some (some ri)∧ri.top=0∧w.heap[ri.block]? = some o:=hi.reg i _ h
theorem ptr0_at {i:Nat}{ri:RI}{v:Value} (h1:α[i]? = some (some ri)) (h2:ri.top=0) (h:Rep w O α (.ptr i 0 0 0) v):v = .pointer (some ⟨ri.block,0,none⟩):=by
  simp only[Rep] at h
  obtain ⟨_,b,o,rfl,h3⟩:=h
  obtain ⟨rfl,rfl⟩:=(h3 ri h1).2 h2
  simp
theorem Inv.refix {st : Store} (hi : Inv w O α st) {w1 : World} (hw : w1 = w ∨ w1 = w.drew) {i : Nat} {ri : RI} (h1 : α[i]? = some (some ri)) (h2 : ri.top = 0) (o' : Obj) :
    Ext w α (ChangeMaps.setBlock w1 ri.block o') α∧Inv (ChangeMaps.setBlock w1 ri.block o') O α (st.set i (.fix o')):=by
  have hlt:i<α.length:=by
    rcases Nat.lt_or_ge i α.length with h' | h'
    · exact h'
    · rw[List.getElem?_eq_none h'] at h1; cases h1
  have hb:=(hi.fresh i ri h1).2
  have hset:α.set i (some ri)=α:=by
    apply List.ext_getElem?
    intro j
    rw[List.getElem?_set]
    split
    · rename_i e
      subst e
      simp[hlt] at h1 ⊢
      exact h1.symm
    · rfl
  have hh:w1.heap=w.heap∧w1.os=w.os∧w1.tape=w.tape∧w1.output=w.output∧w.drawn≤w1.drawn:=by
    rcases hw with rfl | rfl
    · exact ⟨rfl,rfl,rfl,rfl,Nat.le_refl _⟩
    · exact ⟨rfl,rfl,rfl,rfl,Nat.le_succ _⟩
  have:=hi.turn (w':=ChangeMaps.setBlock w1 ri.block o') (ri':=ri) (g:=.fix o') h1 hh.2.1 hh.2.2.1 hh.2.2.2.1 (by simp[ChangeMaps.setBlock,hh.1]) hh.2.2.2.2
    (fun k _ hk=>by simp[ChangeMaps.setBlock,hh.1,Array.getElem?_setIfInBounds,Ne.symm hk]) (.inl rfl) (Nat.le_refl _) (fun _=>rfl) (by
      intro _
      simp only[RegRep]
      exact ⟨ri,by rw[hset]; exact h1,h2,by simp[ChangeMaps.setBlock,hh.1,Array.getElem?_setIfInBounds,hb]⟩)
  rw[hset] at this
  exact this
end
theorem wanted_none {o:Oper}{ys:Nat→Option Bool} (h:o.guard=none):Region.wanted o ys=true:=by
  unfold Region.wanted
  rw[h]
section
variable {w:World}{O:Nat→Prop}{α:AM}{n:Nat}
mutual
theorem Rep_low (hn:α.length≤n):∀ (x:AVal) (v:Value),Rep w O α x v→lowV n x=true
  | .int ..,_,_=>rfl
  | .bool _,_,_=>rfl
  | .str _,_,_=>rfl
  | .agg cs,v,h=>by
    simp only[Rep] at h
    obtain ⟨l,e,hl⟩:=h
    simpa only[lowV] using RepL_low hn cs l hl
  | .tup cs,v,h=>by
    simp only[Rep] at h
    obtain ⟨l,e,hl⟩:=h
    simpa only[lowV] using RepL_low hn cs l hl
  | .nil,_,_=>rfl
  | .tree full m xs,v,h=>by
    simp only[Rep] at h
    obtain ⟨a,cap,e,h1,h2,h3⟩:=h
    rcases h3 with h3 | ⟨_,b,off,ha,hO,hW,hr⟩
    · subst h3; rfl
    · simpa only[lowV] using RepRow_low hn m b off xs hr
  | .own r m top off len,v,h=>by
    simp only[Rep] at h
    simp only[lowV,Nat.ble_eq]
    have:=h.1
    omega
  | .ptr r top i off,v,h=>by
    simp only[Rep] at h
    simp only[lowV,Nat.ble_eq]
    have:=h.1
    omega
  | .rptr cs,v,h=>by
    simp only[Rep] at h
    obtain ⟨b,off,e,h3⟩:=h
    rcases h3 with h3 | ⟨hO,hW,hr⟩
    · subst h3; rfl
    · simpa only[lowV] using RepMem_low hn b off cs hr
  | .nilptr,_,_=>rfl
  | .func fn a b,v,h=>by
    simp only[Rep] at h
    obtain ⟨l,m,e,hl,hm⟩:=h
    simp only[lowV,RepL_low hn a l hl,RepL_low hn b m hm,Bool.and_self]
  | .nilfunc,_,_=>rfl
  | .iface t x,v,h=>by
    simp only[Rep] at h
    obtain ⟨u,e,hu⟩:=h
    simpa only[lowV] using Rep_low hn x u hu
  | .niliface,_,_=>rfl
  | .map r,v,h=>by
    simp only[Rep] at h
    simp only[lowV,Nat.ble_eq]
    have:=h.1
    omega
  | .nilmap,_,_=>rfl
  | .any,_,_=>rfl
theorem RepL_low (hn:α.length≤n):∀ (xs:List AVal) (l:List Value),RepL w O α xs l→lowL n xs=true
  | [],l,_=>rfl
  | x::xs,l,h=>by
    simp only[RepL] at h
    obtain ⟨v,vs,e,h1,h2⟩:=h
    simp only[lowL,Rep_low hn x v h1,RepL_low hn xs vs h2,Bool.and_self]
theorem RepRow_low (hn:α.length≤n) (m b:Nat):∀ (off:Nat) (xs:List AVal),RepRow w O α m b off xs→lowL n xs=true
  | _,[],_=>rfl
  | off,x::xs,h=>by
    simp only[RepRow] at h
    obtain ⟨⟨v,h1,h2⟩,h5⟩:=h
    simp only[lowL,Rep_low hn x v h1,RepRow_low hn m b _ xs h5,Bool.and_self]
theorem RepMem_low (hn:α.length≤n) (b:Nat):∀ (off:Nat) (xs:List AVal),RepMem w O α b off xs→lowL n xs=true
  | _,[],_=>rfl
  | off,x::xs,h=>by
    simp only[RepMem] at h
    obtain ⟨⟨v,h1,h2⟩,h5⟩:=h
    simp only[lowL,Rep_low hn x v h2,RepMem_low hn b _ xs h5,Bool.and_self]
end
theorem Inv.low {st:Store} (hi:Inv w O α st) (hn:α.length≤n) {r:Nat}{g:AReg} (hg:st[r]? = some g):lowG n g=true:=by
  have h:=hi.reg r g hg
  cases g with
  | dead=>rfl
  | iter s p=>rfl
  | fix o=>rfl
  | row e k xs =>
    simp only[RegRep] at h
    obtain ⟨ri,h1,h2,h3,h4,h5,c,el,fz,h6,h7,h8,h9,h10⟩:=h
    exact RepRow_low hn _ _ _ _ h8
  | map es =>
    simp only[RegRep] at h
    obtain ⟨ri,h1,h2,ms,clock,h4,h5,h6⟩:=h
    have:∀ (es:List (AVal×AVal)) (l:List MapEntry),RepEs w O α es l→(es.all fun e=>lowV n e.1&&lowV n e.2)=true:=by
      intro es
      induction es with
      | nil=>intro l _; rfl
      | cons e es ih =>
        intro l h
        simp only[RepEs] at h
        obtain ⟨m,ms,rfl,g1,g2,g3⟩:=h
        simp only[List.all_cons,Rep_low hn _ _ g1,Rep_low hn _ _ g2,ih ms g3,Bool.and_self]
    exact this es _ h5
theorem set_same {A:Type}{l:List A}{i:Nat}{x:A} (h:l[i]? = some x):l.set i x=l:=by
  apply List.ext_getElem?
  intro j
  rw[List.getElem?_set]
  split
  · rename_i e
    subst e
    have hl:=(List.getElem?_eq_some_iff.1 h).1
    rw[if_pos hl,h]
  · rfl
theorem Inv.retell {st:Store} (hi:Inv w O α st) {i:Nat}{g:AReg} (hg:RegRep w O α i g) (hl:i<st.length):Inv w O α (st.set i g) where
  len:=by rw[List.length_set,hi.len]
  reg r g' hr:=by
    by_cases e:r=i
    · subst e
      rw[List.getElem?_set_self hl] at hr
      cases hr; exact hg
    · rw[List.getElem?_set_ne (Ne.symm e)] at hr
      exact hi.reg r g' hr
  inj:=hi.inj
  fresh:=hi.fresh
  bound:=hi.bound
theorem Inv.still {st : Store} (hi : Inv w O α st) {i : Nat} {es : List (AVal × AVal)} (h : st[i]? = some (.map es)) : ∃ ri ms clock, α[i]? = some (some ri) ∧ ri.top = 0 ∧ w.heap[ri.block]? = some (.map ms clock) ∧
    RepEs w O α es ms.toList∧MapKept.Stamped ms clock∧Inv w O α (st.set i (.fix (.map ms clock))):=by
  obtain ⟨ri,h1,h2,ms,clock,h4,h5,h6⟩:=hi.reg i _ h
  exact ⟨ri,ms,clock,h1,h2,h4,h5,h6,hi.retell ⟨ri,h1,h2,h4⟩ (List.getElem?_eq_some_iff.1 h).1⟩
theorem RepEs_const:∀ (l:List MapEntry),RepEs w O α (l.map fun m=>(ofConst m.key,ofConst m.val)) l
  | []=>rfl
  | m::l=>by
    simp only[List.map_cons,RepEs]
    exact ⟨m,l,rfl,ofConst_rep _,ofConst_rep _,RepEs_const l⟩
theorem Inv.move {st:Store} (hi:Inv w O α st) {i:Nat}{ms:Array MapEntry}{clock:Nat} (h:st[i]? = some (.fix (.map ms clock))) (hs:MapKept.Stamped ms clock):Inv w O α (st.set i (.map (ms.toList.map fun m=>(ofConst m.key,ofConst m.val)))):=by
  obtain ⟨ri,h1,h2,h4⟩:=hi.reg i _ h
  exact hi.retell ⟨ri,h1,h2,ms,clock,h4,RepEs_const _,hs⟩ (List.getElem?_eq_some_iff.1 h).1
end
section
variable {P:Program}{E:Env}{h:Hints}{N:Nat}
theorem mapRange_wp (hE : EnvOk P E) {it tn tb te b0 b1 i1 i2 : Nat} {nx ex en : Oper} {ops2 : List Oper} {rest : Code}
    (hnx:nx.op = .next (.tmp it) false) (hnx1:nx.guard=none) (hnx2:nx.dst=some tn)
    (hex:ex.op = .extract (.tmp tn) 0) (hex1:ex.guard=none) (hex2:ex.dst=some tb)
    (hen:en.op = .entry (.tmp it)) (hen1:en.guard=none) (hen2:en.dst=some te)
    (hN1:tn<N) (hN2:tb<N) (hN3:te<N)
    (hdo:∀ o∈en::ops2,∀ t,o.dst=some t→t<N) (hdr:dstsIn N rest=true)
    {ms:Array MapEntry}{clock bm im ii n0:Nat} (hst:MapKept.Stamped ms clock)
    (G:Array Nat→Store) (S:Array Nat→Slots) (J:Array Nat→Prop)
    (hG:∀ s,(G s).length=n0) (hlow:∀ (s:Array Nat) (r:Nat) (g:AReg),(G s)[r]? = some g→lowG n0 g=true) (hsl:∀ (s:Array Nat) (t:Nat),lowV n0 (getS (S s) t)=true)
    (him:∀ s,(G s)[im]? = some (.fix (.map ms clock))) (hii:ii<n0) (hne:ii≠im) (hit:∀ s,getS (S s) it = .ptr ii 0 0 0) (hSn:∀ s,getS (S s) tn = .any) (hSb:∀ s,getS (S s) tb = .any)
    (body:∀ (s:Array Nat) (e:MapEntry),J s→e∈(leftOf ms s).toList→J (s.push e.born)∧∃ σ2 st2,
      evalOps P E h (en::ops2) ops2 ((te,.tup [ofConst e.key,ofConst e.val])::(tb,.bool true)::(tn,.tup [.bool true,ofConst e.key,ofConst e.val])::S s) ((G s).set ii (.fix (.mapIter (some bm) clock (s.push e.born) clock)))
        (fun σ st=>D P E h rest (Slots×Store) σ st (fun x σ st=>match x with | .normal=>some (σ,st) | _=>none))=some (σ2,st2) ∧
      st2.take n0=(G (s.push e.born)).set ii (.fix (.mapIter (some bm) clock (s.push e.born) clock))∧n0≤st2.length ∧
      ∀ t,getS (S (s.push e.born)) t = .any∨getS (S (s.push e.born)) t=getS σ2 t)
    {w:World}{O:Nat→Prop}{α:AM}{a:Act}{Q:Exit→Act→World→Prop}{rim:RI}
    (hi:Inv w O α ((G #[]).set ii (.fix (.mapIter (some bm) clock #[] clock)))) (hg:GlobOk E.glob w O α) (hs:SlotRep w O α (S #[]) N a) (hrim:α[im]? = some (some rim)) (hbm:rim.block=bm) (hJ:J #[])
    (hQ:∀ s a' w',J s→(leftOf ms s).size=0→Post w O α (S s) ((G s).set ii (.fix (.mapIter (some bm) clock s clock))) N a' w'→Q .normal a' w') :
    (Code.block b0 (.loop (.seq (.region i1 #[nx,ex] false) (.seq (.cond (.tmp tb) .skip (.exit b0)) (.block b1 (.seq (.region i2 (en::ops2).toArray false) rest)))))).wp P Q a w:=by
  have hat:∀ s o,((G s).set ii (.fix o))[ii]? = some (.fix o):=fun s o=>List.getElem?_set_self (by rw[hG]; exact hii)
  have hatm:∀ s o,((G s).set ii (.fix o))[im]? = some (.fix (.map ms clock)):=fun s o=>by rw[List.getElem?_set_ne hne]; exact him s
  obtain ⟨rii,f1,f2,f4⟩:=fix_at hi (hat _ _)
  have tim:rim.top=0:=by
    obtain ⟨rj,g1,g2,_⟩:=fix_at hi (hatm _ _)
    rw[hrim] at g1; cases g1; exact g2
  refine wp_block (wp_loop (fun a' w'=>∃ s α',J s∧Ext w α w' α'∧Inv w' O α' ((G s).set ii (.fix (.mapIter (some bm) clock s clock)))∧SlotRep w' O α' (S s) N a')
    (fun a' w'=>(leftOf ms (w'.iterSeen rii.block)).size) ⟨#[],α,hJ,Ext.refl _ _,hi,hs⟩ ?_)
  rintro a1 w1 ⟨s,α1,hJ1,e1,hi1,hs1⟩
  obtain ⟨ri,p1,p2,p4⟩:=fix_at hi1 (hat _ _)
  obtain ⟨rj,q1,q2,q4⟩:=fix_at hi1 (hatm _ _)
  have hri:=e1.fixed f1 f2 p1 p2
  have hrj:=e1.fixed hrim tim q1 q2
  subst hri
  subst hrj
  rw[hbm] at q4
  have hseen:w1.iterSeen ri.block=s:=by simp[World.iterSeen,p4]
  have hit1:a1.eval (.tmp it) = .pointer (some ⟨ri.block,0,none⟩):=by
    have:=hs1.slot it
    rw[hit] at this
    exact ptr0_at p1 p2 this
  have hblt:ri.block<w1.heap.size:=(hi1.fresh ii ri p1).2
  refine wp_seq (wp_region ?_)
  show wpOps P #[nx,ex] _ [0,1] a1 w1
  rw[wpOps_cons]
  unfold wpOp
  simp only[List.getElem?_toArray,List.getElem?_cons_zero,wanted_none hnx1,if_true]
  left
  have hexec:execOp a1.eval nx=(do pure (.value (← Instr.next (a1.eval (.tmp it)) false nx.type))):=by unfold execOp; simp only[hnx]
  have exs : ∀ (b : Bool) (rs : List AVal) (us : List Value) (w2 : World) (α2 : AM) (st2 : Store) (K : Exit → Act → World → Prop), Inv w2 O α2 st2 → GlobOk E.glob w2 O α2 → Ext w1 α1 w2 α2 → RepL w2 O α2 rs us →
      (∀ a' w',Post w2 O α2 ((tb,.bool b)::(tn,.tup (.bool b::rs))::S s) st2 N a' w'→K .normal a' w') →
      wpOps P #[nx,ex] K [1] (a1.put nx.dst (.tuple (Value.bool b::us).toArray)) w2:=by
    intro b rs us w2 α2 st2 K i2 g2 x2 r2 hK
    have hslot:=slot_put (d:=some tn) (v:=.tup (.bool b::rs)) (u:=.tuple (Value.bool b::us).toArray) (hs1.ext x2) (fun t ht=>by cases ht; exact hN1) (by
      simp only[Rep]
      exact ⟨_,rfl,by simp only[RepL,Rep]; exact ⟨_,_,rfl,rfl,r2⟩⟩)
    rw[hnx2]
    have hev:evalOps P E h [nx,ex] [ex] ((tn,.tup (.bool b::rs))::S s) st2 (fun σ st=>some (σ,st))=some ((tb,.bool b)::(tn,.tup (.bool b::rs))::S s,st2):=by
      have hc:cls E h ex=0:=by unfold cls; simp only[hex]
      have ho:opP P E ((tn,.tup (.bool b::rs))::S s) ex=some (.bool b):=by
        unfold opP; simp only[hex,opnd,getS,Nat.beq_refl,cond_true,aextract,List.getElem?_cons_zero]
      simp only[evalOps,hc,hex1,hex2,ho,Nat.beq_refl,Option.bind_some]
    obtain ⟨σ',st',hk,hw⟩:=evalOps_sound (N:=N) hE (ops:=[nx,ex]) (fun o ho t ht=>by
      rcases List.mem_cons.1 ho with rfl | ho
      · rw[hnx2] at ht; cases ht; exact hN1
      · rcases List.mem_cons.1 ho with rfl | ho
        · rw[hex2] at ht; cases ht; exact hN2
        · cases ho) [ex] 1 _ st2 (fun j=>by rw[Nat.add_comm]; rfl) hev
    cases hk
    exact hw w2 O α2 _ K i2 g2 hslot hK
  have hg1:=hg.ext e1
  have back:∀ {b:Bool}{rs:List AVal}{w2:World}{α2:AM}{a2:Act},SlotRep w2 O α2 ((tb,.bool b)::(tn,.tup (.bool b::rs))::S s) N a2→∀ t,Rep w2 O α2 (getS (S s) t) (a2.tmps.getD t undef):=by
    intro b rs w2 α2 a2 hs2 t
    have h2:=hs2.slot t
    simp only[getS] at h2
    cases hb:Nat.beq tb t with
    | true=>rw[← Nat.eq_of_beq_eq_true hb,hSb]; simp only[Rep]
    | false =>
      rw[hb,cond_false] at h2
      cases hn:Nat.beq tn t with
      | true=>rw[← Nat.eq_of_beq_eq_true hn,hSn]; simp only[Rep]
      | false=>rw[hn,cond_false] at h2; exact h2
  rcases run_next_at (P:=P) w1 nx.type ri.block bm clock clock s ms clock p4 q4 hst.1 (Nat.le_refl _) with ⟨n1,n2⟩ | ⟨e,n1,w2,n2,n3⟩
  · -- nothing is left
    refine wp_of_run hexec (by rw[hit1]; exact n2) ?_
    refine exs false [] [] w1 α1 _ _ hi1 hg1 (Ext.refl _ _) (by simp only[RepL]) (fun a2 w2 hp => ?_)
    obtain ⟨α2,x1,x2,x3⟩:=hp
    show (Code.seq _ _).wp P _ a2 w2
    refine wp_seq (wp_cond_false ?_ (wp_exit ?_))
    · have:=x3.slot tb
      simp only[getS,Nat.beq_refl,cond_true,Rep] at this
      exact this
    · show Exit.inBlock b0 Q (.exit b0) a2 w2
      simp only[Exit.inBlock,if_true]
      refine hQ s a2 w2 hJ1 n1 ⟨α2,e1.trans x1,x2,?_⟩
      refine ⟨fun t => ?_,x3.defers,x3.size⟩
      exact back x3 t
  · -- an entry has come
    have hw2:w2.heap=w1.heap:=by rcases n2 with rfl | rfl<;>rfl
    obtain ⟨y1,y2⟩:=hi1.refix n2 p1 p2 (.mapIter (some bm) clock (s.push e.born) clock)
    rw[List.set_set] at y2
    refine wp_of_run hexec (by rw[hit1]; exact n3) ?_
    refine exs true [ofConst e.key,ofConst e.val] [e.key,e.val] _ α1 _ _ y2 (hg1.ext y1) y1 (by simp only[RepL]; exact ⟨_,_,rfl,ofConst_rep _,_,_,rfl,ofConst_rep _,rfl⟩) (fun a2 w3 hp => ?_)
    obtain ⟨α2,x1,x2,x3⟩:=hp
    show (Code.seq _ _).wp P _ a2 w3
    refine wp_seq (wp_cond_true ?_ (wp_skip ?_))
    · have:=x3.slot tb
      simp only[getS,Nat.beq_refl,cond_true,Rep] at this
      exact this
    show (Code.block _ _).wp P _ a2 w3
    refine wp_block (wp_seq (wp_region ?_))
    obtain ⟨hJ2,σ2,st2,hev,htk,hle,hsl2⟩:=body s e hJ1 n1
    obtain ⟨ri2,r1,r2,r4⟩:=fix_at x2 (hat _ _)
    obtain ⟨rj2,u1,u2,u4⟩:=fix_at x2 (hatm _ _)
    have e2:=(e1.trans y1).trans x1
    have hri2:=e2.fixed f1 f2 r1 r2
    have hrj2:=e2.fixed hrim tim u1 u2
    subst hri2
    subst hrj2
    rw[hbm] at u4
    have hmem:=(mem_left n1).1
    have hit2:a2.eval (.tmp it) = .pointer (some ⟨ri2.block,0,none⟩):=by
      have:=back x3 it
      rw[hit] at this
      exact ptr0_at r1 r2 this
    have hlen:(en::ops2).toArray.size=ops2.length+1:=by simp
    rw[hlen,List.range_eq_range',List.range'_succ,wpOps_cons]
    unfold wpOp
    simp only[List.getElem?_toArray,List.getElem?_cons_zero,wanted_none hen1,if_true]
    left
    have hexec2:execOp a2.eval en=(do pure (.value (← Instr.entry (a2.eval (.tmp it))))):=by unfold execOp; simp only[hen]
    refine wp_of_run hexec2 (by rw[hit2]; exact run_entry_at w3 ri2.block bm clock s ms clock e r4 u4 hmem hst.2.1) ?_
    have hslot:=slot_put (d:=some te) (v:=.tup [ofConst e.key,ofConst e.val]) (u:=.tuple #[e.key,e.val]) x3 (fun t ht=>by cases ht; exact hN3) (by
      simp only[Rep]
      exact ⟨[e.key,e.val],rfl,by simp only[RepL]; exact ⟨_,_,rfl,ofConst_rep _,_,_,rfl,ofConst_rep _,rfl⟩⟩)
    rw[hen2]
    obtain ⟨σ3,st3,hk3,hw3⟩:=evalOps_sound (N:=N) hE (ops:=en::ops2) hdo ops2 1 _ _ (fun j=>by rw[Nat.add_comm]; rfl) hev
    obtain ⟨x,σ4,st4,hk4,hr4⟩:=D_sound (N:=N) hE rest _ σ3 st3 _ _ hdr hk3
    cases x with
    | exit _=>cases hk4
    | ret=>cases hk4
    | normal =>
      cases hk4
      refine hw3 w3 O α2 _ _ x2 (hg.ext e2) hslot (fun a4 w4 hp4 => ?_)
      obtain ⟨α4,z1,z2,z3⟩:=hp4
      show rest.wp P _ a4 w4
      refine hr4 w4 O α4 a4 _ z2 (hg.ext (e2.trans z1)) z3 (fun a5 w5 hp5 => ?_)
      obtain ⟨α5,v1,v2,v3⟩:=hp5
      have e5:=(e2.trans z1).trans v1
      have hn0:α.length≤n0:=by
        have:=hi.len
        rw[List.length_set,hG] at this
        omega
      have hi5:=v2.cut n0 (fun r g hr hg'=>by
        have hg2:(st2.take n0)[r]? = some g:=by rw[List.getElem?_take_of_lt hr]; exact hg'
        rw[htk] at hg2
        by_cases hri:r=ii
        · subst hri
          rw[hat] at hg2; cases hg2; rfl
        · rw[List.getElem?_set_ne (Ne.symm hri)] at hg2
          exact hlow _ _ _ hg2)
      rw[htk] at hi5
      refine ⟨⟨s.push e.born,α5.take n0,hJ2,e5.cut hn0,hi5,⟨fun t => ?_,v3.defers,v3.size⟩⟩,?_⟩
      · rcases hsl2 t with h1 | h1
        · rw[h1]; simp only[Rep]
        · refine Rep_cut _ _ (hsl _ t) ?_
          rw[h1]; exact v3.slot t
      · have e6:=e5.cut hn0
        obtain ⟨ri6,s1,s2,s4⟩:=fix_at hi5 (hat _ _)
        have hri6:=e6.fixed f1 f2 s1 s2
        subst hri6
        have:w5.iterSeen ri6.block=s.push e.born:=by simp[World.iterSeen,s4]
        rw[this,hseen]
        exact left_shrinks ms s e n1
theorem evalOps_head (hE : EnvOk P E) {R : Type} {ops : List Oper} (hd : ∀ o ∈ ops, ∀ t, o.dst = some t → t < N) {K : Slots → Store → Option R} {r : R} :
    ∀ (os:List Oper) (k:Nat) (σ:Slots) (st:Store),(∀ j,j<os.length→os[j]? = ops[k+j]?)→evalOps P E h ops os σ st K=some r →
      ∃ σ' st',K σ' st'=some r∧∀ (js:List Nat) (w:World) (O:Nat→Prop) (α:AM) (a:Act) (Q:Exit→Act→World→Prop),Inv w O α st→GlobOk E.glob w O α→SlotRep w O α σ N a →
        (∀ a' w',Post w O α σ' st' N a' w'→wpOps P ops.toArray Q js a' w')→wpOps P ops.toArray Q (List.range' k os.length++js) a w
  | [],k,σ,st,_,hh=>⟨σ,st,hh,fun js w O α a Q hi hg hs hQ=>by simpa using hQ a w ⟨α,Ext.refl w α,hi,hs⟩⟩
  | o::os,k,σ,st,hk,hh=>by
    obtain ⟨v,st1,hstep,hrest⟩:=evalOps_step hh
    obtain ⟨σ',st',hK,hw⟩:=evalOps_head hE hd os (k+1) (pushD o.dst v σ) st1 (fun j hj=>by have:=hk (j+1) (by simp; omega); simp at this; rw[show k+1+j=k+(j+1) by omega]; exact this) hrest
    refine ⟨σ',st',hK,fun js w O α a Q hi hg hs hQ => ?_⟩
    have ho:ops[k]? = some o:=by have:=hk 0 (by simp); simpa using this.symm
    have hmem:o∈ops:=List.mem_of_getElem? ho
    rw[List.length_cons,List.range'_succ,List.cons_append,wpOps_cons]
    refine step_sound hE ho hstep hi hg hs _ Q (fun u w' α' he hi' hr => ?_)
    refine hw js w' O α' _ Q hi' (hg.ext he) (slot_put (hs.ext he) (hd o hmem) hr) (fun a' w'' hp=>hQ a' w'' ?_)
    obtain ⟨α'',e1,e2,e3⟩:=hp
    exact ⟨α'',he.trans e1,e2,e3⟩
end
end Go.EM
set_option linter.unusedVariables false
set_option linter.unusedSectionVars false
set_option linter.unusedSimpArgs false
namespace Go.EM
variable [Drawn]
section
variable {P:Program}{E:Env}{h:Hints}{N:Nat}{w:World}{O:Nat→Prop}{α:AM}{st:Store}
theorem D_run (hE:EnvOk P E) {c:Code}{σ σ':Slots}{st st':Store}{e:AExit} (hd:dstsIn N c=true) (hD:D P E h c (AExit×Slots×Store) σ st (fun e σ st=>some (e,σ,st))=some (e,σ',st')):Runs P E N c σ st e σ' st':=by
  obtain ⟨e1,σ1,st1,hk,hr⟩:=D_sound (N:=N) hE c _ _ _ _ _ hd hD
  cases hk
  exact hr
theorem entry_slots {vs : List Value} {xs : List AVal} {n : Nat} (hv : RepL w O α xs vs) (hlen : xs.length = n) (hle : n ≤ N) :
    SlotRep w O α (plugK (List.range n) 0 xs) N { tmps:=vs.toArray++Array.replicate (N-vs.toArray.size) undef,defers:=[] }:=by
  have hvl:=RepL_length hv
  refine ⟨fun t => ?_,rfl,by simp; omega⟩
  have:=plug_args (w:=w) (O:=O) (α:=α) n 0 xs hv t
  rw[← List.range_eq_range'] at this
  have e1:(vs.toArray++Array.replicate (N-vs.toArray.size) undef).getD t undef=vs.toArray.getD t undef:=by
    rw[Array.getD_eq_getD_getElem?,Array.getD_eq_getD_getElem?,Array.getElem?_append]
    split
    · rfl
    · rename_i hge
      rw[Array.getElem?_eq_none (by omega:vs.toArray.size≤t)]
      rw[Array.getElem?_replicate]
      split<;>rfl
  rw[e1]
  exact this
theorem take_old {a b:Store} (h:∀ (r:Nat) (g:AReg),a[r]? = some g→b[r]? = some g):b.take a.length=a∧a.length≤b.length:=by
  have hl:a.length≤b.length:=by
    rcases Nat.lt_or_ge b.length a.length with h' | h'
    · have:=h b.length _ (List.getElem?_eq_getElem h')
      rw[List.getElem?_eq_none (Nat.le_refl _)] at this
      cases this
    · exact h'
  refine ⟨?_,hl⟩
  apply List.ext_getElem?
  intro i
  by_cases hi:i<a.length
  · rw[List.getElem?_take_of_lt hi,h i _ (List.getElem?_eq_getElem hi),List.getElem?_eq_getElem hi]
  · rw[List.getElem?_eq_none (by rw[List.length_take]; omega),List.getElem?_eq_none (by omega)]
end
def sumIf (f:MapEntry→Nat):List MapEntry→Array Nat→Nat
  | [],_=>0
  | x::l,s=>(if s.contains x.born then f x else 0)+sumIf f l s
theorem sumIf_other (f:MapEntry→Nat) (s:Array Nat) (b:Nat):∀ (l:List MapEntry),b∉l.map (·.born)→sumIf f l (s.push b)=sumIf f l s
  | [],_=>rfl
  | x::l,h=>by
    have hx:(x.born==b)=false:=by
      cases hc:x.born==b with
      | false=>rfl
      | true=>exact absurd (List.mem_cons.2 (Or.inl (beq_iff_eq.1 hc).symm)) h
    simp only[sumIf,contains_push,hx,Bool.or_false,sumIf_other f s b l (fun e=>h (List.mem_cons.2 (Or.inr e)))]
theorem sumIf_push (f:MapEntry→Nat) (s:Array Nat) (e:MapEntry) (hs:s.contains e.born=false):∀ (l:List MapEntry),(l.map (·.born)).Nodup→e∈l→sumIf f l (s.push e.born)=sumIf f l s+f e
  | x::l,hn,he=>by
    have hn':x.born∉l.map (·.born)∧(l.map (·.born)).Nodup:=List.nodup_cons.1 hn
    rcases List.mem_cons.1 he with rfl | h
    · simp only[sumIf,contains_push,hs,beq_self_eq_true,Bool.or_true,if_true,Bool.false_eq_true,if_false,sumIf_other f s e.born l hn'.1]
      omega
    · have hx : (x.born == e.born) = false := by
        cases hc:x.born==e.born with
        | false=>rfl
        | true=>exact absurd (by rw[beq_iff_eq.1 hc]; exact List.mem_map.2 ⟨e,h,rfl⟩) hn'.1
      simp only[sumIf,contains_push,hx,Bool.or_false,sumIf_push f s e hs l hn'.2 h]
      omega
theorem sumIf_none (f:MapEntry→Nat):∀ (l:List MapEntry),sumIf f l #[]=0
  | []=>rfl
  | x::l=>by
    have:(#[]:Array Nat).contains x.born=false:=by simp
    simp only[sumIf,this,Bool.false_eq_true,if_false,sumIf_none f l]
theorem sumIf_le (f:MapEntry→Nat) (s:Array Nat):∀ (l:List MapEntry),sumIf f l s≤(l.map f).sum
  | []=>by simp[sumIf]
  | x::l=>by
    have:=sumIf_le f s l
    simp only[sumIf,List.map_cons,List.sum_cons]
    split<;>omega
theorem sumIf_all (f:MapEntry→Nat) (s:Array Nat):∀ (l:List MapEntry),(∀ x∈l,s.contains x.born=true)→sumIf f l s=(l.map f).sum
  | [],_=>rfl
  | x::l,h=>by
    simp only[sumIf,h x (List.mem_cons.2 (Or.inl rfl)),if_true,List.map_cons,List.sum_cons,sumIf_all f s l (fun y hy=>h y (List.mem_cons.2 (Or.inr hy)))]
def curOf {A:Type} (old new:MapEntry→List A) (l:List MapEntry) (s:Array Nat):List A:=l.flatMap fun m=>if s.contains m.born then new m else old m
theorem curOf_none {A:Type}{old new:MapEntry→List A}{l:List MapEntry}:curOf old new l #[]=l.flatMap old:=by
  unfold curOf
  congr 1
  funext m
  have:(#[]:Array Nat).contains m.born=false:=by simp
  simp only[this,Bool.false_eq_true,if_false]
theorem curOf_all {A:Type}{old new:MapEntry→List A}{s:Array Nat}:∀ {l:List MapEntry},(∀ x∈l,s.contains x.born=true)→curOf old new l s=l.flatMap new
  | [],_=>rfl
  | x::l,h=>by
    have ih:=curOf_all (old:=old) (new:=new) (s:=s) (l:=l) (fun y hy=>h y (List.mem_cons.2 (Or.inr hy)))
    unfold curOf at ih ⊢
    simp only[List.flatMap_cons,h x (List.mem_cons.2 (Or.inl rfl)),if_true,ih]
theorem curOf_other {A:Type}{old new:MapEntry→List A}{s:Array Nat}{b:Nat}{l:List MapEntry} (h:b∉l.map (·.born)):curOf old new l (s.push b)=curOf old new l s:=by
  unfold curOf
  induction l with
  | nil=>rfl
  | cons x l ih =>
    have hx:(x.born==b)=false:=by
      cases hc:x.born==b with
      | false=>rfl
      | true=>exact absurd (List.mem_cons.2 (Or.inl (beq_iff_eq.1 hc).symm)) h
    simp only[List.flatMap_cons,contains_push,hx,Bool.or_false]
    rw[← ih (fun e=>h (List.mem_cons.2 (Or.inr e)))]
    simp only[contains_push]
theorem curOf_push {A : Type} {old new : MapEntry → List A} {s : Array Nat} {e : MapEntry} {l : List MapEntry} (hs : s.contains e.born = false) (hn : (l.map (·.born)).Nodup) (he : e ∈ l) :
    ∃ A B,(∃ l1 l2,l=l1++e::l2∧A=curOf old new l1 s∧B=curOf old new l2 s)∧curOf old new l s=A++(old e++B)∧curOf old new l (s.push e.born)=A++(new e++B):=by
  obtain ⟨l1,l2,rfl⟩:=List.append_of_mem he
  rw[List.map_append,List.map_cons] at hn
  have h1:e.born∉l1.map (·.born):=by
    intro h
    have:=List.nodup_append.1 hn
    exact this.2.2 _ h _ (List.mem_cons_self ..) rfl
  have h2:e.born∉l2.map (·.born):=(List.nodup_cons.1 (List.nodup_append.1 hn).2.1).1
  have app:∀ s,curOf old new (l1++e::l2) s=curOf old new l1 s++((if s.contains e.born then new e else old e)++curOf old new l2 s):=fun s=>by
    unfold curOf
    rw[List.flatMap_append,List.flatMap_cons]
  refine ⟨_,_,⟨l1,l2,rfl,rfl,rfl⟩,?_,?_⟩
  · rw[app,hs]; rfl
  · rw[app,curOf_other h1,curOf_other h2,contains_push,beq_self_eq_true,Bool.or_true]; rfl
end Go.EM
