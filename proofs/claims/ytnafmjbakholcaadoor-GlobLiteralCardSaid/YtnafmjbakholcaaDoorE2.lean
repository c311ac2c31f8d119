/- The relation between abstract and the model's values and worlds. -/
import Derived.Test.YtnafmjbakholcaaDoorE1
import Derived.Below
import Derived.Laws.Sem
set_option linter.unusedVariables false
namespace Go.EM

structure RI where
  block : Nat
  stride : Nat
  cap : Nat
  top : Nat

abbrev AM := List (Option RI)

def Owned (α : AM) (b : Nat) : Prop := ∃ (r : Nat) (ri : RI), α[r]? = some (some ri) ∧ ri.block = b

mutual
def Rep (w : World) (O : Nat → Prop) (α : AM) : AVal → Value → Prop
  | .int k n, v => v = .int k n
  | .bool b, v => v = .bool b
  | .str s, v => v = .string ⟨s.toArray⟩
  | .agg cs, v => ∃ l : List Value, v = .agg l.toArray ∧ RepL w O α cs l
  | .tup vs, v => ∃ l : List Value, v = .tuple l.toArray ∧ RepL w O α vs l
  | .nil, v => v = .slice none 0 0
  | .tree full n xs, v => ∃ a cap, v = .slice a xs.length cap ∧ xs.length ≤ cap ∧ (full = true → cap = xs.length) ∧
      (xs = [] ∨ n ≠ 0 ∧ ∃ b off, a = some ⟨b, off, none⟩ ∧ ¬ O b ∧ ¬ Owned α b ∧ RepRow w O α n b off xs)
  | .own r n top off len, v => r < α.length ∧ ∃ a cap, v = .slice a len cap ∧ len ≤ cap ∧ (len = 0 ∨ ∃ b o, a = some ⟨b, o, none⟩) ∧
      ∀ ri, α[r]? = some (some ri) → top ≤ ri.top ∧ (ri.top = top → ri.stride = n ∧ off + len ≤ top ∧ cap = ri.cap - off ∧ (off < ri.cap → a = some ⟨ri.block, off * n, none⟩))
  | .ptr r top i off, v => r < α.length ∧ ∃ b o, v = .pointer (some ⟨b, o, none⟩) ∧
      ∀ ri, α[r]? = some (some ri) → top ≤ ri.top ∧ (ri.top = top → b = ri.block ∧ o = i * ri.stride + off)
  | .rptr cs, v => ∃ b off, v = .pointer (some ⟨b, off, none⟩) ∧ (cs = [] ∨ ¬ O b ∧ ¬ Owned α b ∧ RepMem w O α b off cs)
  | .nilptr, v => v = .pointer none
  | .func fn a c, v => ∃ l m : List Value, v = .func fn l.toArray m.toArray ∧ RepL w O α a l ∧ RepL w O α c m
  | .nilfunc, v => v = .nilFunc
  | .iface t x, v => ∃ u, v = .iface t u ∧ Rep w O α x u
  | .niliface, v => v = .nilIface
  | .map r, v => r < α.length ∧ ∃ b, v = .map (some b) ∧ ∀ ri, α[r]? = some (some ri) → ri.top = 0 → b = ri.block
  | .nilmap, v => v = .map none
  | .any, _ => True
def RepL (w : World) (O : Nat → Prop) (α : AM) : List AVal → List Value → Prop
  | [], l => l = []
  | x :: xs, l => ∃ v vs, l = v :: vs ∧ Rep w O α x v ∧ RepL w O α xs vs
def RepRow (w : World) (O : Nat → Prop) (α : AM) (n b : Nat) : Nat → List AVal → Prop
  | _, [] => True
  | off, x :: xs => (∃ v, Rep w O α x v ∧ x.cells.length = n ∧ v.cells.size = n ∧ (∀ j, j < n → w.cell? ⟨b, off + j, none⟩ = v.cells[j]?) ∧ ∀ u ∈ v.cells, u.oneCell' = true) ∧ RepRow w O α n b (off + n) xs
def RepMem (w : World) (O : Nat → Prop) (α : AM) (b : Nat) : Nat → List AVal → Prop
  | _, [] => True
  | off, c :: cs => (∃ v, w.cell? ⟨b, off, none⟩ = some v ∧ Rep w O α c v) ∧ RepMem w O α b (off + 1) cs
end

structure Ext (w : World) (α : AM) (w' : World) (α' : AM) : Prop where
  os : w'.os = w.os
  tape : w'.tape = w.tape
  output : w'.output = w.output
  size : w.heap.size ≤ w'.heap.size
  old : ∀ b, b < w.heap.size → ¬ Owned α b → w'.heap[b]? = w.heap[b]?
  len : α.length ≤ α'.length
  keep : ∀ r ri', r < α.length → α'[r]? = some (some ri') → ∃ ri, α[r]? = some (some ri) ∧ ri.top ≤ ri'.top ∧ (ri.top = ri'.top → ri = ri')
  own : ∀ b, Owned α' b → w.heap.size ≤ b ∨ Owned α b

theorem Ext.refl (w : World) (α : AM) : Ext w α w α :=
  ⟨rfl, rfl, rfl, Nat.le_refl _, fun _ _ _ => rfl, Nat.le_refl _, fun r ri _ h => ⟨ri, h, Nat.le_refl _, fun _ => rfl⟩, fun b h => .inr h⟩

theorem Ext.trans {w w' w'' : World} {α α' α'' : AM} (h : Ext w α w' α') (k : Ext w' α' w'' α'') : Ext w α w'' α'' where
  os := k.os.trans h.os
  tape := k.tape.trans h.tape
  output := k.output.trans h.output
  size := Nat.le_trans h.size k.size
  old b hb ho := (k.old b (Nat.lt_of_lt_of_le hb h.size) (fun hx => (h.own b hx).elim (fun hge => absurd hb (Nat.not_lt.mpr hge)) ho)).trans (h.old b hb ho)
  len := Nat.le_trans h.len k.len
  keep r ri'' hr hx := by
    obtain ⟨ri', h1, h2, h3⟩ := k.keep r ri'' (Nat.lt_of_lt_of_le hr h.len) hx
    obtain ⟨ri, g1, g2, g3⟩ := h.keep r ri' hr h1
    refine ⟨ri, g1, Nat.le_trans g2 h2, fun e => ?_⟩
    have e1 : ri.top = ri'.top := by omega
    have e2 : ri'.top = ri''.top := by omega
    exact (g3 e1).trans (h3 e2)
  own b hb := by
    rcases k.own b hb with h1 | h1
    · exact .inl (Nat.le_trans h.size h1)
    · exact h.own b h1

theorem block_lt {w : World} {b o : Nat} {u : Value} (h : w.cell? ⟨b, o, none⟩ = some u) : b < w.heap.size := World.block_lt_of_cell? (w := w) (a := ⟨b, o, none⟩) h

theorem cell_same {w w' : World} {b : Nat} (h : w'.heap[b]? = w.heap[b]?) (o : Nat) : w'.cell? ⟨b, o, none⟩ = w.cell? ⟨b, o, none⟩ := by
  simp only [World.cell?, h]
theorem frozen_same {w w' : World} {b : Nat} (h : w'.heap[b]? = w.heap[b]?) (o : Nat) : w'.frozen? ⟨b, o, none⟩ = w.frozen? ⟨b, o, none⟩ := by
  simp only [World.frozen?, h]

/-- What a value is, told of another world. c: of closed values alone. -/
structure Pres (c : Bool) (w : World) (O : Nat → Prop) (α : AM) (w' : World) (O' : Nat → Prop) (α' : AM) : Prop where
  cell : ∀ b o u, ¬ O b → ¬ Owned α b → w.cell? ⟨b, o, none⟩ = some u → w'.cell? ⟨b, o, none⟩ = some u
  out : ∀ b o u, ¬ O b → ¬ Owned α b → w.cell? ⟨b, o, none⟩ = some u → ¬ O' b ∧ ¬ Owned α' b
  len : c = false → α.length ≤ α'.length
  keep : c = false → ∀ (r : Nat) (ri' : RI), r < α.length → α'[r]? = some (some ri') → ∃ ri, α[r]? = some (some ri) ∧ ri.top ≤ ri'.top ∧ (ri.top = ri'.top → ri = ri')

theorem Pres.of_ext {w w' : World} {O : Nat → Prop} {α α' : AM} (h : Ext w α w' α') : Pres false w O α w' O α' where
  cell b o u hO hW hc := by rw [cell_same (h.old b (block_lt hc) hW)]; exact hc
  out b o u hO hW hc := ⟨hO, fun hw => by
    rcases h.own b hw with h1 | h1
    · have := block_lt hc; omega
    · exact hW h1⟩
  len _ := h.len
  keep _ := h.keep

section
variable {c : Bool} {w w' : World} {O O' : Nat → Prop} {α α' : AM}

theorem RepRow_cell {n b off : Nat} {x : AVal} {xs : List AVal} (hn : n ≠ 0) (h : RepRow w O α n b off (x :: xs)) : ∃ u, w.cell? ⟨b, off, none⟩ = some u := by
  simp only [RepRow] at h
  obtain ⟨⟨v, _, _, hs, hc, _⟩, _⟩ := h
  have h0 := hc 0 (by omega)
  rw [Array.getElem?_eq_getElem (by omega)] at h0
  exact ⟨_, h0⟩
theorem RepMem_cell {b off : Nat} {x : AVal} {xs : List AVal} (h : RepMem w O α b off (x :: xs)) : ∃ u, w.cell? ⟨b, off, none⟩ = some u := by
  simp only [RepMem] at h
  obtain ⟨⟨v, h1, _⟩, _⟩ := h
  exact ⟨v, h1⟩

mutual
theorem Rep_pres (H : Pres c w O α w' O' α') : ∀ (x : AVal) (v : Value), (c = true → closed x = true) → Rep w O α x v → Rep w' O' α' x v
  | .int .., _, _, h => h
  | .bool _, _, _, h => h
  | .str _, _, _, h => h
  | .agg cs, v, hc, h => by
    simp only [Rep] at h ⊢
    obtain ⟨l, e, hl⟩ := h
    exact ⟨l, e, RepL_pres H cs l (by simpa only [closed] using hc) hl⟩
  | .tup cs, v, hc, h => by
    simp only [Rep] at h ⊢
    obtain ⟨l, e, hl⟩ := h
    exact ⟨l, e, RepL_pres H cs l (by simpa only [closed] using hc) hl⟩
  | .nil, _, _, h => by simpa only [Rep] using h
  | .tree full n xs, v, hc, h => by
    simp only [Rep] at h ⊢
    obtain ⟨a, cap, e, h1, h2, h3⟩ := h
    refine ⟨a, cap, e, h1, h2, ?_⟩
    rcases h3 with h3 | ⟨hn, b, off, ha, hO, hW, hr⟩
    · exact .inl h3
    refine (Classical.em (xs = [])).imp id fun hx => ⟨hn, b, off, ha, ?_⟩
    have hx : ∃ u, w.cell? ⟨b, off, none⟩ = some u := by
      cases xs with
      | nil => exact absurd rfl hx
      | cons y ys => exact RepRow_cell hn hr
    obtain ⟨u, hu⟩ := hx
    obtain ⟨g1, g2⟩ := H.out b _ _ hO hW hu
    exact ⟨g1, g2, RepRow_pres H n b hO hW off xs (by simpa only [closed] using hc) hr⟩
  | .own r n top off len, v, hc, h => by
    have hc : c = false := by cases c with | false => rfl | true => simp [closed] at hc
    simp only [Rep] at h ⊢
    obtain ⟨h1, a, cap, e0, e1, e2, h2⟩ := h
    refine ⟨Nat.lt_of_lt_of_le h1 (H.len hc), a, cap, e0, e1, e2, fun ri' hr => ?_⟩
    obtain ⟨ri, g1, g2, g3⟩ := H.keep hc r ri' h1 hr
    obtain ⟨k1, k2⟩ := h2 ri g1
    refine ⟨by omega, fun ht => ?_⟩
    have e : ri.top = ri'.top := by omega
    have e' := g3 e
    subst e'
    exact k2 ht
  | .ptr r top i off, v, hc, h => by
    have hc : c = false := by cases c with | false => rfl | true => simp [closed] at hc
    simp only [Rep] at h ⊢
    obtain ⟨h1, b, o, e0, h2⟩ := h
    refine ⟨Nat.lt_of_lt_of_le h1 (H.len hc), b, o, e0, fun ri' hr => ?_⟩
    obtain ⟨ri, g1, g2, g3⟩ := H.keep hc r ri' h1 hr
    obtain ⟨k1, k2⟩ := h2 ri g1
    refine ⟨by omega, fun ht => ?_⟩
    have e : ri.top = ri'.top := by omega
    have e' := g3 e
    subst e'
    exact k2 ht
  | .rptr cs, v, hc, h => by
    simp only [Rep] at h ⊢
    obtain ⟨b, off, e, h3⟩ := h
    refine ⟨b, off, e, ?_⟩
    rcases h3 with h3 | ⟨hO, hW, hr⟩
    · exact .inl h3
    refine (Classical.em (cs = [])).imp id fun hx => ?_
    have hx : ∃ u, w.cell? ⟨b, off, none⟩ = some u := by
      cases cs with
      | nil => exact absurd rfl hx
      | cons y ys => exact RepMem_cell hr
    obtain ⟨u, hu⟩ := hx
    obtain ⟨g1, g2⟩ := H.out b _ _ hO hW hu
    exact ⟨g1, g2, RepMem_pres H b hO hW off cs (by simpa only [closed] using hc) hr⟩
  | .nilptr, _, _, h => h
  | .func fn a b, v, hc, h => by
    simp only [Rep] at h ⊢
    obtain ⟨l, m, e, hl, hm⟩ := h
    simp only [closed, Bool.and_eq_true] at hc
    exact ⟨l, m, e, RepL_pres H a l (fun h => (hc h).1) hl, RepL_pres H b m (fun h => (hc h).2) hm⟩
  | .nilfunc, _, _, h => h
  | .iface t x, v, hc, h => by
    simp only [Rep] at h ⊢
    obtain ⟨u, e, hu⟩ := h
    exact ⟨u, e, Rep_pres H x u (by simpa only [closed] using hc) hu⟩
  | .niliface, _, _, h => h
  | .map r, v, hc, h => by
    have hc : c = false := by cases c with | false => rfl | true => simp [closed] at hc
    simp only [Rep] at h ⊢
    obtain ⟨h1, b, e0, h2⟩ := h
    refine ⟨Nat.lt_of_lt_of_le h1 (H.len hc), b, e0, fun ri' hr ht => ?_⟩
    obtain ⟨ri, g1, g2, g3⟩ := H.keep hc r ri' h1 hr
    have e : ri.top = ri'.top := by omega
    have e' := g3 e
    subst e'
    exact h2 ri g1 ht
  | .nilmap, _, _, h => h
  | .any, _, _, _ => by simp only [Rep]
theorem RepL_pres (H : Pres c w O α w' O' α') : ∀ (xs : List AVal) (l : List Value), (c = true → closedL xs = true) → RepL w O α xs l → RepL w' O' α' xs l
  | [], l, _, h => by simpa only [RepL] using h
  | x :: xs, l, hc, h => by
    simp only [RepL] at h ⊢
    simp only [closedL, Bool.and_eq_true] at hc
    obtain ⟨v, vs, e, h1, h2⟩ := h
    exact ⟨v, vs, e, Rep_pres H x v (fun h => (hc h).1) h1, RepL_pres H xs vs (fun h => (hc h).2) h2⟩
theorem RepRow_pres (H : Pres c w O α w' O' α') (n b : Nat) (hO : ¬ O b) (hW : ¬ Owned α b) : ∀ (off : Nat) (xs : List AVal), (c = true → closedL xs = true) → RepRow w O α n b off xs → RepRow w' O' α' n b off xs
  | _, [], _, _ => by simp only [RepRow]
  | off, x :: xs, hc, h => by
    simp only [RepRow] at h ⊢
    simp only [closedL, Bool.and_eq_true] at hc
    obtain ⟨⟨v, h1, h2, h3, h4, h6⟩, h5⟩ := h
    refine ⟨⟨v, Rep_pres H x v (fun h => (hc h).1) h1, h2, h3, fun j hj => ?_, h6⟩, RepRow_pres H n b hO hW _ xs (fun h => (hc h).2) h5⟩
    have e : v.cells[j]? = some v.cells[j] := Array.getElem?_eq_getElem (by omega)
    rw [e]
    exact H.cell b _ _ hO hW (by rw [h4 j hj, e])
theorem RepMem_pres (H : Pres c w O α w' O' α') (b : Nat) (hO : ¬ O b) (hW : ¬ Owned α b) : ∀ (off : Nat) (xs : List AVal), (c = true → closedL xs = true) → RepMem w O α b off xs → RepMem w' O' α' b off xs
  | _, [], _, _ => by simp only [RepMem]
  | off, x :: xs, hc, h => by
    simp only [RepMem] at h ⊢
    simp only [closedL, Bool.and_eq_true] at hc
    obtain ⟨⟨v, h1, h2⟩, h5⟩ := h
    exact ⟨⟨v, H.cell b _ _ hO hW h1, Rep_pres H x v (fun h => (hc h).1) h2⟩, RepMem_pres H b hO hW _ xs (fun h => (hc h).2) h5⟩
end
theorem Rep_ext {x : AVal} {v : Value} (h : Ext w α w' α') (hr : Rep w O α x v) : Rep w' O α' x v := Rep_pres (Pres.of_ext h) x v (by simp) hr
theorem RepL_ext {x : List AVal} {v : List Value} (h : Ext w α w' α') (hr : RepL w O α x v) : RepL w' O α' x v := RepL_pres (Pres.of_ext h) x v (by simp) hr

/-- A row in an owned block: what it holds is told anew, its cells are as they were. -/
theorem RepRow_own (H : Pres false w O α w' O' α') (n b : Nat) (hb : w'.heap[b]? = w.heap[b]?) : ∀ (xs : List AVal) (off : Nat), RepRow w O α n b off xs → RepRow w' O' α' n b off xs
  | [], _, _ => by simp only [RepRow]
  | x :: xs, off, h => by
    simp only [RepRow] at h ⊢
    obtain ⟨⟨v, h1, h2, h3, h4, h6⟩, h5⟩ := h
    exact ⟨⟨v, Rep_pres H x v (by simp) h1, h2, h3, fun j hj => by rw [cell_same hb]; exact h4 j hj, h6⟩, RepRow_own H n b hb xs _ h5⟩
end

/-! ### the store -/
def RepEs (w : World) (O : Nat → Prop) (α : AM) : List (AVal × AVal) → List MapEntry → Prop
  | [], l => l = []
  | e :: es, l => ∃ m ms, l = m :: ms ∧ Rep w O α e.1 m.key ∧ Rep w O α e.2 m.val ∧ RepEs w O α es ms

def RegRep (w : World) (O : Nat → Prop) (α : AM) (r : Nat) : AReg → Prop
  | .dead => α[r]? = some none
  | .row e n xs => ∃ ri, α[r]? = some (some ri) ∧ ri.stride = n ∧ n ≠ 0 ∧ ri.top = xs.length ∧ xs.length ≤ ri.cap ∧
      ∃ c el fz, w.heap[ri.block]? = some (.cells c el fz) ∧ c.size = ri.cap * n ∧ RepRow w O α n ri.block 0 xs ∧ (∀ o, o < c.size → w.frozen? ⟨ri.block, o, none⟩ = false) ∧ el = e
  | .iter s pos => ∃ ri, α[r]? = some (some ri) ∧ ri.top = 0 ∧ ri.stride = 0 ∧ w.heap[ri.block]? = some (.stringIter ⟨s.toArray⟩ pos)
  | .map es => ∃ ri, α[r]? = some (some ri) ∧ ri.top = 0 ∧ ∃ ms clock, w.heap[ri.block]? = some (.map ms clock) ∧ RepEs w O α es ms.toList

structure Inv (w : World) (O : Nat → Prop) (α : AM) (st : Store) : Prop where
  len : st.length = α.length
  reg : ∀ r g, st[r]? = some g → RegRep w O α r g
  inj : ∀ (r r' : Nat) (ri ri' : RI), α[r]? = some (some ri) → α[r']? = some (some ri') → ri.block = ri'.block → r = r'
  fresh : ∀ (r : Nat) (ri : RI), α[r]? = some (some ri) → ¬ O ri.block ∧ ri.block < w.heap.size
  bound : ∀ b, O b → b < w.heap.size

theorem Inv.nil (w : World) (O : Nat → Prop) (h : ∀ b, O b → b < w.heap.size) : Inv w O [] [] := ⟨rfl, fun r g h => by simp at h, fun r _ _ _ h => by simp at h, fun r _ h => by simp at h, h⟩

theorem RepEs_pres {w w' : World} {O O' : Nat → Prop} {α α' : AM} (H : Pres false w O α w' O' α') : ∀ (es : List (AVal × AVal)) (l : List MapEntry), RepEs w O α es l → RepEs w' O' α' es l
  | [], l, h => h
  | e :: es, l, h => by
    simp only [RepEs] at h ⊢
    obtain ⟨m, ms, h0, h1, h2, h3⟩ := h
    exact ⟨m, ms, h0, Rep_pres H _ _ (by simp) h1, Rep_pres H _ _ (by simp) h2, RepEs_pres H es ms h3⟩

/-- A region whose block and whose row of the map stay. -/
theorem RegRep_pres {w w' : World} {O O' : Nat → Prop} {α α' : AM} (H : Pres false w O α w' O' α') {r : Nat} {g : AReg} (hα : α'[r]? = α[r]?)
    (hb : ∀ ri, α[r]? = some (some ri) → w'.heap[ri.block]? = w.heap[ri.block]?) (h : RegRep w O α r g) : RegRep w' O' α' r g := by
  cases g with
  | dead => simp only [RegRep] at h ⊢; rw [hα]; exact h
  | row e n xs =>
    simp only [RegRep] at h ⊢
    obtain ⟨ri, h1, h2, h3, h4, h5, c, el, fz, h6, h7, h8, h9, h10⟩ := h
    have hb := hb ri h1
    exact ⟨ri, by rw [hα]; exact h1, h2, h3, h4, h5, c, el, fz, by rw [hb]; exact h6, h7, RepRow_own H n _ hb xs 0 h8, fun o ho => by rw [frozen_same hb]; exact h9 o ho, h10⟩
  | iter s pos =>
    simp only [RegRep] at h ⊢
    obtain ⟨ri, h1, h2, h3, h4⟩ := h
    exact ⟨ri, by rw [hα]; exact h1, h2, h3, by rw [hb ri h1]; exact h4⟩
  | map es =>
    simp only [RegRep] at h ⊢
    obtain ⟨ri, h1, h2, ms, clock, h4, h5⟩ := h
    exact ⟨ri, by rw [hα]; exact h1, h2, ms, clock, by rw [hb ri h1]; exact h4, RepEs_pres H es _ h5⟩

/-- Nothing that is owned is turned: the same map of blocks, the same store. -/
structure Quiet (w w' : World) : Prop where
  os : w'.os = w.os
  tape : w'.tape = w.tape
  output : w'.output = w.output
  size : w.heap.size ≤ w'.heap.size
  old : ∀ b, b < w.heap.size → w'.heap[b]? = w.heap[b]?
theorem Quiet.ext {w w' : World} (h : Quiet w w') (α : AM) : Ext w α w' α :=
  ⟨h.os, h.tape, h.output, h.size, fun b hb _ => h.old b hb, Nat.le_refl _, fun r ri _ hr => ⟨ri, hr, Nat.le_refl _, fun _ => rfl⟩, fun b hb => .inr hb⟩
theorem Quiet.refl (w : World) : Quiet w w := ⟨rfl, rfl, rfl, Nat.le_refl _, fun _ _ => rfl⟩
theorem Quiet.trans {a b c : World} (h : Quiet a b) (k : Quiet b c) : Quiet a c :=
  ⟨k.os.trans h.os, k.tape.trans h.tape, k.output.trans h.output, Nat.le_trans h.size k.size, fun i hi => (k.old i (Nat.lt_of_lt_of_le hi h.size)).trans (h.old i hi)⟩
theorem Quiet.drew (w : World) : Quiet w w.drew := ⟨rfl, rfl, rfl, Nat.le_refl _, fun _ _ => rfl⟩
theorem Quiet.alloc (w : World) (o : Obj) : Quiet w (w.alloc o) := ⟨rfl, rfl, rfl, by simp, fun b hb => RowKit.Below.heap_alloc w o b hb⟩
theorem Ext.quiet {w w' : World} (h : Ext w [] w' []) : Quiet w w' := ⟨h.os, h.tape, h.output, h.size, fun b hb => h.old b hb (fun ⟨r, ri, e, _⟩ => by simp at e)⟩
theorem Quiet.inv {w w' : World} (h : Quiet w w') {O : Nat → Prop} {α : AM} {st : Store} (hi : Inv w O α st) : Inv w' O α st where
  len := hi.len
  reg r g hg := RegRep_pres (Pres.of_ext (h.ext α)) rfl (fun ri hr => h.old _ (hi.fresh r ri hr).2) (hi.reg r g hg)
  inj := hi.inj
  fresh r ri hr := ⟨(hi.fresh r ri hr).1, Nat.lt_of_lt_of_le (hi.fresh r ri hr).2 h.size⟩
  bound b hb := Nat.lt_of_lt_of_le (hi.bound b hb) h.size

/-- One more region, in a new block. -/
theorem Inv.push {w : World} {O : Nat → Prop} {α : AM} {st : Store} (hi : Inv w O α st) (ri : RI) (g : AReg) (o : Obj) (hb : ri.block = w.heap.size)
    (hg : RegRep (w.alloc o) O (α ++ [some ri]) α.length g) : Ext w α (w.alloc o) (α ++ [some ri]) ∧ Inv (w.alloc o) O (α ++ [some ri]) (st ++ [g]) := by
  have hq := Quiet.alloc w o
  have hO : ¬ O w.heap.size := fun h => by have := hi.bound _ h; omega
  have old : ∀ r, r < α.length → (α ++ [some ri])[r]? = α[r]? := fun r hr => List.getElem?_append_left hr
  have hext : Ext w α (w.alloc o) (α ++ [some ri]) := by
    refine ⟨rfl, rfl, rfl, by simp, fun b hb _ => hq.old b hb, by simp, fun r ri' hr h => ?_, fun b hb' => ?_⟩
    · rw [old r hr] at h
      exact ⟨ri', h, Nat.le_refl _, fun _ => rfl⟩
    · obtain ⟨r, ri', h1, h2⟩ := hb'
      by_cases hr : r < α.length
      · rw [old r hr] at h1; exact .inr ⟨r, ri', h1, h2⟩
      · left
        by_cases hr' : r = α.length
        · subst hr'
          simp at h1
          subst h1
          omega
        · have : (α ++ [some ri])[r]? = none := List.getElem?_eq_none (by simp; omega)
          rw [this] at h1; cases h1
  refine ⟨hext, ?_, ?_, ?_, ?_, fun b hb' => by have := hi.bound b hb'; simp; omega⟩
  · simp [hi.len]
  · intro r g' hg'
    by_cases hr : r < α.length
    · rw [List.getElem?_append_left (by rw [hi.len]; exact hr)] at hg'
      exact RegRep_pres (Pres.of_ext hext) (old r hr) (fun ri' h => hq.old _ (hi.fresh r ri' h).2) (hi.reg r g' hg')
    · by_cases hr' : r = α.length
      · subst hr'
        rw [← hi.len] at hg'
        simp at hg'
        subst hg'
        exact hg
      · have : (st ++ [g])[r]? = none := List.getElem?_eq_none (by simp [hi.len]; omega)
        rw [this] at hg'; cases hg'
  · have cases' : ∀ r ri', (α ++ [some ri])[r]? = some (some ri') → (r < α.length ∧ α[r]? = some (some ri')) ∨ (r = α.length ∧ ri' = ri) := by
      intro r ri' h
      by_cases hr : r < α.length
      · rw [old r hr] at h; exact .inl ⟨hr, h⟩
      · by_cases hr' : r = α.length
        · subst hr'; simp at h; exact .inr ⟨rfl, h.symm⟩
        · have : (α ++ [some ri])[r]? = none := List.getElem?_eq_none (by simp; omega)
          rw [this] at h; cases h
    intro r r' a b ha hb2 hab
    rcases cases' r a ha with ⟨h1, h2⟩ | ⟨h1, h2⟩ <;> rcases cases' r' b hb2 with ⟨k1, k2⟩ | ⟨k1, k2⟩
    · exact hi.inj r r' a b h2 k2 hab
    · have := (hi.fresh r a h2).2; subst k2; omega
    · have := (hi.fresh r' b k2).2; subst h2; omega
    · omega
  · intro r ri' h
    by_cases hr : r < α.length
    · rw [old r hr] at h
      exact ⟨(hi.fresh r ri' h).1, Nat.lt_of_lt_of_le (hi.fresh r ri' h).2 (by simp)⟩
    · by_cases hr' : r = α.length
      · subst hr'
        simp at h
        subst h
        exact ⟨by rw [hb]; exact hO, by rw [hb]; simp⟩
      · have : (α ++ [some ri])[r]? = none := List.getElem?_eq_none (by simp; omega)
        rw [this] at h; cases h

end Go.EM
