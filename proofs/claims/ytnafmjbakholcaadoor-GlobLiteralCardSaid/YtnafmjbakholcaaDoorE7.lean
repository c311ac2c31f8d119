/- Rows of cells: what is in them, what is stored; the store's turns. -/
import Derived.Test.YtnafmjbakholcaaDoorE6
set_option linter.unusedVariables false
set_option linter.unusedSimpArgs false
namespace Go.EM
section
variable {P : Program} {w w' : World} {O : Nat → Prop} {α : AM}

/-- The model's values of a row's elements. -/
def RowVals (w : World) (O : Nat → Prop) (α : AM) (n : Nat) : List AVal → List Value → Prop
  | [], vs => vs = []
  | y :: ys, vs => ∃ v us, vs = v :: us ∧ (Rep w O α y v ∧ y.cells.length = n ∧ v.cells.size = n ∧ ∀ u ∈ v.cells, u.oneCell' = true) ∧ RowVals w O α n ys us
def flat (vs : List Value) : List Value := vs.flatMap (·.cells.toList)

theorem flat_length {n : Nat} : ∀ {ys : List AVal} {vs : List Value}, RowVals w O α n ys vs → (flat vs).length = ys.length * n
  | [], vs, h => by simp only [RowVals] at h; subst h; simp [flat]
  | y :: ys, vs, h => by
    simp only [RowVals] at h
    obtain ⟨v, us, rfl, ⟨_, _, h1, _⟩, h2⟩ := h
    have := flat_length h2
    simp only [flat, List.flatMap_cons, List.length_append, Array.length_toList, List.length_cons] at this ⊢
    rw [this, h1, Nat.add_mul]; omega
theorem flat_one {n : Nat} : ∀ {ys : List AVal} {vs : List Value}, RowVals w O α n ys vs → ∀ u ∈ flat vs, u.oneCell' = true
  | [], vs, h, u, hu => by simp only [RowVals] at h; subst h; simp [flat] at hu
  | y :: ys, vs, h, u, hu => by
    simp only [RowVals] at h
    obtain ⟨v, us, rfl, ⟨_, _, _, h1⟩, h2⟩ := h
    simp only [flat, List.flatMap_cons, List.mem_append] at hu
    rcases hu with hu | hu
    · exact h1 u (by simpa using hu)
    · exact flat_one h2 u hu
theorem RowVals_append {n : Nat} : ∀ {xs ys : List AVal} {us vs : List Value}, RowVals w O α n xs us → RowVals w O α n ys vs → RowVals w O α n (xs ++ ys) (us ++ vs)
  | [], ys, us, vs, h, k => by simp only [RowVals] at h; subst h; simpa using k
  | x :: xs, ys, us, vs, h, k => by
    simp only [RowVals] at h
    obtain ⟨v, us', rfl, h1, h2⟩ := h
    simp only [List.cons_append, RowVals]
    exact ⟨v, us' ++ vs, rfl, h1, RowVals_append h2 k⟩
theorem flat_append (us vs : List Value) : flat (us ++ vs) = flat us ++ flat vs := by simp [flat]
theorem RowVals_pres {O' : Nat → Prop} {α' : AM} (H : Pres false w O α w' O' α') {n : Nat} : ∀ {ys : List AVal} {vs : List Value}, RowVals w O α n ys vs → RowVals w' O' α' n ys vs
  | [], vs, h => by simpa only [RowVals] using h
  | y :: ys, vs, h => by
    simp only [RowVals] at h ⊢
    obtain ⟨v, us, e, ⟨h0, h1⟩, h2⟩ := h
    exact ⟨v, us, e, ⟨Rep_pres H y v (by simp) h0, h1⟩, RowVals_pres H h2⟩

theorem row_of {n b : Nat} : ∀ {ys : List AVal} {vs : List Value} (off : Nat), RowVals w O α n ys vs → (∀ j, j < (flat vs).length → w.cell? ⟨b, off + j, none⟩ = (flat vs)[j]?) → RepRow w O α n b off ys
  | [], vs, off, h, k => by simp [RepRow]
  | y :: ys, vs, off, h, k => by
    simp only [RowVals] at h
    obtain ⟨v, us, rfl, ⟨h0, h1, h2, h3⟩, h4⟩ := h
    have e : flat (v :: us) = v.cells.toList ++ flat us := by simp [flat]
    rw [e] at k
    simp only [RepRow]
    refine ⟨⟨v, h0, h1, h2, fun j hj => ?_, h3⟩, row_of (off + n) h4 (fun j hj => ?_)⟩
    · rw [k j (by simp; omega), List.getElem?_append_left (by simp; omega)]
      simp
    · have := k (n + j) (by simp; omega)
      rw [show off + n + j = off + (n + j) by omega, this, List.getElem?_append_right (by simp; omega)]
      simp [h2]
theorem of_row {n b : Nat} : ∀ {ys : List AVal} (off : Nat), RepRow w O α n b off ys → ∃ vs, RowVals w O α n ys vs ∧ ∀ j, j < (flat vs).length → w.cell? ⟨b, off + j, none⟩ = (flat vs)[j]?
  | [], off, h => ⟨[], by simp [RowVals], by simp [flat]⟩
  | y :: ys, off, h => by
    simp only [RepRow] at h
    obtain ⟨⟨v, h0, h1, h2, h3, h4⟩, h5⟩ := h
    obtain ⟨us, k1, k2⟩ := of_row (off + n) h5
    refine ⟨v :: us, by simp only [RowVals]; exact ⟨v, us, rfl, ⟨h0, h1, h2, h4⟩, k1⟩, fun j hj => ?_⟩
    have e : flat (v :: us) = v.cells.toList ++ flat us := by simp [flat]
    rw [e] at hj ⊢
    by_cases hjn : j < n
    · rw [h3 j hjn, List.getElem?_append_left (by simp; omega)]
      simp
    · rw [List.getElem?_append_right (by simp; omega)]
      simp only [List.length_append, Array.length_toList] at hj
      have := k2 (j - n) (by omega)
      rw [show off + n + (j - n) = off + j by omega] at this
      rw [this]
      simp [h2]

/-! ### the store's turns -/
theorem Inv.alive {st : Store} (hi : Inv w O α st) {r n top : Nat} {xs : List AVal} (h : rowAt st r n top = some xs) :
    ∃ ri, α[r]? = some (some ri) ∧ ri.stride = n ∧ n ≠ 0 ∧ ri.top = top ∧ xs.length = top ∧ top ≤ ri.cap ∧ ∃ c el fz, w.heap[ri.block]? = some (.cells c el fz) ∧ c.size = ri.cap * n ∧
      RepRow w O α n ri.block 0 xs ∧ (∀ o, o < c.size → w.frozen? ⟨ri.block, o, none⟩ = false) ∧ st[r]? = some (.row el n xs) := by
  unfold rowAt at h
  split at h
  · rename_i e m ys hr
    split at h
    · rename_i hc
      obtain ⟨rfl, rfl⟩ := hc
      cases h
      obtain ⟨ri, h1, h2, h3, h4, h5, c, el, fz, h6, h7, h8, h9, rfl⟩ := hi.reg r _ hr
      exact ⟨ri, h1, h2, h3, h4, rfl, by omega, c, el, fz, h6, h7, h8, h9, hr⟩
    · cases h
  · cases h

/-- A region is turned: in its block, or in a new one. -/
theorem Inv.turn {st : Store} (hi : Inv w O α st) {r : Nat} {ri ri' : RI} {g : AReg} (h : α[r]? = some (some ri)) (os : w'.os = w.os) (tape : w'.tape = w.tape) (out : w'.output = w.output)
    (size : w.heap.size ≤ w'.heap.size) (old : ∀ k, k < w.heap.size → k ≠ ri.block → w'.heap[k]? = w.heap[k]?)
    (hb : ri'.block = ri.block ∨ (w.heap.size ≤ ri'.block ∧ ri'.block < w'.heap.size)) (ht : ri.top ≤ ri'.top) (hs : ri.top = ri'.top → ri = ri')
    (hg : Pres false w O α w' O (α.set r (some ri')) → RegRep w' O (α.set r (some ri')) r g) : Ext w α w' (α.set r (some ri')) ∧ Inv w' O (α.set r (some ri')) (st.set r g) := by
  have hlt : r < α.length := by
    rcases Nat.lt_or_ge r α.length with h' | h'
    · exact h'
    · rw [List.getElem?_eq_none h'] at h; cases h
  have same : (α.set r (some ri'))[r]? = some (some ri') := by simp [hlt]
  have other : ∀ k, k ≠ r → (α.set r (some ri'))[k]? = α[k]? := fun k hk => List.getElem?_set_ne (Ne.symm hk)
  have hfr := hi.fresh r ri h
  have hext : Ext w α w' (α.set r (some ri')) := by
    refine ⟨os, tape, out, size, fun b hb' ho => old b hb' (fun e => ho ⟨r, ri, h, e.symm⟩), by simp, fun k ri'' hk hx => ?_, fun b hw => ?_⟩
    · by_cases hkr : k = r
      · subst hkr
        rw [same] at hx
        cases hx
        exact ⟨ri, h, ht, hs⟩
      · rw [other k hkr] at hx
        exact ⟨ri'', hx, Nat.le_refl _, fun _ => rfl⟩
    · obtain ⟨k, ri'', hk, rfl⟩ := hw
      by_cases hkr : k = r
      · subst hkr
        rw [same] at hk
        cases hk
        rcases hb with hb | hb
        · exact .inr ⟨k, ri, h, hb.symm⟩
        · exact .inl hb.1
      · rw [other k hkr] at hk
        exact .inr ⟨k, ri'', hk, rfl⟩
  have hpres : Pres false w O α w' O (α.set r (some ri')) := Pres.of_ext hext
  refine ⟨hext, ?_, ?_, ?_, ?_, fun b hb' => Nat.lt_of_lt_of_le (hi.bound b hb') size⟩
  · simp [hi.len]
  · intro k g' hk
    by_cases hkr : k = r
    · subst hkr
      have : (st.set k g)[k]? = some g := by
        rw [List.getElem?_set_self (by rw [hi.len]; exact hlt)]
      rw [this] at hk
      cases hk
      exact hg hpres
    · rw [List.getElem?_set_ne (Ne.symm hkr)] at hk
      refine RegRep_pres hpres (other k hkr) (fun rj hj => ?_) (hi.reg k g' hk)
      exact old _ (hi.fresh k rj hj).2 (fun e => hkr (hi.inj k r rj ri hj h e))
  · have newb : ∀ (k : Nat) (rj : RI), k ≠ r → α[k]? = some (some rj) → rj.block ≠ ri'.block := by
      intro k rj hkr hj e
      rcases hb with hb | hb
      · exact hkr (hi.inj k r rj ri hj h (e.trans hb))
      · have := (hi.fresh k rj hj).2; omega
    intro a b ra rb ha hb' hab
    by_cases h1 : a = r <;> by_cases h2 : b = r
    · rw [h1, h2]
    · rw [h1, same] at ha
      rw [other b h2] at hb'
      cases ha
      exact absurd hab.symm (newb b rb h2 hb')
    · rw [h2, same] at hb'
      rw [other a h1] at ha
      cases hb'
      exact absurd hab (newb a ra h1 ha)
    · rw [other a h1] at ha
      rw [other b h2] at hb'
      exact hi.inj a b ra rb ha hb' hab
  · intro k rj hk
    by_cases hkr : k = r
    · subst hkr
      rw [same] at hk
      cases hk
      rcases hb with hb | hb
      · exact ⟨by rw [hb]; exact hfr.1, by rw [hb]; exact Nat.lt_of_lt_of_le hfr.2 size⟩
      · exact ⟨fun ho => by have := hi.bound _ ho; omega, hb.2⟩
    · rw [other k hkr] at hk
      exact ⟨(hi.fresh k rj hk).1, Nat.lt_of_lt_of_le (hi.fresh k rj hk).2 size⟩

/-- A region is given up. -/
theorem Inv.drop {st : Store} (hi : Inv w O α st) {r : Nat} {ri : RI} (h : α[r]? = some (some ri)) (os : w'.os = w.os) (tape : w'.tape = w.tape) (out : w'.output = w.output)
    (size : w.heap.size ≤ w'.heap.size) (old : ∀ k, k < w.heap.size → k ≠ ri.block → w'.heap[k]? = w.heap[k]?) : Ext w α w' (α.set r none) ∧ Inv w' O (α.set r none) (st.set r .dead) := by
  have hlt : r < α.length := by
    rcases Nat.lt_or_ge r α.length with h' | h'
    · exact h'
    · rw [List.getElem?_eq_none h'] at h; cases h
  have same : (α.set r none)[r]? = some none := by simp [hlt]
  have other : ∀ k, k ≠ r → (α.set r none)[k]? = α[k]? := fun k hk => List.getElem?_set_ne (Ne.symm hk)
  have hext : Ext w α w' (α.set r none) := by
    refine ⟨os, tape, out, size, fun b hb' ho => old b hb' (fun e => ho ⟨r, ri, h, e.symm⟩), by simp, fun k ri'' hk hx => ?_, fun b hw => ?_⟩
    · by_cases hkr : k = r
      · subst hkr
        rw [same] at hx
        cases hx
      · rw [other k hkr] at hx
        exact ⟨ri'', hx, Nat.le_refl _, fun _ => rfl⟩
    · obtain ⟨k, ri'', hk, rfl⟩ := hw
      by_cases hkr : k = r
      · subst hkr
        rw [same] at hk
        cases hk
      · rw [other k hkr] at hk
        exact .inr ⟨k, ri'', hk, rfl⟩
  have hpres : Pres false w O α w' O (α.set r none) := Pres.of_ext hext
  refine ⟨hext, ?_, ?_, ?_, ?_, fun b hb' => Nat.lt_of_lt_of_le (hi.bound b hb') size⟩
  · simp [hi.len]
  · intro k g' hk
    by_cases hkr : k = r
    · subst hkr
      have : (st.set k .dead)[k]? = some AReg.dead := by
        rw [List.getElem?_set_self (by rw [hi.len]; exact hlt)]
      rw [this] at hk
      cases hk
      exact same
    · rw [List.getElem?_set_ne (Ne.symm hkr)] at hk
      refine RegRep_pres hpres (other k hkr) (fun rj hj => ?_) (hi.reg k g' hk)
      exact old _ (hi.fresh k rj hj).2 (fun e => hkr (hi.inj k r rj ri hj h e))
  · intro a b ra rb ha hb' hab
    by_cases h1 : a = r <;> by_cases h2 : b = r
    · rw [h1, h2]
    · rw [h1, same] at ha; cases ha
    · rw [h2, same] at hb'; cases hb'
    · rw [other a h1] at ha
      rw [other b h2] at hb'
      exact hi.inj a b ra rb ha hb' hab
  · intro k rj hk
    by_cases hkr : k = r
    · subst hkr
      rw [same] at hk
      cases hk
    · rw [other k hkr] at hk
      exact ⟨(hi.fresh k rj hk).1, Nat.lt_of_lt_of_le (hi.fresh k rj hk).2 size⟩

/-! ### cells are stored, and loaded -/
theorem setCell_heap {b o : Nat} {v : Value} {c : Array Value} {el : TypeId} {fz : Nat × Nat} (h : w.heap[b]? = some (.cells c el fz)) :
    (w.setCell ⟨b, o, none⟩ v).heap[b]? = some (.cells (c.setIfInBounds o v) el fz) := by
  simp only [World.setCell, Array.getElem?_modify]
  simp [h]
theorem run_store_cells {b off : Nat} : ∀ (vs : List Value) (i : Nat) (w : World) (c : Array Value) (el : TypeId) (fz : Nat × Nat), w.heap[b]? = some (.cells c el fz) → off + i + vs.length ≤ c.size →
    (∀ v ∈ vs, v.oneCell' = true) → (∀ o, o < c.size → w.frozen? ⟨b, o, none⟩ = false) →
    ∃ w', (storeCells ⟨b, off, none⟩ vs i).run P w = .ok () w' ∧ w'.heap[b]? = some (.cells (c.toList.take (off + i) ++ vs ++ c.toList.drop (off + i + vs.length)).toArray el fz) ∧
      (∀ k, k ≠ b → w'.heap[k]? = w.heap[k]?) ∧ w'.heap.size = w.heap.size ∧ w'.os = w.os ∧ w'.tape = w.tape ∧ w'.output = w.output ∧ (∀ a, w'.frozen? a = w.frozen? a)
  | [], i, w, c, el, fz, h, hl, _, _ => ⟨w, by simp [storeCells], by rw [h]; simp, fun _ _ => rfl, rfl, rfl, rfl, rfl, fun _ => rfl⟩
  | v :: vs, i, w, c, el, fz, h, hl, h1, hf => by
    simp only [List.length_cons] at hl
    have hc : w.cell? ⟨b, off + i, none⟩ = some c[off + i] := by
      simp only [World.cell?, h]
      simp [Array.getElem?_eq_getElem (show off + i < c.size by omega)]
    have hs : (store (⟨b, off + i, none⟩ : Addr) v).run P w = .ok () (w.setCell ⟨b, off + i, none⟩ v) := by
      rw [run_store P w _ _ _ (h1 v List.mem_cons_self), hc]
      simp [hf (off + i) (by omega)]
    obtain ⟨w', g1, g2, g3, g4, g5, g6, g7, g8⟩ := run_store_cells (b := b) (off := off) vs (i + 1) (w.setCell ⟨b, off + i, none⟩ v) (c.setIfInBounds (off + i) v) el fz (setCell_heap h) (by simp; omega)
      (fun u hu => h1 u (List.mem_cons_of_mem _ hu)) (fun o ho => by rw [World.frozen?_setCell]; exact hf o (by simpa using ho))
    refine ⟨w', ?_, ?_, fun k hk => ?_, by rw [g4]; simp, g5, g6, g7, fun a => by rw [g8]; simp⟩
    · simp only [storeCells, Sem.run_bind, add_addr, hs, Result.andThen_ok]
      exact g1
    · rw [g2]
      congr 2
      apply Array.ext'
      have hlt : off + i < c.toList.length := by simp; omega
      simp only [Array.toList_setIfInBounds, List.length_cons]
      rw [show off + (i + 1) = off + i + 1 by omega]
      rw [List.take_set, List.drop_set_of_lt (by omega), List.take_succ_eq_append_getElem hlt, List.set_append_right _ _ (by simp; omega)]
      have : off + i - (List.take (off + i) c.toList).length = 0 := by simp; omega
      rw [this]
      simp only [List.set_cons_zero, List.append_assoc, List.cons_append, List.nil_append]
      congr 4
      omega
    · rw [g3 k hk]
      exact RowKit.Below.heap_setCell _ _ _ _ hk

theorem run_load_cells {b off : Nat} {l : List Value} (h : ∀ j, j < l.length → w.cell? ⟨b, off + j, none⟩ = l[j]?) : (loadCells ⟨b, off, none⟩ l.length).run P w = .ok l.toArray w := by
  refine run_loadCells_list (P := P) w ⟨b, off, none⟩ l (fun j v hv => ?_)
  have hj : j < l.length := by
    rcases Nat.lt_or_ge j l.length with h | h
    · exact h
    · rw [List.getElem?_eq_none h] at hv; cases hv
  rw [add_addr, h j hj, hv]

theorem run_first {n k b off cap len : Nat} {l : List Value} (hl : l.length = k * n) (h : ∀ j, j < l.length → w.cell? ⟨b, off + j, none⟩ = l[j]?) :
    (Builtin.firstCells n k (.slice (some ⟨b, off, none⟩) len cap)).run P w = .ok l.toArray w := by
  simp only [Builtin.firstCells, ← hl]
  exact run_load_cells h

/-- A row's part. -/
theorem RowVals_drop {n : Nat} : ∀ {ys : List AVal} {vs : List Value} (k : Nat), RowVals w O α n ys vs → RowVals w O α n (ys.drop k) (vs.drop k)
  | ys, vs, 0, h => by simpa using h
  | [], vs, k + 1, h => by simp only [RowVals] at h; subst h; simp [RowVals]
  | y :: ys, vs, k + 1, h => by
    simp only [RowVals] at h
    obtain ⟨v, us, rfl, _, h2⟩ := h
    simpa using RowVals_drop k h2

/-- What an appended operand holds. -/
theorem run_contents {st : Store} (hi : Inv w O α st) {n : Nat} {x : AVal} {ys : List AVal} {u : Value} (h : contents st n x = some ys) (hx : Rep w O α x u) (hn : n ≠ 0) :
    (Builtin.lenOf u).run P w = .ok ys.length w ∧ ∃ vs, RowVals w O α n ys vs ∧ (∀ w2 : World, (∀ b o v, w.cell? ⟨b, o, none⟩ = some v → w2.cell? ⟨b, o, none⟩ = some v) →
      (Builtin.firstCells n ys.length u).run P w2 = .ok (flat vs).toArray w2) := by
  unfold contents at h
  split at h
  · cases h
    simp only [Rep] at hx
    subst hx
    refine ⟨by simp [Builtin.lenOf], [], by simp [RowVals], fun w2 _ => ?_⟩
    simp [Builtin.firstCells, flat]
  · rename_i full m xs
    split at h
    · rename_i hm
      cases h
      simp only [Rep] at hx
      obtain ⟨a, cap, rfl, h1, h2, h3⟩ := hx
      refine ⟨by simp [Builtin.lenOf], ?_⟩
      rcases h3 with rfl | ⟨hm0, b, off, rfl, hO, hW, hr⟩
      · refine ⟨[], by simp [RowVals], fun w2 _ => ?_⟩
        cases a with
        | none => simp [Builtin.firstCells, flat]
        | some a => simp [Builtin.firstCells, flat, loadCells, loadCellsFrom]
      · by_cases hx0 : ys = []
        · subst hx0
          exact ⟨[], by simp [RowVals], fun w2 _ => by simp [Builtin.firstCells, flat, loadCells, loadCellsFrom]⟩
        · have hmn : m = n := by
            rcases hm with hm | hm
            · exact hm
            · exact absurd (List.eq_nil_of_length_eq_zero hm) hx0
          subst hmn
          obtain ⟨vs, k1, k2⟩ := of_row off hr
          refine ⟨vs, k1, fun w2 hw => run_first (flat_length k1) (fun j hj => ?_)⟩
          have := k2 j hj
          rw [List.getElem?_eq_getElem hj] at this ⊢
          exact hw b _ _ this
    · cases h
  · rename_i r m top off len
    split at h
    · rename_i hm
      subst hm
      simp only [Option.map_eq_some_iff] at h
      obtain ⟨xs, hxs, rfl⟩ := h
      obtain ⟨ri, g1, g2, g3, g4, g5, g6, c, el, fz, g7, g8, g9, g10, _⟩ := hi.alive hxs
      simp only [Rep] at hx
      obtain ⟨_, a, cap, rfl, h1, h2, h3⟩ := hx
      obtain ⟨k1, k2, k3, k4⟩ := (h3 ri g1).2 g4
      have hlen : ((xs.drop off).take len).length = len := by simp; omega
      refine ⟨by simp [Builtin.lenOf]; omega, ?_⟩
      have hr2 := RepRow_take len (RepRow_drop off g9)
      rw [Nat.zero_add] at hr2
      obtain ⟨vs, q1, q2⟩ := of_row _ hr2
      refine ⟨vs, q1, fun w2 hw => ?_⟩
      by_cases hl0 : len = 0
      · subst hl0
        simp only [List.take_zero, List.length_nil] at q1 ⊢
        simp only [RowVals] at q1
        subst q1
        cases a with
        | none => simp [Builtin.firstCells, flat]
        | some a => simp [Builtin.firstCells, flat, loadCells, loadCellsFrom]
      · have := k4 (by omega)
        subst this
        refine run_first (by rw [flat_length q1]) (fun j hj => ?_)
        have := q2 j hj
        rw [List.getElem?_eq_getElem hj] at this ⊢
        exact hw _ _ _ this
    · cases h
  · rename_i s
    split at h
    · rename_i hn1
      subst hn1
      cases h
      simp only [Rep] at hx
      subst hx
      refine ⟨by simp [Builtin.lenOf, ByteArray.size], s.map fun b => .int .u8 b.toNat, ?_, fun w2 _ => ?_⟩
      · have : ∀ l : List UInt8, RowVals w O α 1 (l.map fun b => AVal.int .u8 b.toNat) (l.map fun b => Value.int .u8 b.toNat) := by
          intro l
          induction l with
          | nil => simp [RowVals]
          | cons b l ih =>
            simp only [List.map_cons, RowVals]
            exact ⟨_, _, rfl, ⟨by simp [Rep], by simp [AVal.cells], by simp [Value.cells], by simp [Value.cells, Value.oneCell']⟩, ih⟩
        exact this s
      · simp only [Builtin.firstCells, Sem.run_pure]
        congr 1
        apply Array.ext'
        have : ∀ l : List UInt8, flat (l.map fun b => Value.int .u8 b.toNat) = l.map fun b => Value.int .u8 b.toNat := by
          intro l
          induction l with
          | nil => simp [flat]
          | cons b l ih => simp only [flat, List.map_cons, List.flatMap_cons, Value.cells] at ih ⊢; rw [ih]; rfl
        rw [this]
        simp [ByteArray.data_extract]
    · cases h
  · cases h
end
end Go.EM
