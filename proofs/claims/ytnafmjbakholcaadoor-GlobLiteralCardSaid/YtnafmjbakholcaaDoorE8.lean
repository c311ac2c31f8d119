/- The primitives on the store, in the model. -/
import Derived.Test.YtnafmjbakholcaaDoorE7
set_option linter.unusedVariables false
set_option linter.unusedSimpArgs false
namespace Go.EM
section
variable {P : Program} {w w' : World} {O : Nat → Prop} {α : AM} {st : Store}

def Done (P : Program) (s : Sem Value) (w : World) (O : Nat → Prop) (α : AM) (v : AVal) (st' : Store) : Prop :=
  ∃ u w' α', s.run P w = .ok u w' ∧ Ext w α w' α' ∧ Inv w' O α' st' ∧ Rep w' O α' v u

theorem Done.pure {s : Sem Value} {v : AVal} (hi : Inv w O α st) (h : ∃ u, s.run P w = .ok u w ∧ Rep w O α v u) : Done P s w O α v st := by
  obtain ⟨u, h1, h2⟩ := h
  exact ⟨u, w, α, h1, Ext.refl w α, hi, h2⟩

/-! ### a new row -/
theorem cells_alloc (c : Array Value) (el : TypeId) (fz : Nat × Nat) : (w.alloc (.cells c el fz)).heap[w.heap.size]? = some (.cells c el fz) := by
  show (w.heap.push _)[w.heap.size]? = _
  simp
theorem push_row (hi : Inv w O α st) {n cap : Nat} {ys : List AVal} {vs : List Value} {c : Array Value} {el : TypeId} {fz : Nat × Nat} (hn : n ≠ 0) (hv : RowVals w O α n ys vs)
    (hc : c.size = cap * n) (hl : ys.length ≤ cap) (hcell : ∀ j, j < (flat vs).length → c[j]? = (flat vs)[j]?) (hfz : ∀ o, o < c.size → ¬ (fz.1 ≤ o ∧ o < fz.2)) :
    Ext w α (w.alloc (.cells c el fz)) (α ++ [some ⟨w.heap.size, n, cap, ys.length⟩]) ∧ Inv (w.alloc (.cells c el fz)) O (α ++ [some ⟨w.heap.size, n, cap, ys.length⟩]) (st ++ [.row el n ys]) := by
  refine hi.push ⟨w.heap.size, n, cap, ys.length⟩ (.row el n ys) (.cells c el fz) rfl ?_
  have hb := cells_alloc (w := w) c el fz
  simp only [RegRep]
  refine ⟨⟨w.heap.size, n, cap, ys.length⟩, by simp, rfl, hn, rfl, hl, c, el, fz, hb, hc, ?_, fun o ho => ?_, rfl⟩
  · have hq := Quiet.alloc w (.cells c el fz)
    have hp : Pres false w O α (w.alloc (.cells c el fz)) O (α ++ [some ⟨w.heap.size, n, cap, ys.length⟩]) := by
      refine ⟨fun b o u _ _ hu => by rw [cell_same (hq.old b (block_lt hu))]; exact hu, fun b o u hO hW hu => ⟨hO, fun hx => ?_⟩, fun _ => by simp, fun _ r ri' hr h => ?_⟩
      · obtain ⟨r, ri, h1, h2⟩ := hx
        by_cases hr : r < α.length
        · rw [List.getElem?_append_left hr] at h1
          exact hW ⟨r, ri, h1, h2⟩
        · have hbl := block_lt hu
          by_cases hr' : r = α.length
          · subst hr'; simp at h1; subst h1; simp at h2; omega
          · rw [List.getElem?_eq_none (by simp; omega)] at h1; cases h1
      · rw [List.getElem?_append_left hr] at h
        exact ⟨ri', h, Nat.le_refl _, fun _ => rfl⟩
    refine row_of 0 (RowVals_pres hp hv) (fun j hj => ?_)
    rw [← hcell j hj, Nat.zero_add]
    simp only [World.cell?, hb]
    simp
  · simp only [World.frozen?, hb]
    have := hfz o ho
    simp only [decide_eq_true_eq, Bool.and_eq_false_imp, decide_eq_false_iff_not]
    intro h1 h2
    exact this ⟨h1, h2⟩

theorem own_new {n cap k : Nat} (hk : k ≤ cap) : Rep w' O (α ++ [some ⟨w.heap.size, n, cap, k⟩]) (.own α.length n k 0 k) (.slice (some ⟨w.heap.size, 0, none⟩) k cap) := by
  simp only [Rep]
  refine ⟨by simp, _, _, rfl, hk, .inr ⟨_, _, rfl⟩, fun ri hr => ?_⟩
  simp at hr
  subst hr
  exact ⟨Nat.le_refl _, fun _ => ⟨rfl, by omega, by simp, fun _ => by simp⟩⟩
theorem ptr_new {n cap k : Nat} : Rep w' O (α ++ [some ⟨w.heap.size, n, cap, k⟩]) (.ptr α.length k 0 0) (.pointer (some ⟨w.heap.size, 0, none⟩)) := by
  simp only [Rep]
  refine ⟨by simp, _, _, rfl, fun ri hr => ?_⟩
  simp at hr
  subst hr
  exact ⟨Nat.le_refl _, fun _ => ⟨rfl, by simp⟩⟩

/-! ### a value that fits its type -/
theorem fits_spec {t : TypeId} {v : AVal} {u : Value} (h : fits P t v = true) (hv : Rep w O α v u) :
    ∃ n d, szOf P t = some n ∧ P.underlying t = some d ∧ n ≠ 0 ∧ v.cells.length = n ∧ v.isAgg = isAggD d ∧ u.cells.size = n ∧ RepL w O α v.cells u.cells.toList ∧ ∀ c ∈ u.cells, c.oneCell' = true := by
  unfold fits at h
  split at h
  · rename_i n d hn hd
    simp only [Bool.and_eq_true, beq_iff_eq, bne_iff_ne, ne_eq] at h
    obtain ⟨⟨⟨h1, h2⟩, h3⟩, h4⟩ := h
    obtain ⟨r1, r2⟩ := cells_rep h3 hv
    exact ⟨n, d, hn, hd, h4, h1, h2, by rw [← h1]; simpa using RepL_length r1, r1, r2⟩
  · cases h
theorem fits_row {t : TypeId} {v : AVal} {u : Value} (h : fits P t v = true) (hv : Rep w O α v u) : ∃ n, szOf P t = some n ∧ n ≠ 0 ∧ RowVals w O α n [v] [u] := by
  obtain ⟨n, d, h1, h2, h3, h4, h5, h6, h7, h8⟩ := fits_spec h hv
  exact ⟨n, h1, h3, by simp only [RowVals]; exact ⟨u, [], rfl, ⟨hv, h4, h6, h8⟩, rfl⟩⟩

theorem done_box (hi : Inv w O α st) {t : TypeId} {v r : AVal} {st' : Store} {u : Value} (h : abox P t v st = some (r, st')) (hv : Rep w O α v u) :
    Done P (Instr.box t u) w O α r st' := by
  unfold abox at h
  split at h
  · rename_i hf
    cases h
    obtain ⟨n, hn, hn0, hrow⟩ := fits_row hf hv
    obtain ⟨n', d, g1, g2, g3, g4, g5, g6, g7, g8⟩ := fits_spec hf hv
    have : n' = n := by rw [hn] at g1; exact (Option.some.inj g1).symm
    subst this
    have hfl : flat [u] = u.cells.toList := by simp [flat]
    obtain ⟨e1, e2⟩ := push_row hi (c := u.cells) (el := t) (fz := (0, 0)) (cap := 1) hn0 hrow (by omega) (by simp) (by rw [hfl]; simp) (by simp)
    refine ⟨_, _, _, ?_, e1, ?_, by rw [hi.len]; exact ptr_new⟩
    · simp only [Instr.box, newVar, newRow, Sem.run_bind, run_newObj, Result.andThen_ok, Sem.run_pure, World.alloc_eq]
    · rw [g4]; exact e2
  · cases h

theorem done_alloc (hi : Inv w O α st) {t : TypeId} {r : AVal} {st' : Store} (h : aalloc P t st = some (r, st')) : Done P (Instr.alloc t true (.tuple #[])) w O α r st' := by
  unfold aalloc at h
  simp only [Option.bind_eq_some_iff] at h
  obtain ⟨z, hz, h⟩ := h
  obtain ⟨zv, hz1, hz2⟩ := zeroOf_run (P := P) (w := w) (O := O) (α := α) hz
  obtain ⟨u, w', α', h1, h2, h3, h4⟩ := done_box hi h hz2
  refine ⟨u, w', α', ?_, h2, h3, h4⟩
  simp only [Instr.alloc, Sem.run_bind, hz1, Result.andThen_ok]
  exact h1

/-! ### loads and stores -/
theorem run_loadVar_part {t : TypeId} {cs : List AVal} {off b o : Nat} {v : AVal} (h : partA P t cs off = some v)
    (hm : ∀ j c, cs[off + j]? = some c → ∃ u, w.cell? ⟨b, o + j, none⟩ = some u ∧ Rep w O α c u) : ∃ r, (loadVar t ⟨b, o, none⟩).run P w = .ok r w ∧ Rep w O α v r := by
  unfold partA at h
  split at h
  · rename_i n d hn hd
    cases hdd : isAggD d with
    | true =>
      simp only [hdd, cond_true] at h
      cases hle : Nat.ble (off + n) cs.length with
      | false => simp [hle] at h
      | true =>
        simp only [hle, cond_true, Option.some.injEq] at h
        subst h
        have hle' : off + n ≤ cs.length := Nat.le_of_ble_eq_true hle
        have build : ∀ m, m ≤ n → ∃ l : List Value, l.length = m ∧ (∀ j, j < l.length → w.cell? ⟨b, o + j, none⟩ = l[j]?) ∧ RepL w O α ((cs.drop off).take m) l := by
          intro m
          induction m with
          | zero => intro _; exact ⟨[], rfl, by simp, by simp [RepL]⟩
          | succ m ih =>
            intro hm'
            obtain ⟨l, h1, h2, h3⟩ := ih (by omega)
            have hlt : off + m < cs.length := by omega
            obtain ⟨u, g1, g2⟩ := hm m cs[off + m] (List.getElem?_eq_getElem hlt)
            refine ⟨l ++ [u], by simp [h1], fun j hj => ?_, ?_⟩
            · by_cases hjm : j < m
              · rw [List.getElem?_append_left (by omega)]; exact h2 j (by omega)
              · have : j = m := by simp at hj; omega
                subst this
                rw [g1, List.getElem?_append_right (by omega)]; simp [h1]
            · rw [List.take_succ_eq_append_getElem (by simp; omega)]
              refine RepL_append h3 ?_
              simp only [List.getElem_drop, RepL]
              exact ⟨u, [], rfl, g2, rfl⟩
        obtain ⟨l, h1, h2, h3⟩ := build n (Nat.le_refl _)
        refine ⟨.agg l.toArray, ?_, by simp only [Rep]; exact ⟨l, rfl, h3⟩⟩
        have := run_load_cells (P := P) (w := w) (b := b) (off := o) h2
        rw [h1] at this
        simp only [loadVar, Sem.run_bind, run_isAgg hd, hdd, Result.andThen_ok, if_true, EM.run_sizeOf hn, this, Sem.run_pure]
    | false =>
      simp only [hdd, cond_false] at h
      obtain ⟨u, g1, g2⟩ := hm 0 v (by simpa using h)
      refine ⟨u, ?_, g2⟩
      simp only [loadVar, Sem.run_bind, run_isAgg hd, hdd, Result.andThen_ok, Bool.false_eq_true, if_false, run_load]
      rw [Nat.add_zero] at g1
      simp [g1]
  · cases h

theorem cellsAt_spec (hi : Inv w O α st) {r top i n : Nat} {xs : List AVal} {x : AVal} (h : cellsAt st r top i = some (n, xs, x)) :
    rowAt st r n top = some xs ∧ xs[i]? = some x := by
  unfold cellsAt at h
  split at h
  · rename_i m ys hr
    split at h
    · rename_i ht
      simp only [Option.map_eq_some_iff, Prod.mk.injEq] at h
      obtain ⟨y, h1, rfl, rfl, rfl⟩ := h
      exact ⟨by unfold rowAt; rw [hr]; simp [ht], h1⟩
    · cases h
  · cases h

theorem run_aload (hi : Inv w O α st) {t : TypeId} {a v : AVal} {u : Value} (h : aload P t a st = some v) (ha : Rep w O α a u) :
    ∃ r, (Instr.loadAt t u).run P w = .ok r w ∧ Rep w O α v r := by
  unfold aload at h
  split at h
  · rename_i cs
    simp only [Rep] at ha
    obtain ⟨b, off, rfl, hm⟩ := ha
    have hm' : ∀ j c, cs[0 + j]? = some c → ∃ u, w.cell? ⟨b, off + j, none⟩ = some u ∧ Rep w O α c u := by
      intro j c hc
      rw [Nat.zero_add] at hc
      rcases hm with rfl | ⟨_, _, hm⟩
      · simp at hc
      · exact RepMem_get hm hc
    obtain ⟨r, h1, h2⟩ := run_loadVar_part h hm'
    exact ⟨r, by simp only [Instr.loadAt, Instr.sureAddr, Sem.run_bind, Sem.run_pure, Result.andThen_ok]; exact h1, h2⟩
  · rename_i r top i off
    split at h
    · rename_i n xs x hc
      obtain ⟨h1, h2⟩ := cellsAt_spec hi hc
      obtain ⟨ri, g1, g2, g3, g4, g5, g6, c, el, fz, g7, g8, g9, g10, _⟩ := hi.alive h1
      simp only [Rep] at ha
      obtain ⟨_, b, o, rfl, hx⟩ := ha
      obtain ⟨rfl, rfl⟩ := (hx ri g1).2 g4
      obtain ⟨v', k1, k2, k3, k4, _⟩ := RepRow_get g9 h2
      have hm' : ∀ j c, x.cells[off + j]? = some c → ∃ u, w.cell? ⟨ri.block, i * ri.stride + off + j, none⟩ = some u ∧ Rep w O α c u := by
        intro j c hcj
        obtain ⟨u, q1, q2⟩ := cells_get k1 k2 k3 hcj
        have hlt : off + j < n := by
          rcases Nat.lt_or_ge (off + j) n with h | h
          · exact h
          · rw [List.getElem?_eq_none (by omega)] at hcj; cases hcj
        refine ⟨u, ?_, q2⟩
        have := k4 (off + j) hlt
        rw [q1, Nat.zero_add] at this
        rw [g2, show i * n + off + j = i * n + (off + j) by omega]
        exact this
      obtain ⟨r', e1, e2⟩ := run_loadVar_part h hm'
      exact ⟨r', by simp only [Instr.loadAt, Instr.sureAddr, Sem.run_bind, Sem.run_pure, Result.andThen_ok]; exact e1, e2⟩
    · cases h
  · cases h

theorem RowVals_get {n : Nat} : ∀ {ys : List AVal} {vs : List Value} {i : Nat} {y : AVal}, RowVals w O α n ys vs → ys[i]? = some y → ∃ v, vs[i]? = some v ∧ Rep w O α y v ∧ y.cells.length = n ∧ v.cells.size = n ∧ ∀ u ∈ v.cells, u.oneCell' = true
  | [], vs, i, y, h, hy => by simp at hy
  | x :: ys, vs, 0, y, h, hy => by
    simp only [RowVals] at h
    obtain ⟨v, us, rfl, h1, _⟩ := h
    simp at hy; subst hy
    exact ⟨v, rfl, h1⟩
  | x :: ys, vs, i + 1, y, h, hy => by
    simp only [RowVals] at h
    obtain ⟨v, us, rfl, _, h2⟩ := h
    simpa using RowVals_get h2 (by simpa using hy)
theorem RowVals_set {n : Nat} {y : AVal} {v : Value} (h1 : Rep w O α y v ∧ y.cells.length = n ∧ v.cells.size = n ∧ ∀ u ∈ v.cells, u.oneCell' = true) :
    ∀ {ys : List AVal} {vs : List Value} (i : Nat), RowVals w O α n ys vs → RowVals w O α n (ys.set i y) (vs.set i v)
  | [], vs, i, h => by simp only [RowVals] at h; subst h; simp [RowVals]
  | x :: ys, vs, 0, h => by
    simp only [RowVals] at h
    obtain ⟨u, us, rfl, _, h2⟩ := h
    simp only [List.set_cons_zero, RowVals]
    exact ⟨v, us, rfl, h1, h2⟩
  | x :: ys, vs, i + 1, h => by
    simp only [RowVals] at h
    obtain ⟨u, us, rfl, h0, h2⟩ := h
    simp only [List.set_cons_succ, RowVals]
    exact ⟨u, us.set i v, rfl, h0, RowVals_set h1 i h2⟩
theorem flat_set {n : Nat} {v : Value} (hv : v.cells.size = n) : ∀ {ys : List AVal} {vs : List Value} (i : Nat), RowVals w O α n ys vs → i < ys.length →
    flat (vs.set i v) = (flat vs).take (i * n) ++ v.cells.toList ++ (flat vs).drop (i * n + n)
  | [], vs, i, h, hi => by simp at hi
  | x :: ys, vs, 0, h, hi => by
    simp only [RowVals] at h
    obtain ⟨u, us, rfl, ⟨_, _, h0, _⟩, h2⟩ := h
    simp [flat, h0]
  | x :: ys, vs, i + 1, h, hi => by
    simp only [RowVals] at h
    obtain ⟨u, us, rfl, ⟨_, _, h0, _⟩, h2⟩ := h
    have ih := flat_set hv i h2 (by simpa using hi)
    have e : ∀ l : List Value, flat (u :: l) = u.cells.toList ++ flat l := by intro l; simp [flat]
    rw [List.set_cons_succ, e, e, ih]
    have hu : u.cells.toList.length = n := by simp [h0]
    rw [List.take_append, List.drop_append, hu]
    rw [show (i + 1) * n - n = i * n by rw [Nat.add_mul]; omega, show (i + 1) * n + n - n = i * n + n by rw [Nat.add_mul]; omega]
    have t1 : u.cells.toList.take ((i + 1) * n) = u.cells.toList := List.take_of_length_le (by rw [hu, Nat.add_mul]; omega)
    have t2 : u.cells.toList.drop ((i + 1) * n + n) = [] := List.drop_eq_nil_of_le (by rw [hu, Nat.add_mul]; omega)
    rw [t1, t2]
    simp
theorem flat_get {n : Nat} : ∀ {ys : List AVal} {vs : List Value} {i : Nat} {v : Value}, RowVals w O α n ys vs → vs[i]? = some v → ((flat vs).drop (i * n)).take n = v.cells.toList
  | [], vs, i, v, h, hv => by simp only [RowVals] at h; subst h; simp at hv
  | x :: ys, vs, 0, v, h, hv => by
    simp only [RowVals] at h
    obtain ⟨u, us, rfl, ⟨_, _, h0, _⟩, h2⟩ := h
    simp at hv; subst hv
    simp [flat, List.take_append, h0]
  | x :: ys, vs, i + 1, v, h, hv => by
    simp only [RowVals] at h
    obtain ⟨u, us, rfl, ⟨_, _, h0, _⟩, h2⟩ := h
    have ih := flat_get h2 (i := i) (by simpa using hv)
    have e : flat (u :: us) = u.cells.toList ++ flat us := by simp [flat]
    have hu : u.cells.toList.length = n := by simp [h0]
    have t2 : u.cells.toList.drop ((i + 1) * n) = [] := List.drop_eq_nil_of_le (by rw [hu, Nat.add_mul]; omega)
    rw [e, List.drop_append, hu, t2]
    rw [show (i + 1) * n - n = i * n by rw [Nat.add_mul]; omega]
    simpa using ih

end
end Go.EM
