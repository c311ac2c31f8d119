/- append, make, conversions and iterators, in the model. -/
import Derived.Test.YtnafmjbakholcaaDoorE9
set_option linter.unusedVariables false
set_option linter.unusedSimpArgs false
namespace Go.EM
section
variable {P : Program} {w w' : World} {O : Nat → Prop} {α : AM} {st : Store}

theorem run_append_in {t u ty e : TypeId} {i : TypeInfo} {d : TypeDesc} {base : Option Addr} {sLen sCap k : Nat} {x : Value} {new : Array Value} (ht : P.underlying t = some (.slice e)) (hu : P.underlying u = some d)
    (hd : ∀ k, d ≠ .int k) (hi : P.info? e = some i) (hk : (Builtin.lenOf x).run P w = .ok k w) (hn : (Builtin.firstCells i.size k x).run P w = .ok new w) (hle : sLen + k ≤ sCap) :
    (Builtin.append_ #[t, u] ty #[.slice base sLen sCap, x]).run P w =
      ((match base with | some a => storeCells (a.add (sLen * i.size)) new.toList | none => pure () : Sem Unit).run P w).andThen fun _ w' => .ok (.slice base (sLen + k) sCap) w' := by
  have hz : (match d with | .int _ => true | _ => false) = false := by cases d <;> first | rfl | exact absurd rfl (hd _)
  cases base <;> simp [Builtin.append_, run_underlying ht, run_underlying hu, hz, sizeOf, typeInfo, hi, hk, hle, hn]

theorem run_append_new {t u ty e : TypeId} {i : TypeInfo} {z : Value} {d : TypeDesc} {base : Option Addr} {sLen sCap k : Nat} {x : Value} {old new : Array Value} (ht : P.underlying t = some (.slice e))
    (hu : P.underlying u = some d) (hd : ∀ k, d ≠ .int k) (hi : P.info? e = some i) (hz : i.zero = some z) (hk : (Builtin.lenOf x).run P w = .ok k w)
    (ho : (Builtin.firstCells i.size sLen (.slice base sLen sCap)).run P w.drew = .ok old w.drew) (hn : (Builtin.firstCells i.size k x).run P w.drew = .ok new w.drew)
    (hgt : sCap < sLen + k) (hb : (sLen + k) * i.bytes ≤ 140737488355328) (hb0 : i.bytes ≠ 0) :
    (Builtin.append_ #[t, u] ty #[.slice base sLen sCap, x]).run P w =
      .ok (.slice (some ⟨w.heap.size, 0, none⟩) (sLen + k) (grownCap w (sLen + k) sCap e))
        (w.drew.alloc (.cells (old ++ new ++ Builtin.zeroCells z.cells (grownCap w (sLen + k) sCap e - (sLen + k))) e)) := by
  have hzz : (match d with | .int _ => true | _ => false) = false := by cases d <;> first | rfl | exact absurd rfl (hd _)
  have h1 : ¬ (sLen + k ≤ sCap) := by omega
  have h48' : ¬ (281474976710656 < Builtin.nextslicecap (sLen + k) sCap * i.bytes) := by have := growslice_fits hgt hb; omega
  simp [Builtin.append_, run_underlying ht, run_underlying hu, hzz, sizeOf, typeInfo, zeroValue, hi, hz, hk, h1, hb0, h48', Question.forced, ho, hn, newRow, grownCap]

/-- A grown row: what it holds. -/
theorem grow_row (hi : Inv w O α st) {n : Nat} {xs : List AVal} {vs : List Value} {z : Value} {e : TypeId} {old new : Array Value} {sCap : Nat} (hn : n ≠ 0) (hv : RowVals w O α n xs vs)
    (hcells : (old ++ new).toList = flat vs) (hzs : z.cells.size = n) :
    Ext w α (w.drew.alloc (.cells (old ++ new ++ Builtin.zeroCells z.cells (grownCap w xs.length sCap e - xs.length)) e)) (α ++ [some ⟨w.heap.size, n, grownCap w xs.length sCap e, xs.length⟩]) ∧
    Inv (w.drew.alloc (.cells (old ++ new ++ Builtin.zeroCells z.cells (grownCap w xs.length sCap e - xs.length)) e)) O (α ++ [some ⟨w.heap.size, n, grownCap w xs.length sCap e, xs.length⟩]) (st ++ [.row e n xs]) := by
  have hge := grownCap_ge w xs.length sCap e
  have hfl := flat_length hv
  have hq := Quiet.drew w
  have hi' := hq.inv hi
  have hv' : RowVals w.drew O α n xs vs := RowVals_pres (Pres.of_ext (hq.ext α)) hv
  have hsz : (old ++ new).size = xs.length * n := by rw [← hfl, ← hcells]; simp
  obtain ⟨e1, e2⟩ := push_row (w := w.drew) hi' (c := old ++ new ++ Builtin.zeroCells z.cells (grownCap w xs.length sCap e - xs.length)) (el := e) (fz := (0, 0)) (cap := grownCap w xs.length sCap e) hn hv'
    (by rw [Array.size_append, hsz, zeroCells_size, hzs, ← Nat.add_mul]; congr 1; omega) hge
    (fun j hj => by
      rw [Array.getElem?_append_left (by rw [hsz, ← hfl]; exact hj), ← hcells]
      exact (Array.getElem?_toList).symm) (by simp)
  exact ⟨(hq.ext α).trans e1, e2⟩

theorem run_contents_all (hi : Inv w O α st) {n : Nat} {x : AVal} {ys : List AVal} {u : Value} (h : contents st n x = some ys) (hx : Rep w O α x u) (hn : n ≠ 0) :
    ∃ vs, (Builtin.lenOf u).run P w = .ok ys.length w ∧ RowVals w O α n ys vs ∧ (Builtin.firstCells n ys.length u).run P w = .ok (flat vs).toArray w ∧
      (Builtin.firstCells n ys.length u).run P w.drew = .ok (flat vs).toArray w.drew := by
  obtain ⟨h1, vs, h2, h3⟩ := run_contents (P := P) hi h hx hn
  exact ⟨vs, h1, h2, h3 w (fun _ _ _ h => h), h3 w.drew (fun _ _ _ h => h)⟩

theorem done_append (hi : Inv w O α st) {t u ty : TypeId} {x y v : AVal} {st' : Store} {ux uy : Value} (h : aappendOp P [t, u] x y st = some (v, st')) (hx : Rep w O α x ux) (hy : Rep w O α y uy) :
    Done P (Builtin.append_ #[t, u] ty #[ux, uy]) w O α v st' := by
  unfold aappendOp at h
  simp only [] at h
  split at h
  · rename_i n z hei
    split at h
    · cases h
    · rename_i d hd hu
      simp only [Option.bind_eq_some_iff] at h
      obtain ⟨ys, hys, h⟩ := h
      obtain ⟨e, i, zv, he1, he2, he3, he4, he5, he6, he7, he8, he9⟩ := elemInfo_spec hei
      obtain ⟨vs, hk, hv, hn1, hn2⟩ := run_contents_all (P := P) hi hys hy he5
      subst he4
      have hd' : ∀ k, d ≠ .int k := fun k e => hd k e
      unfold aappend at h
      rw [hei] at h
      simp only [elemTy_of he1] at h
      have hempty : ys.isEmpty = true → flat vs = [] := by
        intro hy0
        have : ys = [] := by simpa using hy0
        subst this
        simp only [RowVals] at hv
        subst hv; rfl
      split at h
      · -- nil
        simp only [Rep] at hx
        have hx : ∃ a, ux = .slice a 0 0 ∧ a = none := ⟨none, hx, rfl⟩
        obtain ⟨a, rfl, ha0⟩ := hx
        cases hye : ys.isEmpty with
        | true =>
          simp only [hye, cond_true, Option.some.injEq, Prod.mk.injEq] at h
          obtain ⟨rfl, rfl⟩ := h
          have hl : ys.length = 0 := by simpa using hye
          have hr := run_append_in (ty := ty) (base := a) (sLen := 0) (sCap := 0) he1 hu hd' he2 hk hn1 (by omega)
          rw [hempty hye] at hr
          refine ⟨.slice a 0 0, w, α, ?_, Ext.refl w α, hi, by simp [Rep, ha0]⟩
          rw [hr, hl]
          cases a <;> simp [storeCells]
        | false =>
          simp only [hye, cond_false] at h
          split at h
          · rename_i hlt
            simp only [freshRow, Option.some.injEq, Prod.mk.injEq] at h
            obtain ⟨rfl, rfl⟩ := h
            have hl : 0 < ys.length := by
              cases ys with
              | nil => simp at hye
              | cons a b => simp
            have hold : (Builtin.firstCells i.size 0 (.slice a 0 0)).run P w.drew = .ok #[] w.drew := by
              cases a <;> simp [Builtin.firstCells, loadCells, loadCellsFrom]
            have hb : (0 + ys.length) * i.bytes ≤ 140737488355328 := by
              have := Nat.mul_le_mul (show 0 + ys.length ≤ 4294967296 by simp only [most] at hlt; omega) he6
              omega
            have hr := run_append_new (ty := ty) he1 hu hd' he2 he3 hk hold hn2 (by omega) hb he7
            rw [Nat.zero_add] at hr
            obtain ⟨g1, g2⟩ := grow_row hi (e := e) (old := #[]) (new := (flat vs).toArray) (sCap := 0) he5 hv (by simp) he8
            exact ⟨_, _, _, hr, g1, g2, by rw [hi.len]; exact own_new (grownCap_ge _ _ _ _)⟩
          · cases h
      · -- a full one
        rename_i m xs
        have hx' := hx
        simp only [Rep] at hx
        obtain ⟨a, cap, rfl, h1, h2, h3⟩ := hx
        have hcap := h2 trivial
        subst hcap
        split at h
        · rename_i hm
          cases hye : ys.isEmpty with
          | true =>
            simp only [hye, cond_true, Option.some.injEq, Prod.mk.injEq] at h
            obtain ⟨rfl, rfl⟩ := h
            have hl : ys.length = 0 := by simpa using hye
            have hr := run_append_in (ty := ty) (base := a) (sLen := xs.length) (sCap := xs.length) he1 hu hd' he2 hk hn1 (by omega)
            rw [hempty hye] at hr
            refine ⟨.slice a xs.length xs.length, w, α, ?_, Ext.refl w α, hi, hx'⟩
            rw [hr, hl]
            cases a <;> simp [storeCells]
          | false =>
            simp only [hye, cond_false] at h
            split at h
            · rename_i hlt
              simp only [freshRow, Option.some.injEq, Prod.mk.injEq] at h
              obtain ⟨rfl, rfl⟩ := h
              have hl : 0 < ys.length := by
                cases ys with
                | nil => simp at hye
                | cons a b => simp
              have hcx : contents st i.size (.tree true m xs) = some xs := by simp only [contents]; rw [if_pos hm]
              obtain ⟨us, _, hvx, _, hox⟩ := run_contents_all (P := P) hi hcx hx' he5
              have hb : (xs.length + ys.length) * i.bytes ≤ 140737488355328 := by
                have := Nat.mul_le_mul (show xs.length + ys.length ≤ 4294967296 by simp only [most] at hlt; omega) he6
                omega
              have hr := run_append_new (ty := ty) he1 hu hd' he2 he3 hk hox hn2 (by omega) hb he7
              have hvv := RowVals_append hvx hv
              obtain ⟨g1, g2⟩ := grow_row hi (e := e) (old := (flat us).toArray) (new := (flat vs).toArray) (sCap := xs.length) he5 hvv (by simp [flat_append]) he8
              rw [List.length_append] at g1 g2
              exact ⟨_, _, _, hr, g1, g2, by rw [hi.len, List.length_append]; exact own_new (grownCap_ge _ _ _ _)⟩
            · cases h
        · cases h
      · -- one's own
        rename_i r m top off len
        split at h
        · rename_i hm
          obtain ⟨rfl, rfl, hrt⟩ := hm
          split at h
          · rename_i xs hxs
            obtain ⟨ri, g1, g2, g3, g4, g5, g6, c, el, fz, g7, g8, g9, g10, g11⟩ := hi.alive hxs
            have hx' := hx
            simp only [Rep] at hx
            obtain ⟨hrl, a, cap, rfl, h1, h2, h3⟩ := hx
            obtain ⟨k1, k2, k3, k4⟩ := (h3 ri g1).2 g4
            rw [Nat.sub_zero] at k3
            subst k3
            cases hye : ys.isEmpty with
            | true =>
              simp only [hye, cond_true, Option.some.injEq, Prod.mk.injEq] at h
              obtain ⟨rfl, rfl⟩ := h
              have hl : ys.length = 0 := by simpa using hye
              have hr := run_append_in (ty := ty) (base := a) (sLen := len) (sCap := ri.cap) he1 hu hd' he2 hk hn1 (by omega)
              rw [hempty hye] at hr
              refine ⟨.slice a len ri.cap, w, α, ?_, Ext.refl w α, hi, hx'⟩
              rw [hr, hl]
              cases a <;> simp [storeCells]
            | false =>
              simp only [hye, cond_false] at h
              split at h
              · rename_i hlt
                split at h
                · rename_i hlen
                  subst hlen
                  simp only [Option.some.injEq, Prod.mk.injEq] at h
                  obtain ⟨rfl, rfl⟩ := h
                  have hl : 0 < ys.length := by
                    cases ys with
                    | nil => simp at hye
                    | cons a b => simp
                  obtain ⟨us, hvx, q2⟩ := of_row 0 g9
                  have hflx0 := flat_length hvx
                  have hcap1 : xs.length * i.size ≤ c.size := by rw [g8]; exact Nat.mul_le_mul_right _ (by omega)
                  have hcell : ∀ j, j < (flat us).length → c.toList[j]? = (flat us)[j]? := by
                    intro j hj
                    have := q2 j hj
                    rw [Nat.zero_add] at this
                    simp only [World.cell?, g7] at this
                    simpa using this
                  have htk : c.toList.take (len * i.size) = flat us := by
                    apply List.ext_getElem?
                    intro j
                    by_cases hj : j < len * i.size
                    · rw [List.getElem?_take_of_lt hj]; exact hcell j (by rw [hflx0, g5]; exact hj)
                    · rw [List.getElem?_eq_none (by simp; omega), List.getElem?_eq_none (by rw [hflx0, g5]; omega)]
                  have hox : (Builtin.firstCells i.size len (.slice a len ri.cap)).run P w.drew = .ok (flat us).toArray w.drew := by
                    by_cases hl0 : len = 0
                    · subst hl0
                      have : flat us = [] := List.eq_nil_of_length_eq_zero (by rw [hflx0, g5]; simp)
                      rw [this]
                      cases a <;> simp [Builtin.firstCells, loadCells, loadCellsFrom]
                    · have ha := k4 (by omega)
                      subst ha
                      refine run_first (w := w.drew) (by rw [hflx0, g5]) (fun j hj => ?_)
                      have := q2 j hj
                      simpa using this
                  have hvv := RowVals_append hvx hv
                  have hflx := flat_length hvx
                  have hfly := flat_length hv
                  have hα : ∀ ri', (α.set r (some ri'))[r]? = some (some ri') := fun ri' => List.getElem?_set_self hrl
                  by_cases hroom : len + ys.length ≤ ri.cap
                  · -- in place
                    have hr := run_append_in (ty := ty) (base := a) (sLen := len) (sCap := ri.cap) he1 hu hd' he2 hk hn1 hroom
                    have ha := k4 (by omega)
                    subst ha
                    simp only [Nat.zero_mul, add_addr, Nat.zero_add] at hr
                    have hfit : len * i.size + 0 + (flat vs).length ≤ c.size := by
                      rw [hfly, g8, Nat.add_zero, ← Nat.add_mul]
                      exact Nat.mul_le_mul_right _ hroom
                    obtain ⟨w', s1, s2, s3, s4, s5, s6, s7, s8⟩ := run_store_cells (P := P) (b := ri.block) (off := len * i.size) (flat vs) 0 w c el fz g7 hfit (fun u hu => flat_one hv u hu) g10
                    have hsz : (c.toList.take (len * i.size + 0) ++ flat vs ++ c.toList.drop (len * i.size + 0 + (flat vs).length)).toArray.size = c.size := by
                      simp only [List.size_toArray, List.length_append, List.length_take, List.length_drop, Array.length_toList]
                      omega
                    obtain ⟨t1, t2⟩ := hi.turn (w' := w') (ri' := { ri with top := len + ys.length }) (g := .row e i.size (xs ++ ys)) g1 s5 s6 s7 (by omega) (fun k _ hk => s3 k hk) (.inl rfl) (by simp; omega) (by simp; omega) (by
                      intro hp
                      simp only [RegRep]
                      refine ⟨_, hα _, g2, he5, by simp; omega, by simp; omega, _, el, fz, s2, by rw [hsz]; exact g8, ?_, fun o ho => by rw [s8]; exact g10 o (by rw [hsz] at ho; exact ho), by simpa [rowTy, g11] using hrt⟩
                      refine row_of 0 (RowVals_pres hp hvv) (fun j hj => ?_)
                      rw [Nat.zero_add, flat_append] at *
                      simp only [World.cell?, s2, Option.isSome_none, Bool.false_eq_true, if_false, List.getElem?_toArray, Nat.add_zero]
                      rw [htk, List.getElem?_append_left hj])
                    refine ⟨.slice (some ⟨ri.block, 0, none⟩) (len + ys.length) ri.cap, w', _, ?_, t1, t2, ?_⟩
                    · simp only [Nat.zero_mul]
                      rw [hr]
                      simp only [s1, Result.andThen_ok]
                    · simp only [Rep]
                      refine ⟨by simpa using hrl, _, _, rfl, by omega, .inr ⟨_, _, rfl⟩, fun ri' hri' => ?_⟩
                      rw [hα] at hri'
                      cases hri'
                      exact ⟨by simp, fun _ => ⟨g2, by omega, by simp, fun _ => by simp⟩⟩
                  · have hb : (len + ys.length) * i.bytes ≤ 140737488355328 := by
                      have := Nat.mul_le_mul (show len + ys.length ≤ 4294967296 by simp only [most] at hlt; omega) he6
                      omega
                    have hr := run_append_new (ty := ty) he1 hu hd' he2 he3 hk hox hn2 (by omega) hb he7
                    have hge := grownCap_ge w (len + ys.length) ri.cap e
                    have hq := Quiet.drew w
                    have hblk := cells_alloc (w := w.drew) ((flat us).toArray ++ (flat vs).toArray ++ Builtin.zeroCells zv.cells (grownCap w (len + ys.length) ri.cap e - (len + ys.length))) e (0, 0)
                    have hsz : ((flat us).toArray ++ (flat vs).toArray ++ Builtin.zeroCells zv.cells (grownCap w (len + ys.length) ri.cap e - (len + ys.length))).size = grownCap w (len + ys.length) ri.cap e * i.size := by
                      simp only [Array.size_append, List.size_toArray, zeroCells_size, he8, hflx, hfly, g5, ← Nat.add_mul]
                      congr 1; omega
                    obtain ⟨t1, t2⟩ := hi.turn (w' := w.drew.alloc (.cells ((flat us).toArray ++ (flat vs).toArray ++ Builtin.zeroCells zv.cells (grownCap w (len + ys.length) ri.cap e - (len + ys.length))) e))
                      (ri' := ⟨w.heap.size, i.size, grownCap w (len + ys.length) ri.cap e, len + ys.length⟩) (g := .row e i.size (xs ++ ys)) g1 rfl rfl rfl (by simp)
                      (fun k hk _ => (Quiet.alloc w.drew _).old k hk) (.inr ⟨Nat.le_refl _, by simp⟩) (by simp; omega) (by simp; omega) (by
                      intro hp
                      simp only [RegRep]
                      refine ⟨_, hα _, rfl, he5, by simp; omega, by simp; omega, _, e, (0, 0), hblk, hsz, ?_, fun o ho => ?_, rfl⟩
                      · refine row_of 0 (RowVals_pres hp hvv) (fun j hj => ?_)
                        rw [flat_append] at hj ⊢
                        rw [Nat.zero_add]
                        have hblk' : (w.drew.alloc (.cells ((flat us).toArray ++ (flat vs).toArray ++ Builtin.zeroCells zv.cells (grownCap w (len + ys.length) ri.cap e - (len + ys.length))) e)).heap[w.heap.size]? = _ := hblk
                        simp only [World.cell?, hblk', Option.isSome_none, Bool.false_eq_true, if_false]
                        rw [Array.getElem?_append_left (by simpa using hj)]
                        rw [← Array.getElem?_toList]
                        simp
                      · have hblk' : (w.drew.alloc (.cells ((flat us).toArray ++ (flat vs).toArray ++ Builtin.zeroCells zv.cells (grownCap w (len + ys.length) ri.cap e - (len + ys.length))) e)).heap[w.heap.size]? = _ := hblk
                        simp only [World.frozen?, hblk']
                        simp only [Nat.not_lt_zero, decide_false, Bool.and_false])
                    refine ⟨_, _, _, hr, t1, t2, ?_⟩
                    simp only [Rep]
                    refine ⟨by simpa using hrl, _, _, rfl, hge, .inr ⟨_, _, rfl⟩, fun ri' hri' => ?_⟩
                    rw [hα] at hri'
                    cases hri'
                    exact ⟨by simp, fun _ => ⟨rfl, by omega, by simp, fun _ => by simp⟩⟩
                · cases h
              · cases h
          · cases h
        · cases h
      · cases h
    · cases h
  · cases h
end
end Go.EM
