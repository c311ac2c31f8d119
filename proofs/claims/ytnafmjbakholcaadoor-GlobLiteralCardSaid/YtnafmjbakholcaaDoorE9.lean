/- More primitives on the store, in the model. -/
import Derived.Test.YtnafmjbakholcaaDoorE8
set_option linter.unusedVariables false
set_option linter.unusedSimpArgs false
namespace Go.EM
section
variable {P : Program} {w w' : World} {O : Nat → Prop} {α : AM} {st : Store}

theorem rep_putCells {x v : AVal} {a u : Value} {off n : Nat} (hx : Rep w O α x a) (hv : Rep w O α v u) (hvc : RepL w O α v.cells u.cells.toList) (h1 : x.cells.length = n) (h2 : a.cells.size = n)
    (ho : off + v.cells.length ≤ n) (hag : x.isAgg = true ∨ v.isAgg = false) (h3 : ∀ c ∈ a.cells, c.oneCell' = true) (h4 : ∀ c ∈ u.cells, c.oneCell' = true) :
    ∃ a', Rep w O α (putCells x off v) a' ∧ (putCells x off v).cells.length = n ∧ a'.cells.toList = a.cells.toList.take off ++ u.cells.toList ++ a.cells.toList.drop (off + v.cells.length) ∧
      a'.cells.size = n ∧ ∀ c ∈ a'.cells, c.oneCell' = true := by
  have hul : u.cells.toList.length = v.cells.length := RepL_length hvc
  by_cases hxa : ∃ cs, x = .agg cs
  · obtain ⟨cs, rfl⟩ := hxa
    simp only [Rep] at hx
    obtain ⟨l, rfl, hl⟩ := hx
    have h1 : cs.length = n := h1
    have hll : l.length = n := by rw [← h1]; exact RepL_length hl
    have h3 : ∀ c ∈ l, c.oneCell' = true := fun c hc => h3 c (by simpa [Value.cells] using hc)
    refine ⟨.agg (l.take off ++ u.cells.toList ++ l.drop (off + v.cells.length)).toArray, ?_, ?_, ?_, ?_, ?_⟩
    · simp only [putCells, Rep]
      exact ⟨_, rfl, RepL_append (RepL_append (RepL_take _ hl) hvc) (RepL_drop _ hl)⟩
    · show (cs.take off ++ v.cells ++ cs.drop (off + v.cells.length)).length = n
      simp only [List.length_append, List.length_take, List.length_drop]; omega
    · show _ = l.take off ++ u.cells.toList ++ l.drop (off + v.cells.length)
      rfl
    · show (l.take off ++ u.cells.toList ++ l.drop (off + v.cells.length)).toArray.size = n
      simp only [List.size_toArray, List.length_append, List.length_take, List.length_drop]; omega
    · intro c hc
      have hc : c ∈ l.take off ++ u.cells.toList ++ l.drop (off + v.cells.length) := by
        have : c ∈ (l.take off ++ u.cells.toList ++ l.drop (off + v.cells.length)).toArray := hc
        simpa using this
      simp only [List.mem_append] at hc
      rcases hc with (hc | hc) | hc
      · exact h3 c (List.mem_of_mem_take hc)
      · exact h4 c (by simpa using hc)
      · exact h3 c (List.mem_of_mem_drop hc)
  · have hxa' : x.isAgg = false := by cases x <;> first | rfl | exact absurd ⟨_, rfl⟩ hxa
    have hva : v.isAgg = false := by rcases hag with h | h; · rw [hxa'] at h; cases h
                                     · exact h
    have e1 : x.cells = [x] := by cases x <;> first | rfl | exact absurd ⟨_, rfl⟩ hxa
    have e2 : v.cells = [v] := by cases v <;> first | rfl | simp [AVal.isAgg] at hva
    rw [e1] at h1
    rw [e2] at ho hul
    simp only [List.length_singleton] at h1 ho hul
    have hoff : off = 0 := by omega
    subst hoff
    have e3 : putCells x 0 v = v := by cases x <;> first | rfl | exact absurd ⟨_, rfl⟩ hxa
    refine ⟨u, by rw [e3]; exact hv, by rw [e3, e2]; simpa using h1, ?_, by simp at hul; omega, h4⟩
    rw [e2]
    simp only [List.take_zero, List.nil_append, List.length_singleton, Nat.zero_add]
    rw [List.drop_eq_nil_of_le (by simp; omega)]
    simp

theorem seg_get {A B mid : List Value} {k : Nat} (hA : k ≤ A.length) (hB : k ≤ B.length) (hAB : ∀ q, q < B.length → A[q]? = B[q]?) (j : Nat)
    (hj : j < (B.take k ++ mid ++ B.drop (k + mid.length)).length) : (A.take k ++ mid ++ A.drop (k + mid.length))[j]? = (B.take k ++ mid ++ B.drop (k + mid.length))[j]? := by
  have lA : (A.take k).length = k := by simp; omega
  have lB : (B.take k).length = k := by simp; omega
  simp only [List.append_assoc]
  by_cases c1 : j < k
  · rw [List.getElem?_append_left (by rw [lA]; exact c1), List.getElem?_append_left (by rw [lB]; exact c1), List.getElem?_take_of_lt c1, List.getElem?_take_of_lt c1]
    exact hAB j (by omega)
  · have R : ∀ X : List Value, (B.take k ++ (mid ++ X))[j]? = (mid ++ X)[j - k]? := fun X => by rw [List.getElem?_append_right (by rw [lB]; omega), lB]
    have L : ∀ X : List Value, (A.take k ++ (mid ++ X))[j]? = (mid ++ X)[j - k]? := fun X => by rw [List.getElem?_append_right (by rw [lA]; omega), lA]
    rw [R, L]
    by_cases c2 : j - k < mid.length
    · rw [List.getElem?_append_left c2, List.getElem?_append_left c2]
    · have R2 : ∀ X : List Value, (mid ++ X)[j - k]? = X[j - k - mid.length]? := fun X => List.getElem?_append_right (by omega)
      rw [R2, R2, List.getElem?_drop, List.getElem?_drop]
      refine hAB _ ?_
      simp only [List.length_append, List.length_take, List.length_drop] at hj
      omega

theorem done_store (hi : Inv w O α st) {t : TypeId} {a v : AVal} {st' : Store} {ua uv : Value} (h : astore P t a v st = some st') (ha : Rep w O α a ua) (hv : Rep w O α v uv) :
    ∃ w' α', (Instr.storeAt t ua uv).run P w = .ok () w' ∧ Ext w α w' α' ∧ Inv w' O α' st' := by
  unfold astore at h
  split at h
  · rename_i r top i off
    split at h
    · rename_i n xs x hc
      split at h
      · rename_i hcond
        obtain ⟨hf, hle, hag⟩ := hcond
        cases h
        obtain ⟨h1, h2⟩ := cellsAt_spec hi hc
        obtain ⟨ri, g1, g2, g3, g4, g5, g6, c, el, fz, g7, g8, g9, g10, g11⟩ := hi.alive h1
        simp only [Rep] at ha
        obtain ⟨_, b, o, rfl, hx⟩ := ha
        obtain ⟨rfl, rfl⟩ := (hx ri g1).2 g4
        obtain ⟨m, d, q1, q2, q3, q4, q5, q6, q7, q8⟩ := fits_spec hf hv
        obtain ⟨vs, k1, k2⟩ := of_row 0 g9
        obtain ⟨av, a1, a2, a3, a4, a5⟩ := RowVals_get k1 h2
        have hilt : i < xs.length := by
          rcases Nat.lt_or_ge i xs.length with h | h
          · exact h
          · rw [List.getElem?_eq_none h] at h2; cases h2
        have hagg : x.isAgg = true ∨ v.isAgg = false := by
          rcases hag with h | h
          · exact .inl h
          · exact .inr (by simpa using h)
        obtain ⟨a', b1, b2, b3, b4, b5⟩ := rep_putCells (n := n) (off := off) a2 hv q7 a3 a4 (by omega) hagg a5 q8
        -- memory
        have hfl : (flat vs).length = xs.length * n := flat_length k1
        have hcap : xs.length * n ≤ ri.cap * n := Nat.mul_le_mul_right n (by omega)
        have hin : i * n + n ≤ xs.length * n := by
          have := Nat.mul_le_mul_right n (show i + 1 ≤ xs.length by omega)
          rw [Nat.add_mul] at this; omega
        have hlen : i * ri.stride + off + uv.cells.toList.length ≤ c.size := by
          rw [g2, g8]; simp only [Array.length_toList]; omega
        obtain ⟨w', s1, s2, s3, s4, s5, s6, s7, s8⟩ := run_store_cells (P := P) (b := ri.block) (off := i * ri.stride + off) uv.cells.toList 0 w c el fz g7 (by simpa using hlen) (fun u hu => q8 u (by simpa using hu)) g10
        have hsz : (c.toList.take (i * ri.stride + off + 0) ++ uv.cells.toList ++ c.toList.drop (i * ri.stride + off + 0 + uv.cells.toList.length)).toArray.size = c.size := by
          simp only [List.size_toArray, List.length_append, List.length_take, List.length_drop, Array.length_toList, Nat.add_zero] at hlen ⊢
          omega
        have hbl : ri.block < w.heap.size := (hi.fresh r ri g1).2
        have turned := hi.turn (w' := w') (ri' := ri) (g := .row (rowTy st r) n (xs.set i (putCells x off v))) g1 s5 s6 s7 (by omega) (fun k _ hk => s3 k hk) (.inl rfl) (Nat.le_refl _) (fun _ => rfl) (by
          intro hp
          have hα : (α.set r (some ri))[r]? = some (some ri) := by
            rw [List.getElem?_set_self]
            rcases Nat.lt_or_ge r α.length with h | h
            · exact h
            · rw [List.getElem?_eq_none h] at g1; cases g1
          simp only [RegRep]
          refine ⟨ri, hα, g2, g3, by simp; omega, by simp; omega, _, el, fz, s2, ?_, ?_, fun o ho => by rw [s8]; exact g10 o (by rw [hsz] at ho; exact ho), by simp [rowTy, g11]⟩
          · rw [hsz]; exact g8
          · have hset := RowVals_set (w := w) (O := O) (α := α) ⟨b1, b2, b4, b5⟩ i k1
            refine row_of 0 (RowVals_pres hp hset) (fun j hj => ?_)
            have hfs := flat_set b4 i k1 hilt
            have hfg := flat_get k1 a1
            rw [Nat.zero_add]
            simp only [World.cell?, s2]
            simp only [Option.isSome_none, Bool.false_eq_true, if_false, List.getElem?_toArray, Nat.add_zero]
            have hcells : ∀ q, q < (flat vs).length → c.toList[q]? = (flat vs)[q]? := by
              intro q hq
              have := k2 q hq
              rw [Nat.zero_add] at this
              simp only [World.cell?, g7] at this
              simpa using this
            have e1 : flat (vs.set i a') = (flat vs).take (i * n + off) ++ uv.cells.toList ++ (flat vs).drop (i * n + off + uv.cells.toList.length) := by
              rw [hfs, b3]
              have hav : av.cells.toList = ((flat vs).drop (i * n)).take n := hfg.symm
              rw [hav]
              have hul : uv.cells.toList.length = v.cells.length := by simpa using RepL_length q7
              rw [hul]
              have l1 : (((flat vs).drop (i * n)).take n).take off = ((flat vs).drop (i * n)).take off := by rw [List.take_take]; congr 1; omega
              have l2 : (flat vs).take (i * n) ++ ((flat vs).drop (i * n)).take off = (flat vs).take (i * n + off) := by rw [List.take_add]
              have l3 : (((flat vs).drop (i * n)).take n).drop (off + v.cells.length) ++ (flat vs).drop (i * n + n) = (flat vs).drop (i * n + off + v.cells.length) := by
                have hA : ((flat vs).drop (i * n)).drop n = (flat vs).drop (i * n + n) := List.drop_drop
                rw [← hA]
                have hk : off + v.cells.length ≤ (((flat vs).drop (i * n)).take n).length := by simp only [List.length_take, List.length_drop]; omega
                rw [← List.drop_append_of_le_length hk, List.take_append_drop, List.drop_drop]
                congr 1
                omega
              rw [l1]
              simp only [List.append_assoc] at l2 l3 ⊢
              rw [← List.append_assoc, l2, l3]
            rw [e1] at hj ⊢
            rw [g2]
            refine seg_get (by simp only [Array.length_toList]; rw [g2] at hlen; omega) (by omega) hcells j hj)
        obtain ⟨t1, t2⟩ := turned
        refine ⟨w', _, ?_, t1, t2⟩
        simp only [Instr.storeAt, Instr.sureAddr, Sem.run_bind, Sem.run_pure, Result.andThen_ok, storeVar, EM.run_sizeOf q1]
        rw [if_neg (by simp [q6])]
        exact s1
      · cases h
    · cases h
  · cases h

/-! ### append -/
theorem elemTy_of {t e : TypeId} (h : P.underlying t = some (.slice e)) : elemTy P t = e := by simp only [elemTy, h]
theorem elemInfo_spec {t : TypeId} {n : Nat} {z : AVal} (h : elemInfo P t = some (n, z)) :
    ∃ e i zv, P.underlying t = some (.slice e) ∧ P.info? e = some i ∧ i.zero = some zv ∧ i.size = n ∧ n ≠ 0 ∧ i.bytes ≤ 16384 ∧ i.bytes ≠ 0 ∧ zv.cells.size = n ∧ z = ofConst zv := by
  unfold elemInfo at h
  split at h
  · rename_i e hu
    split at h
    · rename_i i hi
      split at h
      · rename_i zv hz
        split at h
        · rename_i hc
          cases h
          exact ⟨e, i, zv, hu, hi, hz, rfl, hc.1, hc.2.1, hc.2.2.1, hc.2.2.2, rfl⟩
        · cases h
      · cases h
    · cases h
  · cases h

theorem zeroCells_size (z : Array Value) (k : Nat) : (Builtin.zeroCells z k).size = k * z.size := by simp [Builtin.zeroCells]

end
end Go.EM
