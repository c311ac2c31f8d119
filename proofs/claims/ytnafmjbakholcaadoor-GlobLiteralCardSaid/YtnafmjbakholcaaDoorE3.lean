/- What the primitives come to in the model. -/
import Derived.Test.YtnafmjbakholcaaDoorE2
import Derived.Laws.Tables
import Derived.Laws.Cells
import Derived.Laws.Slices
import Derived.Laws.Strings
import Derived.Laws.Build
import Derived.Laws.Append
import Derived.Laws.AppendOwn
import Derived.Laws.MakeOwn
import Derived.Laws.RangeString
import Derived.Laws.StructEq
import Derived.Laws.BytesString
import Derived.Lib.ConvBytes
set_option linter.unusedVariables false
set_option linter.unusedSimpArgs false
namespace Go.EM
section
variable {P : Program} {w : World} {O : Nat → Prop} {α : AM}

theorem RepL_length : ∀ {xs : List AVal} {l : List Value}, RepL w O α xs l → l.length = xs.length
  | [], l, h => by simp only [RepL] at h; subst h; rfl
  | x :: xs, l, h => by
    simp only [RepL] at h
    obtain ⟨v, vs, rfl, _, h2⟩ := h
    simp [RepL_length h2]
theorem RepL_get : ∀ {xs : List AVal} {l : List Value} {i : Nat} {x : AVal}, RepL w O α xs l → xs[i]? = some x → ∃ v, l[i]? = some v ∧ Rep w O α x v
  | [], l, i, x, h, hx => by simp at hx
  | y :: ys, l, i, x, h, hx => by
    simp only [RepL] at h
    obtain ⟨v, vs, rfl, h1, h2⟩ := h
    cases i with
    | zero => simp at hx; subst hx; exact ⟨v, rfl, h1⟩
    | succ i => simp at hx; simpa using RepL_get h2 hx
theorem RepL_drop : ∀ {xs : List AVal} {l : List Value} (n : Nat), RepL w O α xs l → RepL w O α (xs.drop n) (l.drop n)
  | xs, l, 0, h => by simpa using h
  | [], l, n + 1, h => by simp only [RepL] at h; subst h; simp [RepL]
  | x :: xs, l, n + 1, h => by
    simp only [RepL] at h
    obtain ⟨v, vs, rfl, _, h2⟩ := h
    simpa using RepL_drop n h2
theorem RepL_take : ∀ {xs : List AVal} {l : List Value} (n : Nat), RepL w O α xs l → RepL w O α (xs.take n) (l.take n)
  | xs, l, 0, h => by simp [RepL]
  | [], l, n + 1, h => by simp only [RepL] at h; subst h; simp [RepL]
  | x :: xs, l, n + 1, h => by
    simp only [RepL] at h
    obtain ⟨v, vs, rfl, h1, h2⟩ := h
    simp only [List.take_succ_cons, RepL]
    exact ⟨v, vs.take n, rfl, h1, RepL_take n h2⟩
theorem RepL_append : ∀ {xs ys : List AVal} {l m : List Value}, RepL w O α xs l → RepL w O α ys m → RepL w O α (xs ++ ys) (l ++ m)
  | [], ys, l, m, h, k => by simp only [RepL] at h; subst h; simpa using k
  | x :: xs, ys, l, m, h, k => by
    simp only [RepL] at h
    obtain ⟨v, vs, rfl, h1, h2⟩ := h
    simp only [List.cons_append, RepL]
    exact ⟨v, vs ++ m, rfl, h1, RepL_append h2 k⟩
theorem RepL_of {f : Value → AVal} (hf : ∀ v, Rep w O α (f v) v) : ∀ l : List Value, RepL w O α (l.map f) l
  | [] => by simp [RepL]
  | v :: l => by simp only [List.map_cons, RepL]; exact ⟨v, l, rfl, hf v, RepL_of hf l⟩

theorem ofConst1_rep (v : Value) : Rep w O α (ofConst1 v) v := by
  unfold ofConst1
  split <;> simp [Rep]
theorem ofConst_rep (v : Value) : Rep w O α (ofConst v) v := by
  unfold ofConst
  split
  · rename_i cs
    simp only [Rep]
    exact ⟨cs.toList, by simp, RepL_of ofConst1_rep _⟩
  · exact ofConst1_rep v

/-- The cells of a value. -/
theorem cells_get {x : AVal} {v : Value} (h : Rep w O α x v) {n : Nat} (hx : x.cells.length = n) (hv : v.cells.size = n) {j : Nat} {c : AVal} (hc : x.cells[j]? = some c) :
    ∃ u, v.cells[j]? = some u ∧ Rep w O α c u := by
  cases x with
  | agg cs =>
    simp only [Rep] at h
    obtain ⟨l, rfl, hl⟩ := h
    obtain ⟨u, h1, h2⟩ := RepL_get hl hc
    exact ⟨u, by simpa [Value.cells] using h1, h2⟩
  | _ =>
    simp only [AVal.cells, List.length_singleton] at hx hc
    have hj : j = 0 := by
      cases j with
      | zero => rfl
      | succ j => simp at hc
    subst hj
    simp only [List.getElem?_cons_zero, Option.some.injEq] at hc
    subst hc
    have e : v.cells[0]? = some v.cells[0] := Array.getElem?_eq_getElem (by omega)
    refine ⟨_, e, ?_⟩
    by_cases hag : ∃ a, v = .agg a
    · obtain ⟨a, rfl⟩ := hag
      simp only [Rep] at h ⊢ <;> first
        | (cases h; done)
        | (rcases h with ⟨_, ⟨⟩, _⟩; done)
        | (rcases h with ⟨_, _, ⟨⟩, _⟩; done)
        | (rcases h with ⟨_, _, _, ⟨⟩, _⟩; done)
    · have : v.cells = #[v] := by
        cases v <;> first | rfl | exact absurd ⟨_, rfl⟩ hag
      have h0 : v.cells[0] = v := by simp only [this]; rfl
      rw [h0]; exact h

theorem run_isAgg {t : TypeId} {d : TypeDesc} (h : P.underlying t = some d) : (isAgg t).run P w = .ok (isAggD d) w := by
  unfold isAgg isAggD
  rw [Sem.run_bind, run_underlying h w]
  cases d <;> simp
theorem run_sizeOf {t : TypeId} {n : Nat} (h : szOf P t = some n) : (sizeOf t).run P w = .ok n w := by
  unfold szOf at h
  cases hi : P.info? t with
  | none => simp [hi] at h
  | some i => simp [hi] at h; simp [sizeOf, typeInfo, hi, h]

theorem partA_run {t : TypeId} {cs : List AVal} {off : Nat} {v : AVal} {l : List Value} (h : partA P t cs off = some v) (hl : RepL w O α cs l) :
    ∃ u, (part t l.toArray off).run P w = .ok u w ∧ Rep w O α v u := by
  unfold partA at h
  split at h
  · rename_i n d hn hd
    unfold part
    rw [Sem.run_bind, run_isAgg hd]
    cases hdd : isAggD d with
    | true =>
      simp only [hdd, cond_true] at h
      cases hle : Nat.ble (off + n) cs.length with
      | false => simp [hle] at h
      | true =>
        simp only [hle, cond_true, Option.some.injEq] at h
        subst h
        simp only [Result.andThen_ok, if_true, Sem.run_bind, run_sizeOf hn, Sem.run_pure]
        refine ⟨_, rfl, ?_⟩
        simp only [Rep]
        refine ⟨(l.drop off).take n, ?_, RepL_take n (RepL_drop off hl)⟩
        congr 1
        apply Array.ext'
        simp [List.extract_eq_take_drop]
    | false =>
      simp only [hdd, cond_false] at h
      obtain ⟨u, h1, h2⟩ := RepL_get hl h
      refine ⟨u, ?_, h2⟩
      simp [h1]
  · cases h

/-! ### integers, strings, bools -/
theorem run_aint {op : BinOp} {k : IntKind} {a b : Int} {v : AVal} {t : TypeId} (h1 : op ≠ .shl) (h2 : op ≠ .shr) (h : aint op k a b = some v) :
    ∃ u, (binOp op t (.int k a) (.int k b)).run P w = .ok u w ∧ Rep w O α v u := by
  cases op <;> simp only [aint] at h <;> first
    | exact absurd rfl h1
    | exact absurd rfl h2
    | (split at h
       · cases h
       · rename_i hb; cases h; refine ⟨_, by simp [binOp, Op.intDiv, hb]; rfl, by simp [Rep]⟩)
    | (cases h; done)
    | (cases h; exact ⟨_, by simp [binOp, Op.intArith, Op.intBits, Op.intCmp]; rfl, by simp [Rep]⟩)

theorem run_ashift {op : BinOp} {k k' : IntKind} {a b : Int} {v : AVal} {t : TypeId} (h : ashift op k a b = some v) :
    ∃ u, (binOp op t (.int k a) (.int k' b)).run P w = .ok u w ∧ Rep w O α v u := by
  unfold ashift at h
  split at h
  · cases h
  · rename_i hb
    cases op <;> simp only [] at h <;> first
      | (cases h; done)
      | (cases h; exact ⟨_, by simp [binOp, Op.shift, hb]; rfl, by simp [Rep]⟩)

theorem run_astr {op : BinOp} {x y : List UInt8} {v : AVal} {t : TypeId} (h1 : op ≠ .shl) (h2 : op ≠ .shr) (h : astr op x y = some v) :
    ∃ u, (binOp op t (.string ⟨x.toArray⟩) (.string ⟨y.toArray⟩)).run P w = .ok u w ∧ Rep w O α v u := by
  by_cases hop : op = .add
  · subst hop
    simp only [astr] at h
    by_cases hb : ((x.length + y.length : Nat) : Int) > IntKind.i64.max
    · rw [if_pos hb] at h; cases h
    · rw [if_neg hb] at h
      cases h
      refine ⟨.string ⟨(x ++ y).toArray⟩, ?_, by simp [Rep]⟩
      simp only [binOp, Op.stringOp]
      rw [if_neg (by simpa [ByteArray.size] using hb)]
      simp only [Sem.run_pure]
      congr 2
  · cases op <;> simp only [astr] at h <;> first
      | exact absurd rfl h1
      | exact absurd rfl h2
      | exact absurd rfl hop
      | (cases h; done)
      | (cases h; exact ⟨_, by simp only [binOp, Op.stringOp, ByteArray.toList_mk]; rfl, by simp [Rep]⟩)

end
end Go.EM
