import Derived.Test.YthdchambdfenhaaGreatT28
import Derived.Test.YthdchambdfenhaaGreatQb
/- Plain laws: what slices.Compact leaves. No program in sight. -/
set_option linter.unusedVariables false
set_option linter.unusedSimpArgs false
namespace Go.Proofs.YthdchambdfenhaaGreat.Q
open Go.EM Go.TY
section
variable {A : Type} [DecidableEq A]
def sqzS (o : List A) (x : A) : List A := if o.getLast? = some x then o else o ++ [x]
/-- Each once of those that stand side by side. -/
def sqz (l : List A) : List A := l.foldl sqzS []
theorem sqz_app {l : List A} {x : A} : sqz (l ++ [x]) = sqzS (sqz l) x := by unfold sqz; rw [List.foldl_append]; rfl
theorem sqz_last : ∀ {l : List A}, (sqz l).getLast? = l.getLast? := by
  intro l
  rcases List.eq_nil_or_concat l with rfl | ⟨l, x, rfl⟩
  · rfl
  · rw [List.concat_eq_append, sqz_app]
    unfold sqzS
    by_cases h : (sqz l).getLast? = some x
    · rw [if_pos h, h]; simp
    · rw [if_neg h]; simp
theorem sqz_mem {x : A} : ∀ (n : Nat) (l : List A), l.length = n → (x ∈ sqz l ↔ x ∈ l) := by
  intro n
  induction n with
  | zero => intro l h; rw [List.length_eq_zero_iff.1 h]; exact Iff.rfl
  | succ n ih =>
    intro l h
    rcases List.eq_nil_or_concat l with rfl | ⟨l, y, rfl⟩
    · cases h
    · rw [List.concat_eq_append] at h ⊢
      rw [List.length_append] at h
      have := ih l (by simpa using h)
      rw [sqz_app]
      unfold sqzS
      split
      · rename_i hl
        rw [this, List.mem_append, List.mem_singleton]
        constructor
        · exact .inl
        · rintro (h1 | h1)
          · exact h1
          · subst h1; rw [← this]; exact List.mem_of_getLast? hl
      · rw [List.mem_append, List.mem_append, this]
variable {K : Type} {c : K → K → Int} {key : A → K}
theorem sqz_rises (hc : Cmp c) (hk : ∀ a b, c (key a) (key b) = 0 → a = b) : ∀ (n : Nat) (l : List A), l.length = n → (l.Pairwise fun x y => c (key x) (key y) ≤ 0) → Rises c key (sqz l) := by
  intro n
  induction n with
  | zero => intro l h _; rw [List.length_eq_zero_iff.1 h]; exact List.Pairwise.nil
  | succ n ih =>
    intro l h hp
    rcases List.eq_nil_or_concat l with rfl | ⟨l, y, rfl⟩
    · cases h
    · rw [List.concat_eq_append] at h hp ⊢
      rw [List.length_append] at h
      have hp' := List.pairwise_append.1 hp
      have hr := ih l (by simpa using h) hp'.1
      rw [sqz_app]
      unfold sqzS
      split
      · exact hr
      · rename_i hl
        refine List.pairwise_append.2 ⟨hr, List.pairwise_singleton .., fun a ha b hb => ?_⟩
        rw [List.mem_singleton] at hb
        subst hb
        have ha' := (sqz_mem _ l rfl).1 ha
        have hab := hp'.2.2 a ha' b (List.mem_singleton.2 rfl)
        rcases Int.lt_or_eq_of_le hab with h1 | h1
        · exact h1
        · have e := hk _ _ h1
          subst e
          rcases List.eq_nil_or_concat (sqz l) with e0 | ⟨q, z, e0⟩
          · rw [e0] at ha; cases ha
          · rw [List.concat_eq_append] at e0
            rw [e0] at hl ha hr
            have hz : z ∈ l := by rw [← sqz_mem _ l rfl, e0]; simp
            have hza := hp'.2.2 z hz a (List.mem_singleton.2 rfl)
            rw [List.getLast?_append] at hl
            simp only [List.getLast?_singleton, Option.some_or, Option.some.injEq] at hl
            rcases List.mem_append.1 ha with hq | hq
            · have := (List.pairwise_append.1 hr).2.2 a hq z (List.mem_singleton.2 rfl)
              have hn := hc.neg (key a) (key z)
              omega
            · exact absurd (List.mem_singleton.1 hq).symm hl
end
end Go.Proofs.YthdchambdfenhaaGreat.Q

/- Plain laws: lists that rise, made one by one; a place made by shifting. No program in sight. -/
set_option linter.unusedVariables false
set_option linter.unusedSimpArgs false
namespace Go.Proofs.YthdchambdfenhaaGreat.Q
open Go.EM Go.TY
section
variable {A : Type} {c : A → A → Int}
abbrev riseA (c : A → A → Int) (o : List A) : Prop := Rises c (fun v => v) o
def insU (c : A → A → Int) (o : List A) (v : A) : List A := match o with
  | [] => [v]
  | x :: l => if c v x = 0 then x :: l else if c v x < 0 then v :: x :: l else x :: insU c l v
theorem insU_mem (hc : Cmp c) {v x : A} : ∀ {o : List A}, x ∈ insU c o v ↔ x = v ∨ x ∈ o
  | [] => by simp [insU]
  | y :: l => by
    unfold insU
    split
    · rename_i h
      have e := (hc.zero _ _).1 h
      subst e
      simp
    · split
      · simp
      · rw [List.mem_cons, insU_mem hc, List.mem_cons]
        constructor
        · rintro (h | h | h)
          · exact .inr (.inl h)
          · exact .inl h
          · exact .inr (.inr h)
        · rintro (h | h | h)
          · exact .inr (.inl h)
          · exact .inl h
          · exact .inr (.inr h)
theorem insU_rises (hc : Cmp c) {v : A} : ∀ {o : List A}, riseA c o → riseA c (insU c o v)
  | [], _ => List.pairwise_singleton ..
  | y :: l, h => by
    have h' := List.pairwise_cons.1 h
    unfold insU
    split
    · exact h
    · rename_i h0
      split
      · rename_i h1
        refine List.pairwise_cons.2 ⟨fun z hz => ?_, h⟩
        rcases List.mem_cons.1 hz with e | hz
        · subst e; exact h1
        · exact hc.trans _ _ _ h1 (h'.1 z hz)
      · rename_i h1
        refine List.pairwise_cons.2 ⟨fun z hz => ?_, insU_rises hc h'.2⟩
        rcases (insU_mem hc).1 hz with e | hz
        · subst e
          have h2 := hc.neg z y
          show c y z < 0
          omega
        · exact h'.1 z hz
/-- Rising, each once. -/
def uniq (c : A → A → Int) (l : List A) : List A := l.foldl (insU c) []
theorem fold_law {f : List A → A → List A} (hm : ∀ o v x, riseA c o → (x ∈ f o v ↔ x = v ∨ x ∈ o)) (hr : ∀ o v, riseA c o → riseA c (f o v)) : ∀ (l o : List A), riseA c o → riseA c (l.foldl f o) ∧ ∀ x, x ∈ l.foldl f o ↔ x ∈ o ∨ x ∈ l
  | [], o, h => ⟨h, fun x => by simp⟩
  | v :: l, o, h => by
    obtain ⟨h1, h2⟩ := fold_law hm hr l (f o v) (hr o v h)
    refine ⟨h1, fun x => ?_⟩
    rw [List.foldl_cons, h2, hm o v x h, List.mem_cons]
    constructor
    · rintro ((h | h) | h)
      · exact .inr (.inl h)
      · exact .inl h
      · exact .inr (.inr h)
    · rintro (h | h | h)
      · exact .inl (.inr h)
      · exact .inl (.inl h)
      · exact .inr h
theorem uniq_law (hc : Cmp c) (l : List A) : riseA c (uniq c l) ∧ ∀ x, x ∈ uniq c l ↔ x ∈ l := by
  obtain ⟨h1, h2⟩ := fold_law (f := insU c) (fun o v x (_ : riseA c o) => insU_mem hc) (fun o v h => insU_rises hc h) l [] List.Pairwise.nil
  exact ⟨h1, fun x => by have := h2 x; simpa [uniq] using this⟩
theorem uniq_rises (hc : Cmp c) (l : List A) : riseA c (uniq c l) := (uniq_law hc l).1
theorem uniq_mem (hc : Cmp c) (l : List A) (x : A) : x ∈ uniq c l ↔ x ∈ l := (uniq_law hc l).2 x
theorem fold_uniq (hc : Cmp c) {f : List A → A → List A} (hm : ∀ o v x, riseA c o → (x ∈ f o v ↔ x = v ∨ x ∈ o)) (hr : ∀ o v, riseA c o → riseA c (f o v)) (l : List A) : l.foldl f [] = uniq c l := by
  obtain ⟨h1, h2⟩ := fold_law hm hr l [] List.Pairwise.nil
  refine rises_unique hc (key := fun v => v) h1 (uniq_rises hc l) fun x => ?_
  rw [h2, uniq_mem hc]; simp
theorem insU_len {v : A} : ∀ {o : List A}, (insU c o v).length ≤ o.length + 1
  | [] => Nat.le_refl _
  | y :: l => by
    unfold insU
    split
    · omega
    · split
      · simp
      · have := insU_len (v := v) (o := l)
        simp only [List.length_cons]; omega
theorem fold_len : ∀ (l o : List A), (l.foldl (insU c) o).length ≤ o.length + l.length
  | [], o => Nat.le_refl _
  | v :: l, o => by
    have := fold_len l (insU c o v)
    have := @insU_len A c v o
    rw [List.foldl_cons, List.length_cons]; omega
theorem uniq_len (l : List A) : (uniq c l).length ≤ l.length := by
  have := fold_len (c := c) l []
  simpa [uniq] using this
/-- By the place where it belongs. -/
abbrev loA (c : A → A → Int) (v : A) (o : List A) : List A := lo c (fun x => x) v o
abbrev hiA (c : A → A → Int) (v : A) (o : List A) : List A := hi c (fun x => x) v o
theorem lohiA {v : A} {o : List A} : loA c v o ++ hiA c v o = o := lohi
theorem rises_midA {p q : List A} {y : A} : riseA c (p ++ y :: q) ↔ riseA c (p ++ q) ∧ (∀ x ∈ p, c x y < 0) ∧ ∀ x ∈ q, c y x < 0 := by
  unfold riseA Rises
  rw [List.pairwise_append, List.pairwise_append, List.pairwise_cons]
  constructor
  · rintro ⟨h1, ⟨h2, h3⟩, h4⟩
    exact ⟨⟨h1, h3, fun a ha b hb => h4 a ha b (List.mem_cons_of_mem _ hb)⟩, fun x hx => h4 x hx y (List.mem_cons_self ..), h2⟩
  · rintro ⟨⟨h1, h3, h4⟩, h5, h2⟩
    refine ⟨h1, ⟨h2, h3⟩, fun a ha b hb => ?_⟩
    rcases List.mem_cons.1 hb with rfl | hb
    · exact h5 a ha
    · exact h4 a ha b hb
def putU (c : A → A → Int) (o : List A) (v : A) : List A := match hiA c v o with
  | [] => loA c v o ++ [v]
  | y :: q => if c y v = 0 then o else loA c v o ++ v :: y :: q
theorem putU_mem (hc : Cmp c) {o : List A} {v x : A} : x ∈ putU c o v ↔ x = v ∨ x ∈ o := by
  have e : loA c v o ++ hiA c v o = o := lohiA
  unfold putU
  split
  · rename_i h
    rw [h, List.append_nil] at e
    rw [e, List.mem_append, List.mem_singleton, or_comm]
  · rename_i y q h
    rw [h] at e
    split
    · rename_i h0
      have e2 := (hc.zero _ _).1 h0
      subst e2
      constructor
      · exact .inr
      · rintro (h1 | h1)
        · rw [h1, ← e]; simp
        · exact h1
    · conv => rhs; rw [← e]
      simp only [List.mem_append, List.mem_cons]
      constructor
      · rintro (h | h | h | h)
        · exact .inr (.inl h)
        · exact .inl h
        · exact .inr (.inr (.inl h))
        · exact .inr (.inr (.inr h))
      · rintro (h | h | h | h)
        · exact .inr (.inl h)
        · exact .inl h
        · exact .inr (.inr (.inl h))
        · exact .inr (.inr (.inr h))
theorem loA_below {v : A} {o : List A} : ∀ x ∈ loA c v o, c x v < 0 := lo_below (c := c) (key := fun x => x)
theorem putU_rises (hc : Cmp c) {o : List A} {v : A} (hr : riseA c o) : riseA c (putU c o v) := by
  have e : loA c v o ++ hiA c v o = o := lohiA
  unfold putU
  split
  · rename_i h
    rw [h, List.append_nil] at e
    refine List.pairwise_append.2 ⟨by rw [e]; exact hr, List.pairwise_singleton .., fun a ha b hb => ?_⟩
    rw [List.mem_singleton] at hb
    subst hb
    exact loA_below a ha
  · rename_i y q h
    split
    · exact hr
    · rename_i h0
      have ha := hi_above hc (key := fun x => x) hr h
      rw [h] at e
      refine rises_midA.2 ⟨by rw [e]; exact hr, fun x hx => loA_below x hx, fun x hx => ?_⟩
      have hn := hc.neg x v
      show c v x < 0
      rcases List.mem_cons.1 hx with e' | hx
      · subst e'; have := ha.1; omega
      · have := ha.2 x hx; omega
theorem putU_len {o : List A} {v : A} : (putU c o v).length ≤ o.length + 1 := by
  have e : loA c v o ++ hiA c v o = o := lohiA
  have el : (loA c v o).length + (hiA c v o).length = o.length := by rw [← List.length_append, e]
  unfold putU
  split
  · rename_i h; rw [h] at el; simp only [List.length_append, List.length_singleton, List.length_nil] at *; omega
  · rename_i y q h
    split
    · omega
    · rw [h] at el; simp only [List.length_append, List.length_cons] at *; omega
theorem put_uniq (hc : Cmp c) (l : List A) : l.foldl (putU c) [] = uniq c l := fold_uniq hc (fun o v x _ => putU_mem hc) (fun o v h => putU_rises hc h) l
/-- A place is made, from behind. -/
def shiftW (o : List A) (x : A) (k : Nat) : List A := (o ++ [x]).take (k + 1) ++ o.drop k
theorem shift_start {o : List A} {x : A} : shiftW o x o.length = o ++ [x] := by
  unfold shiftW
  rw [List.take_of_length_le (by simp), List.drop_of_length_le (Nat.le_refl _), List.append_nil]
theorem shift_len {o : List A} {x : A} {k : Nat} (hk : k ≤ o.length) : (shiftW o x k).length = o.length + 1 := by
  unfold shiftW
  rw [List.length_append, List.length_take, List.length_append, List.length_drop, List.length_singleton]; omega
theorem shift_at {o : List A} {x : A} {k : Nat} (hk : k < o.length) : (shiftW o x (k + 1))[k]? = some o[k] := by
  unfold shiftW
  rw [List.getElem?_append_left (by rw [List.length_take, List.length_append, List.length_singleton]; omega), List.getElem?_take_of_lt (by omega), List.getElem?_append_left hk, List.getElem?_eq_getElem hk]
theorem shift_step {o : List A} {x : A} {k : Nat} (hk : k < o.length) : (shiftW o x (k + 1)).set (k + 1) o[k] = shiftW o x k := by
  apply List.ext_getElem?
  intro i
  have hl : (shiftW o x (k + 1)).length = o.length + 1 := shift_len (by omega)
  rw [List.getElem?_set]
  by_cases hi : k + 1 = i
  · subst hi
    rw [if_pos rfl, if_pos (by omega)]
    unfold shiftW
    rw [List.getElem?_append_right (by rw [List.length_take, List.length_append, List.length_singleton]; omega), List.length_take, List.length_append, List.length_singleton, List.getElem?_drop, show k + (k + 1 - min (k + 1) (o.length + 1)) = k by omega, List.getElem?_eq_getElem hk]
  · rw [if_neg hi]
    unfold shiftW
    by_cases h2 : i ≤ k
    · rw [List.getElem?_append_left (by rw [List.length_take, List.length_append, List.length_singleton]; omega), List.getElem?_append_left (by rw [List.length_take, List.length_append, List.length_singleton]; omega), List.getElem?_take_of_lt (by omega), List.getElem?_take_of_lt (by omega)]
    · rw [List.getElem?_append_right (by rw [List.length_take, List.length_append, List.length_singleton]; omega), List.getElem?_append_right (by rw [List.length_take, List.length_append, List.length_singleton]; omega)]
      rw [List.length_take, List.length_take, List.length_append, List.length_singleton, List.getElem?_drop, List.getElem?_drop]
      congr 1; omega
theorem shift_end {o : List A} {x : A} {k : Nat} (hk : k ≤ o.length) : (shiftW o x k).set k x = o.take k ++ x :: o.drop k := by
  unfold shiftW
  rw [List.take_add_one, List.set_append_left _ _ (by
    rw [List.length_append, List.length_take, List.length_append, List.length_singleton]
    have : ((o ++ [x])[k]?).toList.length = 1 := by rw [List.getElem?_eq_getElem (by simp; omega)]; rfl
    omega)]
  rw [List.getElem?_eq_getElem (show k < (o ++ [x]).length by simp; omega), Option.toList_some, List.set_append_right _ _ (by rw [List.length_take, List.length_append, List.length_singleton]; omega)]
  rw [show k - (List.take k (o ++ [x])).length = 0 by rw [List.length_take, List.length_append, List.length_singleton]; omega]
  rw [List.take_append_of_le_length hk]
  simp
theorem put_at {o : List A} {v : A} (h : ∀ y q, hiA c v o = y :: q → c y v ≠ 0) : o.take (loA c v o).length ++ v :: o.drop (loA c v o).length = putU c o v := by
  have e : loA c v o ++ hiA c v o = o := lohiA
  have e1 : o.take (loA c v o).length = loA c v o := by
    have : (loA c v o ++ hiA c v o).take (loA c v o).length = loA c v o := by simp
    rwa [e] at this
  have e2 : o.drop (loA c v o).length = hiA c v o := by
    have : (loA c v o ++ hiA c v o).drop (loA c v o).length = hiA c v o := by simp
    rwa [e] at this
  rw [e1, e2]
  unfold putU
  cases hq : hiA c v o with
  | nil => rfl
  | cons y q => simp only; rw [if_neg (h y q hq)]
end
section
variable {A B : Type}
theorem foldl_flat {f : B → A → B} {X : Type} {g : X → List A} : ∀ (l : List X) (o : B), (l.flatMap g).foldl f o = l.foldl (fun o x => (g x).foldl f o) o
  | [], o => rfl
  | x :: l, o => by rw [List.flatMap_cons, List.foldl_append, List.foldl_cons, foldl_flat l]
end
end Go.Proofs.YthdchambdfenhaaGreat.Q

/- Plain laws: slices.Compact of texts, of leaves. -/
set_option linter.unusedVariables false
set_option linter.unusedSimpArgs false
set_option maxRecDepth 100000
namespace Go.Proofs.YthdchambdfenhaaGreat.Q
open Go.EM Go.TY Go.Proofs Go.Proofs.YthdchambdfenhaaGreat.Y
abbrev Leaf1 := Path × Int × Unit
def cmpLf (a b : Leaf1) : Int := orI (cmpP a.1 b.1) (cmpI a.2.1 b.2.1)
theorem cp_cmp : Cmp cmpP := Cmp.list cb_cmp
theorem cl_cmp : Cmp cmpLf := by
  have : cmpLf = fun a b => cmpB cmpP cmpI ((fun x : Leaf1 => (x.1, x.2.1)) a) ((fun x : Leaf1 => (x.1, x.2.1)) b) := rfl
  rw [this]
  exact Cmp_map (cp_cmp.pair ci_cmp) _ fun a b h => by
    obtain ⟨a1, a2, ⟨⟩⟩ := a; obtain ⟨b1, b2, ⟨⟩⟩ := b
    simp only [Prod.mk.injEq] at h
    rw [h.1, h.2]
theorem treeC_t {a b : Leaf1} (ha : a.1.length < 1000000) : tree_compare a b = some (cmpLf a b) := by
  unfold tree_compare
  simp only [pathCompare_t ha, compare_t, or_t, Option.bind_some]
  rfl
theorem leafEq_t' {a b : Leaf1} (ha : a.1.length < 1000000) : tree_Leaves_1 a b = some (decide (a = b)) := by
  unfold tree_Leaves_1
  rw [treeC_t ha]
  simp only [Option.bind_some]
  by_cases h : a = b
  · rw [decide_eq_true h, decide_eq_true ((cl_cmp.zero _ _).2 h)]
  · rw [decide_eq_false h, decide_eq_false (fun e => h ((cl_cmp.zero _ _).1 e))]
theorem emp_false {A : Type} {w : List A} (h : 0 < w.length) : w.isEmpty = false := by cases w with
  | nil => cases h
  | cons _ _ => rfl
theorem viewI_nat {n a b : Nat} (h1 : a ≤ b) (h2 : b ≤ n) : viewI n (a : Int) (b : Int) = some (a, b - a) := by
  unfold viewI
  rw [if_pos ⟨by omega, by omega, by omega⟩]; simp
theorem sqzS_take {A : Type} [DecidableEq A] {l : List A} {i : Nat} (hi : i < l.length) (h0 : 0 < i) : sqz (l.take (i + 1)) = if l[i - 1]'(by omega) = l[i] then sqz (l.take i) else sqz (l.take i) ++ [l[i]] := by
  rw [List.take_add_one, List.getElem?_eq_getElem hi, Option.toList_some, sqz_app]
  unfold sqzS
  have e : (sqz (l.take i)).getLast? = some (l[i - 1]'(by omega)) := by
    rw [sqz_last, List.getLast?_eq_getElem?, List.length_take, show min i l.length - 1 = i - 1 by omega, List.getElem?_take_of_lt (by omega), List.getElem?_eq_getElem (by omega)]
  rw [e]
  by_cases h : l[i - 1]'(by omega) = l[i]
  · rw [if_pos (by rw [h]), if_pos h]
  · rw [if_neg (fun e => h (Option.some.inj e)), if_neg h]
/-- Where compacting stands. -/
structure MidS (l w : List (List UInt8)) (i0 k i : Nat) : Prop where
  len : w.length = l.length
  head : w.take i = sqz (l.take (i0 + k))
  rest : ∀ j, i0 + k - 1 ≤ j → w[j]? = l[j]?
  low : i ≤ i0 + k - 1
theorem compact_innerS {l : List (List UInt8)} {i0 : Nat} (hl : l.length < 1000000) (h0 : 0 < i0) (hi0 : i0 < l.length) : ∀ (n k i : Nat) (w : List (List UInt8)), l.length - i0 - k ≤ n → 1 ≤ k → k ≤ l.length - i0 → MidS l w i0 k i →
    ∃ w' i', MidS l w' i0 (l.length - i0) i' ∧ loopT slices_Compact_Sl_string_string_l9 ((i : Int), (i0, l.length - i0), (k : Int), w, ()) = some (.inl ((i' : Int), w', ())) := by
  intro n
  induction n with
  | zero =>
    intro k i w hn hk1 hk hm
    have e : k = l.length - i0 := by omega
    subst e
    refine ⟨w, i, hm, loopT_inr ?_⟩
    unfold slices_Compact_Sl_string_string_l9
    simp only [cond_dec]
    rw [if_neg (by omega)]
  | succ n ih =>
    intro k i w hn hk1 hk hm
    by_cases hlt : k < l.length - i0
    · have hwl := hm.len
      have hw : 0 < w.length := by omega
      have hk0 : i0 + k < l.length := by omega
      have ea : w[i0 + k]? = some (l[i0 + k]) := by rw [hm.rest _ (by omega), List.getElem?_eq_getElem hk0]
      have eb : w[i0 + (k - 1)]? = some (l[i0 + k - 1]'(by omega)) := by rw [show i0 + (k - 1) = i0 + k - 1 by omega, hm.rest _ (by omega), List.getElem?_eq_getElem (by omega)]
      have hlow := hm.low
      have hiw : i < w.length := by omega
      have turn : slices_Compact_Sl_string_string_l9 ((i : Int), (i0, l.length - i0), (k : Int), w, ()) = if l[i0 + k - 1]'(by omega) = l[i0 + k] then some (.inl ((i : Int), (i0, l.length - i0), ((k + 1 : Nat) : Int), w, ())) else some (.inl (((i + 1 : Nat) : Int), (i0, l.length - i0), ((k + 1 : Nat) : Int), w.set i l[i0 + k], ())) := by
        unfold slices_Compact_Sl_string_string_l9
        simp only [cond_dec]
        rw [if_pos (by omega), emp_false hw]
        simp only [cond_false]
        rw [inI_nat hlt, wrap64 (n := (k : Int) - 1) (by omega) (by omega), show (k : Int) - 1 = ((k - 1 : Nat) : Int) by omega, inI_nat (show k - 1 < l.length - i0 by omega)]
        simp only [Option.bind_some]
        rw [ea, eb]
        simp only [Option.bind_some, decide_not]
        rw [wrap64 (by omega) (by omega), wrap64 (by omega) (by omega)]
        by_cases hx : l[i0 + k] = l[i0 + k - 1]'(by omega)
        · rw [if_pos hx.symm]
          first | (rw [decide_eq_true hx]; rfl) | (rw [if_pos hx])
        · rw [if_neg (fun e => hx e.symm), decide_eq_false hx, inI_nat hiw]
          simp only [Bool.not_false, cond_true, Option.bind_some]
          rw [List.getElem?_eq_getElem hiw]
          rfl
      have hsq := sqzS_take (l := l) (i := i0 + k) hk0 (by omega)
      by_cases hx : l[i0 + k - 1]'(by omega) = l[i0 + k]
      · rw [if_pos hx] at turn hsq
        rw [loopT_inl turn]
        exact ih (k + 1) i w (by omega) (by omega) (by omega) ⟨hwl, by rw [hm.head, show i0 + (k + 1) = i0 + k + 1 by omega, hsq], fun j hj => hm.rest j (by omega), by omega⟩
      · rw [if_neg hx] at turn hsq
        rw [loopT_inl turn]
        refine ih (k + 1) (i + 1) _ (by omega) (by omega) (by omega) ⟨by rw [List.length_set]; exact hwl, ?_, fun j hj => ?_, by omega⟩
        · rw [show i0 + (k + 1) = i0 + k + 1 by omega, hsq, ← hm.head, List.take_add_one, List.take_set_of_le (by omega), List.getElem?_set_self hiw]; rfl
        · rw [List.getElem?_set_ne (by omega)]
          exact hm.rest j (by omega)
    · have e : k = l.length - i0 := by omega
      subst e
      refine ⟨w, i, hm, loopT_inr ?_⟩
      unfold slices_Compact_Sl_string_string_l9
      simp only [cond_dec]
      rw [if_neg (by omega)]
theorem compact_outerS {l : List (List UInt8)} (hl : l.length < 1000000) : ∀ (n i : Nat), l.length - i ≤ n → 1 ≤ i → i ≤ l.length → sqz (l.take i) = l.take i →
    loopT slices_Compact_Sl_string_string_l4 ((i : Int), l, ()) = some (sqz l) := by
  intro n
  induction n with
  | zero =>
    intro i hn h1 hi hs
    have e : i = l.length := by omega
    subst e
    rw [List.take_of_length_le (Nat.le_refl _)] at hs
    refine loopT_inr ?_
    unfold slices_Compact_Sl_string_string_l4
    simp only [cond_dec]
    rw [if_neg (by omega), hs]
  | succ n ih =>
    intro i hn h1 hi hs
    by_cases hlt : i < l.length
    · have hsq := sqzS_take (l := l) (i := i) hlt (by omega)
      have he : l.isEmpty = false := emp_false (by omega)
      by_cases hx : l[i - 1]'(by omega) = l[i]
      · refine loopT_inr ?_
        unfold slices_Compact_Sl_string_string_l4
        simp only [cond_dec]
        rw [if_pos (by omega), inI_nat hlt, wrap64 (by omega) (by omega), show (i : Int) - 1 = ((i - 1 : Nat) : Int) by omega, inI_nat (show i - 1 < l.length by omega)]
        simp only [Option.bind_some, List.getElem?_eq_getElem hlt, List.getElem?_eq_getElem (show i - 1 < l.length by omega), decide_not]
        first | rw [decide_eq_true hx.symm, cond_true] | rw [if_pos hx.symm]
        rw [he, cond_false, viewI_nat (by omega) (Nat.le_refl _)]
        simp only [Option.bind_some]
        rw [if_pos hx] at hsq
        obtain ⟨w', i', hm, hrun⟩ := compact_innerS hl (by omega) hlt (l.length - i) 1 i l (by omega) (Nat.le_refl _) (by omega) ⟨rfl, by rw [hsq, hs], fun j _ => rfl, by omega⟩
        rw [show ((1 : Int)) = ((1 : Nat) : Int) from rfl, hrun, bind_join_inl]
        have hwl := hm.len
        have hlow := hm.low
        have hle : i' ≤ w'.length := by omega
        have hw : 0 < w'.length := by omega
        have e2 : i + (l.length - i) = l.length := by omega
        have hhead : w'.take i' = sqz l := by rw [hm.head, e2, List.take_of_length_le (Nat.le_refl _)]
        simp only
        rw [emp_false hw, cond_false, viewI_nat hle (Nat.le_refl _)]
        simp only [Option.bind_some, cond_false]
        rw [if_pos (by omega)]
        simp only [Option.bind_some]
        have hlen2 : (List.take i' w' ++ List.replicate (w'.length - i') ([] : List UInt8) ++ List.drop (i' + (w'.length - i')) w').length = w'.length := by
          rw [List.length_append, List.length_append, List.length_take, List.length_replicate, List.length_drop]; omega
        rw [emp_false (by rw [hlen2]; exact hw), cond_false, hlen2, show ((0 : Int)) = ((0 : Nat) : Int) from rfl, viewI_nat (Nat.zero_le _) hle]
        simp only [Option.bind_some, cond_false]
        rw [if_pos (by omega)]
        simp only [Option.map_some, List.drop_zero, Nat.sub_zero]
        rw [List.append_assoc, List.take_append_of_le_length (by rw [List.length_take]; omega), List.take_take, Nat.min_self, hhead]
      · have turn : slices_Compact_Sl_string_string_l4 ((i : Int), l, ()) = some (.inl (((i + 1 : Nat) : Int), l, ())) := by
          unfold slices_Compact_Sl_string_string_l4
          simp only [cond_dec]
          rw [if_pos (by omega), inI_nat hlt, wrap64 (by omega) (by omega), show (i : Int) - 1 = ((i - 1 : Nat) : Int) by omega, inI_nat (show i - 1 < l.length by omega)]
          simp only [Option.bind_some, List.getElem?_eq_getElem hlt, List.getElem?_eq_getElem (show i - 1 < l.length by omega), decide_not]
          first | rw [decide_eq_false (fun e => hx e.symm), cond_false] | rw [if_neg (fun e => hx e.symm)]
          rw [wrap64 (by omega) (by omega)]; rfl
        rw [loopT_inl turn]
        rw [if_neg hx, hs] at hsq
        refine ih (i + 1) (by omega) (by omega) (by omega) ?_
        rw [hsq, List.take_add_one, List.getElem?_eq_getElem hlt]; rfl
    · have e : i = l.length := by omega
      subst e
      rw [List.take_of_length_le (Nat.le_refl _)] at hs
      refine loopT_inr ?_
      unfold slices_Compact_Sl_string_string_l4
      simp only [cond_dec]
      rw [if_neg (by omega), hs]
theorem compact_tS {l : List (List UInt8)} (hl : l.length < 1000000) : slices_Compact_Sl_string_string l = some (sqz l, ()) := by
  unfold slices_Compact_Sl_string_string slices_Compact_Sl_string_string_g
  simp only [cond_dec]
  match l, hl with
  | [], _ => rfl
  | [x], _ => rfl
  | x :: y :: l, hl =>
    rw [if_neg (by simp only [List.length_cons]; omega)]
    have := compact_outerS hl (x :: y :: l).length 1 (by omega) (Nat.le_refl _) (by simp) rfl
    rw [show ((1 : Int)) = ((1 : Nat) : Int) from rfl, this]
    rfl

/-- Where compacting stands. -/
structure MidL (l w : List Leaf1) (i0 k i : Nat) : Prop where
  len : w.length = l.length
  head : w.take i = sqz (l.take (i0 + k))
  rest : ∀ j, i0 + k - 1 ≤ j → w[j]? = l[j]?
  low : i ≤ i0 + k - 1
theorem compact_innerL {l : List Leaf1} {i0 : Nat} (hl : l.length < 1000000) (hE : ∀ a b, a ∈ l → tree_Leaves_1 a b = some (decide (a = b))) (h0 : 0 < i0) (hi0 : i0 < l.length) : ∀ (n k i : Nat) (w : List Leaf1), l.length - i0 - k ≤ n → 1 ≤ k → k ≤ l.length - i0 → MidL l w i0 k i →
    ∃ w' i', MidL l w' i0 (l.length - i0) i' ∧ loopT slices_CompactFunc_Sl_tree_Leaf_tree_Leaf__tree_Leaves_1_l9 ((i : Int), (i0, l.length - i0), (k : Int), w, ()) = some (.inl ((i' : Int), w', ())) := by
  intro n
  induction n with
  | zero =>
    intro k i w hn hk1 hk hm
    have e : k = l.length - i0 := by omega
    subst e
    refine ⟨w, i, hm, loopT_inr ?_⟩
    unfold slices_CompactFunc_Sl_tree_Leaf_tree_Leaf__tree_Leaves_1_l9
    simp only [cond_dec]
    rw [if_neg (by omega)]
  | succ n ih =>
    intro k i w hn hk1 hk hm
    by_cases hlt : k < l.length - i0
    · have hwl := hm.len
      have hw : 0 < w.length := by omega
      have hk0 : i0 + k < l.length := by omega
      have ea : w[i0 + k]? = some (l[i0 + k]) := by rw [hm.rest _ (by omega), List.getElem?_eq_getElem hk0]
      have eb : w[i0 + (k - 1)]? = some (l[i0 + k - 1]'(by omega)) := by rw [show i0 + (k - 1) = i0 + k - 1 by omega, hm.rest _ (by omega), List.getElem?_eq_getElem (by omega)]
      have hlow := hm.low
      have hiw : i < w.length := by omega
      have turn : slices_CompactFunc_Sl_tree_Leaf_tree_Leaf__tree_Leaves_1_l9 ((i : Int), (i0, l.length - i0), (k : Int), w, ()) = if l[i0 + k - 1]'(by omega) = l[i0 + k] then some (.inl ((i : Int), (i0, l.length - i0), ((k + 1 : Nat) : Int), w, ())) else some (.inl (((i + 1 : Nat) : Int), (i0, l.length - i0), ((k + 1 : Nat) : Int), w.set i l[i0 + k], ())) := by
        unfold slices_CompactFunc_Sl_tree_Leaf_tree_Leaf__tree_Leaves_1_l9
        simp only [cond_dec]
        rw [if_pos (by omega), emp_false hw]
        simp only [cond_false]
        rw [inI_nat hlt, wrap64 (n := (k : Int) - 1) (by omega) (by omega), show (k : Int) - 1 = ((k - 1 : Nat) : Int) by omega, inI_nat (show k - 1 < l.length - i0 by omega)]
        simp only [Option.bind_some]
        rw [ea, eb]
        simp only [Option.bind_some, hE, List.getElem_mem]
        rw [wrap64 (by omega) (by omega), wrap64 (by omega) (by omega)]
        by_cases hx : l[i0 + k] = l[i0 + k - 1]'(by omega)
        · rw [if_pos hx.symm]
          first | (rw [decide_eq_true hx]; rfl) | (rw [if_pos hx])
        · rw [if_neg (fun e => hx e.symm), decide_eq_false hx, inI_nat hiw]
          simp only [Bool.not_false, cond_true, Option.bind_some]
          rw [List.getElem?_eq_getElem hiw]
          rfl
      have hsq := sqzS_take (l := l) (i := i0 + k) hk0 (by omega)
      by_cases hx : l[i0 + k - 1]'(by omega) = l[i0 + k]
      · rw [if_pos hx] at turn hsq
        rw [loopT_inl turn]
        exact ih (k + 1) i w (by omega) (by omega) (by omega) ⟨hwl, by rw [hm.head, show i0 + (k + 1) = i0 + k + 1 by omega, hsq], fun j hj => hm.rest j (by omega), by omega⟩
      · rw [if_neg hx] at turn hsq
        rw [loopT_inl turn]
        refine ih (k + 1) (i + 1) _ (by omega) (by omega) (by omega) ⟨by rw [List.length_set]; exact hwl, ?_, fun j hj => ?_, by omega⟩
        · rw [show i0 + (k + 1) = i0 + k + 1 by omega, hsq, ← hm.head, List.take_add_one, List.take_set_of_le (by omega), List.getElem?_set_self hiw]; rfl
        · rw [List.getElem?_set_ne (by omega)]
          exact hm.rest j (by omega)
    · have e : k = l.length - i0 := by omega
      subst e
      refine ⟨w, i, hm, loopT_inr ?_⟩
      unfold slices_CompactFunc_Sl_tree_Leaf_tree_Leaf__tree_Leaves_1_l9
      simp only [cond_dec]
      rw [if_neg (by omega)]
theorem compact_outerL {l : List Leaf1} (hl : l.length < 1000000) (hE : ∀ a b, a ∈ l → tree_Leaves_1 a b = some (decide (a = b))) : ∀ (n i : Nat), l.length - i ≤ n → 1 ≤ i → i ≤ l.length → sqz (l.take i) = l.take i →
    loopT slices_CompactFunc_Sl_tree_Leaf_tree_Leaf__tree_Leaves_1_l4 ((i : Int), l, ()) = some (sqz l) := by
  intro n
  induction n with
  | zero =>
    intro i hn h1 hi hs
    have e : i = l.length := by omega
    subst e
    rw [List.take_of_length_le (Nat.le_refl _)] at hs
    refine loopT_inr ?_
    unfold slices_CompactFunc_Sl_tree_Leaf_tree_Leaf__tree_Leaves_1_l4
    simp only [cond_dec]
    rw [if_neg (by omega), hs]
  | succ n ih =>
    intro i hn h1 hi hs
    by_cases hlt : i < l.length
    · have hsq := sqzS_take (l := l) (i := i) hlt (by omega)
      have he : l.isEmpty = false := emp_false (by omega)
      by_cases hx : l[i - 1]'(by omega) = l[i]
      · refine loopT_inr ?_
        unfold slices_CompactFunc_Sl_tree_Leaf_tree_Leaf__tree_Leaves_1_l4
        simp only [cond_dec]
        rw [if_pos (by omega), inI_nat hlt, wrap64 (by omega) (by omega), show (i : Int) - 1 = ((i - 1 : Nat) : Int) by omega, inI_nat (show i - 1 < l.length by omega)]
        simp only [Option.bind_some, List.getElem?_eq_getElem hlt, List.getElem?_eq_getElem (show i - 1 < l.length by omega), hE, List.getElem_mem]
        first | rw [decide_eq_true hx.symm, cond_true] | rw [if_pos hx.symm]
        rw [he, cond_false, viewI_nat (by omega) (Nat.le_refl _)]
        simp only [Option.bind_some]
        rw [if_pos hx] at hsq
        obtain ⟨w', i', hm, hrun⟩ := compact_innerL hl hE (by omega) hlt (l.length - i) 1 i l (by omega) (Nat.le_refl _) (by omega) ⟨rfl, by rw [hsq, hs], fun j _ => rfl, by omega⟩
        rw [show ((1 : Int)) = ((1 : Nat) : Int) from rfl, hrun, bind_join_inl]
        have hwl := hm.len
        have hlow := hm.low
        have hle : i' ≤ w'.length := by omega
        have hw : 0 < w'.length := by omega
        have e2 : i + (l.length - i) = l.length := by omega
        have hhead : w'.take i' = sqz l := by rw [hm.head, e2, List.take_of_length_le (Nat.le_refl _)]
        simp only
        rw [emp_false hw, cond_false, viewI_nat hle (Nat.le_refl _)]
        simp only [Option.bind_some, cond_false]
        rw [if_pos (by omega)]
        simp only [Option.bind_some]
        have hlen2 : (List.take i' w' ++ List.replicate (w'.length - i') (([], 0, ()) : Leaf1) ++ List.drop (i' + (w'.length - i')) w').length = w'.length := by
          rw [List.length_append, List.length_append, List.length_take, List.length_replicate, List.length_drop]; omega
        rw [emp_false (by rw [hlen2]; exact hw), cond_false, hlen2, show ((0 : Int)) = ((0 : Nat) : Int) from rfl, viewI_nat (Nat.zero_le _) hle]
        simp only [Option.bind_some, cond_false]
        rw [if_pos (by omega)]
        simp only [Option.map_some, List.drop_zero, Nat.sub_zero]
        rw [List.append_assoc, List.take_append_of_le_length (by rw [List.length_take]; omega), List.take_take, Nat.min_self, hhead]
      · have turn : slices_CompactFunc_Sl_tree_Leaf_tree_Leaf__tree_Leaves_1_l4 ((i : Int), l, ()) = some (.inl (((i + 1 : Nat) : Int), l, ())) := by
          unfold slices_CompactFunc_Sl_tree_Leaf_tree_Leaf__tree_Leaves_1_l4
          simp only [cond_dec]
          rw [if_pos (by omega), inI_nat hlt, wrap64 (by omega) (by omega), show (i : Int) - 1 = ((i - 1 : Nat) : Int) by omega, inI_nat (show i - 1 < l.length by omega)]
          simp only [Option.bind_some, List.getElem?_eq_getElem hlt, List.getElem?_eq_getElem (show i - 1 < l.length by omega), hE, List.getElem_mem]
          first | rw [decide_eq_false (fun e => hx e.symm), cond_false] | rw [if_neg (fun e => hx e.symm)]
          rw [wrap64 (by omega) (by omega)]; rfl
        rw [loopT_inl turn]
        rw [if_neg hx, hs] at hsq
        refine ih (i + 1) (by omega) (by omega) (by omega) ?_
        rw [hsq, List.take_add_one, List.getElem?_eq_getElem hlt]; rfl
    · have e : i = l.length := by omega
      subst e
      rw [List.take_of_length_le (Nat.le_refl _)] at hs
      refine loopT_inr ?_
      unfold slices_CompactFunc_Sl_tree_Leaf_tree_Leaf__tree_Leaves_1_l4
      simp only [cond_dec]
      rw [if_neg (by omega), hs]
theorem compact_tL {l : List Leaf1} (hl : l.length < 1000000) (hE : ∀ a b, a ∈ l → tree_Leaves_1 a b = some (decide (a = b))) : slices_CompactFunc_Sl_tree_Leaf_tree_Leaf__tree_Leaves_1 l = some (sqz l, ()) := by
  unfold slices_CompactFunc_Sl_tree_Leaf_tree_Leaf__tree_Leaves_1 slices_CompactFunc_Sl_tree_Leaf_tree_Leaf__tree_Leaves_1_g
  simp only [cond_dec]
  match l, hl, hE with
  | [], _, _ => rfl
  | [x], _, _ => rfl
  | x :: y :: l, hl, hE =>
    rw [if_neg (by simp only [List.length_cons]; omega)]
    have := compact_outerL hl hE (x :: y :: l).length 1 (by omega) (Nat.le_refl _) (by simp) rfl
    rw [show ((1 : Int)) = ((1 : Nat) : Int) from rfl, this]
    rfl

end Go.Proofs.YthdchambdfenhaaGreat.Q

/- Plain laws: leaves, keys, kinds. -/
set_option linter.unusedVariables false
set_option linter.unusedSimpArgs false
set_option maxRecDepth 100000
namespace Go.Proofs.YthdchambdfenhaaGreat.Q
open Go.EM Go.TY Go.Proofs Go.Proofs.YthdchambdfenhaaGreat.Y
/-! ### under a path -/
def underM (q p : Path) : Bool := decide (q.take p.length = p)
theorem under_len {q p : Path} (h : underM q p = true) : p.length ≤ q.length := by
  unfold underM at h
  rw [decide_eq_true_eq] at h
  have := congrArg List.length h
  rw [List.length_take] at this; omega
theorem pathUnder_t {q p : Path} (hq : q.length < 1000000) : path_Under q p = some (underM q p) := by
  unfold path_Under
  simp only [cond_dec]
  by_cases h : p.length ≤ q.length
  · rw [if_pos (by omega), show (0 : Int) = ((0 : Nat) : Int) from rfl, subI_nat (Nat.zero_le _) h, List.drop_zero]
    simp only [Option.bind_some]
    rw [strsEq_t (by rw [List.length_take]; omega)]
    rfl
  · rw [if_neg (by omega)]
    cases hu : underM q p with
    | false => rfl
    | true => exact absurd (under_len hu) h
theorem refUnder_t {q p : Path} (hq : q.length < 1000000) : ref10_Under q p = some (underM q p) := by
  unfold ref10_Under
  simp only [cond_dec]
  by_cases h : p.length ≤ q.length
  · rw [if_neg (by omega)]
    have hl : (q.take p.length).length = p.length := by rw [List.length_take]; omega
    have := loop_all2 (f := ref10_Under_l4 q p) (l := q.take p.length) (m := p) (fun i => ((i : Int), ())) (fun x y => decide (x = y)) true false hl (fun i h1 h2 => by
      unfold ref10_Under_l4
      simp only [cond_dec, cond_ndec]
      rw [if_pos (by omega), atI_lt (show i < q.length by omega), atI_lt h2]
      simp only [Option.bind_some]
      rw [List.getElem_take, wrap64 (by omega) (by omega)]
      by_cases e : q[i] = p[i]
      · rw [if_pos e, if_pos (by rw [e]; simp)]; rfl
      · rw [if_neg e, if_neg (by simpa using e)]) (by
      unfold ref10_Under_l4
      simp only [cond_dec]
      rw [if_neg (by omega)])
    rw [all2_dec, dec_ite] at this
    exact this
  · rw [if_pos (by omega)]
    cases hu : underM q p with
    | false => rfl
    | true => exact absurd (under_len hu) h
def undM (l : List Item1) (p : Path) : List Item1 := l.filter fun x => underM x.2.1.2.1 p
theorem liveUnder_t {l : List Item1} {p : Path} (hl : LowI l) : live_Under l p = some (undM l p) := by
  have hlen := hl.len
  have := loop_map (f := live_Under_l3 l p) (l := l) (fun i o => ((i : Int), o, ())) (fun x => if underM x.2.1.2.1 p = true then [x] else []) (fun o => o) 1 (fun x _ => by split <;> simp) (fun i h o ho => by
    have hp := (hl.path _ (List.getElem_mem h)).1
    unfold live_Under_l3
    simp only [cond_dec]
    rw [if_pos (by omega), atI_lt h]
    simp only [Option.bind_some, pathUnder_t hp]
    rw [wrap64 (by omega) (by omega), roomT_lt (by simp; omega)]
    by_cases h1 : underM l[i].2.1.2.1 p = true
    · rw [h1, cond_true, if_pos rfl]; rfl
    · rw [if_neg h1, eq_false_of_ne_true h1, cond_false, List.append_nil]; rfl) (fun o _ => by
    unfold live_Under_l3
    simp only [cond_dec]
    rw [if_neg (by omega)])
  unfold live_Under undM
  rw [show ((0 : Int), ([] : List Item1), ()) = (((0 : Nat) : Int), [], ()) from rfl, this]
  congr 1
  exact flatMap_if (q := fun x : Item1 => underM x.2.1.2.1 p)
theorem undM_low {l : List Item1} {p : Path} (hl : LowI l) : LowI (undM l p) := ⟨Nat.lt_of_le_of_lt (List.length_filter_le ..) hl.len, fun x hx => hl.path x (List.mem_filter.1 hx).1⟩
/-! ### kinds -/
def kindsM (l : List Item1) (p : Path) : List Int := (if (atM l p 1).length > 0 then [1] else []) ++ ((if (atM l p 2).length > 0 then [2] else []) ++ (if (atM l p 3).length > 0 then [3] else []))
theorem len_pos {A : Type} {l : List A} : ((l.length : Int) > 0) ↔ l.length > 0 := by omega
theorem kinds_t {l : List Item1} {p : Path} (hl : LowI l) : tree_Kinds l p = some (kindsM l p) := by
  have turn : ∀ (k : Int) (o : List Int), 1 ≤ k → k ≤ 3 → o.length < 10 → tree_Kinds_l3 l p (k, o, ()) = some (.inl (k + 1, o ++ (if (atM l p k).length > 0 then [k] else []), ())) := fun k o h1 h3 ho => by
    unfold tree_Kinds_l3
    simp only [cond_dec, at_t hl, Option.bind_some, len_pos]
    rw [if_pos h3, roomT_lt (by simp; omega), wrap64 (by omega) (by omega)]
    by_cases h : (atM l p k).length > 0
    · rw [if_pos h, if_pos h]; rfl
    · rw [if_neg h, if_neg h, List.append_nil]
  unfold tree_Kinds kindsM
  rw [loopT_inl (turn 1 [] (by omega) (by omega) (by simp)), loopT_inl (turn _ _ (by omega) (by omega) (by split <;> simp)), loopT_inl (turn _ _ (by omega) (by omega) (by split <;> split <;> simp))]
  refine loopT_inr ?_
  unfold tree_Kinds_l3
  simp only [cond_dec]
  rw [if_neg (by omega)]
  simp
theorem refKinds_t {l : List Item1} {p : Path} (hl : LowI l) : ref17_Kinds l p = some (kindsM l p) := by
  have turn : ∀ (k : Int) (o : List Int), 1 ≤ k → k ≤ 3 → o.length < 10 → ref17_Kinds_l3 l p (k, o, ()) = some (.inl (k + 1, o ++ (if (atM l p k).length > 0 then [k] else []), ())) := fun k o h1 h3 ho => by
    unfold ref17_Kinds_l3
    simp only [cond_dec, refAt_t hl, Option.bind_some, len_pos]
    rw [if_pos h3, roomT_lt (by simp; omega), wrap64 (by omega) (by omega)]
    by_cases h : (atM l p k).length > 0
    · rw [if_pos h, if_pos h]; rfl
    · rw [if_neg h, if_neg h, List.append_nil]
  unfold ref17_Kinds kindsM
  rw [loopT_inl (turn 1 [] (by omega) (by omega) (by simp)), loopT_inl (turn _ _ (by omega) (by omega) (by split <;> simp)), loopT_inl (turn _ _ (by omega) (by omega) (by split <;> split <;> simp))]
  refine loopT_inr ?_
  unfold ref17_Kinds_l3
  simp only [cond_dec]
  rw [if_neg (by omega)]
  simp
/-! ### the deepest -/
def deepM (l : List Item1) : Int := l.foldl (fun n x => max n (x.2.1.2.1.length : Int)) 0
theorem deep_t {l : List Item1} (hl : LowI l) : tree_Deep l = some (deepM l) := by
  have hlen := hl.len
  have loop := loop_list (S := Int) (f := tree_Deep_l3 l) (l := l) (fun i n => (n, (i : Int), ())) (fun _ x n => .inl (max n (x.2.1.2.1.length : Int))) (fun n => n) (fun _ _ => True) (fun i h n _ => by
    refine .inl ⟨_, rfl, ?_, trivial⟩
    unfold tree_Deep_l3
    simp only [cond_dec]
    rw [if_pos (by omega), atI_lt h]
    simp only [Option.bind_some]
    rw [wrap64 (by omega) (by omega)]; rfl) (fun n _ => by
    unfold tree_Deep_l3
    simp only [cond_dec]
    rw [if_neg (by omega)]) 0 trivial
  rw [foldE_inl] at loop
  exact loop
/-! ### leaves -/
def leafOf (x : Item1) : Leaf1 := (x.2.1.2.1, leafM x.2.1.1, ())
def leavesM (l : List Item1) : List Leaf1 := uniq cmpLf (l.map leafOf)
theorem leaves_t {l : List Item1} (hl : LowI l) : tree_Leaves l = some (leavesM l) := by
  have hlen := hl.len
  have := loop_map (f := tree_Leaves_l3 l) (l := l) (fun i o => ((i : Int), o, ())) (fun x => [leafOf x]) (fun o => (.inl (o, ()) : (List Leaf1 × Unit) ⊕ List Leaf1)) 1 (fun x _ => Nat.le_refl _) (fun i h o ho => by
    have hp := (hl.path _ (List.getElem_mem h)).1
    unfold tree_Leaves_l3
    simp only [cond_dec]
    rw [if_pos (by omega), atI_lt h]
    have hc : slices_Clone_Sl_string_string l[i].2.1.2.1 = some l[i].2.1.2.1 := by
      unfold slices_Clone_Sl_string_string cloneT
      rw [if_pos (by simp only [most]; omega)]
    simp only [Option.bind_some, hc, opLeaf_t]
    rw [wrap64 (by omega) (by omega), roomT_lt (by simp; omega)]; rfl) (fun o _ => by
    unfold tree_Leaves_l3
    simp only [cond_dec]
    rw [if_neg (by omega)])
  unfold tree_Leaves
  rw [show ((0 : Int), ([] : List Leaf1), ()) = (((0 : Nat) : Int), [], ()) from rfl, this, bind_join_inl]
  have e : (l.flatMap fun x => [leafOf x]) = l.map leafOf := by
    clear this hlen hl
    induction l with
    | nil => rfl
    | cons x l ih => rw [List.flatMap_cons, List.map_cons, ih]; rfl
  have hp : ∀ x ∈ l.map leafOf, x.1.length < 1000000 := fun x hx => by
    obtain ⟨y, hy, rfl⟩ := List.mem_map.1 hx
    exact (hl.path y hy).1
  obtain ⟨s, h1, h2, h3⟩ := sortT_law (c := cmpLf) (key := fun v : Leaf1 => v) (cmp := fun x y => tree_compare x y) (xs := l.map leafOf) cl_cmp (fun x hx y _ => treeC_t (hp x hx)) (by rw [List.length_map]; omega)
  have hs : slices_SortFunc_Sl_tree_Leaf_tree_Leaf__tree_compare (l.map leafOf) = some ((), s, ()) := by unfold slices_SortFunc_Sl_tree_Leaf_tree_Leaf__tree_compare; rw [h1]; rfl
  simp only [e]
  rw [hs]
  simp only [Option.bind_some]
  rw [compact_tL (by rw [h2.length_eq, List.length_map]; omega) (fun a b ha => leafEq_t' (hp a (h2.mem_iff.1 ha)))]
  simp only [Option.bind_some]
  congr 1
  unfold leavesM
  refine rises_unique cl_cmp (key := fun v : Leaf1 => v) (sqz_rises cl_cmp (fun a b => (cl_cmp.zero a b).1) _ s rfl h3) (uniq_rises cl_cmp _) fun x => ?_
  rw [sqz_mem _ s rfl, uniq_mem cl_cmp]
  exact h2.mem_iff
def lowLf (y : Leaf1) : Prop := y.1.length < 1000000 ∧ (∀ s ∈ y.1, s.length < 1000000) ∧ 0 ≤ y.2.1 ∧ y.2.1 ≤ 3
theorem leafM_in (k : Int) : 0 ≤ leafM k ∧ leafM k ≤ 3 := by unfold leafM; split <;> (try split) <;> (try split) <;> omega
theorem leafOf_low {l : List Item1} (hl : LowI l) {x : Item1} (hx : x ∈ l) : lowLf (leafOf x) := ⟨(hl.path x hx).1, (hl.path x hx).2, leafM_in _⟩
theorem refC17_t {y x : Leaf1} (hy : lowLf y) (hx : lowLf x) : ∃ r, ref17_compare y x = some r ∧ (r < 0 ↔ cmpLf y x < 0) ∧ (r = 0 ↔ cmpLf y x = 0) := by
  unfold ref17_compare cmpLf orI
  rw [refPathCompare_t hy.1 hy.2.1]
  simp only [Option.bind_some, cond_ndec]
  by_cases h : cmpP y.1 x.1 = 0
  · rw [if_pos h, if_pos h]
    have := hy.2.2; have := hx.2.2
    refine ⟨_, rfl, ?_, ?_⟩ <;> rw [wrap64 (by omega) (by omega)] <;> unfold cmpI <;> split <;> (try split) <;> omega
  · rw [if_neg h, if_neg h]
    exact ⟨_, rfl, Iff.rfl, Iff.rfl⟩
theorem leafAt_loop {o : List Leaf1} {x : Leaf1} (ho : o.length < 1000000) (hr : riseA cmpLf o) (hlo : ∀ y ∈ o, lowLf y) (hx : lowLf x) : ∀ (n i : Nat), (loA cmpLf x o).length - i ≤ n → i ≤ (loA cmpLf x o).length →
    loopT ref17_Leaves_l7 ((i : Int), o, x, ()) = some (.inl (((loA cmpLf x o).length : Int), o, x, ())) := by
  have e : loA cmpLf x o ++ hiA cmpLf x o = o := lohiA
  have el : (loA cmpLf x o).length + (hiA cmpLf x o).length = o.length := by rw [← List.length_append, e]
  have turn : ∀ i : Nat, i < o.length → ref17_Leaves_l7 ((i : Int), o, x, ()) = if i < (loA cmpLf x o).length then some (.inl (((i + 1 : Nat) : Int), o, x, ())) else some (.inr (.inl ((i : Int), o, x, ()))) := fun i hi => by
    unfold ref17_Leaves_l7
    simp only [cond_dec]
    rw [if_pos (by omega), inI_nat hi]
    simp only [Option.bind_some, List.getElem?_eq_getElem hi]
    obtain ⟨r, h1, h2, h3⟩ := refC17_t (hlo _ (List.getElem_mem hi)) hx
    simp only [h1, Option.bind_some]
    rw [wrap64 (by omega) (by omega)]
    by_cases hlt : i < (loA cmpLf x o).length
    · rw [if_pos (h2.2 (at_lo hi hlt)), if_pos hlt]; rfl
    · have := at_hi cl_cmp (key := fun v : Leaf1 => v) hr hi (k := x) (Nat.le_of_not_lt hlt)
      rw [if_neg (fun e => by have := h2.1 e; omega), if_neg hlt]
  intro n
  induction n with
  | zero =>
    intro i hn hi
    have e : i = (loA cmpLf x o).length := by omega
    refine loopT_inr ?_
    by_cases hlt : i < o.length
    · rw [turn i hlt, if_neg (by omega), e]
    · unfold ref17_Leaves_l7
      simp only [cond_dec]
      rw [if_neg (by omega), e]
  | succ n ih =>
    intro i hn hi
    by_cases hlt : i < (loA cmpLf x o).length
    · rw [loopT_inl (a := ((i : Int), o, x, ())) (b := (((i + 1 : Nat) : Int), o, x, ())) (by rw [turn i (by omega), if_pos hlt])]
      exact ih (i + 1) (by omega) (by omega)
    · have e : i = (loA cmpLf x o).length := by omega
      refine loopT_inr ?_
      by_cases hlt : i < o.length
      · rw [turn i hlt, if_neg (by omega), e]
      · unfold ref17_Leaves_l7
        simp only [cond_dec]
        rw [if_neg (by omega), e]
theorem leafShift_loop {o : List Leaf1} {x : Leaf1} {v7 : Int × List Leaf1 × Leaf1 × Unit} {at' : Nat} (hv : v7.1 = (at' : Int)) (ho : o.length < 1000000) : ∀ (k : Nat), at' ≤ k → k ≤ o.length →
    loopT (ref17_Leaves_l12 v7) ((k : Int), shiftW o x k, x, ()) = some (.inl (shiftW o x at', x, ())) := by
  intro k
  induction k with
  | zero =>
    intro h1 h2
    have e : at' = 0 := by omega
    subst e
    refine loopT_inr ?_
    unfold ref17_Leaves_l12
    simp only [cond_dec, hv]
    rw [if_neg (by omega)]
  | succ k ih =>
    intro h1 h2
    by_cases hlt : at' < k + 1
    · have hl : (shiftW o x (k + 1)).length = o.length + 1 := shift_len h2
      have turn : ref17_Leaves_l12 v7 (((k + 1 : Nat) : Int), shiftW o x (k + 1), x, ()) = some (.inl ((k : Int), shiftW o x k, x, ())) := by
        unfold ref17_Leaves_l12
        simp only [cond_dec, hv]
        rw [if_pos (by omega), wrap64 (by omega) (by omega), show ((k + 1 : Nat) : Int) - 1 = (k : Int) by omega, inI_nat (show k < (shiftW o x (k + 1)).length by omega)]
        simp only [Option.bind_some]
        rw [shift_at (show k < o.length by omega)]
        simp only [Option.bind_some]
        rw [inI_nat (show k + 1 < (shiftW o x (k + 1)).length by omega)]
        simp only [Option.bind_some]
        rw [List.getElem?_eq_getElem (show k + 1 < (shiftW o x (k + 1)).length by omega)]
        simp only [Option.bind_some]
        rw [shift_step (show k < o.length by omega)]
      rw [loopT_inl turn]
      exact ih (by omega) (by omega)
    · have e : at' = k + 1 := by omega
      subst e
      refine loopT_inr ?_
      unfold ref17_Leaves_l12
      simp only [cond_dec, hv]
      rw [if_neg (by omega)]
theorem leaf_turn {l : List Item1} {i : Nat} {o : List Leaf1} (hl : LowI l) (h : i < l.length) (ho : o.length < 1000000) (hr : riseA cmpLf o) (hlo : ∀ y ∈ o, lowLf y) :
    ref17_Leaves_l3 l ((i : Int), o, ()) = some (.inl (((i + 1 : Nat) : Int), putU cmpLf o (leafOf l[i]), ())) := by
  have hlen := hl.len
  have hx := leafOf_low hl (List.getElem_mem h)
  have e : loA cmpLf (leafOf l[i]) o ++ hiA cmpLf (leafOf l[i]) o = o := lohiA
  have el : (loA cmpLf (leafOf l[i]) o).length + (hiA cmpLf (leafOf l[i]) o).length = o.length := by rw [← List.length_append, e]
  have hat := leafAt_loop ho hr hlo hx _ 0 (Nat.le_refl _) (Nat.zero_le _)
  unfold ref17_Leaves_l3
  simp only [cond_dec]
  rw [if_pos (by omega), atI_lt h]
  simp only [Option.bind_some, refLeaf11_t]
  have e1 : ((l[i].2.1.2.1, leafM l[i].2.1.1, ()) : Leaf1) = leafOf l[i] := rfl
  rw [e1, show ((0 : Int), o, leafOf l[i], ()) = (((0 : Nat) : Int), o, leafOf l[i], ()) from rfl, hat, bind_join_inl]
  generalize hx1 : leafOf l[i] = x at *
  simp only
  rw [wrap64 (n := (i : Int) + 1) (by omega) (by omega)]
  have go : (∀ y q, hiA cmpLf x o = y :: q → cmpLf y x ≠ 0) → ((roomT (o.length + ([x] : List Leaf1).length)).bind fun u12 =>
      (loopT (ref17_Leaves_l12 (((loA cmpLf x o).length : Int), o, x, ())) ((IntKind.wrap .i64 (((o ++ ([x] : List Leaf1)).length : Int) - 1)), (o ++ ([x] : List Leaf1)), x, ()) : Option ((List Leaf1 × Leaf1 × Unit) ⊕ ((Int × List Leaf1 × Unit) ⊕ List Leaf1))).bind (joinS fun v17 =>
      (inI v17.1.length ((loA cmpLf x o).length : Int)).bind fun i18 =>
      (v17.1[i18]?).bind fun x19 =>
      some (.inl ((i : Int) + 1, (v17.1.set i18 v17.2.1), ())))) = some (.inl (((i + 1 : Nat) : Int), putU cmpLf o x, ())) := fun hne => by
    rw [roomT_lt (by simp; omega)]
    simp only [Option.bind_some]
    rw [wrap64 (by rw [List.length_append, List.length_singleton]; omega) (by rw [List.length_append, List.length_singleton]; omega), show ((o ++ [x]).length : Int) - 1 = (o.length : Int) by simp, ← shift_start, leafShift_loop (at' := (loA cmpLf x o).length) rfl ho o.length (by omega) (Nat.le_refl _), bind_join_inl]
    have hsl : (shiftW o x (loA cmpLf x o).length).length = o.length + 1 := shift_len (by omega)
    simp only
    rw [inI_nat (by omega)]
    simp only [Option.bind_some]
    rw [List.getElem?_eq_getElem (show (loA cmpLf x o).length < (shiftW o x (loA cmpLf x o).length).length by omega)]
    simp only [Option.bind_some]
    rw [shift_end (by omega), put_at hne]; rfl
  by_cases hlt : (loA cmpLf x o).length < o.length
  · rw [if_pos (by omega), inI_nat hlt]
    simp only [Option.bind_some, List.getElem?_eq_getElem hlt]
    cases hq : hiA cmpLf x o with
    | nil => rw [hq] at el; simp only [List.length_nil] at el; omega
    | cons y q =>
      have ey : o[(loA cmpLf x o).length] = y := by
        have : (loA cmpLf x o ++ y :: q)[(loA cmpLf x o).length]? = some y := by simp
        rw [← hq, e, List.getElem?_eq_getElem hlt] at this
        exact Option.some.inj this
      rw [ey]
      have hy : y ∈ o := by rw [← ey]; exact List.getElem_mem hlt
      obtain ⟨r, h1, h2, h3⟩ := refC17_t (hlo y hy) hx
      simp only [h1, Option.bind_some]
      by_cases h0 : r = 0
      · rw [if_pos h0, bind_join_inr]
        have hp : putU cmpLf o x = o := by
          unfold putU
          rw [hq]
          exact if_pos (h3.1 h0)
        rw [hp]; rfl
      · rw [if_neg h0, bind_join_inl]
        exact go (fun y' q' e' => by rw [hq] at e'; cases e'; exact fun e => h0 (h3.2 e))
  · rw [if_neg (by omega), bind_join_inl]
    exact go (fun y' q' e' => by rw [e'] at el; simp only [List.length_cons] at el; omega)
theorem refLeaves_t {l : List Item1} (hl : LowI l) : ref17_Leaves l = some (leavesM l) := by
  have hlen := hl.len
  have loop := loop_list (S := List Leaf1) (f := ref17_Leaves_l3 l) (l := l) (fun i o => ((i : Int), o, ())) (fun _ x o => .inl (putU cmpLf o (leafOf x))) (fun o => o) (fun i o => riseA cmpLf o ∧ o.length ≤ i ∧ ∀ y ∈ o, lowLf y) (fun i h o ho => by
    refine .inl ⟨_, rfl, leaf_turn hl h (by omega) ho.1 ho.2.2, putU_rises cl_cmp ho.1, ?_, fun y hy => ?_⟩
    · have := putU_len (c := cmpLf) (o := o) (v := leafOf l[i]); omega
    · rcases (putU_mem cl_cmp).1 hy with e | hy
      · rw [e]; exact leafOf_low hl (List.getElem_mem h)
      · exact ho.2.2 y hy) (fun o _ => by
    unfold ref17_Leaves_l3
    simp only [cond_dec]
    rw [if_neg (by omega)]) [] ⟨List.Pairwise.nil, Nat.le_refl _, fun y hy => by cases hy⟩
  unfold ref17_Leaves
  rw [show ((0 : Int), ([] : List Leaf1), ()) = (((0 : Nat) : Int), [], ()) from rfl, loop, foldE_inl]
  congr 1
  have : l.foldl (fun o x => putU cmpLf o (leafOf x)) [] = (l.map leafOf).foldl (putU cmpLf) [] := by rw [List.foldl_map]
  rw [this, put_uniq cl_cmp]
  try rfl
end Go.Proofs.YthdchambdfenhaaGreat.Q

/- Plain laws: keys; the law TreeTells. -/
set_option linter.unusedVariables false
set_option linter.unusedSimpArgs false
set_option maxRecDepth 100000
namespace Go.Proofs.YthdchambdfenhaaGreat.Q
open Go.EM Go.TY Go.Proofs Go.Proofs.YthdchambdfenhaaGreat.Y
def keyM (p : Path) (x : Item1) : List (List UInt8) := if underM x.2.1.2.1 p = true then (x.2.1.2.1[p.length]?).toList else []
theorem keyM_len {p : Path} {x : Item1} : (keyM p x).length ≤ 1 := by
  unfold keyM
  split
  · cases x.2.1.2.1[p.length]? <;> simp
  · simp
abbrev cmpS : List UInt8 → List UInt8 → Int := Lib.compareBytes
def keysM (l : List Item1) (p : Path) : List (List UInt8) := uniq cmpS (l.flatMap (keyM p))
theorem key_of {p : Path} {x : Item1} (hu : underM x.2.1.2.1 p = true) : ((p.length < x.2.1.2.1.length) → ∃ s, x.2.1.2.1[p.length]? = some s ∧ keyM p x = [s]) ∧ (¬ p.length < x.2.1.2.1.length → keyM p x = []) := by
  unfold keyM
  rw [if_pos hu]
  constructor
  · intro h
    exact ⟨_, List.getElem?_eq_getElem h, by rw [List.getElem?_eq_getElem h]; rfl⟩
  · intro h
    rw [List.getElem?_eq_none (by omega)]; rfl
theorem flat_filter {A B : Type} {q : A → Bool} {g h : A → List B} (h1 : ∀ x, q x = true → g x = h x) (h2 : ∀ x, q x = false → h x = []) : ∀ l : List A, (l.filter q).flatMap g = l.flatMap h
  | [] => rfl
  | x :: l => by
    rw [List.filter_cons, List.flatMap_cons]
    cases hq : q x with
    | true => rw [if_pos rfl, List.flatMap_cons, h1 x hq, flat_filter h1 h2 l]
    | false => rw [if_neg (by simp), h2 x hq, List.nil_append, flat_filter h1 h2 l]
theorem keys_t {l : List Item1} {p : Path} (hl : LowI l) : tree_Keys l p = some (keysM l p) := by
  unfold tree_Keys
  rw [liveUnder_t hl]
  have hlow := undM_low (p := p) hl
  have hlen := hlow.len
  simp only [Option.bind_some]
  have this := loop_map (f := tree_Keys_l3 p (undM l p)) (l := undM l p) (fun i o => ((i : Int), o, ())) (keyM p) (fun o => (.inl (o, ()) : (Path × Unit) ⊕ Path)) 1 (fun x _ => keyM_len) (fun i h o ho => by
    have hp := (hlow.path _ (List.getElem_mem h)).1
    have hu : underM (undM l p)[i].2.1.2.1 p = true := (List.mem_filter.1 (List.getElem_mem h)).2
    obtain ⟨k1, k2⟩ := key_of hu
    have hpl := under_len hu
    unfold tree_Keys_l3
    simp only [cond_dec]
    rw [if_pos (by omega), atI_lt h]
    simp only [Option.bind_some]
    rw [wrap64 (by omega) (by omega)]
    by_cases hlt : p.length < (undM l p)[i].2.1.2.1.length
    · obtain ⟨s, e1, e2⟩ := k1 hlt
      rw [if_pos (by omega), atI_nat, e1, e2]
      simp only [Option.bind_some]
      rw [roomT_lt (by simp; omega)]; rfl
    · rw [if_neg (by omega), k2 hlt, List.append_nil]; rfl) (fun o _ => by
    unfold tree_Keys_l3
    simp only [cond_dec]
    rw [if_neg (by omega)])
  rw [show ((0 : Int), ([] : Path), ()) = (((0 : Nat) : Int), [], ()) from rfl, this, bind_join_inl]
  have e : (undM l p).flatMap (keyM p) = l.flatMap (keyM p) := flat_filter (fun x _ => rfl) (fun x h => by unfold keyM; rw [if_neg (by rw [h]; simp)]) l
  have hkl : (l.flatMap (keyM p)).length < 1000000 := by
    have := flat_len (g := keyM p) (n := 1) (l := l) (fun x _ => keyM_len)
    have := hl.len; omega
  simp only
  rw [e]
  obtain ⟨s, h1, h2, h3⟩ := sortT_law (c := cmpS) (key := fun v : List UInt8 => v) (cmp := fun x y => strings_Compare x y) (xs := l.flatMap (keyM p)) cb_cmp (fun x _ y _ => rfl) (by omega)
  have hs : slices_SortFunc_Sl_string_string__strings_Compare (l.flatMap (keyM p)) = some ((), s, ()) := by unfold slices_SortFunc_Sl_string_string__strings_Compare; rw [h1]; rfl
  rw [hs]
  simp only [Option.bind_some]
  rw [compact_tS (by rw [h2.length_eq]; exact hkl)]
  simp only [Option.bind_some]
  congr 1
  unfold keysM
  refine rises_unique cb_cmp (key := fun v : List UInt8 => v) (sqz_rises cb_cmp (fun a b => (cb_cmp.zero a b).1) _ s rfl h3) (uniq_rises cb_cmp _) fun x => ?_
  rw [sqz_mem _ s rfl, uniq_mem cb_cmp]
  exact h2.mem_iff
theorem keyAt_loop {o : Path} {x : List UInt8} (ho : o.length < 1000000) (hr : riseA cmpS o) (hlo : ∀ y ∈ o, y.length < 1000000) : ∀ (n i : Nat), (loA cmpS x o).length - i ≤ n → i ≤ (loA cmpS x o).length →
    loopT (ref17_Keys_l9 x) ((i : Int), o, ()) = some (.inl (((loA cmpS x o).length : Int), o, ())) := by
  have e : loA cmpS x o ++ hiA cmpS x o = o := lohiA
  have el : (loA cmpS x o).length + (hiA cmpS x o).length = o.length := by rw [← List.length_append, e]
  have turn : ∀ i : Nat, i < o.length → ref17_Keys_l9 x ((i : Int), o, ()) = if i < (loA cmpS x o).length then some (.inl (((i + 1 : Nat) : Int), o, ())) else some (.inr (.inl ((i : Int), o, ()))) := fun i hi => by
    unfold ref17_Keys_l9
    simp only [cond_dec]
    rw [if_pos (by omega), inI_nat hi]
    simp only [Option.bind_some, List.getElem?_eq_getElem hi]
    simp only [texts_t (hlo _ (List.getElem_mem hi)), Option.bind_some]
    rw [wrap64 (by omega) (by omega)]
    by_cases hlt : i < (loA cmpS x o).length
    · rw [if_pos (at_lo (c := cmpS) (key := fun v : List UInt8 => v) hi hlt), if_pos hlt]; rfl
    · have := at_hi cb_cmp (key := fun v : List UInt8 => v) hr hi (k := x) (Nat.le_of_not_lt hlt)
      rw [if_neg (by omega), if_neg hlt]
  intro n
  induction n with
  | zero =>
    intro i hn hi
    have e : i = (loA cmpS x o).length := by omega
    refine loopT_inr ?_
    by_cases hlt : i < o.length
    · rw [turn i hlt, if_neg (by omega), e]
    · unfold ref17_Keys_l9
      simp only [cond_dec]
      rw [if_neg (by omega), e]
  | succ n ih =>
    intro i hn hi
    by_cases hlt : i < (loA cmpS x o).length
    · rw [loopT_inl (a := ((i : Int), o, ())) (b := (((i + 1 : Nat) : Int), o, ())) (by rw [turn i (by omega), if_pos hlt])]
      exact ih (i + 1) (by omega) (by omega)
    · have e : i = (loA cmpS x o).length := by omega
      refine loopT_inr ?_
      by_cases hlt : i < o.length
      · rw [turn i hlt, if_neg (by omega), e]
      · unfold ref17_Keys_l9
        simp only [cond_dec]
        rw [if_neg (by omega), e]
theorem keyShift_loop {o : Path} {x : List UInt8} {v7 : Int × Path × Unit} {at' : Nat} (hv : v7.1 = (at' : Int)) (ho : o.length < 1000000) : ∀ (k : Nat), at' ≤ k → k ≤ o.length →
    loopT (ref17_Keys_l14 v7) ((k : Int), shiftW o x k, ()) = some (.inl (shiftW o x at', ())) := by
  intro k
  induction k with
  | zero =>
    intro h1 h2
    have e : at' = 0 := by omega
    subst e
    refine loopT_inr ?_
    unfold ref17_Keys_l14
    simp only [cond_dec, hv]
    rw [if_neg (by omega)]
  | succ k ih =>
    intro h1 h2
    by_cases hlt : at' < k + 1
    · have hl : (shiftW o x (k + 1)).length = o.length + 1 := shift_len h2
      have turn : ref17_Keys_l14 v7 (((k + 1 : Nat) : Int), shiftW o x (k + 1), ()) = some (.inl ((k : Int), shiftW o x k, ())) := by
        unfold ref17_Keys_l14
        simp only [cond_dec, hv]
        rw [if_pos (by omega), wrap64 (by omega) (by omega), show ((k + 1 : Nat) : Int) - 1 = (k : Int) by omega, inI_nat (show k < (shiftW o x (k + 1)).length by omega)]
        simp only [Option.bind_some]
        rw [shift_at (show k < o.length by omega)]
        simp only [Option.bind_some]
        rw [inI_nat (show k + 1 < (shiftW o x (k + 1)).length by omega)]
        simp only [Option.bind_some]
        rw [List.getElem?_eq_getElem (show k + 1 < (shiftW o x (k + 1)).length by omega)]
        simp only [Option.bind_some]
        rw [shift_step (show k < o.length by omega)]
      rw [loopT_inl turn]
      exact ih (by omega) (by omega)
    · have e : at' = k + 1 := by omega
      subst e
      refine loopT_inr ?_
      unfold ref17_Keys_l14
      simp only [cond_dec, hv]
      rw [if_neg (by omega)]
theorem key_turn {l : List Item1} {p : Path} {i : Nat} {o : Path} (hl : LowI l) (h : i < l.length) (ho : o.length < 1000000) (hr : riseA cmpS o) (hlo : ∀ y ∈ o, y.length < 1000000) :
    ref17_Keys_l3 l p ((i : Int), o, ()) = some (.inl (((i + 1 : Nat) : Int), (keyM p l[i]).foldl (putU cmpS) o, ())) := by
  have hlen := hl.len
  have hp := hl.path _ (List.getElem_mem h)
  unfold ref17_Keys_l3
  simp only [cond_dec]
  rw [if_pos (by omega), atI_lt h]
  simp only [Option.bind_some]
  rw [wrap64 (n := (i : Int) + 1) (by omega) (by omega)]
  by_cases hu : underM l[i].2.1.2.1 p = true
  · have hpl := under_len hu
    obtain ⟨k1, k2⟩ := key_of hu
    by_cases hlt : p.length < l[i].2.1.2.1.length
    · obtain ⟨x, e1, e2⟩ := k1 hlt
      have hxm : x ∈ l[i].2.1.2.1 := List.mem_of_getElem? e1
      rw [if_neg (by omega), refUnder_t hp.1, hu]
      simp only [Option.bind_some, Bool.not_true, cond_false]
      rw [atI_nat, e1]
      simp only [Option.bind_some]
      have e : loA cmpS x o ++ hiA cmpS x o = o := lohiA
      have el : (loA cmpS x o).length + (hiA cmpS x o).length = o.length := by rw [← List.length_append, e]
      have hat := keyAt_loop (x := x) ho hr hlo _ 0 (Nat.le_refl _) (Nat.zero_le _)
      rw [show ((0 : Int), o, ()) = (((0 : Nat) : Int), o, ()) from rfl, hat, bind_join_inl, e2, List.foldl_cons, List.foldl_nil]
      simp only
      have go : (∀ y q, hiA cmpS x o = y :: q → cmpS y x ≠ 0) → ((roomT (o.length + ([x] : Path).length)).bind fun u11 =>
          (loopT (ref17_Keys_l14 (((loA cmpS x o).length : Int), o, ())) ((IntKind.wrap .i64 (((o ++ ([x] : Path)).length : Int) - 1)), (o ++ ([x] : Path)), ()) : Option ((Path × Unit) ⊕ ((Int × Path × Unit) ⊕ Path))).bind (joinS fun v16 =>
          (inI v16.1.length ((loA cmpS x o).length : Int)).bind fun i17 =>
          (v16.1[i17]?).bind fun x18 =>
          some (.inl ((i : Int) + 1, (v16.1.set i17 x), ())))) = some (.inl (((i + 1 : Nat) : Int), putU cmpS o x, ())) := fun hne => by
        rw [roomT_lt (by simp; omega)]
        simp only [Option.bind_some]
        rw [wrap64 (by rw [List.length_append, List.length_singleton]; omega) (by rw [List.length_append, List.length_singleton]; omega), show ((o ++ [x]).length : Int) - 1 = (o.length : Int) by simp, ← shift_start, keyShift_loop (at' := (loA cmpS x o).length) rfl ho o.length (by omega) (Nat.le_refl _), bind_join_inl]
        have hsl : (shiftW o x (loA cmpS x o).length).length = o.length + 1 := shift_len (by omega)
        simp only
        rw [inI_nat (by omega)]
        simp only [Option.bind_some]
        rw [List.getElem?_eq_getElem (show (loA cmpS x o).length < (shiftW o x (loA cmpS x o).length).length by omega)]
        simp only [Option.bind_some]
        rw [shift_end (by omega), put_at hne]; rfl
      by_cases hlt2 : (loA cmpS x o).length < o.length
      · rw [if_pos (by omega), inI_nat hlt2]
        simp only [Option.bind_some, List.getElem?_eq_getElem hlt2]
        cases hq : hiA cmpS x o with
        | nil => rw [hq] at el; simp only [List.length_nil] at el; omega
        | cons y q =>
          have ey : o[(loA cmpS x o).length] = y := by
            have : (loA cmpS x o ++ y :: q)[(loA cmpS x o).length]? = some y := by simp
            rw [← hq, e, List.getElem?_eq_getElem hlt2] at this
            exact Option.some.inj this
          rw [ey]
          by_cases h0 : y = x
          · rw [if_pos h0, bind_join_inr]
            have hput : putU cmpS o x = o := by
              unfold putU
              rw [hq]
              exact if_pos ((cb_cmp.zero y x).2 h0)
            rw [hput]; rfl
          · rw [if_neg h0, bind_join_inl]
            exact go (fun y' q' e' => by rw [hq] at e'; cases e'; exact fun e => h0 ((cb_cmp.zero y x).1 e))
      · rw [if_neg (by omega), bind_join_inl]
        exact go (fun y' q' e' => by rw [e'] at el; simp only [List.length_cons] at el; omega)
    · rw [if_pos (by omega), k2 hlt]; rfl
  · have hk : keyM p l[i] = [] := by unfold keyM; rw [if_neg hu]
    rw [hk]
    by_cases hle : (l[i].2.1.2.1.length : Int) ≤ (p.length : Int)
    · rw [if_pos hle]; rfl
    · rw [if_neg hle, refUnder_t hp.1, eq_false_of_ne_true hu]; rfl
theorem refKeys_t {l : List Item1} {p : Path} (hl : LowI l) : ref17_Keys l p = some (keysM l p) := by
  have hlen := hl.len
  have hkx : ∀ i (h : i < l.length), keyM p l[i] = [] ∨ ∃ x, keyM p l[i] = [x] ∧ x.length < 1000000 := fun i h => by
    by_cases hu : underM l[i].2.1.2.1 p = true
    · obtain ⟨k1, k2⟩ := key_of hu
      by_cases hlt : p.length < l[i].2.1.2.1.length
      · obtain ⟨x, e1, e2⟩ := k1 hlt
        exact .inr ⟨x, e2, (hl.path _ (List.getElem_mem h)).2 x (List.mem_of_getElem? e1)⟩
      · exact .inl (k2 hlt)
    · exact .inl (by unfold keyM; rw [if_neg hu])
  have loop := loop_list (S := Path) (f := ref17_Keys_l3 l p) (l := l) (fun i o => ((i : Int), o, ())) (fun _ x o => .inl ((keyM p x).foldl (putU cmpS) o)) (fun o => o) (fun i o => riseA cmpS o ∧ o.length ≤ i ∧ ∀ y ∈ o, y.length < 1000000) (fun i h o ho => by
    refine .inl ⟨_, rfl, key_turn hl h (by omega) ho.1 ho.2.2, ?_⟩
    rcases hkx i h with e | ⟨x, e, hx⟩
    · rw [e]; exact ⟨ho.1, by have := ho.2.1; simp only [List.foldl_nil]; omega, ho.2.2⟩
    · rw [e, List.foldl_cons, List.foldl_nil]
      refine ⟨putU_rises cb_cmp ho.1, ?_, fun y hy => ?_⟩
      · have := putU_len (c := cmpS) (o := o) (v := x); omega
      · rcases (putU_mem cb_cmp).1 hy with e | hy
        · rw [e]; exact hx
        · exact ho.2.2 y hy) (fun o _ => by
    unfold ref17_Keys_l3
    simp only [cond_dec]
    rw [if_neg (by omega)]) [] ⟨List.Pairwise.nil, Nat.le_refl _, fun y hy => by cases hy⟩
  unfold ref17_Keys
  rw [show ((0 : Int), ([] : Path), ()) = (((0 : Nat) : Int), [], ()) from rfl, loop, foldE_inl]
  congr 1
  rw [← foldl_flat, put_uniq cb_cmp]
  try rfl
/-! ### the example, and the law -/
theorem lawSame17_t {a : List Leaf1} (ha : a.length < 1000000) (hp : ∀ x ∈ a, x.1.length < 1000000) : law17_same a a = some true := by
  unfold law17_same
  simp only [cond_ndec]
  rw [if_pos trivial]
  have := loop_all (f := law17_same_l4 a a) (l := a) (fun i => ((i : Int), ())) (fun _ => true) true false (fun i h => by
    unfold law17_same_l4
    simp only [cond_dec]
    rw [if_pos (by omega), atI_lt h]
    simp only [Option.bind_some, decide_true, Bool.not_true, cond_false, refStrsEq_t (hp _ (List.getElem_mem h))]
    rw [wrap64 (by omega) (by omega)]; rfl) (by
    unfold law17_same_l4
    simp only [cond_dec]
    rw [if_neg (by omega)])
  rw [if_pos (by simp)] at this
  exact this
def exL : List Txn1 := [((0, 1, ()), 0, 1, false, [(3, [[97], [109]], (0, 0, [], ()), 1, [], ()), (3, [[97], [107]], (0, 0, [], ()), 1, [], ())], ())]
theorem exL_low : LowP exL := by
  unfold exL
  refine ⟨⟨by decide, ?_, ?_⟩, ?_⟩
  · intro t ht
    simp only [List.mem_cons, List.mem_nil_iff, or_false] at ht
    subst ht; decide
  · intro t ht o ho
    simp only [List.mem_cons, List.mem_nil_iff, or_false] at ht
    subst ht
    simp only [List.mem_cons, List.mem_nil_iff, or_false] at ho
    rcases ho with rfl | rfl <;> decide
  · intro t ht o ho
    simp only [List.mem_cons, List.mem_nil_iff, or_false] at ht
    subst ht
    simp only [List.mem_cons, List.mem_nil_iff, or_false] at ho
    rcases ho with rfl | rfl <;> exact ⟨⟨by decide, by decide⟩, by decide⟩
theorem keysM_low {l : List Item1} (hl : LowI l) (p : Path) : (keysM l p).length < 1000000 := by
  have h1 := uniq_len (c := cmpS) (l.flatMap (keyM p))
  have h2 := flat_len (g := keyM p) (n := 1) (l := l) (fun x _ => keyM_len)
  have := hl.len
  unfold keysM; omega
theorem leavesM_low {l : List Item1} (hl : LowI l) : (leavesM l).length < 1000000 := by
  have h1 := uniq_len (c := cmpLf) (l.map leafOf)
  rw [List.length_map] at h1
  have := hl.len
  unfold leavesM; omega
theorem leavesM_mem {l : List Item1} {y : Leaf1} : y ∈ leavesM l ↔ ∃ x ∈ l, leafOf x = y := by
  unfold leavesM
  rw [uniq_mem cl_cmp, List.mem_map]
theorem awake17 : law17_awake = some true := by
  unfold law17_awake
  have ha := all_t (l := exL) (u := []) exL_low.low nil_low
  have hi := allM_low (u := []) exL_low (by decide)
  unfold exL at ha hi
  rw [ha]
  simp only [Option.bind_some, keys_t hi, leaves_t hi, deep_t hi, refStrsEq_t (keysM_low hi _)]
  rfl
theorem kindsM_len (l : List Item1) (p : Path) : (kindsM l p).length ≤ 3 := by
  unfold kindsM
  split <;> split <;> split <;> simp
theorem treeTells_law : ∀ v : law17_TreeTells_T.ps.V, okV law17_TreeTells_T.ps v → law17_TreeTells_T.fn v = some true := fun v _ => by
  obtain ⟨l, u, p, ⟨⟩⟩ := v
  show law17_TreeTells l u p = some true
  unfold law17_TreeTells
  obtain ⟨b, hb, hg⟩ := good13_t l u
  rw [hb]
  simp only [Option.bind_some, awake17, shortP_t]
  cases b with
  | false => rfl
  | true =>
    obtain ⟨h1, h2⟩ := hg rfl
    simp only [Bool.not_true, cond_false]
    cases (decide (p.length ≤ 12) && p.all fun x => decide (x.length ≤ 120)) with
    | false => rfl
    | true =>
      have hp := txns_low h1 (by omega)
      have hu := counts_low h2
      have hi := allM_low (u := u) hp (by have := h1.len; omega)
      simp only [Bool.not_true, cond_false, all_t hp.low hu, refAll_t hp.low hu, Option.bind_some, kinds_t hi, refKinds_t hi, decide_true, leaves_t hi, refLeaves_t hi, keys_t hi, refKeys_t hi, refStrsEq_t (keysM_low hi p)]
      rw [lawSame17_t (leavesM_low hi) (fun y hy => by obtain ⟨x, hx, rfl⟩ := leavesM_mem.1 hy; exact (hi.path x hx).1)]
      simp only [Option.bind_some, Bool.not_true, cond_false]
      have hk := kindsM_len (allM l u) p
      have := loop_all (f := law17_TreeTells_l8 (kindsM (allM l u) p) (kindsM (allM l u) p)) (l := kindsM (allM l u) p) (fun i => ((i : Int), ())) (fun _ => true) true false (fun i h => by
        unfold law17_TreeTells_l8
        simp only [cond_dec]
        rw [if_pos (by omega), atI_lt h]
        simp only [Option.bind_some, decide_true, Bool.not_true, cond_false]
        rw [wrap64 (by omega) (by omega)]; rfl) (by
        unfold law17_TreeTells_l8
        simp only [cond_dec, awake17]
        rw [if_neg (by omega)]; rfl)
      rw [if_pos (by simp)] at this
      exact this
end Go.Proofs.YthdchambdfenhaaGreat.Q
