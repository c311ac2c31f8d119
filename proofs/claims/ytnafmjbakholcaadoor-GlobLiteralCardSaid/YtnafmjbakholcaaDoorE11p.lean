/- Values told without the memory they lie in. -/
import Derived.Test.YtnafmjbakholcaaDoorE11
set_option linter.unusedVariables false
set_option linter.unusedSimpArgs false
namespace Go.EM
section
variable {P : Program} {w w' : World} {O : Nat → Prop} {α α' : AM} {st : Store}

/-! ### functions told without their memory -/
theorem closed_any {x : AVal} {v : Value} (hc : closed x = true) (hr : Rep w O α x v) : Rep w O [] x v :=
  Rep_pres (c := true) ⟨fun _ _ _ _ _ h => h, fun b _ _ h1 _ _ => ⟨h1, fun ⟨r, ri, h, _⟩ => by simp at h⟩, (fun h => Bool.noConfusion h), (fun h => Bool.noConfusion h)⟩ x v (fun _ => hc) hr
theorem closedL_row {n b off : Nat} {xs : List AVal} (hc : closedL xs = true) (hO : ¬ O b) (h : RepRow w O α n b off xs) : RepRow w O [] n b off xs := by
  have gen : ∀ (xs : List AVal) (off : Nat), closedL xs = true → RepRow w O α n b off xs → RepRow w O [] n b off xs := by
    intro xs
    induction xs with
    | nil => intro off _ _; simp [RepRow]
    | cons x xs ih =>
      intro off hc h
      simp only [closedL, Bool.and_eq_true] at hc
      simp only [RepRow] at h ⊢
      obtain ⟨⟨v, h1, h2, h3, h4, h5⟩, h6⟩ := h
      exact ⟨⟨v, closed_any hc.1 h1, h2, h3, h4, h5⟩, ih _ hc.2 h6⟩
  exact gen xs off hc h
theorem closedL_mem {b off : Nat} {xs : List AVal} (hc : closedL xs = true) (h : RepMem w O α b off xs) : RepMem w O [] b off xs := by
  have gen : ∀ (xs : List AVal) (off : Nat), closedL xs = true → RepMem w O α b off xs → RepMem w O [] b off xs := by
    intro xs
    induction xs with
    | nil => intro off _ _; simp [RepMem]
    | cons x xs ih =>
      intro off hc h
      simp only [closedL, Bool.and_eq_true] at hc
      simp only [RepMem] at h ⊢
      obtain ⟨⟨v, h1, h2⟩, h6⟩ := h
      exact ⟨⟨v, h1, closed_any hc.1 h2⟩, ih _ hc.2 h6⟩
  exact gen xs off hc h
theorem closedL_drop : ∀ (n : Nat) (xs : List AVal), closedL xs = true → closedL (xs.drop n) = true
  | 0, xs, h => by simpa using h
  | n + 1, [], h => by simp [closedL]
  | n + 1, x :: xs, h => by
    simp only [closedL, Bool.and_eq_true] at h
    simpa using closedL_drop n xs h.2
theorem closedL_take : ∀ (n : Nat) (xs : List AVal), closedL xs = true → closedL (xs.take n) = true
  | 0, xs, h => by simp [closedL]
  | n + 1, [], h => by simp [closedL]
  | n + 1, x :: xs, h => by
    simp only [closedL, Bool.and_eq_true] at h
    simp only [List.take_succ_cons, closedL, Bool.and_eq_true]
    exact ⟨h.1, closedL_take n xs h.2⟩
theorem closedL_cells {x : AVal} (h : closed x = true) : closedL x.cells = true := by
  cases x <;> simp only [AVal.cells, closedL, Bool.and_true] <;> first | exact h | (simpa only [closed] using h)

mutual
theorem packV_sound (hi : Inv w O α st) : ∀ (x y : AVal) (v : Value), packV st x = some y → Rep w O α x v → Rep w O [] y v ∧ closed y = true
  | .own r n top off len, y, v, h, hx => by
    simp only [packV, packRow] at h
    split at h
    · rename_i xs hxs
      cases hc : (closedL xs && Nat.ble (off + len) xs.length) with
      | false => rw [hc] at h; cases h
      | true =>
        rw [hc] at h
        simp only [cond_true] at h
        simp only [Bool.and_eq_true] at hc
        obtain ⟨hc1, hc2⟩ := hc
        have hle := Nat.le_of_ble_eq_true hc2
        obtain ⟨ri, g1, g2, g3, g4, g5, g6, c, el, fz, g7, g8, g9, g10, _⟩ := hi.alive hxs
        simp only [Rep] at hx
        obtain ⟨_, a, cap, rfl, h1, h2, h3⟩ := hx
        obtain ⟨k1, k2, k3, k4⟩ := (h3 ri g1).2 g4
        cases hb : Nat.beq len 0 with
        | true =>
          have := Nat.eq_of_beq_eq_true hb
          subst this
          rw [hb] at h
          cases h
          refine ⟨?_, by simp [closed, closedL]⟩
          simp only [Rep]
          exact ⟨a, cap, rfl, by simp, fun h => Bool.noConfusion h, .inl trivial⟩
        | false =>
          have hl0 : len ≠ 0 := fun e => by subst e; cases hb
          rw [hb] at h
          cases h
          have hO := (hi.fresh r ri g1).1
          have ha := k4 (by omega)
          have hlen : ((xs.drop off).take len).length = len := by simp; omega
          refine ⟨?_, by simp only [closed]; exact closedL_take _ _ (closedL_drop _ _ hc1)⟩
          simp only [Rep]
          refine ⟨a, cap, by rw [hlen], by omega, fun h => Bool.noConfusion h, .inr ⟨g3, ri.block, off * n, ha, hO, fun ⟨r', ri', hh, _⟩ => by simp at hh, ?_⟩⟩
          refine closedL_row (α := α) (closedL_take _ _ (closedL_drop _ _ hc1)) hO ?_
          have := RepRow_take len (RepRow_drop off g9)
          rw [Nat.zero_add] at this
          exact this
    · cases h
  | .ptr r top i off, y, v, h, hx => by
    simp only [packV] at h
    split at h
    · rename_i n xs x hc
      cases hcl : closedL x.cells with
      | false => rw [hcl] at h; cases h
      | true =>
        rw [hcl] at h
        cases h
        obtain ⟨h1, h2⟩ := cellsAt_spec hi hc
        obtain ⟨ri, g1, g2, g3, g4, g5, g6, c, el, fz, g7, g8, g9, g10, _⟩ := hi.alive h1
        simp only [Rep] at hx
        obtain ⟨_, b, o, rfl, hx⟩ := hx
        obtain ⟨rfl, rfl⟩ := (hx ri g1).2 g4
        have hO := (hi.fresh r ri g1).1
        refine ⟨?_, by simp only [closed]; exact closedL_drop _ _ hcl⟩
        simp only [Rep]
        refine ⟨_, _, rfl, .inr ⟨hO, fun ⟨r', ri', hh, _⟩ => by simp at hh, ?_⟩⟩
        obtain ⟨v', k1, k2, k3, k4, _⟩ := RepRow_get g9 h2
        have hm : RepMem w O α ri.block (i * ri.stride) x.cells := RepMem_of _ _ (fun j d hd => by
          obtain ⟨u, q1, q2⟩ := cells_get k1 k2 k3 hd
          have hlt : j < n := by
            rcases Nat.lt_or_ge j n with h | h
            · exact h
            · rw [List.getElem?_eq_none (by omega)] at hd; cases hd
          refine ⟨u, ?_, q2⟩
          have := k4 j hlt
          rw [q1, Nat.zero_add] at this
          rw [g2]
          exact this)
        exact closedL_mem (closedL_drop _ _ hcl) (RepMem_drop off hm)
    · cases h
  | .nil, y, v, h, hx => by
    simp only [packV, Option.some.injEq] at h
    subst h
    simp only [Rep] at hx
    obtain ⟨a, rfl⟩ := hx
    refine ⟨?_, by simp [closed, closedL]⟩
    simp only [Rep]
    exact ⟨none, 0, rfl, by simp, fun h => Bool.noConfusion h, .inl trivial⟩
  | .tree full n xs, y, v, h, hx => by
    simp only [packV] at h
    cases hc : closedL xs with
    | false => rw [hc] at h; cases h
    | true =>
      rw [hc] at h
      simp only [cond_true] at h
      have hcl := closed_any (x := .tree full n xs) (by simp only [closed]; exact hc) hx
      simp only [Rep] at hcl
      obtain ⟨a, cap, rfl, h1, h2, h3⟩ := hcl
      cases xs with
      | nil =>
        cases h
        refine ⟨?_, by simp [closed, closedL]⟩
        simp only [Rep]
        exact ⟨a, cap, rfl, by simp, fun h => Bool.noConfusion h, .inl trivial⟩
      | cons x xs =>
        cases h
        refine ⟨?_, by simp only [closed]; exact hc⟩
        simp only [Rep]
        exact ⟨a, cap, rfl, h1, fun h => Bool.noConfusion h, h3⟩
  | .agg cs, y, v, h, hx => by
    simp only [packV, Option.map_eq_some_iff] at h
    obtain ⟨ys, hy, rfl⟩ := h
    simp only [Rep] at hx
    obtain ⟨l, rfl, hl⟩ := hx
    obtain ⟨g1, g2⟩ := packL_sound hi cs ys l hy hl
    exact ⟨by simp only [Rep]; exact ⟨l, rfl, g1⟩, by simp only [closed]; exact g2⟩
  | .tup cs, y, v, h, hx => by
    simp only [packV, Option.map_eq_some_iff] at h
    obtain ⟨ys, hy, rfl⟩ := h
    simp only [Rep] at hx
    obtain ⟨l, rfl, hl⟩ := hx
    obtain ⟨g1, g2⟩ := packL_sound hi cs ys l hy hl
    exact ⟨by simp only [Rep]; exact ⟨l, rfl, g1⟩, by simp only [closed]; exact g2⟩
  | .iface t x, y, v, h, hx => by
    simp only [packV, Option.map_eq_some_iff] at h
    obtain ⟨z, hz, rfl⟩ := h
    simp only [Rep] at hx
    obtain ⟨u, rfl, hu⟩ := hx
    obtain ⟨g1, g2⟩ := packV_sound hi x z u hz hu
    exact ⟨by simp only [Rep]; exact ⟨u, rfl, g1⟩, by simp only [closed]; exact g2⟩
  | .int k n, y, v, h, hx => by
    simp only [packV, Option.some.injEq] at h; subst h; exact ⟨closed_any (by simp [closed]) hx, by simp [closed]⟩
  | .bool b, y, v, h, hx => by
    simp only [packV, Option.some.injEq] at h; subst h; exact ⟨closed_any (by simp [closed]) hx, by simp [closed]⟩
  | .str s, y, v, h, hx => by
    simp only [packV, Option.some.injEq] at h; subst h; exact ⟨closed_any (by simp [closed]) hx, by simp [closed]⟩
  | .rptr cs, y, v, h, hx => by
    simp only [packV] at h
    cases hc : closedL cs with
    | false => rw [hc] at h; cases h
    | true => rw [hc] at h; cases h; exact ⟨closed_any (by simp only [closed]; exact hc) hx, by simp only [closed]; exact hc⟩
  | .nilptr, y, v, h, hx => by
    simp only [packV, Option.some.injEq] at h; subst h; exact ⟨closed_any (by simp [closed]) hx, by simp [closed]⟩
  | .func f a b, y, v, h, hx => by
    simp only [packV] at h
    cases hc : (closedL a && closedL b) with
    | false => rw [hc] at h; cases h
    | true => rw [hc] at h; cases h; exact ⟨closed_any (by simp only [closed]; exact hc) hx, by simp only [closed]; exact hc⟩
  | .nilfunc, y, v, h, hx => by
    simp only [packV, Option.some.injEq] at h; subst h; exact ⟨closed_any (by simp [closed]) hx, by simp [closed]⟩
  | .niliface, y, v, h, hx => by
    simp only [packV, Option.some.injEq] at h; subst h; exact ⟨closed_any (by simp [closed]) hx, by simp [closed]⟩
  | .map r, y, v, h, hx => by simp [packV] at h
  | .nilmap, y, v, h, hx => by
    simp only [packV, Option.some.injEq] at h; subst h; exact ⟨closed_any (by simp [closed]) hx, by simp [closed]⟩
  | .any, y, v, h, hx => by
    simp only [packV, Option.some.injEq] at h; subst h; exact ⟨by simp [Rep], by simp [closed]⟩
theorem packL_sound (hi : Inv w O α st) : ∀ (xs ys : List AVal) (l : List Value), packL st xs = some ys → RepL w O α xs l → RepL w O [] ys l ∧ closedL ys = true
  | [], ys, l, h, hx => by
    simp only [packL, Option.some.injEq] at h; subst h
    simp only [RepL] at hx ⊢
    exact ⟨hx, by simp [closedL]⟩
  | x :: xs, ys, l, h, hx => by
    simp only [packL, Option.bind_eq_some_iff, Option.map_eq_some_iff] at h
    obtain ⟨y, hy, ys', hys, rfl⟩ := h
    simp only [RepL] at hx ⊢
    obtain ⟨v, vs, rfl, h1, h2⟩ := hx
    obtain ⟨g1, g2⟩ := packV_sound hi x y v hy h1
    obtain ⟨k1, k2⟩ := packL_sound hi xs ys' vs hys h2
    exact ⟨⟨v, vs, rfl, g1, k1⟩, by simp only [closedL, Bool.and_eq_true]; exact ⟨g2, k2⟩⟩

end

mutual
theorem scalar_rep {w w' : World} {O O' : Nat → Prop} {α α' : AM} : ∀ (x : AVal) (v : Value), scalar x = true → Rep w O α x v → Rep w' O' α' x v
  | .int .., _, _, h => by simpa only [Rep] using h
  | .bool _, _, _, h => by simpa only [Rep] using h
  | .str _, _, _, h => by simpa only [Rep] using h
  | .tup vs, v, hs, h => by
    simp only [Rep] at h ⊢
    obtain ⟨l, e, hl⟩ := h
    exact ⟨l, e, scalarL_rep vs l (by simpa only [scalar] using hs) hl⟩
  | .agg _, _, hs, _ | .nil, _, hs, _ | .tree _ _ _, _, hs, _ | .own _ _ _ _ _, _, hs, _ | .ptr _ _ _ _, _, hs, _ | .rptr _, _, hs, _ | .nilptr, _, hs, _ | .func _ _ _, _, hs, _ | .nilfunc, _, hs, _
  | .iface _ _, _, hs, _ | .niliface, _, hs, _ | .map _, _, hs, _ | .nilmap, _, hs, _ | .any, _, hs, _ => by simp [scalar] at hs
theorem scalarL_rep {w w' : World} {O O' : Nat → Prop} {α α' : AM} : ∀ (xs : List AVal) (l : List Value), scalarL xs = true → RepL w O α xs l → RepL w' O' α' xs l
  | [], l, _, h => by simpa only [RepL] using h
  | x :: xs, l, hs, h => by
    simp only [RepL] at h ⊢
    simp only [scalarL, Bool.and_eq_true] at hs
    obtain ⟨v, vs, e, h1, h2⟩ := h
    exact ⟨v, vs, e, scalar_rep x v hs.1 h1, scalarL_rep xs vs hs.2 h2⟩
end
end
end Go.EM
