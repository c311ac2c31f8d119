/- Operations that make memory; looks at it. -/
import Derived.Test.YtnafmjbakholcaaDoorT6
set_option linter.unusedVariables false
set_option linter.unusedSimpArgs false
namespace Go.TY
open Go.EM
section
variable {Γ : Ctx} {m : Mem} {st : Store} {P : Program} {d : Option Nat}
/-! ### what is no more -/
theorem killT_R {j : Nat} {Γ' : Ctx} (he : ∀ i y, i ≠ j → Γ i = some y → Γ' i = some y) : ∀ {t : Ty} {v : t.V} {c : Bool} {l : List AVal}, R Γ t v c l → (killT j t v).t.names j = false → R Γ' (killT j t v).t (killT j t v).v c l
  | .agg t, v, c, l, h, hn => by
    simp only [killT] at hn ⊢
    cases c <;> simp only [R] at h ⊢
    · obtain ⟨cs, rfl, h⟩ := h
      exact ⟨cs, rfl, killT_R he (t := t) h hn⟩
    · exact killT_R he (t := t) h hn
  | .cons t ts, v, c, l, h, hn => by
    simp only [killT, Ty.names, Bool.or_eq_false_iff] at hn ⊢
    simp only [R] at h ⊢
    obtain ⟨l1, l2, rfl, h1, h2⟩ := h
    exact ⟨l1, l2, rfl, killT_R he h1 hn.1, killT_R he h2 hn.2⟩
  | .own i, v, c, l, h, hn => by
    simp only [killT] at hn ⊢
    cases hb : Nat.beq i j with
    | true =>
      simp only [cond_true, R] at h ⊢
      split at h
      · exact ⟨_, h, rfl⟩
      · exact ⟨_, h, rfl⟩
      · exact h.elim
    | false =>
      rw [hb, cond_false] at hn
      exact R_ext (t := .own i) (fun k y hk hy => he k y (fun e => by rw [e] at hk; rw [hk] at hn; cases hn) hy) h
  | .ptr i off, v, c, l, h, hn => by
    simp only [killT] at hn ⊢
    cases hb : Nat.beq i j with
    | true =>
      simp only [cond_true, R] at h ⊢
      obtain ⟨_, _, _, _, h⟩ := h
      exact ⟨_, h, rfl⟩
    | false =>
      rw [hb, cond_false] at hn
      exact R_ext (t := .ptr i off) (fun k y hk hy => he k y (fun e => by rw [e] at hk; rw [hk] at hn; cases hn) hy) h
  | .int _, v, c, l, h, hn => R_ext (t := .int _) (fun k y hk => by cases hk) h
  | .bool, v, c, l, h, hn => R_ext (t := .bool) (fun k y hk => by cases hk) h
  | .str, v, c, l, h, hn => R_ext (t := .str) (fun k y hk => by cases hk) h
  | .sl t, v, c, l, h, hn => R_ext (t := .sl t) (fun k y hk hy => he k y (fun e => by rw [e] at hk; simp only [killT] at hn; rw [hk] at hn; cases hn) hy) h
  | .arr n t, v, c, l, h, hn => R_ext (t := .arr n t) (fun k y hk hy => he k y (fun e => by rw [e] at hk; simp only [killT] at hn; rw [hk] at hn; cases hn) hy) h
  | .tup t, v, c, l, h, hn => R_ext (t := .tup t) (fun k y hk hy => he k y (fun e => by rw [e] at hk; simp only [killT] at hn; rw [hk] at hn; cases hn) hy) h
  | .unit, v, c, l, h, hn => R_ext (t := .unit) (fun k y hk => by cases hk) h
  | .nilsl, v, c, l, h, hn => R_ext (t := .nilsl) (fun k y hk => by cases hk) h
  | .nilp, v, c, l, h, hn => R_ext (t := .nilp) (fun k y hk => by cases hk) h
  | .undef, v, c, l, h, hn => R_ext (t := .undef) (fun k y hk => by cases hk) h
  | .any, v, c, l, h, hn => R_ext (t := .any) (fun k y hk => by cases hk) h
  | .it i, v, c, l, h, hn => R_ext (t := .it i) (fun k y hk hy => he k y (fun e => by rw [e] at hk; simp only [killT] at hn; rw [hk] at hn; cases hn) hy) h
  | .bx i o, v, c, l, h, hn => R_ext (t := .bx i o) (fun k y hk hy => he k y (fun e => by rw [e] at hk; simp only [killT] at hn; rw [hk] at hn; cases hn) hy) h
  | .rp t o, v, c, l, h, hn => R_ext (t := .rp t o) (fun k y hk hy => he k y (fun e => by rw [e] at hk; simp only [killT] at hn; rw [hk] at hn; cases hn) hy) h
theorem killT_shape {j : Nat} : ∀ {t : Ty} {v : t.V}, (killT j t v).t.size = t.size ∧ (killT j t v).t.isV = t.isV ∧ (t.okRow = true → (killT j t v).t.okRow = true)
  | .agg t, v => by
    obtain ⟨h1, h2, h3⟩ := killT_shape (j := j) (t := t) (v := v)
    simp only [killT]
    refine ⟨h1, rfl, fun h => ?_⟩
    simp only [Ty.okRow, Bool.and_eq_true, Bool.not_eq_true'] at h ⊢
    exact ⟨by rw [h2]; exact h.1, h3 h.2⟩
  | .cons t ts, v => by
    obtain ⟨h1, h2, h3⟩ := killT_shape (j := j) (t := t) (v := v.1)
    obtain ⟨g1, g2, g3⟩ := killT_shape (j := j) (t := ts) (v := v.2)
    simp only [killT]
    refine ⟨by simp only [Ty.size, h1, g1], rfl, fun h => ?_⟩
    simp only [Ty.okRow, Bool.and_eq_true] at h ⊢
    exact ⟨⟨by rw [h2]; exact h.1.1, h3 h.1.2⟩, g3 h.2⟩
  | .own i, v => by
    simp only [killT]
    cases Nat.beq i j <;> exact ⟨rfl, rfl, fun _ => rfl⟩
  | .ptr i o, v => by
    simp only [killT]
    cases Nat.beq i j <;> exact ⟨rfl, rfl, fun _ => rfl⟩
  | .int _, v => ⟨rfl, rfl, fun h => h⟩
  | .bool, v => ⟨rfl, rfl, fun h => h⟩
  | .str, v => ⟨rfl, rfl, fun h => h⟩
  | .sl t, v => ⟨rfl, rfl, fun h => h⟩
  | .arr _ t, v => ⟨rfl, rfl, fun h => h⟩
  | .tup t, v => ⟨rfl, rfl, fun h => h⟩
  | .unit, v => ⟨rfl, rfl, fun h => h⟩
  | .nilsl, v => ⟨rfl, rfl, fun h => h⟩
  | .nilp, v => ⟨rfl, rfl, fun h => h⟩
  | .undef, v => ⟨rfl, rfl, fun h => h⟩
  | .any, v => ⟨rfl, rfl, fun h => h⟩
  | .it i, v => ⟨rfl, rfl, fun h => h⟩
  | .bx i o, v => ⟨rfl, rfl, fun h => h⟩
  | .rp t o, v => ⟨rfl, rfl, fun h => h⟩
theorem killG_R {j id : Nat} {Γ' : Ctx} {st' : Store} {g : Reg} (he : ∀ i y, i ≠ j → Γ i = some y → Γ' i = some y) (hne : id ≠ j) (hs : ∀ r n l, Γ id = some (some (r, n, l)) → st'[r]? = st[r]?) (h : RegR Γ st id g) : RegR Γ' st' id (killG j g) := by
  cases g with
  | box e t v =>
    obtain ⟨h1, h2, h3, r, a, h4, h5, h6⟩ := h
    simp only [killG]
    cases hn : t.names j with
    | false =>
      exact ⟨h1, h2, h3, r, a, he _ _ hne h4, by rw [hs _ _ _ h4]; exact h5, R_ext (fun k y hk hy => he k y (fun e => by rw [e] at hk; rw [hk] at hn; cases hn) hy) h6⟩
    | true =>
      simp only [cond_true]
      cases hk : (killT j t v).t.names j with
      | true => trivial
      | false =>
        obtain ⟨k1, k2, k3⟩ := killT_shape (j := j) (t := t) (v := v)
        refine ⟨by rw [k2]; exact h1, k3 h2, by rw [k1]; exact h3, r, a, by rw [k1]; exact he _ _ hne h4, by rw [hs _ _ _ h4, k1]; exact h5, killT_R he h6 hk⟩
  | cbox e t v =>
    obtain ⟨h1, h0, h2, h3, r, a, h4, h5, h6⟩ := h
    exact ⟨h1, h0, h2, h3, r, a, he _ _ hne h4, by rw [hs _ _ _ h4]; exact h5, R_move h0 h6⟩
  | row e t xs =>
    simp only [killG]
    cases hn : t.names j with
    | true => trivial
    | false =>
      obtain ⟨h1, h2, h3, h4, h5⟩ := h
      refine ⟨h1, h2, h3, h4, ?_⟩
      rcases h5 with ⟨h5, h6⟩ | ⟨r, as, h5, h6, h7⟩
      · exact .inl ⟨h5, he _ _ hne h6⟩
      · exact .inr ⟨r, as, he _ _ hne h5, by rw [hs _ _ _ h5]; exact h6, Forall2_imp (p := fun x a => R Γ t x false [a]) (fun x a hx => R_move h2 hx) h7⟩
  | iter s pos =>
    obtain ⟨r, h1, h2⟩ := h
    exact ⟨r, he _ _ hne h1, by rw [hs _ _ _ h1]; exact h2⟩
  | gone => trivial
theorem killM_at : ∀ {m : Mem} {i j : Nat}, i < m.length → getM (killM j m) i = killG j (getM m i)
  | _ :: m, 0, j, _ => rfl
  | _ :: m, i + 1, j, h => killM_at (m := m) (by simpa using h)
  | [], i, j, h => by simp at h
theorem killM_len : ∀ {m : Mem} {j : Nat}, (killM j m).length = m.length
  | [], j => rfl
  | _ :: m, j => by simp [killM, killM_len]
/-- A row that has grown. -/
def grown (Γ : Ctx) (id : Nat) (y : Nat × Nat × Nat) : Ctx := fun j => if j = id then some (some y) else Γ j
theorem grown_ne {id : Nat} {y : Nat × Nat × Nat} : ∀ i x, i ≠ id → Γ i = some x → grown Γ id y i = some x := by
  intro i x hi hx
  simp only [grown, if_neg hi]; exact hx
theorem killG_kind {j : Nat} {g : Reg} : (∀ e t v, killG j g = .cbox e t v → g = .cbox e t v) ∧ (∀ s p, killG j g = .iter s p → g = .iter s p) := by
  cases g with
  | box e t v =>
    simp only [killG]
    cases t.names j with
    | false => exact ⟨(fun _ _ _ h => by cases h), (fun _ _ h => by cases h)⟩
    | true =>
      simp only [cond_true]
      cases (killT j t v).t.names j with
      | false => exact ⟨(fun _ _ _ h => by cases h), (fun _ _ h => by cases h)⟩
      | true => exact ⟨(fun _ _ _ h => by cases h), (fun _ _ h => by cases h)⟩
  | cbox e t v => exact ⟨(fun _ _ _ h => h), (fun _ _ h => by cases h)⟩
  | row e t xs =>
    simp only [killG]
    cases t.names j with
    | false => exact ⟨(fun _ _ _ h => by cases h), (fun _ _ h => by cases h)⟩
    | true => exact ⟨(fun _ _ _ h => by cases h), (fun _ _ h => by cases h)⟩
  | iter s p => exact ⟨(fun _ _ _ h => by cases h), (fun _ _ h => h)⟩
  | gone => exact ⟨(fun _ _ _ h => by cases h), (fun _ _ h => by cases h)⟩
theorem Pers.kill {id : Nat} {g : Reg} (h1 : ∀ e t v, g ≠ .cbox e t v) (h2 : ∀ s p, g ≠ .iter s p) : Pers m (setM (killM id m) id g) where
  len := by rw [setM_len, killM_len]; exact Nat.le_refl _
  cbox j hj e t v h := by
    by_cases e' : id = j
    · subst e'; rw [getM_set_eq (by rw [killM_len]; exact hj)] at h; exact absurd h (h1 _ _ _)
    · rw [getM_set_ne e', killM_at hj] at h; exact killG_kind.1 _ _ _ h
  iter j hj s p h := by
    by_cases e' : id = j
    · subst e'; rw [getM_set_eq (by rw [killM_len]; exact hj)] at h; exact absurd h (h2 _ _)
    · rw [getM_set_ne e', killM_at hj] at h; exact ⟨p, killG_kind.2 _ _ h⟩
theorem MemR.grow (hm : MemR Γ m st) {id : Nat} {g : Reg} {r n l : Nat} {st' : Store} (hid : id < m.length) (hst : st.length ≤ st'.length)
    (hs : ∀ i r' n' l', i ≠ id → Γ i = some (some (r', n', l')) → st'[r']? = st[r']?) (hr : r < st'.length) (hfr : ∀ i r' n' l', i ≠ id → Γ i = some (some (r', n', l')) → r' ≠ r) (hg : RegR (grown Γ id (r, n, l)) st' id g) : MemR (grown Γ id (r, n, l)) (setM (killM id m) id g) st' where
  reg j hj := by
    rw [setM_len, killM_len] at hj
    by_cases e : id = j
    · subst e; rw [getM_set_eq (by rw [killM_len]; exact hid)]; exact hg
    · rw [getM_set_ne e, killM_at hj]
      exact killG_R grown_ne (fun e' => e e'.symm) (fun r' n' l' h => hs j r' n' l' (fun e' => e e'.symm) h) (hm.reg j hj)
  out j hj := by
    rw [setM_len, killM_len] at hj
    simp only [grown]
    rw [if_neg (by omega)]
    exact hm.out j hj
  inj i j r' n' l' n'' l'' hi hj := by
    simp only [grown] at hi hj
    split at hi <;> split at hj
    · rename_i e1 e2; rw [e1, e2]
    · rename_i e1 e2; cases hi; exact absurd rfl (hfr _ _ _ _ e2 hj)
    · rename_i e1 e2; cases hj; exact absurd rfl (hfr _ _ _ _ e1 hi)
    · exact hm.inj _ _ _ _ _ _ _ hi hj
  lt i r' n' l' hi := by
    simp only [grown] at hi
    split at hi
    · cases hi; exact hr
    · have := hm.lt _ _ _ _ hi; omega

/-! ### what a slice holds -/
theorem contT_R (hm : MemR Γ m st) {u : Ty} {y : TV} {ys : List u.V} {b : AVal} {n : Nat} (hn : u.size = n) (h : contT m u y = some ys) (hy : R Γ y.t y.v false [b]) : ∃ bs, contents st n b = some bs ∧ All2 (fun x a => R Γ u x false [a]) ys bs := by
  unfold contT at h
  split at h
  · cases h; simp only [R] at hy; cases hy; exact ⟨[], rfl, trivial⟩
  · rename_i t xs
    obtain ⟨e, hx⟩ := castV_some h
    cases e
    subst hx
    simp only [R] at hy
    rcases hy with ⟨rfl, hy⟩ | ⟨f, n', as, hy, hn', h2⟩
    · cases hy; exact ⟨[], rfl, trivial⟩
    · cases hy
      refine ⟨as, ?_, h2⟩
      simp only [contents]
      rw [if_pos]
      rcases hn' with rfl | hn'
      · right; rw [All2_len h2]; rfl
      · left; exact hn'.trans hn
  · rename_i id _
    split at h
    · rename_i e t xs hg
      obtain ⟨e', hx⟩ := castV_some h
      cases e'
      subst hx
      have hr := hm.at id
      rw [hg] at hr
      obtain ⟨k1, k2, k3, k4, k5⟩ := hr
      simp only [R] at hy
      rcases k5 with ⟨rfl, k5⟩ | ⟨r, as, k5, k6, k7⟩
      · rw [k5] at hy; cases hy; exact ⟨[], rfl, trivial⟩
      · rw [k5] at hy; cases hy
        refine ⟨as, ?_, k7⟩
        have hl := All2_len k7
        simp only [contents, if_pos hn, EM.rowAt, k6, hl, and_self, if_true, Option.map_some, List.drop_zero]
        rw [List.take_of_length_le (by omega)]
    · cases h
  · split at h
    · cases h
      simp only [R] at hy; cases hy
      rename_i s _
      have hn1 : n = 1 := hn.symm
      refine ⟨s.map fun b => .int .u8 b.toNat, by simp only [contents, if_pos hn1], ?_⟩
      clear hn1
      induction s with
      | nil => trivial
      | cons c s ih => exact ⟨rfl, ih⟩
    · cases h
  · cases h
theorem roomT_some {n : Nat} {u : Unit} (h : roomT n = some u) : n < most := (ite_some' h).1
theorem elemInfo_some {t : TypeId} {n : Nat} {z : AVal} (h : elemInfo P t = some (n, z)) : zeroOf P (elemTy P t) = some z ∧ n ≠ 0 := by
  unfold elemInfo at h
  split at h
  · rename_i e hu
    split at h
    · rename_i i hi
      split at h
      · rename_i z' hz
        split at h
        · rename_i hc
          cases h
          refine ⟨?_, hc.1⟩
          have : elemTy P t = e := by simp only [elemTy, hu]
          rw [this]
          simp only [zeroOf, hi, Option.bind_some, hz, Option.map_some]
        · cases h
      · cases h
    · cases h
  · cases h
theorem row_new (hm : MemR Γ m st) {e : Nat} {u : Ty} {xs : List u.V} {as : List AVal} (h1 : u.isV = true) (h2 : u.closed = true) (h3 : u.okRow = true) (h4 : u.size ≠ 0) (hr : All2 (fun x a => R Γ u x false [a]) xs as) :
    RegR (more Γ m.length (some (st.length, u.size, xs.length))) (st ++ [.row e u.size as]) m.length (.row e u xs) :=
  ⟨h1, h2, h3, h4, .inr ⟨st.length, as, more_at, by simp, Forall2_imp (p := fun x a => R Γ u x false [a]) (fun x a hx => R_move h2 hx) hr⟩⟩
theorem fresh_ok (hm : MemR Γ m st) {e n : Nat} {u : Ty} {xs : List u.V} {as : List AVal} {ares : Option (AVal × Store)} (hn : u.size = n) (h1 : u.isV = true) (h2 : u.closed = true) (h3 : u.okRow = true) (h4 : u.size ≠ 0) (hr : All2 (fun x a => R Γ u x false [a]) xs as)
    (ha : ares = some (freshRow st e n as)) : OkM d Γ m st ares (.ok ⟨.own m.length, ()⟩ (m ++ [.row e u xs]) none) := by
  subst hn
  refine .ok (a := .own st.length u.size xs.length 0 xs.length) (st' := st ++ [.row e u.size as]) (more Γ m.length (some (st.length, u.size, xs.length))) (by rw [ha, freshRow, All2_len hr]) (.inr ⟨rfl, by simp only [R, more_at]⟩) (hm.more (row_new hm h1 h2 h3 h4 hr)) (fun j y _ h => more_ext hm j y h) .more
theorem isEmpty_len {A : Type} {l : List A} : l.isEmpty = true → l = [] := by cases l <;> simp
theorem appendT_ok (hm : MemR Γ m st) {ty : List (Nat × Ty)} {tys : List TypeId} {x y : TV} {a b : AVal} (hx : R Γ x.t x.v false [a]) (hy : R Γ y.t y.v false [b]) : OkM d Γ m st (aappendOp P tys a b st) (appendT P ty tys x y m) := by
  unfold appendT
  split
  · rename_i t u
    split
    · rename_i n z du et he hu hl
      cases hc : (!isIntD du && Nat.beq et.size n && et.isV && et.closed && et.okRow) with
      | false => exact .no
      | true =>
        simp only [Bool.and_eq_true, Nat.beq_eq, Bool.not_eq_true'] at hc
        obtain ⟨⟨⟨⟨c0, c1⟩, c2⟩, c3⟩, c4⟩ := hc
        have hn0 := (elemInfo_some he).2
        have c5 : et.size ≠ 0 := by rw [c1]; exact hn0
        simp only [cond_true]
        split
        · rename_i ys hys
          obtain ⟨bs, hb1, hb2⟩ := contT_R hm c1 hys hy
          have hbl := All2_len hb2
          have hop : aappendOp P [t, u] a b st = aappend P t a bs st := by
            unfold aappendOp
            simp only [he, hu]
            cases du <;> first | (cases c0; done) | (simp only [hb1, Option.bind_some])
          rw [hop]
          split
          · simp only [R] at hx; cases hx
            refine .opt fun _ hroom => ?_
            have hroom := roomT_some hroom
            cases hem : bs.isEmpty with
            | true =>
              have hbs := isEmpty_len hem
              have hys' : ys = [] := by cases ys with | nil => rfl | cons _ _ => rw [hbs] at hbl; simp at hbl
              subst hys'
              refine .ok (a := .nil) (st' := st) (more Γ m.length none) (by simp only [aappend, he, hem, cond_true]) (.inr ⟨rfl, by simp only [R, more_at]⟩) (hm.moreNil ⟨c2, c3, c4, c5, .inl ⟨rfl, more_at⟩⟩) (fun j y _ h => more_ext hm j y h) .more
            | false =>
              refine fresh_ok hm c1 c2 c3 c4 c5 hb2 ?_
              simp only [aappend, he, hem, cond_false]
              rw [if_pos (by omega)]
          · rename_i id _
            split
            · rename_i e t' xs hg
              cases hcc : (Nat.beq e (elemTy P t) && Nat.ble (id + 1) m.length) with
              | false => exact .no
              | true =>
                simp only [Bool.and_eq_true, Nat.beq_eq, Nat.ble_eq] at hcc
                obtain ⟨hce, hid⟩ := hcc
                subst hce
                simp only [cond_true]
                split
                · rename_i xs' hxs
                  obtain ⟨e', hxx⟩ := castV_some hxs
                  cases e'
                  subst hxx
                  refine .opt fun _ hroom => ?_
                  have hroom := roomT_some hroom
                  have hr := hm.at id
                  rw [hg] at hr
                  obtain ⟨k1, k2, k3, k4, k5⟩ := hr
                  have hp : Pers m (setM (killM id m) id (.row (elemTy P t) et (xs' ++ ys))) := .kill (by intro _ _ _ h; cases h) (by intro _ _ h; cases h)
                  simp only [R] at hx
                  rcases k5 with ⟨rfl, k5⟩ | ⟨r, as, k5, k6, k7⟩
                  · rw [k5] at hx; cases hx
                    cases hem : bs.isEmpty with
                    | true =>
                      have hbs := isEmpty_len hem
                      have hys' : ys = [] := by cases ys with | nil => rfl | cons _ _ => rw [hbs] at hbl; simp at hbl
                      subst hys'
                      have hk : MemR Γ (setM (killM id m) id (.row (elemTy P t) et ([] ++ []))) st := {
                        reg := fun j hj => by
                          rw [setM_len, killM_len] at hj
                          by_cases ej : id = j
                          · subst ej; rw [getM_set_eq (by rw [killM_len]; omega)]; exact ⟨k1, k2, k3, k4, .inl ⟨rfl, k5⟩⟩
                          · rw [getM_set_ne ej, killM_at hj]
                            exact killG_R (fun i y _ h => h) (fun e' => ej e'.symm) (fun r' n' l' h => rfl) (hm.reg j hj)
                        out := fun j hj => hm.out j (by rw [setM_len, killM_len] at hj; exact hj)
                        inj := hm.inj
                        lt := hm.lt }
                      exact .ok (a := .nil) (st' := st) Γ (by simp only [aappend, he, hem, cond_true]) (.inr ⟨rfl, by simp only [R, k5]⟩) hk (fun j y _ h => h) hp
                    | false =>
                      have hlt : st.length < (st ++ [AReg.row (elemTy P t) et.size bs]).length := by simp
                      refine .ok (a := .own st.length n bs.length 0 bs.length) (st' := st ++ [.row (elemTy P t) n bs]) (grown Γ id (st.length, et.size, ys.length)) ?_ (.inr ⟨rfl, ?_⟩) (hm.grow (by omega) (by simp) ?_ (by simp) ?_ ⟨k1, k2, k3, k4, .inr ⟨st.length, bs, ?_, ?_, Forall2_imp (p := fun x a => R Γ et x false [a]) (fun x a hx => R_move k2 hx) hb2⟩⟩) (fun j y hj h => grown_ne j y (fun e' => hj (by rw [e'])) h) hp
                      · simp only [aappend, he, hem, cond_false]
                        rw [if_pos (by simp at hroom; omega)]
                        rfl
                      · simp only [R, grown, if_true, hbl, c1]
                      · intro i r' n' l' _ h
                        exact List.getElem?_append_left (hm.lt _ _ _ _ h)
                      · intro i r' n' l' _ h e'
                        have := hm.lt _ _ _ _ h
                        omega
                      · simp [grown]
                      · simp [c1]
                  · rw [k5] at hx; cases hx
                    have hal := All2_len k7
                    have hrow : EM.rowAt st r et.size xs'.length = some as := by simp only [EM.rowAt, k6, hal, and_self, if_true]
                    have hty : EM.rowTy st r = elemTy P t := by simp only [EM.rowTy, k6]
                    cases hem : bs.isEmpty with
                    | true =>
                      have hbs := isEmpty_len hem
                      have hys' : ys = [] := by cases ys with | nil => rfl | cons _ _ => rw [hbs] at hbl; simp at hbl
                      subst hys'
                      have hk : MemR Γ (setM (killM id m) id (.row (elemTy P t) et (xs' ++ []))) st := {
                        reg := fun j hj => by
                          rw [setM_len, killM_len] at hj
                          by_cases ej : id = j
                          · subst ej; rw [getM_set_eq (by rw [killM_len]; omega), List.append_nil]; exact ⟨k1, k2, k3, k4, .inr ⟨r, as, k5, k6, k7⟩⟩
                          · rw [getM_set_ne ej, killM_at hj]
                            exact killG_R (fun i y _ h => h) (fun e' => ej e'.symm) (fun r' n' l' h => rfl) (hm.reg j hj)
                        out := fun j hj => hm.out j (by rw [setM_len, killM_len] at hj; exact hj)
                        inj := hm.inj
                        lt := hm.lt }
                      refine .ok (a := .own r et.size xs'.length 0 xs'.length) (st' := st) Γ ?_ (.inr ⟨rfl, by simp only [R, k5]⟩) hk (fun j y _ h => h) hp
                      rw [c1] at hrow
                      simp only [aappend, he, c1, hty, hrow, and_self, if_true, hem, cond_true]
                    | false =>
                      have hrl := hm.lt _ _ _ _ k5
                      refine .ok (a := .own r et.size (xs'.length + bs.length) 0 (xs'.length + bs.length)) (st' := st.set r (.row (elemTy P t) et.size (as ++ bs))) (grown Γ id (r, et.size, (xs' ++ ys).length)) ?_ (.inr ⟨rfl, ?_⟩) (hm.grow (by omega) (by simp) ?_ (by simpa using hrl) ?_ ⟨k1, k2, k3, k4, .inr ⟨r, as ++ bs, ?_, ?_, All2_app (Forall2_imp (p := fun x a => R Γ et x false [a]) (fun x a hx => R_move k2 hx) k7) (Forall2_imp (p := fun x a => R Γ et x false [a]) (fun x a hx => R_move k2 hx) hb2)⟩⟩) (fun j y hj h => grown_ne j y (fun e' => hj (by rw [e'])) h) hp
                      · rw [c1] at hrow
                        simp only [aappend, he, c1, hty, hrow, and_self, if_true, hem, cond_false]
                        rw [if_pos (by omega)]
                      · simp only [R, grown, if_true, List.length_append, hbl]
                      · intro i r' n' l' hi h
                        have : r ≠ r' := fun e' => hi (hm.inj _ _ _ _ _ _ _ (e' ▸ h) k5)
                        exact List.getElem?_set_ne this
                      · intro i r' n' l' hi h e'
                        exact hi (hm.inj _ _ _ _ _ _ _ (e' ▸ h) k5)
                      · simp [grown]
                      · rw [List.getElem?_set_self hrl]
                · exact .no
            · exact .no
          · exact .no
        · exact .no
    · exact .no
  · exact .no
end
end Go.TY
