/- Operations that need memory. -/
import Derived.Test.YtnafmjbakholcaaDoorT5
set_option linter.unusedVariables false
set_option linter.unusedSimpArgs false
namespace Go.TY
open Go.EM
/-- What never turns is, if it is still there, what it was. -/
structure Pers (m m' : Mem) : Prop where
  len : m.length ≤ m'.length
  cbox : ∀ j, j < m.length → ∀ e t v, getM m' j = .cbox e t v → getM m j = .cbox e t v
  iter : ∀ j, j < m.length → ∀ s p, getM m' j = .iter s p → ∃ p0, getM m j = .iter s p0
theorem Pers.refl (m : Mem) : Pers m m := ⟨Nat.le_refl _, fun _ _ _ _ _ h => h, fun _ _ _ p h => ⟨p, h⟩⟩
theorem Pers.trans {m m' m'' : Mem} (h : Pers m m') (k : Pers m' m'') : Pers m m'' :=
  ⟨Nat.le_trans h.len k.len, fun j hj e t v he => h.cbox j hj e t v (k.cbox j (Nat.lt_of_lt_of_le hj h.len) e t v he), fun j hj s p he => by
    obtain ⟨p', h'⟩ := k.iter j (Nat.lt_of_lt_of_le hj h.len) s p he
    exact h.iter j hj s p' h'⟩
def OkM (d : Option Nat) (Γ : Ctx) (m : Mem) (st : Store) (ares : Option (AVal × Store)) (res : OR) : Prop :=
  ∀ (X : Type) (K : TV → Mem → Option Nat → Option X) (x : X), res.go K = some x → ∃ w m' k a st' Γ', K w m' k = some x ∧ ares = some (a, st') ∧ (d = none ∨ (w.t.isV = true ∧ R Γ' w.t w.v false [a])) ∧ MemR Γ' m' st' ∧
    (∀ j y, k ≠ some j → Γ j = some y → Γ' j = some y) ∧ Pers m m'
section
variable {Γ : Ctx} {m : Mem} {st : Store} {P : Program} {d : Option Nat}
theorem OkM.no {ares : Option (AVal × Store)} : OkM d Γ m st ares .no := fun X K x h => by cases h
theorem OkM.opt {A : Type} {y : Option A} {k : A → OR} {ares : Option (AVal × Store)} (h : ∀ z, y = some z → OkM d Γ m st ares (k z)) : OkM d Γ m st ares (.opt A y k) := fun X K x hx => by
  simp only [OR.go, Option.bind_eq_some_iff] at hx
  obtain ⟨z, hz, hx⟩ := hx
  exact h z hz X K x hx
theorem OkM.br {b : Bool} {p q : OR} {ares : Option (AVal × Store)} (h1 : b = true → OkM d Γ m st ares p) (h2 : b = false → OkM d Γ m st ares q) : OkM d Γ m st ares (.br b p q) := fun X K x hx => by
  simp only [OR.go] at hx
  cases b
  · exact h2 rfl X K x hx
  · exact h1 rfl X K x hx
theorem OkM.ofP (hm : MemR Γ m st) {av : Option AVal} {res : OR} (h : OkP Γ m av res) : OkM d Γ m st (av.map fun v => (v, st)) res := fun X K x hx => by
  obtain ⟨w, a, h1, h2, h3, h4⟩ := h X K x hx
  exact ⟨w, m, none, a, st, Γ, h1, by rw [h2]; rfl, .inr ⟨h3, h4⟩, hm, fun _ _ _ h => h, .refl m⟩
theorem OkM.ok {w : TV} {m' : Mem} {k : Option Nat} {ares : Option (AVal × Store)} {a : AVal} {st' : Store} (Γ' : Ctx) (ha : ares = some (a, st')) (hr : d = none ∨ (w.t.isV = true ∧ R Γ' w.t w.v false [a])) (hm : MemR Γ' m' st')
    (he : ∀ j y, k ≠ some j → Γ j = some y → Γ' j = some y) (hp : Pers m m') : OkM d Γ m st ares (.ok w m' k) := fun X K x hx => ⟨w, m', k, a, st', Γ', hx, ha, hr, hm, he, hp⟩

theorem getM_app_lt : ∀ {m : Mem} {g : Reg} {i : Nat}, i < m.length → getM (m ++ [g]) i = getM m i
  | _ :: m, g, 0, _ => rfl
  | _ :: m, g, i + 1, h => getM_app_lt (m := m) (by simpa using h)
  | [], g, i, h => by simp at h
theorem getM_app_eq : ∀ {m : Mem} {g : Reg}, getM (m ++ [g]) m.length = g
  | [], g => rfl
  | _ :: m, g => getM_app_eq (m := m)
theorem getM_set_eq : ∀ {m : Mem} {i : Nat} {g : Reg}, i < m.length → getM (setM m i g) i = g
  | _ :: m, 0, g, _ => rfl
  | _ :: m, i + 1, g, h => getM_set_eq (m := m) (by simpa using h)
  | [], i, g, h => by simp at h
theorem getM_set_ne : ∀ {m : Mem} {i j : Nat} {g : Reg}, i ≠ j → getM (setM m i g) j = getM m j
  | [], i, j, g, _ => rfl
  | _ :: m, 0, 0, g, h => absurd rfl h
  | _ :: m, 0, j + 1, g, h => rfl
  | _ :: m, i + 1, 0, g, h => rfl
  | _ :: m, i + 1, j + 1, g, h => getM_set_ne (m := m) (by omega)
theorem setM_len : ∀ {m : Mem} {i : Nat} {g : Reg}, (setM m i g).length = m.length
  | [], i, g => rfl
  | _ :: m, 0, g => rfl
  | _ :: m, i + 1, g => by simp [setM, setM_len]
theorem RegR_ext {Γ Γ' : Ctx} {st st' : Store} {id : Nat} {g : Reg} (he : ∀ j y, Γ j = some y → Γ' j = some y) (hs : ∀ r n l, Γ id = some (some (r, n, l)) → st'[r]? = st[r]?) (h : RegR Γ st id g) : RegR Γ' st' id g := by
  cases g with
  | box e t v =>
    obtain ⟨h1, h2, h3, r, a, h4, h5, h6⟩ := h
    exact ⟨h1, h2, h3, r, a, he _ _ h4, by rw [hs _ _ _ h4]; exact h5, R_ext (fun j x _ hx => he j x hx) h6⟩
  | cbox e t v =>
    obtain ⟨h1, h0, h2, h3, r, a, h4, h5, h6⟩ := h
    exact ⟨h1, h0, h2, h3, r, a, he _ _ h4, by rw [hs _ _ _ h4]; exact h5, R_ext (fun j x _ hx => he j x hx) h6⟩
  | row e t xs =>
    obtain ⟨h1, h2, h3, h4, h5⟩ := h
    refine ⟨h1, h2, h3, h4, ?_⟩
    rcases h5 with ⟨h5, h6⟩ | ⟨r, as, h5, h6, h7⟩
    · exact .inl ⟨h5, he _ _ h6⟩
    · exact .inr ⟨r, as, he _ _ h5, by rw [hs _ _ _ h5]; exact h6, Forall2_imp (p := fun x a => R Γ t x false [a]) (fun x a hx => R_ext (fun j y _ hy => he j y hy) hx) h7⟩
  | iter s pos =>
    obtain ⟨r, h1, h2⟩ := h
    exact ⟨r, he _ _ h1, by rw [hs _ _ _ h1]; exact h2⟩
  | gone => trivial
/-- One region more. -/
def more (Γ : Ctx) (n : Nat) (y : Option (Nat × Nat × Nat)) : Ctx := fun j => if j = n then some y else Γ j
theorem more_ext (hm : MemR Γ m st) {y : Option (Nat × Nat × Nat)} : ∀ j x, Γ j = some x → more Γ m.length y j = some x := by
  intro j x hx
  unfold more
  split
  · rename_i e
    rw [e, hm.out _ (Nat.le_refl _)] at hx; cases hx
  · exact hx
theorem more_at {n : Nat} {y : Option (Nat × Nat × Nat)} : more Γ n y n = some y := by simp [more]
theorem MemR.more (hm : MemR Γ m st) {g : Reg} {ag : AReg} {n l : Nat} (hg : RegR (more Γ m.length (some (st.length, n, l))) (st ++ [ag]) m.length g) : MemR (more Γ m.length (some (st.length, n, l))) (m ++ [g]) (st ++ [ag]) where
  reg id hid := by
    rcases Nat.lt_or_ge id m.length with h | h
    · rw [getM_app_lt h]
      exact RegR_ext (more_ext hm) (fun r n l hr => List.getElem?_append_left (hm.lt _ _ _ _ hr)) (hm.reg id h)
    · have e : id = m.length := by simp at hid; omega
      subst e
      rw [getM_app_eq]; exact hg
  out id hid := by
    simp at hid
    simp only [TY.more]
    rw [if_neg (by omega)]
    exact hm.out id (by omega)
  inj i j r n' l' n'' l'' hi hj := by
    simp only [TY.more] at hi hj
    split at hi <;> split at hj
    · rename_i e1 e2; rw [e1, e2]
    · cases hi; have := hm.lt _ _ _ _ hj; omega
    · cases hj; have := hm.lt _ _ _ _ hi; omega
    · exact hm.inj _ _ _ _ _ _ _ hi hj
  lt i r n' l' hi := by
    simp only [TY.more] at hi
    split at hi
    · cases hi; simp
    · have := hm.lt _ _ _ _ hi; simp; omega
theorem MemR.moreNil (hm : MemR Γ m st) {g : Reg} (hg : RegR (TY.more Γ m.length none) st m.length g) : MemR (TY.more Γ m.length none) (m ++ [g]) st where
  reg id hid := by
    rcases Nat.lt_or_ge id m.length with h | h
    · rw [getM_app_lt h]
      exact RegR_ext (more_ext hm) (fun r n l hr => rfl) (hm.reg id h)
    · have e : id = m.length := by simp at hid; omega
      subst e
      rw [getM_app_eq]; exact hg
  out id hid := by
    simp at hid
    simp only [TY.more]
    rw [if_neg (by omega)]
    exact hm.out id (by omega)
  inj i j r n' l' n'' l'' hi hj := by
    simp only [TY.more] at hi hj
    split at hi
    · cases hi
    · split at hj
      · cases hj
      · exact hm.inj _ _ _ _ _ _ _ hi hj
  lt i r n' l' hi := by
    simp only [TY.more] at hi
    split at hi
    · cases hi
    · exact hm.lt _ _ _ _ hi
theorem Pers.more {g : Reg} : Pers m (m ++ [g]) where
  len := by simp
  cbox j hj e t v h := by rw [getM_app_lt hj] at h; exact h
  iter j hj s p h := by rw [getM_app_lt hj] at h; exact ⟨p, h⟩
/-- A region turned in place. -/
theorem MemR.set (hm : MemR Γ m st) {id : Nat} {g : Reg} {ag : AReg} {r n l : Nat} (hid : id < m.length) (hr : Γ id = some (some (r, n, l))) (hg : RegR Γ (st.set r ag) id g) : MemR Γ (setM m id g) (st.set r ag) where
  reg j hj := by
    rw [setM_len] at hj
    by_cases e : id = j
    · subst e; rw [getM_set_eq hid]; exact hg
    · rw [getM_set_ne e]
      refine RegR_ext (fun _ _ h => h) (fun r' n' l' hr' => ?_) (hm.reg j hj)
      have : r ≠ r' := fun e' => e (hm.inj _ _ _ _ _ _ _ hr (e' ▸ hr'))
      rw [List.getElem?_set_ne this]
  out j hj := hm.out j (by rw [setM_len] at hj; exact hj)
  inj := hm.inj
  lt i r' n' l' hi := by have := hm.lt _ _ _ _ hi; simpa using this
theorem Pers.set {id : Nat} {g : Reg} (h1 : ∀ e t v, g ≠ .cbox e t v) (h2 : ∀ s p, g = .iter s p → ∃ p0, getM m id = .iter s p0) : Pers m (setM m id g) where
  len := by rw [setM_len]; exact Nat.le_refl _
  cbox j hj e t v h := by
    by_cases e' : id = j
    · subst e'; rw [getM_set_eq hj] at h; exact absurd h (h1 _ _ _)
    · rw [getM_set_ne e'] at h; exact h
  iter j hj s p h := by
    by_cases e' : id = j
    · subst e'; rw [getM_set_eq hj] at h; exact h2 s p h
    · rw [getM_set_ne e'] at h; exact ⟨p, h⟩

/-! ### loads -/
theorem loadT_ok (hm : MemR Γ m st) {t : TypeId} {x : TV} {a : AVal} (hxv : x.t.isV = true) (hx : R Γ x.t x.v false [a]) : OkP Γ m (aload P t a st) (loadT P t x m) := by
  unfold loadT
  split
  · rename_i u off v
    simp only [R] at hx; obtain ⟨b, rest, hb, hx⟩ := hx; cases hx
    cases hv : u.isV with
    | false => exact .no
    | true =>
    refine .ofO fun w hw => ?_
    obtain ⟨h1, a, h2, h3⟩ := partP_R (w0 := ⟨u, v⟩) (R_cells hv hb) hw
    refine ⟨h1, a, h2, ?_⟩
    simp only [aload]
    exact partA_drop (partA_more (rest := rest) h3)
  · rename_i id off _
    simp only [R] at hx; obtain ⟨r, n, hg, hx⟩ := hx; cases hx
    have hr := hm.at id
    split
    · rename_i e u v hreg
      rw [hreg] at hr
      obtain ⟨k1, k2, k3, r', b, k4, k5, k6⟩ := hr
      rw [hg] at k4; cases k4
      refine .ofO fun w hw => ?_
      obtain ⟨h1, a, h2, h3⟩ := partP_R (w0 := ⟨u, v⟩) (R_cells k1 k6) hw
      exact ⟨h1, a, h2, by simp only [aload, cellsAt, k5, List.length_cons, List.length_nil, if_true, List.getElem?_cons_zero, Option.map_some, h3]⟩
    · rename_i e u v hreg
      rw [hreg] at hr
      obtain ⟨k1, k0, k2, k3, r', b, k4, k5, k6⟩ := hr
      rw [hg] at k4; cases k4
      refine .ofO fun w hw => ?_
      obtain ⟨h1, a, h2, h3⟩ := partP_R (w0 := ⟨u, v⟩) (R_cells k1 k6) hw
      exact ⟨h1, a, h2, by simp only [aload, cellsAt, k5, List.length_cons, List.length_nil, if_true, List.getElem?_cons_zero, Option.map_some, h3]⟩
    · exact .no
  · rename_i id off i
    simp only [R] at hx; obtain ⟨r, n, len, hg, hx⟩ := hx; cases hx
    have hr := hm.at id
    split
    · rename_i e u xs hreg
      rw [hreg] at hr
      obtain ⟨k1, k2, k3, k4, k5⟩ := hr
      refine .opt fun z hz => .ofO fun w hw => ?_
      rcases k5 with ⟨rfl, k5⟩ | ⟨r', as, k5, k6, k7⟩
      · simp at hz
      · rw [hg] at k5; cases k5
        obtain ⟨b, hb1, hb2⟩ := All2_get k7 hz
        obtain ⟨h1, a, h2, h3⟩ := partP_R (w0 := ⟨u, z⟩) (R_cells k1 hb2) hw
        exact ⟨h1, a, h2, by simp only [aload, cellsAt, k6, All2_len k7, if_true, hb1, Option.map_some, h3]⟩
    · exact .no
  · exact .no
where
  partA_more {P : Program} {t : TypeId} {cs rest : List AVal} {off : Nat} {a : AVal} (h : partA P t cs off = some a) : partA P t (cs ++ rest) off = some a := by
    unfold partA at h ⊢
    split at h
    · rename_i n d hn hd
      try simp only [hn, hd]
      exact pickA_left (n := n) (ag := isAggD d) h
    · cases h
  partA_drop {P : Program} {t : TypeId} {cs : List AVal} {off : Nat} {a : AVal} (h : partA P t cs off = some a) : partA P t (cs.drop off) 0 = some a := by
    unfold partA at h ⊢
    split at h
    · rename_i n d hn hd
      try simp only [hn, hd]
      cases hg : isAggD d with
      | true =>
        rw [hg, cond_true] at h
        cases hb : Nat.ble (off + n) cs.length with
        | true =>
          rw [hb, cond_true] at h
          rw [Nat.ble_eq] at hb
          have : Nat.ble (0 + n) (cs.drop off).length = true := by rw [Nat.ble_eq, List.length_drop]; omega
          rw [this, List.drop_zero]
          exact h
        | false => rw [hb] at h; cases h
      | false =>
        rw [hg, cond_false] at h
        simp only [cond_false]
        rw [List.getElem?_drop, Nat.add_zero]; exact h
    · cases h

/-! ### stores -/
theorem fitsT_row {t : TypeId} {u : Ty} (h : fitsT P t u = true) : u.isV = true ∧ u.okRow = true ∧ u.size ≠ 0 := by
  unfold fitsT at h
  split at h
  · simp only [Bool.and_eq_true, Nat.beq_eq, Bool.not_eq_true'] at h
    obtain ⟨⟨⟨⟨h1, h2⟩, h3⟩, h4⟩, h5⟩ := h
    exact ⟨h4, h3, by rw [← h1]; exact beq_ne h5⟩
  · cases h
theorem storeT_ok (hm : MemR Γ m st) {t : TypeId} {x w : TV} {a b : AVal} (hx : R Γ x.t x.v false [a]) (hw : R Γ w.t w.v false [b]) : OkM none Γ m st ((astore P t a b st).map fun s => (AVal.any, s)) (storeT P t x w m) := by
  unfold storeT
  cases hf : fitsT P t w.t with
  | false => exact .no
  | true =>
    have hfit := fits_R hf hw
    obtain ⟨f1, f2, f3⟩ := fitsT_row hf
    simp only [cond_true]
    split
    · rename_i id off _
      simp only [R] at hx; obtain ⟨r, n, hg, hx⟩ := hx; cases hx
      have hr := hm.at id
      split
      · rename_i e u v hreg
        rw [hreg] at hr
        obtain ⟨k1, k2, k3, r', c, k4, k5, k6⟩ := hr
        rw [hg] at k4; cases k4
        split
        · rename_i y hy
          cases hc : (y.t.isV && y.t.okRow && Nat.beq y.t.size u.size) with
          | false => exact .no
          | true =>
            simp only [Bool.and_eq_true, Nat.beq_eq] at hc
            obtain ⟨⟨c1, c2⟩, c3⟩ := hc
            obtain ⟨g1, g2, g3, g4, g5, g6⟩ := putTop_R (u := ⟨u, v⟩) k6 k1 k2 hw f1 hy
            refine .ok (a := .any) (st' := st.set r (.row e u.size [putCells c off b])) Γ ?_ (.inl rfl) (hm.set (getM_lt hreg (by simp)) hg ?_) (fun _ _ _ h => h) (.set (by intro _ _ _ h; cases h) (by intro _ _ h; cases h))
            · simp only [astore, cellsAt, k5, List.length_cons, List.length_nil, if_true, List.getElem?_cons_zero, Option.map_some, rowTy]
              rw [if_pos ⟨hfit, g5, by rcases g6 with h | h <;> simp [h]⟩]
              simp
            · refine ⟨c1, c2, by rw [c3]; exact k3, r, putCells c off b, by rw [c3]; exact hg, ?_, g1⟩
              rw [List.getElem?_set_self (hm.lt _ _ _ _ hg), c3]
        · exact .no
      · exact .no
    · rename_i id off i
      simp only [R] at hx; obtain ⟨r, n, len, hg, hx⟩ := hx; cases hx
      have hr := hm.at id
      split
      · rename_i e u xs hreg
        rw [hreg] at hr
        obtain ⟨k1, k2, k3, k4, k5⟩ := hr
        refine .opt fun z hz => ?_
        rcases k5 with ⟨rfl, k5⟩ | ⟨r', as, k5, k6, k7⟩
        · simp at hz
        · rw [hg] at k5; cases k5
          obtain ⟨c, hb1, hb2⟩ := All2_get k7 hz
          split
          · rename_i y hy
            split
            · rename_i q hq
              obtain ⟨g1, g2, g3, g4, g5, g6⟩ := putTop_R (u := ⟨u, z⟩) hb2 k1 k3 hw f1 hy
              refine .ok (a := .any) (st' := st.set r (.row e u.size (as.set i (putCells c off b)))) Γ ?_ (.inl rfl) (hm.set (getM_lt hreg (by simp)) hg ?_) (fun _ _ _ h => h) (.set (by intro _ _ _ h; cases h) (by intro _ _ h; cases h))
              · simp only [astore, cellsAt, k6, All2_len k7, if_true, hb1, Option.map_some, rowTy]
                rw [if_pos ⟨hfit, g5, by rcases g6 with h | h <;> simp [h]⟩]
                rfl
              · refine ⟨k1, k2, k3, k4, .inr ⟨r, _, by rw [List.length_set]; exact hg, List.getElem?_set_self (hm.lt _ _ _ _ hg), ?_⟩⟩
                exact All2_set k7 (coerceN_R hq g1)
            · exact .no
          · exact .no
      · exact .no
    · exact .no
theorem boxT_ok (hm : MemR Γ m st) {ro : Bool} {t : TypeId} {w : TV} {b : AVal} (hw : R Γ w.t w.v false [b]) : OkM d Γ m st (abox P t b st) (boxT P ro t w m) := by
  unfold boxT
  cases hf : (fitsT P t w.t && (!ro || w.t.closed)) with
  | false => exact .no
  | true =>
    rw [Bool.and_eq_true] at hf
    obtain ⟨hf, hc⟩ := hf
    have hfit := fits_R hf hw
    obtain ⟨f1, f2, f3⟩ := fitsT_row hf
    have hl := R_len (R_cells f1 hw)
    refine .ok (a := .ptr st.length 1 0 0) (st' := st ++ [.row t b.cells.length [b]]) (more Γ m.length (some (st.length, w.t.size, 1))) ?_ (.inr ⟨rfl, st.length, w.t.size, more_at, rfl⟩) (hm.more ?_) (fun j y _ h => more_ext hm j y h) .more
    · simp only [abox, hfit, if_true]
    · rw [hl]
      have hat : (st ++ [AReg.row t w.t.size [b]])[st.length]? = some (.row t w.t.size [b]) := by simp
      cases ro with
      | false => exact ⟨f1, f2, f3, st.length, b, more_at, hat, R_ext (fun j x _ hx => more_ext hm j x hx) hw⟩
      | true => exact ⟨f1, by simpa using hc, f2, f3, st.length, b, more_at, hat, R_ext (fun j x _ hx => more_ext hm j x hx) hw⟩
theorem allocT_ok (hm : MemR Γ m st) {ro : Bool} {t : TypeId} : OkM d Γ m st (aalloc P t st) (allocT P ro t m) := by
  unfold allocT
  split
  · rename_i z hz
    obtain ⟨h1, a, h2, h3⟩ := zeroT_R (Γ := Γ) hz
    have := boxT_ok (d := d) (P := P) (ro := ro) (t := t) hm h3
    unfold aalloc
    rw [h2, Option.bind_some]
    exact this
  · exact .no
end
end Go.TY
