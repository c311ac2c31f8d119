/- Values told of another type; constants; what a function hands back. -/
import Derived.Test.YtnafmjbakholcaaDoorT2
set_option linter.unusedVariables false
set_option linter.unusedSimpArgs false
namespace Go.TY
open Go.EM

/-- Regions told anew: those of p. -/
structure Moved (f : CF) (p : Nat → Prop) (Γ Γ' : Ctx) : Prop where
  mu : ∀ j, p j → ∀ y, Γ (f.mu j) = some y → Γ' j = some y
  fr : ∀ j, p j → f.fr j = true → Γ' j = some none
theorem Moved.no {p : Nat → Prop} {Γ : Ctx} : Moved noFr p Γ Γ := ⟨fun j _ y h => h, fun j _ h => by cases h⟩
theorem fixed_mu : ∀ {u : Ty} {mu : Nat → Nat} {j : Nat}, u.fixed mu = true → u.names j = true → mu j = j
  | .sl t, mu, j, h, k => fixed_mu (u := t) h k
  | .agg t, mu, j, h, k => fixed_mu (u := t) h k
  | .arr _ t, mu, j, h, k => fixed_mu (u := t) h k
  | .tup t, mu, j, h, k => fixed_mu (u := t) h k
  | .rp t _, mu, j, h, k => fixed_mu (u := t) h k
  | .cons t ts, mu, j, h, k => by
    simp only [Ty.fixed, Ty.names, Bool.and_eq_true, Bool.or_eq_true] at h k
    rcases k with k | k
    · exact fixed_mu h.1 k
    · exact fixed_mu h.2 k
  | .own i, mu, j, h, k => by simp only [Ty.fixed, Ty.names, Nat.beq_eq] at h k; subst k; exact h
  | .it i, mu, j, h, k => by simp only [Ty.fixed, Ty.names, Nat.beq_eq] at h k; subst k; exact h
  | .bx i _, mu, j, h, k => by simp only [Ty.fixed, Ty.names, Nat.beq_eq] at h k; subst k; exact h
  | .ptr i _, mu, j, h, k => by simp only [Ty.fixed, Ty.names, Nat.beq_eq] at h k; subst k; exact h
  | .int _, mu, j, h, k => by cases k
  | .bool, mu, j, h, k => by cases k
  | .str, mu, j, h, k => by cases k
  | .unit, mu, j, h, k => by cases k
  | .nilsl, mu, j, h, k => by cases k
  | .nilp, mu, j, h, k => by cases k
  | .undef, mu, j, h, k => by cases k
  | .any, mu, j, h, k => by cases k
section
variable {f : CF} {p : Nat → Prop} {Γ Γ' : Ctx}
theorem cast_R {w : TV} {u : Ty} {x : u.V} {c : Bool} {l : List AVal} (hm : Moved f p Γ Γ') (hp : ∀ j, u.names j = true → p j) (hf : u.fixed f.mu = true) (h : castV w.t w.v u (fun x => x) = some x) (hr : R Γ w.t w.v c l) : R Γ' u x c l := by
  obtain ⟨t, v⟩ := w
  obtain ⟨e, hx⟩ := castV_some h
  simp only at e
  subst e
  subst hx
  refine R_ext (fun j y hj hy => hm.mu j (hp j hj) y ?_) hr
  rw [fixed_mu hf hj]; exact hy
theorem sameTo_R {w : TV} {u : Ty} {x : u.V} {c : Bool} {l : List AVal} (hm : Moved f p Γ Γ') (hp : ∀ j, u.names j = true → p j) (h : sameTo f w u = some x) (hr : R Γ w.t w.v c l) : R Γ' u x c l := by
  unfold sameTo at h
  cases hf : u.fixed f.mu with
  | false => rw [hf] at h; cases h
  | true => rw [hf] at h; exact cast_R hm hp hf h hr
theorem cellTo_R {w : TV} {u : Ty} {x : u.V} {a : AVal} (hm : Moved f p Γ Γ') (hp : ∀ j, u.names j = true → p j) (hw : w.t.isAgg = false) (hwv : w.t.isV = true) (h : cellTo f w u = some x) (hr : R Γ w.t w.v false [a]) : R Γ' u x false [a] := by
  unfold cellTo at h
  split at h
  · rename_i t
    split at h
    · rename_i ht
      obtain ⟨wt, wv⟩ := w
      simp only at ht
      subst ht
      cases h
      simp only [R] at hr ⊢
      cases hr; refine .inl ⟨?_, ?_⟩ <;> first | trivial | rfl
    · exact sameTo_R hm hp h hr
  · rename_i id
    split at h
    · rename_i ht
      obtain ⟨wt, wv⟩ := w
      simp only at ht
      subst ht
      cases hf : f.fr id with
      | false => rw [hf] at h; cases h
      | true =>
        simp only [R] at hr ⊢
        rw [hm.fr id (hp id (by simp [Ty.names])) hf]
        exact hr
    · rename_i k ht
      obtain ⟨wt, wv⟩ := w
      simp only at ht
      subst ht
      cases hk : Nat.beq (f.mu id) k with
      | false => rw [hk] at h; cases h
      | true =>
        rw [Nat.beq_eq] at hk
        simp only [R] at hr ⊢
        cases hg : Γ k with
        | none => rw [hg] at hr; exact hr.elim
        | some y =>
          rw [hg] at hr
          rw [hm.mu id (hp id (by simp [Ty.names])) y (by rw [hk]; exact hg)]
          exact hr
    · cases h
  · cases hc : w.t.isCell with
    | false => rw [hc] at h; cases h
    | true =>
      simp only [R]
      refine ⟨a, rfl, ?_⟩
      have h1 := R_mode false true hc hr
      have h2 : w.t.okRow = true := by
        cases hwt : w.t <;> rw [hwt] at hc hw <;> first | rfl | cases hc | cases hw
      have := R_isCell h2 h1
      simpa using this
  · exact sameTo_R hm hp h hr
/-- Cells, one by one. -/
def CellsR (Γ : Ctx) (l : List TV) (cs : List AVal) : Prop := All2 (fun w a => w.t.isAgg = false ∧ w.t.isV = true ∧ R Γ w.t w.v false [a]) l cs
theorem cellsT_R : ∀ {t : Ty} {v : t.V} {cs : List AVal}, R Γ t v true cs → CellsR Γ (cellsT t v) cs
  | .cons t ts, v, cs, h => by
    simp only [R] at h
    obtain ⟨l1, l2, rfl, h1, h2⟩ := h
    exact All2_app (cellsT_R h1) (cellsT_R h2)
  | .unit, v, cs, h => by simp only [R] at h; subst h; trivial
  | .agg t, v, cs, h => by simp only [R] at h; exact cellsT_R (t := t) h
  | .arr n t, v, cs, h => by
    simp only [R] at h
    obtain ⟨_, ls, rfl, h⟩ := h
    have : ∀ (v : List t.V) (ls : List (List AVal)), All2 (fun x c => R Γ t x true c) v ls → CellsR Γ (v.flatMap (cellsT t)) ls.flatten := by
      intro v
      induction v with
      | nil => intro ls h; cases ls with | nil => trivial | cons _ _ => exact h.elim
      | cons x v ih =>
        intro ls h
        cases ls with
        | nil => exact h.elim
        | cons c ls => rw [List.flatten_cons, List.flatMap_cons]; exact All2_app (cellsT_R h.1) (ih ls h.2)
    exact this v ls h
  | .int k, v, cs, h => by have h' := h; simp only [R] at h'; subst h'; exact ⟨⟨rfl, rfl, R_modeV true false rfl rfl h⟩, trivial⟩
  | .bool, v, cs, h => by have h' := h; simp only [R] at h'; subst h'; exact ⟨⟨rfl, rfl, R_modeV true false rfl rfl h⟩, trivial⟩
  | .str, v, cs, h => by have h' := h; simp only [R] at h'; subst h'; exact ⟨⟨rfl, rfl, R_modeV true false rfl rfl h⟩, trivial⟩
  | .sl t, v, cs, h => by
    obtain ⟨a, rfl⟩ := R_one (t := .sl t) rfl (R_modeV true false rfl rfl h)
    exact ⟨⟨rfl, rfl, R_modeV true false rfl rfl h⟩, trivial⟩
  | .tup t, v, cs, h => by
    obtain ⟨a, rfl⟩ := R_one (t := .tup t) rfl (R_modeV true false rfl rfl h)
    exact ⟨⟨rfl, rfl, R_modeV true false rfl rfl h⟩, trivial⟩
  | .nilsl, v, cs, h => by have h' := h; simp only [R] at h'; subst h'; exact ⟨⟨rfl, rfl, R_modeV true false rfl rfl h⟩, trivial⟩
  | .nilp, v, cs, h => by have h' := h; simp only [R] at h'; subst h'; exact ⟨⟨rfl, rfl, R_modeV true false rfl rfl h⟩, trivial⟩
  | .undef, v, cs, h => by have h' := h; simp only [R] at h'; subst h'; exact ⟨⟨rfl, rfl, R_modeV true false rfl rfl h⟩, trivial⟩
  | .any, v, cs, h => by
    obtain ⟨a, rfl⟩ := R_one (t := .any) rfl (R_modeV true false rfl rfl h)
    exact ⟨⟨rfl, rfl, R_modeV true false rfl rfl h⟩, trivial⟩
  | .own id, v, cs, h => by
    obtain ⟨a, rfl⟩ := R_one (t := .own id) rfl (R_modeV true false rfl rfl h)
    exact ⟨⟨rfl, rfl, R_modeV true false rfl rfl h⟩, trivial⟩
  | .it id, v, cs, h => by
    obtain ⟨a, rfl⟩ := R_one (t := .it id) rfl (R_modeV true false rfl rfl h)
    exact ⟨⟨rfl, rfl, R_modeV true false rfl rfl h⟩, trivial⟩
  | .bx id o, v, cs, h => by
    obtain ⟨a, rfl⟩ := R_one (t := .bx id o) rfl (R_modeV true false rfl rfl h)
    exact ⟨⟨rfl, rfl, R_modeV true false rfl rfl h⟩, trivial⟩
  | .ptr id o, v, cs, h => by
    obtain ⟨a, rfl⟩ := R_one (t := .ptr id o) rfl (R_modeV true false rfl rfl h)
    exact ⟨⟨rfl, rfl, R_modeV true false rfl rfl h⟩, trivial⟩
  | .rp t o, v, cs, h => by
    obtain ⟨a, rfl⟩ := R_one (t := .rp t o) rfl (R_modeV true false rfl rfl h)
    exact ⟨⟨rfl, rfl, R_modeV true false rfl rfl h⟩, trivial⟩
theorem ofCells_leaf {u : Ty} (h1 : u.isAgg = false) (h2 : u.isV = true) {l : List TV} {x : u.V} {rest : List TV} (h : ofCells f u l = some (x, rest)) : ∃ w, l = w :: rest ∧ cellTo f w u = some x := by
  cases u <;> first | (cases h1; done) | (cases h2; done) | skip
  all_goals
    cases l with
    | nil => simp [ofCells] at h
    | cons w l =>
      simp only [ofCells, Option.map_eq_some_iff] at h
      obtain ⟨y, hy, e⟩ := h
      cases e
      exact ⟨w, rfl, hy⟩
theorem ofCells_R (hm : Moved f p Γ Γ') : ∀ {u : Ty} {l : List TV} {x : u.V} {rest : List TV} {cs : List AVal}, (∀ j, u.names j = true → p j) → ofCells f u l = some (x, rest) → CellsR Γ l cs → ∃ c1 c2, cs = c1 ++ c2 ∧ R Γ' u x true c1 ∧ CellsR Γ rest c2
  | .cons t ts, l, x, rest, cs, hp, h, hr => by
    simp only [ofCells, Option.bind_eq_some_iff, Option.map_eq_some_iff] at h
    obtain ⟨⟨y, l1⟩, h1, ⟨z, l2⟩, h2, e⟩ := h
    cases e
    obtain ⟨c1, c2, rfl, g1, g2⟩ := ofCells_R hm (fun j hj => hp j (by simp [Ty.names, hj])) h1 hr
    obtain ⟨d1, d2, rfl, k1, k2⟩ := ofCells_R hm (fun j hj => hp j (by simp [Ty.names, hj])) h2 g2
    exact ⟨c1 ++ d1, d2, by simp, ⟨c1, d1, rfl, g1, k1⟩, k2⟩
  | .unit, l, x, rest, cs, hp, h, hr => by
    simp only [ofCells] at h
    cases h
    exact ⟨[], cs, rfl, by simp [R], hr⟩
  | .agg t, l, x, rest, cs, hp, h, hr => by
    simp only [ofCells] at h
    exact ofCells_R (u := t) hm hp h hr
  | .arr n t, l, x, rest, cs, hp, h, hr => by
    simp only [ofCells] at h
    have : ∀ (n : Nat) (l : List TV) (xs : List t.V) (rest : List TV) (cs : List AVal), ofN (ofCells f t) n l = some (xs, rest) → CellsR Γ l cs → xs.length = n ∧ ∃ ls c2, cs = List.flatten ls ++ c2 ∧ All2 (fun x c => R Γ' t x true c) xs ls ∧ CellsR Γ rest c2 := by
      intro n
      induction n with
      | zero => intro l xs rest cs h hr; simp only [ofN] at h; cases h; exact ⟨rfl, [], cs, rfl, trivial, hr⟩
      | succ n ih =>
        intro l xs rest cs h hr
        simp only [ofN, Option.bind_eq_some_iff, Option.map_eq_some_iff] at h
        obtain ⟨⟨y, l1⟩, h1, ⟨ys, l2⟩, h2, e⟩ := h
        cases e
        obtain ⟨c1, c2, rfl, g1, g2⟩ := ofCells_R (u := t) hm hp h1 hr
        obtain ⟨k0, ls, c3, rfl, k1, k2⟩ := ih _ _ _ _ h2 g2
        exact ⟨by simp [k0], c1 :: ls, c3, by simp, ⟨g1, k1⟩, k2⟩
    obtain ⟨k0, ls, c2, rfl, k1, k2⟩ := this n l x rest cs h hr
    exact ⟨ls.flatten, c2, rfl, ⟨k0, ls, rfl, k1⟩, k2⟩
  | .int k, l, x, rest, cs, hp, h, hr => leaf (.int k) rfl rfl hm hp h hr
  | .bool, l, x, rest, cs, hp, h, hr => leaf .bool rfl rfl hm hp h hr
  | .str, l, x, rest, cs, hp, h, hr => leaf .str rfl rfl hm hp h hr
  | .sl t, l, x, rest, cs, hp, h, hr => leaf (.sl t) rfl rfl hm hp h hr
  | .tup t, l, x, rest, cs, hp, h, hr => leaf (.tup t) rfl rfl hm hp h hr
  | .nilsl, l, x, rest, cs, hp, h, hr => leaf .nilsl rfl rfl hm hp h hr
  | .nilp, l, x, rest, cs, hp, h, hr => leaf .nilp rfl rfl hm hp h hr
  | .undef, l, x, rest, cs, hp, h, hr => leaf .undef rfl rfl hm hp h hr
  | .any, l, x, rest, cs, hp, h, hr => leaf .any rfl rfl hm hp h hr
  | .own id, l, x, rest, cs, hp, h, hr => leaf (.own id) rfl rfl hm hp h hr
  | .it id, l, x, rest, cs, hp, h, hr => leaf (.it id) rfl rfl hm hp h hr
  | .bx id o, l, x, rest, cs, hp, h, hr => leaf (.bx id o) rfl rfl hm hp h hr
  | .ptr id o, l, x, rest, cs, hp, h, hr => leaf (.ptr id o) rfl rfl hm hp h hr
  | .rp t o, l, x, rest, cs, hp, h, hr => leaf (.rp t o) rfl rfl hm hp h hr
where
  leaf (u : Ty) (h1 : u.isAgg = false) (h2 : u.isV = true) (hm : Moved f p Γ Γ') {l : List TV} {x : u.V} {rest : List TV} {cs : List AVal} (hp : ∀ j, u.names j = true → p j) (h : ofCells f u l = some (x, rest)) (hr : CellsR Γ l cs) : ∃ c1 c2, cs = c1 ++ c2 ∧ R Γ' u x true c1 ∧ CellsR Γ rest c2 := by
    obtain ⟨w, rfl, hw⟩ := ofCells_leaf h1 h2 h
    cases cs with
    | nil => exact hr.elim
    | cons a cs =>
      obtain ⟨⟨g1, g2, g3⟩, g4⟩ := hr
      exact ⟨[a], cs, rfl, R_modeV false true h1 h2 (cellTo_R hm hp g1 g2 hw g3), g4⟩
theorem isCell_agg {t : Ty} (h : t.isCell = true) : t.isAgg = false ∧ t.isV = true := by cases t <;> first | exact ⟨rfl, rfl⟩ | cases h
theorem coerceT_R {w : TV} {u : Ty} {x : u.V} {a : AVal} (hm : Moved f p Γ Γ') (hp : ∀ j, u.names j = true → p j) (h : coerceT f w u = some x) (hr : R Γ w.t w.v false [a]) : R Γ' u x false [a] := by
  unfold coerceT at h
  cases hb : (w.t.beq u && u.fixed f.mu) with
  | true =>
    rw [hb, cond_true] at h
    rw [Bool.and_eq_true] at hb
    exact cast_R hm hp hb.2 h hr
  | false =>
    rw [hb, cond_false] at h
    split at h
    · rename_i u'
      split at h
      · rename_i t ht
        split at h
        · rename_i y hy
          cases h
          obtain ⟨wt, wv⟩ := w
          simp only at ht
          subst ht
          have hr' := hr
          simp only [R] at hr'
          obtain ⟨cs, e, hc⟩ := hr'
          cases e
          have hl : CellsR Γ (cellsT (.agg t) wv) cs := cellsT_R (t := .agg t) (v := wv) hc
          obtain ⟨c1, c2, rfl, g1, g2⟩ := ofCells_R (u := .agg u') hm hp hy hl
          cases c2 with
          | nil =>
            rw [List.append_nil]
            exact ⟨c1, rfl, g1⟩
          | cons _ _ => exact g2.elim
        · cases h
      · cases h
    · cases h
    · cases h
    · cases h
    · cases hc : w.t.isCell with
      | false => rw [hc] at h; cases h
      | true =>
        rw [hc] at h
        obtain ⟨g1, g2⟩ := isCell_agg hc
        exact cellTo_R hm hp g1 g2 h hr
end
section
variable {Γ : Ctx}
theorem coerceN_R {w : TV} {u : Ty} {x : u.V} {a : AVal} (h : coerceT noFr w u = some x) (hr : R Γ w.t w.v false [a]) : R Γ u x false [a] :=
  coerceT_R (f := noFr) (p := fun _ => True) Moved.no (fun _ _ => trivial) h hr
def ValsR (Γ : Ctx) (l : List TV) (as : List AVal) : Prop := All2 (fun w a => w.t.isV = true ∧ R Γ w.t w.v false [a]) l as
theorem coerceL_R : ∀ {u : Ty} {l : List TV} {x : u.V} {as : List AVal}, coerceL u l = some x → ValsR Γ l as → R Γ u x false as
  | .cons t ts, w :: l, x, a :: as, h, hr => by
    simp only [coerceL, Option.bind_eq_some_iff, Option.map_eq_some_iff] at h
    obtain ⟨y, h1, z, h2, rfl⟩ := h
    exact ⟨[a], as, rfl, coerceN_R h1 hr.1.2, coerceL_R h2 hr.2⟩
  | .cons t ts, w :: l, x, [], h, hr => hr.elim
  | .cons t ts, [], x, as, h, hr => by simp [coerceL] at h
  | .unit, [], x, [], h, hr => by simp [R]
  | .unit, [], x, a :: as, h, hr => hr.elim
  | .unit, w :: l, x, as, h, hr => by simp [coerceL] at h
  | .int _, l, x, as, h, hr => by simp [coerceL] at h
  | .bool, l, x, as, h, hr => by simp [coerceL] at h
  | .str, l, x, as, h, hr => by simp [coerceL] at h
  | .sl _, l, x, as, h, hr => by simp [coerceL] at h
  | .agg _, l, x, as, h, hr => by simp [coerceL] at h
  | .arr _ _, l, x, as, h, hr => by simp [coerceL] at h
  | .tup _, l, x, as, h, hr => by simp [coerceL] at h
  | .nilsl, l, x, as, h, hr => by simp [coerceL] at h
  | .nilp, l, x, as, h, hr => by simp [coerceL] at h
  | .undef, l, x, as, h, hr => by simp [coerceL] at h
  | .any, l, x, as, h, hr => by simp [coerceL] at h
  | .own _, l, x, as, h, hr => by simp [coerceL] at h
  | .it _, l, x, as, h, hr => by simp [coerceL] at h
  | .bx _ _, l, x, as, h, hr => by simp [coerceL] at h
  | .ptr _ _, l, x, as, h, hr => by simp [coerceL] at h
  | .rp _ _, l, x, as, h, hr => by simp [coerceL] at h
theorem coerceAll_R {u : Ty} : ∀ {l : List TV} {xs : List u.V} {as : List AVal}, coerceAll u l = some xs → ValsR Γ l as → All2 (fun x a => R Γ u x false [a]) xs as
  | [], xs, [], h, _ => by simp only [coerceAll] at h; cases h; trivial
  | [], xs, a :: as, h, hr => hr.elim
  | w :: l, xs, [], h, hr => hr.elim
  | w :: l, xs, a :: as, h, hr => by
    simp only [coerceAll, Option.bind_eq_some_iff, Option.map_eq_some_iff] at h
    obtain ⟨y, h1, z, h2, rfl⟩ := h
    exact ⟨coerceN_R h1 hr.1.2, coerceAll_R h2 hr.2⟩

/-! ### constants -/
mutual
theorem constT_R : ∀ {a : AVal} {w : TV}, constT a = some w → w.t.isV = true ∧ R Γ w.t w.v false [a]
  | .int k n, w, h => by simp only [constT] at h; cases h; exact ⟨rfl, rfl⟩
  | .bool b, w, h => by simp only [constT] at h; cases h; exact ⟨rfl, rfl⟩
  | .str s, w, h => by simp only [constT] at h; cases h; exact ⟨rfl, rfl⟩
  | .nil, w, h => by simp only [constT] at h; cases h; exact ⟨rfl, rfl⟩
  | .nilptr, w, h => by simp only [constT] at h; cases h; exact ⟨rfl, rfl⟩
  | .agg cs, w, h => by
    simp only [constT, Option.map_eq_some_iff] at h
    obtain ⟨x, hx, rfl⟩ := h
    exact ⟨rfl, cs, rfl, constL_R hx⟩
  | .tup _, w, h => by simp [constT] at h
  | .tree .., w, h => by simp [constT] at h
  | .own .., w, h => by simp [constT] at h
  | .ptr .., w, h => by simp [constT] at h
  | .rptr _, w, h => by simp [constT] at h
  | .func .., w, h => by simp [constT] at h
  | .nilfunc, w, h => by simp [constT] at h
  | .iface .., w, h => by simp [constT] at h
  | .niliface, w, h => by simp [constT] at h
  | .map _, w, h => by simp [constT] at h
  | .nilmap, w, h => by simp [constT] at h
  | .any, w, h => by simp [constT] at h
theorem constL_R : ∀ {l : List AVal} {w : TV}, constL l = some w → R Γ w.t w.v true l
  | [], w, h => by simp only [constL] at h; cases h; rfl
  | a :: l, w, h => by
    simp only [constL, Option.bind_eq_some_iff] at h
    obtain ⟨x, hx, y, hy, h⟩ := h
    cases hc : x.t.isCell with
    | false => rw [hc] at h; cases h
    | true =>
      rw [hc] at h
      cases h
      exact ⟨[a], l, rfl, R_mode false true hc (constT_R hx).2, constL_R hy⟩
end
theorem readA_R : ∀ {u : Ty} {l : List AVal} {v : u.V} {rest : List AVal}, readA u l = some (v, rest) → ∃ c, l = c ++ rest ∧ R Γ u v true c
  | .cons t ts, l, v, rest, h => by
    simp only [readA, Option.bind_eq_some_iff, Option.map_eq_some_iff] at h
    obtain ⟨⟨x, l1⟩, h1, ⟨y, l2⟩, h2, e⟩ := h
    cases e
    obtain ⟨c1, rfl, g1⟩ := readA_R h1
    obtain ⟨c2, e2, g2⟩ := readA_R h2
    simp only at e2
    subst e2
    exact ⟨c1 ++ c2, by simp, c1, c2, rfl, g1, g2⟩
  | .unit, l, v, rest, h => by simp only [readA] at h; cases h; exact ⟨[], rfl, rfl⟩
  | .agg t, l, v, rest, h => by simp only [readA] at h; exact readA_R (u := t) h
  | .arr n t, l, v, rest, h => by
    simp only [readA] at h
    have : ∀ (n : Nat) (l : List AVal) (xs : List t.V) (rest : List AVal), readN (readA t) n l = some (xs, rest) → xs.length = n ∧ ∃ ls, l = List.flatten ls ++ rest ∧ All2 (fun x c => R Γ t x true c) xs ls := by
      intro n
      induction n with
      | zero => intro l xs rest h; simp only [readN] at h; cases h; exact ⟨rfl, [], rfl, trivial⟩
      | succ n ih =>
        intro l xs rest h
        simp only [readN, Option.bind_eq_some_iff, Option.map_eq_some_iff] at h
        obtain ⟨⟨y, l1⟩, h1, ⟨ys, l2⟩, h2, e⟩ := h
        cases e
        obtain ⟨c1, rfl, g1⟩ := readA_R (u := t) h1
        obtain ⟨k0, ls, e2, k1⟩ := ih _ _ _ h2
        simp only at e2
        subst e2
        exact ⟨by simp [k0], c1 :: ls, by simp, ⟨g1, k1⟩⟩
    obtain ⟨k0, ls, rfl, k1⟩ := this n l v rest h
    exact ⟨ls.flatten, rfl, k0, ls, rfl, k1⟩
  | .int k, .int k' n :: l, v, rest, h => by
    simp only [readA] at h
    cases hk : kbeq k k' with
    | false => rw [hk] at h; cases h
    | true =>
      rw [hk] at h; cases h
      exact ⟨[.int k' n], rfl, by rw [kbeq_eq hk]; rfl⟩
  | .bool, .bool b :: l, v, rest, h => by simp only [readA] at h; cases h; exact ⟨[_], rfl, rfl⟩
  | .str, .str s :: l, v, rest, h => by simp only [readA] at h; cases h; exact ⟨[_], rfl, rfl⟩
  | .nilsl, .nil :: l, v, rest, h => by simp only [readA] at h; cases h; exact ⟨[.nil], rfl, rfl⟩
  | .nilp, .nilptr :: l, v, rest, h => by simp only [readA] at h; cases h; exact ⟨[.nilptr], rfl, rfl⟩
  | .int k, [], v, rest, h => by simp [readA] at h
  | .bool, [], v, rest, h => by simp [readA] at h
  | .str, [], v, rest, h => by simp [readA] at h
  | .nilsl, [], v, rest, h => by simp [readA] at h
  | .nilp, [], v, rest, h => by simp [readA] at h
  | .int k, .bool _ :: l, v, rest, h => by simp [readA] at h
  | .int k, .str _ :: l, v, rest, h => by simp [readA] at h
  | .int k, .agg _ :: l, v, rest, h => by simp [readA] at h
  | .int k, .tup _ :: l, v, rest, h => by simp [readA] at h
  | .int k, .nil :: l, v, rest, h => by simp [readA] at h
  | .int k, .tree .. :: l, v, rest, h => by simp [readA] at h
  | .int k, .own .. :: l, v, rest, h => by simp [readA] at h
  | .int k, .ptr .. :: l, v, rest, h => by simp [readA] at h
  | .int k, .rptr _ :: l, v, rest, h => by simp [readA] at h
  | .int k, .nilptr :: l, v, rest, h => by simp [readA] at h
  | .int k, .func .. :: l, v, rest, h => by simp [readA] at h
  | .int k, .nilfunc :: l, v, rest, h => by simp [readA] at h
  | .int k, .iface .. :: l, v, rest, h => by simp [readA] at h
  | .int k, .niliface :: l, v, rest, h => by simp [readA] at h
  | .int k, .map _ :: l, v, rest, h => by simp [readA] at h
  | .int k, .nilmap :: l, v, rest, h => by simp [readA] at h
  | .int k, .any :: l, v, rest, h => by simp [readA] at h
  | .bool, a :: l, v, rest, h => by cases a <;> first | (simp [readA] at h; done) | (simp only [readA] at h; cases h; exact ⟨[_], rfl, rfl⟩)
  | .str, a :: l, v, rest, h => by cases a <;> first | (simp [readA] at h; done) | (simp only [readA] at h; cases h; exact ⟨[_], rfl, rfl⟩)
  | .nilsl, a :: l, v, rest, h => by cases a <;> first | (simp [readA] at h; done) | (simp only [readA] at h; cases h; exact ⟨[_], rfl, rfl⟩)
  | .nilp, a :: l, v, rest, h => by cases a <;> first | (simp [readA] at h; done) | (simp only [readA] at h; cases h; exact ⟨[_], rfl, rfl⟩)
  | .sl _, l, v, rest, h => by cases l <;> simp [readA] at h
  | .tup _, l, v, rest, h => by cases l <;> simp [readA] at h
  | .undef, l, v, rest, h => by cases l <;> simp [readA] at h
  | .any, l, v, rest, h => by cases l <;> simp [readA] at h
  | .own _, l, v, rest, h => by cases l <;> simp [readA] at h
  | .it _, l, v, rest, h => by cases l <;> simp [readA] at h
  | .bx _ _, l, v, rest, h => by cases l <;> simp [readA] at h
  | .ptr _ _, l, v, rest, h => by cases l <;> simp [readA] at h
  | .rp _ _, l, v, rest, h => by cases l <;> simp [readA] at h
theorem zeroT_R {P : Program} {t : TypeId} {w : TV} (h : zeroT P t = some w) : w.t.isV = true ∧ ∃ a, zeroOf P t = some a ∧ R Γ w.t w.v false [a] := by
  unfold zeroT at h
  simp only [Option.bind_eq_some_iff] at h
  obtain ⟨a, ha, u, hu, ⟨v, rest⟩, hv, h⟩ := h
  split at h
  · rename_i hrest
    simp only at hrest
    subst hrest
    cases hc : (isB u.isAgg a.isAgg && u.isV) with
    | false => rw [hc] at h; cases h
    | true =>
      rw [hc] at h
      rw [Bool.and_eq_true] at hc
      cases h
      obtain ⟨c, hc1, hr⟩ := readA_R (Γ := Γ) hv
      rw [List.append_nil] at hc1
      refine ⟨hc.2, a, ha, ?_⟩
      obtain ⟨b, hb1, hb2, hb3, hb4⟩ := R_ofCells hc.2 hr
      have : b = a := by
        have e := isB_eq hc.1
        cases hg : u.isAgg with
        | true =>
          rw [hb3 hg, ← hc1]
          rw [hg] at e
          cases a <;> first | rfl | cases e
        | false =>
          have hl := hb4 hg
          rw [hg] at e
          rw [hl] at hc1
          cases a <;> first | (simp only [AVal.cells] at hc1; exact (List.cons.inj hc1).1.symm) | cases e
      rw [← this]; exact hb2
  · cases h
theorem normT_cases {P : Program} {t : TypeId} {w : TV} : normT P t w = w ∨ (w.t.isAgg = true ∧ ∃ u x, coerceT noFr w u = some x ∧ normT P t w = ⟨u, x⟩) := by
  unfold normT
  split
  · rename_i hw
    split
    · rename_i u hu
      split
      · rename_i x hx
        exact .inr ⟨by rw [hw]; rfl, u, x, hx, rfl⟩
      · exact .inl rfl
    · exact .inl rfl
  · exact .inl rfl
theorem coerceT_agg {f : CF} {w : TV} {u : Ty} {x : u.V} (hw : w.t.isAgg = true) (h : coerceT f w u = some x) : u.isAgg = true := by
  unfold coerceT at h
  cases hb : (w.t.beq u && u.fixed f.mu) with
  | true =>
    rw [Bool.and_eq_true] at hb
    rw [← Ty.beq_eq hb.1]; exact hw
  | false =>
    rw [hb, cond_false] at h
    split at h
    · rfl
    · cases h
    · cases h
    · cases h
    · cases hc : w.t.isCell with
      | false => rw [hc] at h; cases h
      | true => have := (isCell_agg hc).1; rw [hw] at this; cases this
theorem normT_R {P : Program} {t : TypeId} {w : TV} {a : AVal} (hv : w.t.isV = true) (hr : R Γ w.t w.v false [a]) : (normT P t w).t.isV = true ∧ R Γ (normT P t w).t (normT P t w).v false [a] := by
  rcases normT_cases (P := P) (t := t) (w := w) with h | ⟨hw, u, x, hx, h⟩
  · rw [h]; exact ⟨hv, hr⟩
  · rw [h]
    refine ⟨?_, coerceN_R hx hr⟩
    have := coerceT_agg hw hx
    cases u <;> first | rfl | cases this
end
end Go.TY
