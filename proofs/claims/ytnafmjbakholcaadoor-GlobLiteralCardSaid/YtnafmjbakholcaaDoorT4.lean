/- Operations that leave memory alone: what the typed ones come to, the abstract machine's come to, too. -/
import Derived.Test.YtnafmjbakholcaaDoorT3
set_option linter.unusedVariables false
set_option linter.unusedSimpArgs false
namespace Go.TY
open Go.EM

/-- What a region is of the abstract machine's memory. -/
def RegR (Γ : Ctx) (st : Store) (id : Nat) : Reg → Prop
  | .box e t v => t.isV = true ∧ t.okRow = true ∧ t.size ≠ 0 ∧ ∃ r a, Γ id = some (some (r, t.size, 1)) ∧ st[r]? = some (.row e t.size [a]) ∧ R Γ t v false [a]
  | .cbox e t v => t.isV = true ∧ t.closed = true ∧ t.okRow = true ∧ t.size ≠ 0 ∧ ∃ r a, Γ id = some (some (r, t.size, 1)) ∧ st[r]? = some (.row e t.size [a]) ∧ R Γ t v false [a]
  | .row e t xs => t.isV = true ∧ t.closed = true ∧ t.okRow = true ∧ t.size ≠ 0 ∧ ((xs = [] ∧ Γ id = some none) ∨ ∃ r as, Γ id = some (some (r, t.size, xs.length)) ∧ st[r]? = some (.row e t.size as) ∧ All2 (fun x a => R Γ t x false [a]) xs as)
  | .iter s pos => ∃ r, Γ id = some (some (r, 0, 0)) ∧ st[r]? = some (.iter s pos)
  | .gone => True
structure MemR (Γ : Ctx) (m : Mem) (st : Store) : Prop where
  reg : ∀ id, id < m.length → RegR Γ st id (getM m id)
  out : ∀ id, m.length ≤ id → Γ id = none
  inj : ∀ i j r n l n' l', Γ i = some (some (r, n, l)) → Γ j = some (some (r, n', l')) → i = j
  lt : ∀ i r n l, Γ i = some (some (r, n, l)) → r < st.length
theorem getM_out : ∀ {m : Mem} {i : Nat}, m.length ≤ i → getM m i = .gone
  | [], _, _ => rfl
  | _ :: m, 0, h => by simp at h
  | _ :: m, i + 1, h => getM_out (m := m) (by simpa using h)
theorem getM_lt {m : Mem} {i : Nat} {g : Reg} (h : getM m i = g) (hg : g ≠ .gone) : i < m.length := by
  rcases Nat.lt_or_ge i m.length with h' | h'
  · exact h'
  · rw [getM_out h'] at h; exact absurd h.symm hg
theorem MemR.at {Γ : Ctx} {m : Mem} {st : Store} (h : MemR Γ m st) (id : Nat) : RegR Γ st id (getM m id) := by
  rcases Nat.lt_or_ge id m.length with h' | h'
  · exact h.reg id h'
  · rw [getM_out h']; trivial

def OkP (Γ : Ctx) (m : Mem) (av : Option AVal) (res : OR) : Prop :=
  ∀ (X : Type) (K : TV → Mem → Option Nat → Option X) (x : X), res.go K = some x → ∃ w a, K w m none = some x ∧ av = some a ∧ w.t.isV = true ∧ R Γ w.t w.v false [a]
section
variable {Γ : Ctx} {m : Mem} {st : Store} {P : Program}
theorem OkP.no {av : Option AVal} : OkP Γ m av .no := fun X K x h => by cases h
theorem OkP.ok {w : TV} {a : AVal} {av : Option AVal} (hv : w.t.isV = true) (hr : R Γ w.t w.v false [a]) (ha : av = some a) : OkP Γ m av (.ok w m none) := fun X K x h => ⟨w, a, h, ha, hv, hr⟩
theorem OkP.opt {A : Type} {y : Option A} {k : A → OR} {av : Option AVal} (h : ∀ z, y = some z → OkP Γ m av (k z)) : OkP Γ m av (.opt A y k) := fun X K x hx => by
  simp only [OR.go, Option.bind_eq_some_iff] at hx
  obtain ⟨z, hz, hx⟩ := hx
  exact h z hz X K x hx
theorem OkP.br {b : Bool} {p q : OR} {av : Option AVal} (h1 : b = true → OkP Γ m av p) (h2 : b = false → OkP Γ m av q) : OkP Γ m av (.br b p q) := fun X K x hx => by
  simp only [OR.go] at hx
  cases b
  · exact h2 rfl X K x hx
  · exact h1 rfl X K x hx
theorem OkP.cond {b : Bool} {p q : OR} {av : Option AVal} (h1 : b = true → OkP Γ m av p) (h2 : b = false → OkP Γ m av q) : OkP Γ m av (Bool.rec q p b) := by
  cases b
  · exact h2 rfl
  · exact h1 rfl
theorem OkP.ofO {o : Option TV} {av : Option AVal} (h : ∀ w, o = some w → w.t.isV = true ∧ ∃ a, R Γ w.t w.v false [a] ∧ av = some a) : OkP Γ m av (ofO m o) := by
  cases o with
  | none => exact .no
  | some w => obtain ⟨h1, a, h2, h3⟩ := h w rfl; exact .ok h1 h2 h3
theorem ite_some {A : Type} {p : Prop} [Decidable p] {x : A} {y : A} (h : (if p then none else some x) = some y) : ¬ p ∧ x = y := by
  split at h
  · cases h
  · rename_i hp; cases h; exact ⟨hp, rfl⟩
theorem ite_some' {A : Type} {p : Prop} [Decidable p] {x : A} {y : A} (h : (if p then some x else none) = some y) : p ∧ x = y := by
  split at h
  · rename_i hp; cases h; exact ⟨hp, rfl⟩
  · cases h

theorem intT_ok {op : BinOp} {k : IntKind} {a b : Int} {t : TypeId} {lit : Bool} (h1 : op ≠ .shl) (h2 : op ≠ .shr) : OkP Γ m (abin P op t lit (.int k a) (.int k b)) (intT op k a b m) := by
  have e1 : (a == b) = decide (a = b) := by by_cases h : a = b <;> simp [h]
  have e2 : (a != b) = !decide (a = b) := by by_cases h : a = b <;> simp [h, bne]
  cases op <;> first | exact absurd rfl h1 | exact absurd rfl h2 | skip
  case quo =>
    refine .opt fun z hz => ?_
    obtain ⟨hb, rfl⟩ := ite_some hz
    exact .ok rfl rfl (by simp [abin, aint, hb])
  case rem =>
    refine .opt fun z hz => ?_
    obtain ⟨hb, rfl⟩ := ite_some hz
    exact .ok rfl rfl (by simp [abin, aint, hb])
  case eql => exact .ok rfl rfl (by simp [abin, aint, e1])
  case neq => exact .ok rfl rfl (by simp [abin, aint, e2])
  all_goals first | exact .no | exact .ok rfl rfl (by simp [abin, aint])
theorem shiftT_ok {op : BinOp} {k k' : IntKind} {a b : Int} {t : TypeId} {lit : Bool} (h : op = .shl ∨ op = .shr) : OkP Γ m (abin P op t lit (.int k a) (.int k' b)) (shiftT op k a b m) := by
  rcases h with rfl | rfl
  · refine .opt fun z hz => ?_
    obtain ⟨hb, rfl⟩ := ite_some hz
    exact .ok rfl rfl (by simp only [abin, ashift, if_neg hb])
  · refine .opt fun z hz => ?_
    obtain ⟨hb, rfl⟩ := ite_some hz
    exact .ok rfl rfl (by simp only [abin, ashift, if_neg hb])
theorem strT_ok {op : BinOp} {x y : List UInt8} {t : TypeId} {lit : Bool} : OkP Γ m (abin P op t lit (.str x) (.str y)) (strT op x y m) := by
  have e1 : (x == y) = decide (x = y) := by by_cases h : x = y <;> simp [h]
  have e3 : IntKind.i64.max = 9223372036854775807 := by decide
  cases op
  case add =>
    refine .opt fun z hz => ?_
    obtain ⟨hb, rfl⟩ := ite_some hz
    exact .ok rfl rfl (by simp only [abin, astr, e3, if_neg hb])
  all_goals first | exact .no | exact .ok rfl rfl (by simp [abin, astr, e1])

theorem partOk_at {ft : TypeId} {t : Ty} {v : t.V} {pre l1 l2 : List AVal} (h : partOk P ft t = true) (hr : R Γ t v true l1) : ∃ a, partA P ft (pre ++ (l1 ++ l2)) pre.length = some a ∧ R Γ t v false [a] := by
  unfold partOk at h
  unfold partA
  split at h
  · rename_i n d hn hd
    simp only [Bool.and_eq_true, Nat.beq_eq] at h
    obtain ⟨⟨h1, h2⟩, h3⟩ := h
    simp only [hn, hd]
    obtain ⟨a, g1, g2⟩ := pickA_here (l2 := l2) h3 h1.symm (isB_eq h2) hr
    refine ⟨a, ?_, g1⟩
    have := pickA_right (l1 := pre) (l2 := l1 ++ l2) (off := pre.length) (n := n) (ag := isAggD d) (Nat.le_refl _)
    rw [Nat.sub_self, g2] at this
    exact this
  · cases h
theorem aeqAll_R {f : AVal → AVal → TypeId → Option Bool} {g : TypeId → Ty → Bool} (hf : ∀ t ty x y a b, g t ty = true → R Γ ty x false [a] → R Γ ty y false [b] → f a b t = some (eqV ty x y)) :
    ∀ {fs : List Field} {row : Ty} {off : Nat} {x y : row.V} {p1 p2 c1 c2 : List AVal}, eqFs P g fs row off = true → R Γ row x true c1 → R Γ row y true c2 → p1.length = off → p2.length = off → aeqAll f P fs (p1 ++ c1) (p2 ++ c2) = some (eqV row x y)
  | [], .unit, off, x, y, p1, p2, c1, c2, h, _, _, _, _ => rfl
  | fd :: fs, .cons t ts, off, x, y, p1, p2, c1, c2, h, hx, hy, h1, h2 => by
    simp only [eqFs, Bool.and_eq_true, Nat.beq_eq, Bool.not_eq_true'] at h
    obtain ⟨⟨⟨⟨hn, ho⟩, hp⟩, hg⟩, hr⟩ := h
    simp only [R] at hx hy
    obtain ⟨l1, l2, rfl, x1, x2⟩ := hx
    obtain ⟨k1, k2, rfl, y1, y2⟩ := hy
    obtain ⟨a, ha, ra⟩ := partOk_at (pre := p1) (l2 := l2) hp x1
    obtain ⟨b, hb, rb⟩ := partOk_at (pre := p2) (l2 := k2) hp y1
    have hn' : ¬ fd.name = "_" := by simpa using hn
    unfold aeqAll
    rw [if_neg hn', ho]
    rw [show partA P fd.type (p1 ++ (l1 ++ l2)) off = some a by rw [← h1]; exact ha, show partA P fd.type (p2 ++ (k1 ++ k2)) off = some b by rw [← h2]; exact hb]
    simp only [hf _ _ _ _ _ _ hg ra rb, Option.bind_some]
    have ih := aeqAll_R hf (p1 := p1 ++ l1) (p2 := p2 ++ k1) hr x2 y2 (by rw [List.length_append, R_len x1, h1]) (by rw [List.length_append, R_len y1, h2])
    rw [List.append_assoc, List.append_assoc] at ih
    rw [ih]
    simp only [eqV]
    cases eqV t x.1 y.1 <;> rfl
  | [], .cons _ _, _, _, _, _, _, _, _, h, _, _, _, _ => by cases h
  | [], .int _, _, _, _, _, _, _, _, h, _, _, _, _ => by cases h
  | [], .bool, _, _, _, _, _, _, _, h, _, _, _, _ => by cases h
  | [], .str, _, _, _, _, _, _, _, h, _, _, _, _ => by cases h
  | [], .sl _, _, _, _, _, _, _, _, h, _, _, _, _ => by cases h
  | [], .agg _, _, _, _, _, _, _, _, h, _, _, _, _ => by cases h
  | [], .arr _ _, _, _, _, _, _, _, _, h, _, _, _, _ => by cases h
  | [], .tup _, _, _, _, _, _, _, _, h, _, _, _, _ => by cases h
  | [], .nilsl, _, _, _, _, _, _, _, h, _, _, _, _ => by cases h
  | [], .nilp, _, _, _, _, _, _, _, h, _, _, _, _ => by cases h
  | [], .undef, _, _, _, _, _, _, _, h, _, _, _, _ => by cases h
  | [], .any, _, _, _, _, _, _, _, h, _, _, _, _ => by cases h
  | [], .own _, _, _, _, _, _, _, _, h, _, _, _, _ => by cases h
  | [], .it _, _, _, _, _, _, _, _, h, _, _, _, _ => by cases h
  | [], .bx _ _, _, _, _, _, _, _, _, h, _, _, _, _ => by cases h
  | [], .ptr _ _, _, _, _, _, _, _, _, h, _, _, _, _ => by cases h
  | [], .rp _ _, _, _, _, _, _, _, _, h, _, _, _, _ => by cases h
  | _ :: _, .unit, _, _, _, _, _, _, _, h, _, _, _, _ => by cases h
  | _ :: _, .int _, _, _, _, _, _, _, _, h, _, _, _, _ => by cases h
  | _ :: _, .bool, _, _, _, _, _, _, _, h, _, _, _, _ => by cases h
  | _ :: _, .str, _, _, _, _, _, _, _, h, _, _, _, _ => by cases h
  | _ :: _, .sl _, _, _, _, _, _, _, _, h, _, _, _, _ => by cases h
  | _ :: _, .agg _, _, _, _, _, _, _, _, h, _, _, _, _ => by cases h
  | _ :: _, .arr _ _, _, _, _, _, _, _, _, h, _, _, _, _ => by cases h
  | _ :: _, .tup _, _, _, _, _, _, _, _, h, _, _, _, _ => by cases h
  | _ :: _, .nilsl, _, _, _, _, _, _, _, h, _, _, _, _ => by cases h
  | _ :: _, .nilp, _, _, _, _, _, _, _, h, _, _, _, _ => by cases h
  | _ :: _, .undef, _, _, _, _, _, _, _, h, _, _, _, _ => by cases h
  | _ :: _, .any, _, _, _, _, _, _, _, h, _, _, _, _ => by cases h
  | _ :: _, .own _, _, _, _, _, _, _, _, h, _, _, _, _ => by cases h
  | _ :: _, .it _, _, _, _, _, _, _, _, h, _, _, _, _ => by cases h
  | _ :: _, .bx _ _, _, _, _, _, _, _, _, h, _, _, _, _ => by cases h
  | _ :: _, .ptr _ _, _, _, _, _, _, _, _, h, _, _, _, _ => by cases h
  | _ :: _, .rp _ _, _, _, _, _, _, _, _, h, _, _, _, _ => by cases h
theorem aeq_R : ∀ (d : Nat) (t : TypeId) (ty : Ty) (x y : ty.V) (a b : AVal), eqOkT P d t ty = true → R Γ ty x false [a] → R Γ ty y false [b] → aeq P d t a b = some (eqV ty x y)
  | 0, t, ty, x, y, a, b, h, _, _ => by cases h
  | d + 1, t, ty, x, y, a, b, h, hx, hy => by
    unfold eqOkT at h
    unfold aeq
    split at h
    · rename_i hu
      split at h
      · simp only [R] at hx hy; cases hx; cases hy
        simp only [hu, eqV]
      · cases h
    · rename_i k hu
      split at h
      · rename_i k'
        simp only [R] at hx hy; cases hx; cases hy
        have : (x == y) = decide (x = y) := by by_cases h : x = y <;> simp [h]
        simp only [hu, eqV, if_true, this]
      · cases h
    · rename_i hu
      split at h
      · simp only [R] at hx hy; cases hx; cases hy
        have : (x == y) = decide (x = y) := by by_cases h : x = y <;> simp [h]
        simp only [hu, eqV, this]
      · cases h
    · rename_i fs hu
      split at h
      · rename_i row
        simp only [Bool.and_eq_true, Bool.not_eq_true'] at h
        simp only [R] at hx hy
        obtain ⟨xs, e1, hx⟩ := hx
        obtain ⟨ys, e2, hy⟩ := hy
        cases e1; cases e2
        simp only [hu, h.1]
        have := aeqAll_R (P := P) (f := fun a b u => aeq P d u a b) (g := eqOkT P d) (fun t ty x y a b => aeq_R d t ty x y a b) (p1 := []) (p2 := []) h.2 hx hy rfl rfl
        exact this
      · cases h
    · cases h
theorem eqOfT_R {t : TypeId} {lit : Bool} {x y : TV} {a b : AVal} {r : Bool} (hx : R Γ x.t x.v false [a]) (hy : R Γ y.t y.v false [b]) (hxv : x.t.isV = true) (hyv : y.t.isV = true) (h : eqOfT P t x y = some r) :
    (∀ k n, a ≠ .int k n ) ∧ (∀ s, a ≠ .str s) ∧ cond (eqOk P t lit a b) (aeq P 8 t a b) none = some r := by
  obtain ⟨xt, xv⟩ := x
  obtain ⟨yt, yv⟩ := y
  unfold eqOfT at h
  simp only at h hx hy hxv hyv
  split at h
  · split at h
    · rename_i hu
      cases h
      simp only [R] at hx hy; cases hx; cases hy
      refine ⟨(fun _ _ e => by cases e), (fun _ e => by cases e), ?_⟩
      simp only [eqOk, cond_true, aeq, hu]
    · cases h
  · split at h
    · rename_i hu
      cases h
      simp only [R] at hx hy; cases hy
      obtain ⟨_, _, _, e⟩ := hx; cases e
      refine ⟨(fun _ _ e => by cases e), (fun _ e => by cases e), ?_⟩
      simp only [eqOk, cond_true, aeq, hu]
    · cases h
  · split at h
    · rename_i hu
      cases h
      simp only [R] at hx hy; cases hx
      obtain ⟨_, _, _, e⟩ := hy; cases e
      refine ⟨(fun _ _ e => by cases e), (fun _ e => by cases e), ?_⟩
      simp only [eqOk, cond_true, aeq, hu]
    · cases h
  · cases ho : eqOkT P 8 t .bool with
    | false => rw [ho] at h; cases h
    | true =>
      rw [ho, cond_true] at h
      have hh : r = (xv == yv) := by
        simp only [castV, Ty.beq, dite_true] at h
        simpa using h.symm
      have hq := aeq_R (P := P) 8 t .bool xv yv a b ho hx hy
      simp only [R] at hx hy; cases hx; cases hy
      refine ⟨(fun _ _ e => by cases e), (fun _ e => by cases e), ?_⟩
      simp only [eqOk, cond_true, hq, eqV, hh]
  · rename_i u u'
    cases hg : (!(P.eqGuardType P.depth t)) with
    | false => rw [hg] at h; cases h
    | true =>
      rw [hg, cond_true] at h
      have nx := normT_R (P := P) (t := t) (w := ⟨.agg u, xv⟩) hxv hx
      have ny := normT_R (P := P) (t := t) (w := ⟨.agg u', yv⟩) hyv hy
      have hq : aeq P 8 t a b = some r := by
        cases ho : eqOkT P 8 t (normT P t ⟨.agg u, xv⟩).t with
        | true =>
          rw [ho, cond_true] at h
          obtain ⟨e, hr⟩ := castV_some h
          subst hr
          generalize normT P t ⟨.agg u, xv⟩ = X at *
          generalize normT P t ⟨.agg u', yv⟩ = Y at *
          obtain ⟨Xt, Xv⟩ := X
          obtain ⟨Yt, Yv⟩ := Y
          simp only at e
          subst e
          exact aeq_R 8 t _ _ _ a b ho nx.2 ny.2
        | false =>
          rw [ho, cond_false] at h
          cases ho2 : eqOkT P 8 t (normT P t ⟨.agg u', yv⟩).t with
          | false => rw [ho2] at h; cases h
          | true =>
            rw [ho2, cond_true] at h
            obtain ⟨e, hr⟩ := castV_some h
            subst hr
            generalize normT P t ⟨.agg u, xv⟩ = X at *
            generalize normT P t ⟨.agg u', yv⟩ = Y at *
            obtain ⟨Xt, Xv⟩ := X
            obtain ⟨Yt, Yv⟩ := Y
            simp only at e
            subst e
            exact aeq_R 8 t _ _ _ a b ho2 nx.2 ny.2
      simp only [R] at hx hy
      obtain ⟨_, e1, _⟩ := hx
      obtain ⟨_, e2, _⟩ := hy
      cases e1; cases e2
      refine ⟨(fun _ _ e => by cases e), (fun _ e => by cases e), ?_⟩
      simp only [eqOk, hg, cond_true, hq]
  · cases h
end
end Go.TY
