/- Where ways meet; code; functions. -/
import Derived.Test.YtnafmjbakholcaaDoorT9
import Derived.Test.YtnafmjbakholcaaDoorE15
set_option linter.unusedVariables false
set_option linter.unusedSimpArgs false
namespace Go.TY
open Go.EM
section
variable {Γ : Ctx} {m m0 : Mem} {st : Store} {P : Program} {E : Env} {ET : TEnv} {h : Hints} {H : TH} {σ : TS} {σA : Slots}
theorem lows_lt : ∀ {t : Ty} {n j : Nat}, t.lows n = true → t.names j = true → j < n
  | .sl t, n, j, h, k => lows_lt (t := t) h k
  | .agg t, n, j, h, k => lows_lt (t := t) h k
  | .arr _ t, n, j, h, k => lows_lt (t := t) h k
  | .tup t, n, j, h, k => lows_lt (t := t) h k
  | .rp t _, n, j, h, k => lows_lt (t := t) h k
  | .cons t ts, n, j, h, k => by
    simp only [Ty.lows, Ty.names, Bool.and_eq_true, Bool.or_eq_true] at h k
    rcases k with k | k
    · exact lows_lt h.1 k
    · exact lows_lt h.2 k
  | .own i, n, j, h, k => by simp only [Ty.lows, Ty.names, Nat.beq_eq, Nat.ble_eq] at h k; omega
  | .it i, n, j, h, k => by simp only [Ty.lows, Ty.names, Nat.beq_eq, Nat.ble_eq] at h k; omega
  | .bx i _, n, j, h, k => by simp only [Ty.lows, Ty.names, Nat.beq_eq, Nat.ble_eq] at h k; omega
  | .ptr i _, n, j, h, k => by simp only [Ty.lows, Ty.names, Nat.beq_eq, Nat.ble_eq] at h k; omega
  | .int _, n, j, h, k => by cases k
  | .bool, n, j, h, k => by cases k
  | .str, n, j, h, k => by cases k
  | .unit, n, j, h, k => by cases k
  | .nilsl, n, j, h, k => by cases k
  | .nilp, n, j, h, k => by cases k
  | .undef, n, j, h, k => by cases k
  | .any, n, j, h, k => by cases k
/-- Where the regions told anew lie. -/
def anew (Γ : Ctx) (l : List (Nat × Nat)) (k n : Nat) : Ctx := fun i => if i < n then (if k ≤ muF l i then some none else Γ (muF l i)) else none
theorem anew_moved (hm : MemR Γ m st) {l : List (Nat × Nat)} {n : Nat} : Moved (cfM l m) (fun j => j < n) Γ (anew Γ l m.length n) where
  mu j hj y hy := by
    simp only [anew, if_pos hj]
    simp only [cfM] at hy
    rw [if_neg]
    · exact hy
    · intro hle; rw [hm.out _ hle] at hy; cases hy
  fr j hj hf := by
    simp only [anew, if_pos hj]
    simp only [cfM, Nat.ble_eq] at hf
    rw [if_pos hf]
theorem muInj_ok {l : List (Nat × Nat)} {n : Nat} : ∀ {j : Nat}, muInj l j n = true → ∀ a b, a < n → b < j → muF l a = muF l b → a = b
  | 0, _, a, b, _, hb, _ => by omega
  | j + 1, h, a, b, ha, hb, e => by
    simp only [muInj, Bool.and_eq_true, List.all_eq_true, List.mem_range] at h
    by_cases hbj : b = j
    · subst hbj
      have := h.1 a ha
      simp only [Bool.or_eq_true, Nat.beq_eq, Bool.not_eq_true'] at this
      rcases this with h1 | h1
      · exact h1
      · have : Nat.beq (muF l a) (muF l b) = true := by rw [Nat.beq_eq]; exact e
        rw [this] at h1; cases h1
    · exact muInj_ok h.2 a b ha (by omega) e
theorem leaveM_len : ∀ {rs : List RS} {v : jpM rs} {j : Nat}, (leaveM m0 rs v j).length = rs.length
  | [], v, j => rfl
  | .same :: rs, v, j => by simp only [leaveM, List.length_cons]; rw [leaveM_len (rs := rs)]
  | .box e t :: rs, v, j => by simp only [leaveM, List.length_cons, leaveM_len]
  | .row e t :: rs, v, j => by simp only [leaveM, List.length_cons, leaveM_len]
  | .iter :: rs, v, j => by simp only [leaveM, List.length_cons, leaveM_len]
  | .gone :: rs, v, j => by simp only [leaveM, List.length_cons]; rw [leaveM_len (rs := rs)]
theorem enterM_ok (hm : MemR Γ m st) (hp : Pers m0 m) {l : List (Nat × Nat)} {n : Nat} : ∀ {rs : List RS} {j : Nat} {v : jpM rs}, j + rs.length ≤ n → (∀ g ∈ rs, rsBelow n g = true) → enterM l m0 m rs j = some v →
    ∀ i, i < rs.length → RegR (anew Γ l m.length n) st (j + i) (getM (leaveM m0 rs v j) i)
  | [], j, v, hn, hb, h, i, hi => by simp at hi
  | g :: rs, j, v, hn, hb, h, i, hi => by
    simp only [List.length_cons] at hn hi
    have hjn : j < n := by omega
    have rest : ∀ {v' : jpM rs}, enterM l m0 m rs (j + 1) = some v' → ∀ i, i < rs.length → RegR (anew Γ l m.length n) st (j + (i + 1)) (getM (leaveM m0 rs v' (j + 1)) i) := by
      intro v' h' i hi
      have := enterM_ok hm hp (j := j + 1) (by omega) (fun g hg => hb g (List.mem_cons_of_mem _ hg)) h' i hi
      rw [show j + (i + 1) = j + 1 + i by omega]; exact this
    have hgb := hb g (List.mem_cons_self ..)
    have hmv := anew_moved (l := l) (n := n) hm
    cases g with
    | same =>
      simp only [enterM] at h
      cases hmu : Nat.beq (muF l j) j with
      | false => rw [hmu] at h; cases h
      | true =>
        rw [hmu, cond_true] at h
        rw [Nat.beq_eq] at hmu
        split at h
        · rename_i e t w hg0
          split at h
          · rename_i e' t' w' hg1
            cases i with
            | succ i => exact rest h i (by omega)
            | zero =>
              simp only [leaveM, getM]
              have h0 := hp.cbox j (getM_lt hg0 (by simp)) _ _ _ hg1
              have hr := hm.at j
              rw [hg1] at hr
              rw [h0]
              obtain ⟨k1, k0, k2, k3, r, a, k4, k5, k6⟩ := hr
              refine ⟨k1, k0, k2, k3, r, a, ?_, k5, R_move k0 k6⟩
              have := hmv.mu j hjn _ (by simp only [cfM]; rw [hmu]; exact k4)
              exact this
          · cases h
        · cases h
    | box e t =>
      simp only [enterM] at h
      split at h
      · rename_i e' t' w hg
        cases hc : (Nat.beq e e' && t.isV && t.okRow && Nat.beq t.size t'.size) with
        | false => rw [hc] at h; cases h
        | true =>
          rw [hc, cond_true] at h
          simp only [Bool.and_eq_true, Nat.beq_eq] at hc
          obtain ⟨⟨⟨c1, c2⟩, c3⟩, c4⟩ := hc
          simp only [Option.bind_eq_some_iff, Option.map_eq_some_iff] at h
          obtain ⟨x, hx, y, hy, rfl⟩ := h
          cases i with
          | succ i => exact rest hy i (by omega)
          | zero =>
            simp only [leaveM, getM]
            have hr := hm.at (muF l j)
            rw [hg] at hr
            obtain ⟨k1, k2, k3, r, a, k4, k5, k6⟩ := hr
            refine ⟨c2, c3, by rw [c4]; exact k3, r, a, hmv.mu j hjn _ (by rw [c4]; exact k4), by rw [c4, c1]; exact k5, ?_⟩
            exact coerceT_R (w := ⟨t', w⟩) hmv (fun i hi => lows_lt hgb hi) hx k6
      · cases h
    | row e t =>
      simp only [enterM] at h
      cases hle : Nat.ble m.length (muF l j) with
      | true =>
        rw [hle, cond_true] at h
        cases hc : (t.isV && t.closed && t.okRow && !(Nat.beq t.size 0)) with
        | false => rw [hc] at h; cases h
        | true =>
          rw [hc, cond_true, Option.map_eq_some_iff] at h
          simp only [Bool.and_eq_true, Bool.not_eq_true'] at hc
          obtain ⟨⟨⟨c1, c2⟩, c3⟩, c4⟩ := hc
          obtain ⟨y, hy, rfl⟩ := h
          cases i with
          | succ i => exact rest hy i (by omega)
          | zero =>
            simp only [leaveM, getM]
            exact ⟨c1, c2, c3, beq_ne c4, .inl ⟨rfl, hmv.fr j hjn hle⟩⟩
      | false =>
        rw [hle, cond_false] at h
        split at h
        · rename_i e' t' xs hg
          cases hc : Nat.beq e e' with
          | false => rw [hc] at h; cases h
          | true =>
            rw [hc, cond_true] at h
            rw [Nat.beq_eq] at hc
            simp only [Option.bind_eq_some_iff, Option.map_eq_some_iff] at h
            obtain ⟨x, hx, y, hy, rfl⟩ := h
            obtain ⟨ee, hxx⟩ := castV_some hx
            cases ee
            subst hxx
            cases i with
            | succ i => exact rest hy i (by omega)
            | zero =>
              simp only [leaveM, getM]
              have hr := hm.at (muF l j)
              rw [hg] at hr
              obtain ⟨k1, k2, k3, k4, k5⟩ := hr
              refine ⟨k1, k2, k3, k4, ?_⟩
              rcases k5 with ⟨k5, k6⟩ | ⟨r, as, k5, k6, k7⟩
              · exact .inl ⟨k5, hmv.mu j hjn _ k6⟩
              · exact .inr ⟨r, as, hmv.mu j hjn _ k5, by rw [hc]; exact k6, Forall2_imp (p := fun x a => R Γ t x false [a]) (fun x a hx => R_move k2 hx) k7⟩
        · cases h
    | iter =>
      simp only [enterM] at h
      cases hmu : Nat.beq (muF l j) j with
      | false => rw [hmu] at h; cases h
      | true =>
        rw [hmu, cond_true] at h
        rw [Nat.beq_eq] at hmu
        split at h
        · rename_i s0 p0 hg0
          split at h
          · rename_i s p hg1
            rw [Option.map_eq_some_iff] at h
            obtain ⟨y, hy, rfl⟩ := h
            cases i with
            | succ i => exact rest hy i (by omega)
            | zero =>
              simp only [leaveM, getM]
              obtain ⟨p0', h0⟩ := hp.iter j (getM_lt hg0 (by simp)) _ _ hg1
              rw [h0] at hg0
              have e : s0 = s := by cases hg0; rfl
              simp only [h0]
              have hr := hm.at j
              rw [hg1] at hr
              obtain ⟨r, k1, k2⟩ := hr
              exact ⟨r, hmv.mu j hjn _ (by simp only [cfM]; rw [hmu]; exact k1), k2⟩
          · cases h
        · cases h
    | gone =>
      simp only [enterM] at h
      cases i with
      | succ i => exact rest h i (by omega)
      | zero => simp only [leaveM, getM]; trivial
theorem leaveM_pers : ∀ {rs : List RS} {v : jpM rs} {j i : Nat}, i < rs.length → (∀ e t w, getM (leaveM m0 rs v j) i = .cbox e t w → getM m0 (j + i) = .cbox e t w) ∧ (∀ s p, getM (leaveM m0 rs v j) i = .iter s p → ∃ p0, getM m0 (j + i) = .iter s p0)
  | [], v, j, i, hi => by simp at hi
  | g :: rs, v, j, i + 1, hi => by
    simp only [List.length_cons] at hi
    have e : j + (i + 1) = j + 1 + i := by omega
    rw [e]
    cases g <;> (simp only [leaveM, getM]; exact leaveM_pers (by omega))
  | .same :: rs, v, j, 0, hi => by
    simp only [leaveM, getM]
    exact ⟨fun e t w h => h, fun s p h => ⟨p, h⟩⟩
  | .box _ _ :: rs, v, j, 0, hi => by
    simp only [leaveM, getM]
    exact ⟨(fun e t w h => by cases h), (fun s p h => by cases h)⟩
  | .row _ _ :: rs, v, j, 0, hi => by
    simp only [leaveM, getM]
    exact ⟨(fun e t w h => by cases h), (fun s p h => by cases h)⟩
  | .iter :: rs, v, j, 0, hi => by
    simp only [leaveM, getM]
    split
    · rename_i s p hg
      exact ⟨(fun e t w h => by cases h), (fun s' p' h => by cases h; exact ⟨p, hg⟩)⟩
    · exact ⟨(fun e t w h => by cases h), (fun s' p' h => by cases h)⟩
  | .gone :: rs, v, j, 0, hi => by
    simp only [leaveM, getM]
    exact ⟨(fun e t w h => by cases h), (fun s p h => by cases h)⟩
theorem jpFst_mk {S : Type} {y : S} : ∀ {t : Ty} {x : t.V}, jpFst t (jpMk t.triv x y) = x
  | .int _, _ => rfl
  | .bool, _ => rfl
  | .str, _ => rfl
  | .sl _, _ => rfl
  | .agg _, _ => rfl
  | .arr _ _, _ => rfl
  | .tup _, _ => rfl
  | .unit, _ => rfl
  | .cons _ _, _ => rfl
  | .nilsl, _ => rfl
  | .nilp, _ => rfl
  | .undef, _ => rfl
  | .any, _ => rfl
  | .own _, _ => rfl
  | .it _, _ => rfl
  | .bx _ _, _ => rfl
  | .ptr _ _, _ => rfl
  | .rp _ _, _ => rfl
theorem jpSnd_mk {T S : Type} {x : T} {y : S} : ∀ {b : Bool}, jpSnd b (jpMk b x y) = y
  | true => rfl
  | false => rfl
theorem enterS_ok {Γ' : Ctx} {f : CF} {n : Nat} (hmv : Moved f (fun j => j < n) Γ Γ') (hs : SlotR Γ σ σA) {S : Type} {r : Option S} : ∀ {l : List (Nat × Ty)} {v : jpS S l}, (∀ q ∈ l, q.2.lows n = true ∧ q.2.isV = true) → enterS f r l σ = some v →
    r = some (restS l v) ∧ ∀ k w, getT (leaveS l v) k = some w → (w.t.isV = true ∧ R Γ' w.t w.v false [getS σA k]) ∧ ∃ t, (k, t) ∈ l
  | [], v, hl, h => by
    simp only [enterS] at h
    exact ⟨h, fun k w hw => by cases hw⟩
  | (k, t) :: l, v, hl, h => by
    simp only [enterS, Option.bind_eq_some_iff, Option.map_eq_some_iff] at h
    obtain ⟨w, hw, x, hx, y, hy, rfl⟩ := h
    obtain ⟨h1, h2⟩ := enterS_ok hmv hs (fun q hq => hl q (List.mem_cons_of_mem _ hq)) hy
    obtain ⟨ht1, ht2⟩ := hl (k, t) (List.mem_cons_self ..)
    simp only [leaveS, restS]
    rw [jpSnd_mk]
    refine ⟨h1, fun k' w' hw' => ?_⟩
    simp only [getT] at hw'
    cases hk : Nat.beq k k' with
    | true =>
      rw [hk, cond_true] at hw'
      rw [Nat.beq_eq] at hk
      subst hk
      cases hw'
      refine ⟨⟨ht2, ?_⟩, t, List.mem_cons_self ..⟩
      simp only [jpFst_mk]
      exact coerceT_R hmv (fun i hi => lows_lt ht1 hi) hx (hs k w hw).2
    | false =>
      rw [hk, cond_false] at hw'
      obtain ⟨g1, t', g2⟩ := h2 k' w' hw'
      exact ⟨g1, t', List.mem_cons_of_mem _ g2⟩
theorem getT_app {a b : TS} {k : Nat} {w : TV} (hg : getT (a ++ b) k = some w) : getT a k = some w ∨ getT b k = some w := by
  induction a with
  | nil => exact .inr hg
  | cons p a ih =>
    obtain ⟨j, v⟩ := p
    simp only [List.cons_append, getT] at hg ⊢
    cases hk : Nat.beq j k with
    | true => rw [hk] at hg; left; rw [cond_true] at hg ⊢; exact hg
    | false => rw [hk, cond_false] at hg; rw [cond_false]; exact ih hg
/-- Where ways meet: what is told anew is what it was. σ0, m0: what was there when the way began. -/
theorem enter_ok {j : JP} {v : j.V} {Γ0' : Ctx} {σ0 : TS} {σA0 : Slots} {p : Nat → Bool} (hs : SlotR Γ σ σA) (hm : MemR Γ m st) (hp : Pers m0 m) (hs0 : SlotR Γ0' σ0 σA0) (hsame : ∀ k, p k = true → getS σA k = getS σA0 k) (he : j.enter m0 σ m = some v) :
    ∃ Γ', SlotR Γ' (j.slots p σ0 v) σA ∧ MemR Γ' (j.memo m0 v) st ∧ Pers m0 (j.memo m0 v) ∧ ∀ k w, getT (j.slots p σ0 v) k = some w → p k = true ∨ ∃ t, (k, t) ∈ j.keep := by
  unfold JP.enter at he
  cases hc : (j.ok && muInj (muOf j.keep σ) j.mem.length j.mem.length && Nat.ble m0.length j.mem.length) with
  | false => rw [hc] at he; cases he
  | true =>
    rw [hc, cond_true] at he
    simp only [Bool.and_eq_true, Nat.ble_eq] at hc
    obtain ⟨⟨c1, c2⟩, c3⟩ := hc
    unfold JP.ok at c1
    simp only [Bool.and_eq_true, List.all_eq_true] at c1
    obtain ⟨c1, c4⟩ := c1
    have hmv := anew_moved (l := muOf j.keep σ) (n := j.mem.length) hm
    obtain ⟨h1, h2⟩ := enterS_ok hmv hs c1 he
    have h3 := enterM_ok hm hp (n := j.mem.length) (by omega) c4 h1
    have hlen : (j.memo m0 v).length = j.mem.length := leaveM_len
    refine ⟨anew Γ (muOf j.keep σ) m.length j.mem.length, ?_, ?_, ?_, ?_⟩
    · intro k w hw
      rcases getT_app hw with hw | hw
      · exact (h2 k w hw).1
      · obtain ⟨g1, g2⟩ := getT_filter (p := fun q => p q && (match getT σ0 q with | some w => w.t.still | none => false)) hw
        rw [g1] at g2
        simp only [Bool.and_eq_true] at g2
        obtain ⟨k1, k2⟩ := hs0 k w g1
        refine ⟨k1, ?_⟩
        rw [hsame k g2.1]
        exact R_moveS g2.2 k2
    · refine ⟨fun id hid => ?_, fun id hid => ?_, fun a b r n l n' l' ha hb => ?_, fun a r n l ha => ?_⟩
      · rw [hlen] at hid
        have := h3 id hid
        rw [Nat.zero_add] at this
        exact this
      · rw [hlen] at hid
        simp only [anew]
        rw [if_neg (by omega)]
      · simp only [anew] at ha hb
        split at ha
        · rename_i ha1
          split at ha
          · cases ha
          · split at hb
            · rename_i hb1
              split at hb
              · cases hb
              · exact muInj_ok c2 a b ha1 hb1 (hm.inj _ _ _ _ _ _ _ ha hb)
            · cases hb
        · cases ha
      · simp only [anew] at ha
        split at ha
        · split at ha
          · cases ha
          · exact hm.lt _ _ _ _ ha
        · cases ha
    · refine ⟨by rw [hlen]; exact c3, fun i hi e t w hw => ?_, fun i hi s q hw => ?_⟩
      · have := (leaveM_pers (m0 := m0) (rs := j.mem) (v := restS j.keep v) (j := 0) (i := i) (by omega)).1 e t w hw
        rw [Nat.zero_add] at this; exact this
      · have := (leaveM_pers (m0 := m0) (rs := j.mem) (v := restS j.keep v) (j := 0) (i := i) (by omega)).2 s q hw
        rw [Nat.zero_add] at this; exact this
    · intro k w hw
      rcases getT_app hw with hw | hw
      · exact .inr (h2 k w hw).2
      · obtain ⟨g1, g2⟩ := getT_filter (p := fun q => p q && (match getT σ0 q with | some w => w.t.still | none => false)) hw
        simp only [Bool.and_eq_true] at g2
        exact .inl g2.1
theorem evalOps_app {R : Type} {ops : List Oper} {K : Slots → Store → Option R} : ∀ {a b : List Oper} {σA : Slots} {st : Store}, evalOps P E h ops (a ++ b) σA st K = evalOps P E h ops a σA st (fun σ st => evalOps P E h ops b σ st K)
  | [], b, σA, st => rfl
  | o :: a, b, σA, st => by
    rw [List.cons_append]
    conv => lhs; unfold evalOps
    conv => rhs; unfold evalOps
    simp only [evalOps_app (a := a) (b := b)]
theorem notDst_app {a b : List Oper} {k : Nat} : notDst (a ++ b) k = (notDst a k && notDst b k) := by simp [notDst]
theorem cutT_ok (hE : EnvT E ET) {ops : List Oper} {X : Type} {K : TS → Mem → Option X} {x : X} : ∀ {cs : List (Nat × JP)} {os : List Oper} {σ : TS} {m : Mem} {σA : Slots} {st : Store} {Γ : Ctx}, SlotR Γ σ σA → MemR Γ m st → cutT P E h ET H ops cs os σ m K = some x →
    Leads P E h ops os m σA st (fun σ' m' => K σ' m' = some x)
  | [], os, σ, m, σA, st, Γ, hs, hm, hx => opsT_ok hE hs hm hx
  | (n, j) :: cs, os, σ, m, σA, st, Γ, hs, hm, hx => by
    simp only [cutT, Option.bind_eq_some_iff] at hx
    obtain ⟨v, hv, hx⟩ := hx
    obtain ⟨σ1, m1, σA1, st1, Γ1, g1, g2, g3, g4, g5, g6⟩ := opsT_ok hE hs hm hv
    obtain ⟨Γ2, k1, k2, k3, k4⟩ := enter_ok g2 g3 g4 hs g5 g1
    obtain ⟨σ3, m3, σA3, st3, Γ3, e1, e2, e3, e4, e5, e6⟩ := cutT_ok hE k1 k2 hx
    refine ⟨σ3, m3, σA3, st3, Γ3, e1, e2, e3, k3.trans e4, fun k hk => ?_, fun R KA => ?_⟩
    · rw [← List.take_append_drop n os, notDst_app, Bool.and_eq_true] at hk
      rw [e5 k hk.2, g5 k hk.1]
    · rw [← List.take_append_drop n os, evalOps_app, g6]
      exact e6 R KA
theorem loopTn_ind {A X : Type} {f : A → Option (A ⊕ X)} {a : A} {x : X} (hx : loopT f a = some x) : ∃ n, loopTn f n a = some x := by
  unfold loopT at hx
  split at hx
  · rename_i hh; exact ⟨_, hx⟩
  · cases hx
/-- Code: a typed path is a path of the abstract machine's. -/
def Goes' (P : Program) (E : Env) (h : Hints) (c : Code) (m : Mem) (σA : Slots) (st : Store) (Q : AExit → TS → Mem → Prop) : Prop :=
  ∃ e σ' m' σA' st' Γ', Q e σ' m' ∧ SlotR Γ' σ' σA' ∧ MemR Γ' m' st' ∧ Pers m m' ∧ (∀ k, stays h c k = true → getS σA' k = getS σA k) ∧
    ∀ (R : Type) (K : AExit → Slots → Store → Option R), D P E h c R σA st K = K e σA' st'
theorem getS_plug {σA : Slots} : ∀ {keep : List Nat} {k : Nat}, memN k keep = true → ∀ {l : List AVal} {j : Nat}, (∀ i, getL l (j + i) = getL (pickK keep σA) i) → getS (plugK keep j l) k = getS σA k
  | a :: keep, k, hk, l, j, hl => by
    simp only [plugK, getS]
    have h0 := hl 0
    simp only [Nat.add_zero, pickK, getL] at h0
    cases ha : Nat.beq a k with
    | true => rw [Nat.beq_eq] at ha; subst ha; simp only [cond_true]; exact h0
    | false =>
      simp only [cond_false]
      have hk' : memN k keep = true := by
        simp only [memN] at hk
        rw [Nat.beq_comm, ha] at hk
        exact hk
      refine getS_plug hk' (fun i => ?_)
      have := hl (i + 1)
      rw [show j + 1 + i = j + (i + 1) by omega, this]
      rfl
where
  Nat.beq_comm {a b : Nat} : Nat.beq a b = Nat.beq b a := by rw [Bool.eq_iff_iff, Nat.beq_eq, Nat.beq_eq]; exact eq_comm
theorem memN_mem : ∀ {k : Nat} {l : List Nat}, memN k l = true → k ∈ l
  | k, a :: l, h => by
    simp only [memN] at h
    cases hk : Nat.beq k a with
    | true => rw [Nat.beq_eq] at hk; subst hk; exact List.mem_cons_self ..
    | false => rw [hk, cond_false] at h; exact List.mem_cons_of_mem _ (memN_mem h)
theorem DT_ok (hE : EnvT E ET) : ∀ (c : Code) {X : Type} {K : AExit → TS → Mem → Option X} {x : X} {σ : TS} {m : Mem} {σA : Slots} {st : Store} {Γ : Ctx}, SlotR Γ σ σA → MemR Γ m st → DT P E h ET H c X σ m K = some x →
    Goes' P E h c m σA st (fun e σ' m' => K e σ' m' = some x)
  | .skip, X, K, x, σ, m, σA, st, Γ, hs, hm, hx => ⟨.normal, σ, m, σA, st, Γ, hx, hs, hm, .refl m, fun _ _ => rfl, fun _ _ => rfl⟩
  | .region id ops draw, X, K, x, σ, m, σA, st, Γ, hs, hm, hx => by
    simp only [DT] at hx
    cases hc : draw && !drawOk P E h ops with
    | true => rw [hc] at hx; cases hx
    | false =>
      rw [hc, cond_false] at hx
      obtain ⟨σ1, m1, σA1, st1, Γ1, g1, g2, g3, g4, g5, g6⟩ := cutT_ok hE hs hm hx
      refine ⟨.normal, σ1, m1, σA1, st1, Γ1, g1, g2, g3, g4, g5, fun R KA => ?_⟩
      simp only [D, hc, cond_false, evalT_eq]
      exact g6 R _
  | .seq a b, X, K, x, σ, m, σA, st, Γ, hs, hm, hx => by
    simp only [DT] at hx
    cases hq : lookN h.seqs (firstRegion b) with
    | some _ => rw [hq] at hx; cases hx
    | none =>
      rw [hq] at hx
      simp only at hx
      have hD : ∀ (R : Type) (KA : AExit → Slots → Store → Option R), D P E h (.seq a b) R σA st KA = D P E h a R σA st (fun e σ' st' => match e with
          | .normal => D P E h b R σ' st' KA
          | e => KA e σ' st') := by
        intro R KA
        simp only [D, hq]
        congr
      cases hj : lookN H.joins (firstRegion b) with
      | none =>
        rw [hj] at hx
        simp only at hx
        obtain ⟨e, σ1, m1, σA1, st1, Γ1, g1, g2, g3, g4, g5, g6⟩ := DT_ok hE a hs hm hx
        cases e with
        | normal =>
          simp only at g1
          obtain ⟨e, σ2, m2, σA2, st2, Γ2, k1, k2, k3, k4, k5, k6⟩ := DT_ok hE b g2 g3 g1
          refine ⟨e, σ2, m2, σA2, st2, Γ2, k1, k2, k3, g4.trans k4, fun k hk => ?_, fun R KA => ?_⟩
          · simp only [stays, Bool.and_eq_true] at hk
            rw [k5 k hk.1.2, g5 k hk.1.1]
          · rw [hD, g6]; exact k6 R KA
        | exit i =>
          refine ⟨.exit i, σ1, m1, σA1, st1, Γ1, g1, g2, g3, g4, fun k hk => ?_, fun R KA => by rw [hD, g6]⟩
          simp only [stays, Bool.and_eq_true] at hk
          exact g5 k hk.1.1
        | ret =>
          refine ⟨.ret, σ1, m1, σA1, st1, Γ1, g1, g2, g3, g4, fun k hk => ?_, fun R KA => by rw [hD, g6]⟩
          simp only [stays, Bool.and_eq_true] at hk
          exact g5 k hk.1.1
      | some j =>
        rw [hj] at hx
        simp only [Option.bind_eq_some_iff] at hx
        obtain ⟨y, hy, hx⟩ := hx
        obtain ⟨e, σ1, m1, σA1, st1, Γ1, g1, g2, g3, g4, g5, g6⟩ := DT_ok hE a hs hm hy
        cases e with
        | normal =>
          simp only [Option.map_eq_some_iff] at g1
          obtain ⟨v, hv, rfl⟩ := g1
          simp only [joinS] at hx
          obtain ⟨Γ2, q1, q2, q3, q4⟩ := enter_ok g2 g3 g4 hs g5 hv
          obtain ⟨e, σ2, m2, σA2, st2, Γ2, k1, k2, k3, k4, k5, k6⟩ := DT_ok hE b q1 q2 hx
          refine ⟨e, σ2, m2, σA2, st2, Γ2, k1, k2, k3, q3.trans k4, fun k hk => ?_, fun R KA => ?_⟩
          · simp only [stays, Bool.and_eq_true] at hk
            rw [k5 k hk.1.2, g5 k hk.1.1]
          · rw [hD, g6]; exact k6 R KA
        | exit i =>
          simp only [Option.map_eq_some_iff] at g1
          obtain ⟨z, hz, rfl⟩ := g1
          simp only [joinS] at hx
          cases hx
          refine ⟨.exit i, σ1, m1, σA1, st1, Γ1, hz, g2, g3, g4, fun k hk => ?_, fun R KA => by rw [hD, g6]⟩
          simp only [stays, Bool.and_eq_true] at hk
          exact g5 k hk.1.1
        | ret =>
          simp only [Option.map_eq_some_iff] at g1
          obtain ⟨z, hz, rfl⟩ := g1
          simp only [joinS] at hx
          cases hx
          refine ⟨.ret, σ1, m1, σA1, st1, Γ1, hz, g2, g3, g4, fun k hk => ?_, fun R KA => by rw [hD, g6]⟩
          simp only [stays, Bool.and_eq_true] at hk
          exact g5 k hk.1.1
  | .cond c a b, X, K, x, σ, m, σA, st, Γ, hs, hm, hx => by
    simp only [DT] at hx
    split at hx
    · rename_i t hc
      have hcr := (opndT_R hE hs hc).2
      simp only [R] at hcr
      have hcr := (List.cons.inj hcr).1
      cases t with
      | true =>
        simp only [cond_true] at hx
        obtain ⟨e, σ1, m1, σA1, st1, Γ1, g1, g2, g3, g4, g5, g6⟩ := DT_ok hE a hs hm hx
        refine ⟨e, σ1, m1, σA1, st1, Γ1, g1, g2, g3, g4, fun k hk => ?_, fun R KA => ?_⟩
        · simp only [stays, Bool.and_eq_true] at hk
          exact g5 k hk.1
        · simp only [D, hcr]; exact g6 R KA
      | false =>
        simp only [cond_false] at hx
        obtain ⟨e, σ1, m1, σA1, st1, Γ1, g1, g2, g3, g4, g5, g6⟩ := DT_ok hE b hs hm hx
        refine ⟨e, σ1, m1, σA1, st1, Γ1, g1, g2, g3, g4, fun k hk => ?_, fun R KA => ?_⟩
        · simp only [stays, Bool.and_eq_true] at hk
          exact g5 k hk.2
        · simp only [D, hcr]; exact g6 R KA
    · cases hx
  | .block id b, X, K, x, σ, m, σA, st, Γ, hs, hm, hx => by
    simp only [DT] at hx
    obtain ⟨e, σ1, m1, σA1, st1, Γ1, g1, g2, g3, g4, g5, g6⟩ := DT_ok hE b hs hm hx
    cases e with
    | normal => exact ⟨.normal, σ1, m1, σA1, st1, Γ1, g1, g2, g3, g4, g5, fun R KA => by simp only [D]; rw [g6]⟩
    | ret => exact ⟨.ret, σ1, m1, σA1, st1, Γ1, g1, g2, g3, g4, g5, fun R KA => by simp only [D]; rw [g6]⟩
    | exit i =>
      simp only at g1
      cases hi : Nat.beq i id with
      | true =>
        rw [hi, cond_true] at g1
        exact ⟨.normal, σ1, m1, σA1, st1, Γ1, g1, g2, g3, g4, g5, fun R KA => by simp only [D]; rw [g6]; simp only [hi, cond_true]⟩
      | false =>
        rw [hi, cond_false] at g1
        exact ⟨.exit i, σ1, m1, σA1, st1, Γ1, g1, g2, g3, g4, g5, fun R KA => by simp only [D]; rw [g6]; simp only [hi, cond_false]⟩
  | .loop b, X, K, x, σ, m, σA, st, Γ, hs, hm, hx => by
    simp only [DT] at hx
    split at hx
    · rename_i keep j hk hj
      cases hall : j.keep.all fun p => memN p.1 keep with
      | false => rw [hall] at hx; cases hx
      | true =>
        rw [hall, cond_true, Option.bind_eq_some_iff] at hx
        obtain ⟨v0, hv0, hx⟩ := hx
        obtain ⟨n, hx⟩ := loopTn_ind hx
        have ih := @DT_ok hE b
        obtain ⟨Γ1, q1, q2, q3, q4⟩ := enter_ok (p := fun k => stays h b k && memN k keep) hs hm (.refl m) hs (fun _ _ => rfl) hv0
        have main : ∀ (n : Nat) (v : j.V) (σA1 : Slots) (st1 : Store) (Γ1 : Ctx), SlotR Γ1 (j.slots (fun k => stays h b k && memN k keep) σ v) σA1 → MemR Γ1 (j.memo m v) st1 → Pers m (j.memo m v) →
            (∀ k w, getT (j.slots (fun k => stays h b k && memN k keep) σ v) k = some w → (stays h b k && memN k keep) = true ∨ ∃ t, (k, t) ∈ j.keep) →
            (∀ k, (stays h b k && memN k keep) = true → getS σA1 k = getS σA k) →
            loopTn (fun v => DT P E h ET H b (j.V ⊕ X) (j.slots (fun k => stays h b k && memN k keep) σ v) (j.memo m v) (fun e σ' m' => match e with
              | .normal => (j.enter m σ' m').map .inl
              | e => (K e σ' m').map .inr)) n v = some x →
            ∃ e σ' m' σA' st' Γ', K e σ' m' = some x ∧ SlotR Γ' σ' σA' ∧ MemR Γ' m' st' ∧ Pers m m' ∧ (∀ k, (stays h b k && memN k keep) = true → getS σA' k = getS σA k) ∧
              ∀ (R : Type) (KA : AExit → Slots → Store → Option R), loopA (fun live st' => D P E h b (Live R) (plugK keep 0 live) st' (fun e σ'' st'' => match e with
                | .normal => some (.inl (pickK keep σ'', st''))
                | e => (KA e σ'' st'').map .inr)) (pickK keep σA1) st1 = KA e σA' st' := by
          intro n
          induction n with
          | zero => intro v σA1 st1 Γ1 _ _ _ _ _ hx; cases hx
          | succ n ihn =>
            intro v σA1 st1 Γ1 r1 r2 r3 r4 r5 hx
            simp only [loopTn, Option.bind_eq_some_iff] at hx
            obtain ⟨y, hy, hx⟩ := hx
            have hpl : ∀ k, memN k keep = true → getS (plugK keep 0 (pickK keep σA1)) k = getS σA1 k := fun k hk => getS_plug hk (fun i => by rw [Nat.zero_add])
            have r1' : SlotR Γ1 (j.slots (fun k => stays h b k && memN k keep) σ v) (plugK keep 0 (pickK keep σA1)) := by
              intro k w hw
              have hkk : memN k keep = true := by
                rcases r4 k w hw with h1 | ⟨t, h1⟩
                · rw [Bool.and_eq_true] at h1; exact h1.2
                · rw [List.all_eq_true] at hall; exact hall _ h1
              rw [hpl k hkk]
              exact r1 k w hw
            obtain ⟨e, σ2, m2, σA2, st2, Γ2, g1, g2, g3, g4, g5, g6⟩ := ih r1' r2 hy
            have hsame : ∀ k, (stays h b k && memN k keep) = true → getS σA2 k = getS σA k := by
              intro k hk
              have hk' := hk
              rw [Bool.and_eq_true] at hk
              rw [g5 k hk.1, hpl k hk.2, r5 k hk']
            cases e with
            | normal =>
              simp only [Option.map_eq_some_iff] at g1
              obtain ⟨v', hv', rfl⟩ := g1
              simp only [joinS] at hx
              obtain ⟨Γ3, s1, s2, s3, s4⟩ := enter_ok (p := fun k => stays h b k && memN k keep) g2 g3 (r3.trans g4) hs hsame hv'
              obtain ⟨e, σ4, m4, σA4, st4, Γ4, t1, t2, t3, t4, t5, t6⟩ := ihn v' σA2 st2 Γ3 s1 s2 s3 s4 hsame hx
              refine ⟨e, σ4, m4, σA4, st4, Γ4, t1, t2, t3, t4, t5, fun R KA => ?_⟩
              rw [loopA_inl (l' := pickK keep σA2) (st' := st2)]
              · exact t6 R KA
              · rw [g6]
            | exit i =>
              simp only [Option.map_eq_some_iff] at g1
              obtain ⟨z, hz, rfl⟩ := g1
              simp only [joinS] at hx
              cases hx
              refine ⟨.exit i, σ2, m2, σA2, st2, Γ2, hz, g2, g3, r3.trans g4, hsame, fun R KA => ?_⟩
              rw [loopA_eq, g6]
              simp only
              cases KA (.exit i) σA2 st2 <;> rfl
            | ret =>
              simp only [Option.map_eq_some_iff] at g1
              obtain ⟨z, hz, rfl⟩ := g1
              simp only [joinS] at hx
              cases hx
              refine ⟨.ret, σ2, m2, σA2, st2, Γ2, hz, g2, g3, r3.trans g4, hsame, fun R KA => ?_⟩
              rw [loopA_eq, g6]
              simp only
              cases KA .ret σA2 st2 <;> rfl
        obtain ⟨e, σ4, m4, σA4, st4, Γ4, t1, t2, t3, t4, t5, t6⟩ := main n v0 σA st Γ1 q1 q2 q3 q4 (fun _ _ => rfl) hx
        refine ⟨e, σ4, m4, σA4, st4, Γ4, t1, t2, t3, t4, fun k hk' => ?_, fun R KA => ?_⟩
        · simp only [stays, hk] at hk'
          exact t5 k hk'
        · simp only [D, hk]
          exact t6 R KA
    · cases hx
  | .exit id, X, K, x, σ, m, σA, st, Γ, hs, hm, hx => ⟨.exit id, σ, m, σA, st, Γ, hx, hs, hm, .refl m, fun _ _ => rfl, fun _ _ => rfl⟩
  | .ret, X, K, x, σ, m, σA, st, Γ, hs, hm, hx => ⟨.ret, σ, m, σA, st, Γ, hx, hs, hm, .refl m, fun _ _ => rfl, fun _ _ => rfl⟩
  | .rangeFunc .., X, K, x, σ, m, σA, st, Γ, hs, hm, hx => by simp [DT] at hx
  | .scope .., X, K, x, σ, m, σA, st, Γ, hs, hm, hx => by simp [DT] at hx
  | .label .., X, K, x, σ, m, σA, st, Γ, hs, hm, hx => by simp [DT] at hx
  | .goto .., X, K, x, σ, m, σA, st, Γ, hs, hm, hx => by simp [DT] at hx
  | .refuse .., X, K, x, σ, m, σA, st, Γ, hs, hm, hx => by simp [DT] at hx

/-! ### functions -/
theorem paramS_R {Γ : Ctx} : ∀ {t : Ty} {v : t.V} {as : List AVal} {n k : Nat}, rowV t = true → R Γ t v false as → as.length = rowLen t ∧ (∀ w, getT (paramS t v n) k = some w → w.t.isV = true ∧ n ≤ k ∧ R Γ w.t w.v false [getL as (k - n)] ∧ k < n + rowLen t)
  | .cons t ts, v, as, n, k, hv, hr => by
    simp only [rowV, Bool.and_eq_true] at hv
    simp only [R] at hr
    obtain ⟨l1, l2, rfl, h1, h2⟩ := hr
    obtain ⟨a, rfl⟩ := R_one hv.1 h1
    obtain ⟨g1, g2⟩ := paramS_R (n := n + 1) (k := k) hv.2 h2
    refine ⟨by simp [rowLen, g1], fun w hw => ?_⟩
    simp only [paramS, getT] at hw
    cases hk : Nat.beq n k with
    | true =>
      rw [hk, cond_true] at hw
      rw [Nat.beq_eq] at hk
      subst hk
      cases hw
      exact ⟨hv.1, Nat.le_refl _, by rw [Nat.sub_self]; exact h1, by simp [rowLen]⟩
    | false =>
      rw [hk, cond_false] at hw
      obtain ⟨k1, k2, k3, k4⟩ := g2 w hw
      refine ⟨k1, by omega, ?_, by simp [rowLen]; omega⟩
      rw [show k - n = (k - (n + 1)) + 1 by omega]
      exact k3
  | .unit, v, as, n, k, hv, hr => by
    simp only [R] at hr; subst hr
    exact ⟨rfl, fun w hw => by cases hw⟩
  | .int _, _, _, _, _, hv, _ => by cases hv
  | .bool, _, _, _, _, hv, _ => by cases hv
  | .str, _, _, _, _, hv, _ => by cases hv
  | .sl _, _, _, _, _, hv, _ => by cases hv
  | .agg _, _, _, _, _, hv, _ => by cases hv
  | .arr _ _, _, _, _, _, hv, _ => by cases hv
  | .tup _, _, _, _, _, hv, _ => by cases hv
  | .nilsl, _, _, _, _, hv, _ => by cases hv
  | .nilp, _, _, _, _, hv, _ => by cases hv
  | .undef, _, _, _, _, hv, _ => by cases hv
  | .any, _, _, _, _, hv, _ => by cases hv
  | .own _, _, _, _, _, hv, _ => by cases hv
  | .it _, _, _, _, _, hv, _ => by cases hv
  | .bx _ _, _, _, _, _, hv, _ => by cases hv
  | .ptr _ _, _, _, _, _, hv, _ => by cases hv
  | .rp _ _, _, _, _, _, hv, _ => by cases hv
theorem plug_range : ∀ (n j : Nat) (as : List AVal) (k : Nat), j ≤ k → k < j + n → getS (plugK (List.range' j n) j as) k = getL as k
  | 0, j, as, k, h1, h2 => by omega
  | n + 1, j, as, k, h1, h2 => by
    simp only [List.range'_succ, plugK, getS]
    cases hk : Nat.beq j k with
    | true => rw [Nat.beq_eq] at hk; subst hk; rfl
    | false =>
      have : j ≠ k := fun e => by subst e; simp at hk
      simp only [cond_false]
      exact plug_range n (j + 1) as k (by omega) (by omega)
theorem resT_R (hs : SlotR Γ σ σA) (hm : MemR Γ m st) : ∀ {rs : List ResultVar} {l : List TV}, resT P σ m rs = some l → ∃ as, resL P σA st rs = some as ∧ ValsR Γ l as
  | [], l, h => by simp only [resT] at h; cases h; exact ⟨[], rfl, trivial⟩
  | .tmp t :: rs, l, h => by
    simp only [resT, Option.bind_eq_some_iff, Option.map_eq_some_iff] at h
    obtain ⟨w, hw, ws, hws, rfl⟩ := h
    obtain ⟨as, h1, h2⟩ := resT_R hs hm hws
    exact ⟨_ :: as, by simp only [resL, h1, Option.map_some], hs t w hw, h2⟩
  | .cell a t :: rs, l, h => by
    simp only [resT, Option.bind_eq_some_iff] at h
    obtain ⟨w, hw, h⟩ := h
    split at h
    · rename_i x m' k hl
      rw [Option.map_eq_some_iff] at h
      obtain ⟨ws, hws, rfl⟩ := h
      obtain ⟨as, h1, h2⟩ := resT_R hs hm hws
      obtain ⟨g1, g2⟩ := hs a w hw
      have := loadT_ok (P := P) hm (t := t) g1 g2 (TV × Unit) (fun w m' k => some (w, ())) (x, ()) (by rw [hl]; rfl)
      obtain ⟨w', av, e1, e2, e3, e4⟩ := this
      cases e1
      exact ⟨av :: as, by simp only [resL, e2, Option.bind_some, h1, Option.map_some], ⟨e3, e4⟩, h2⟩
    · cases h
theorem endT_R (hs : SlotR Γ σ σA) (hm : MemR Γ m st) {rs : List ResultVar} {res : Ty} {r : res.V} (hc : res.closed = true) (hv : res.isV = true) (h : endT P σ m rs res = some r) :
    ∃ a b, resV P σA st rs = some a ∧ packV st a = some b ∧ R Γ0 res r false [b] := by
  unfold endT at h
  rw [Option.bind_eq_some_iff] at h
  obtain ⟨l, hl, h⟩ := h
  obtain ⟨as, h1, h2⟩ := resT_R (P := P) hs hm hl
  have packOne : ∀ {a : AVal} {l' : List AVal}, packL st [a] = some l' → ∃ b, packV st a = some b ∧ l' = [b] := by
    intro a l' hp
    simp only [packL, Option.bind_eq_some_iff, Option.map_eq_some_iff] at hp
    obtain ⟨x, hx, y, hy, rfl⟩ := hp
    cases hy
    exact ⟨x, hx, rfl⟩
  split at h
  · rename_i w
    match as, h2 with
    | [a], h2 =>
      obtain ⟨l', g1, g2⟩ := closeTo_R hm hc h h2.1.2
      obtain ⟨b, hb, rfl⟩ := packOne g1
      refine ⟨a, b, ?_, hb, g2⟩
      unfold resV
      split
      · rename_i t
        simp only [resL, Option.map_some] at h1
        cases h1; rfl
      · rw [h1]; rfl
  · rename_i u hne
    have hcu : u.closed = true := hc
    obtain ⟨l', g1, g2⟩ := closeL_R hm hcu h h2
    refine ⟨.tup as, .tup l', ?_, by simp only [packV, g1, Option.map_some], ⟨l', rfl, g2⟩⟩
    have hlen := All2_len h2
    unfold resV
    split
    · rename_i t
      simp only [resL, Option.map_some] at h1
      cases h1
      match l, hlen with
      | [w], _ => exact absurd rfl (hne w)
    · rw [h1]
      match as, hlen with
      | [], _ => rfl
      | [a], hlen =>
        match l, hlen with
        | [w], _ => exact absurd rfl (hne w)
      | _ :: _ :: _, _ => rfl
  · cases h
theorem runY_ok (hE : EnvT E ET) {fn : Func} {ps res : Ty} {fnT : ps.V → Option res.V} (hrun : runY P E h ET H fn ps res = fnT) (hw : (ps.closed && res.closed && res.isV) = true) : TOk (closeF (runF P E h fn)) ⟨ps, res, fnT⟩ := by
  simp only [Bool.and_eq_true] at hw
  refine ⟨hw.1.1, hw.1.2, hw.2, fun v r as hr hps => ?_⟩
  simp only at hr hps
  rw [← hrun] at hr
  unfold runY at hr
  cases hc : (Nat.beq (rowLen ps) (fn.params.size + fn.nfree) && rowV ps && ps.closed && res.closed && res.isV && dstsIn fn.ntmps (fn.body.getD .skip) && Nat.ble (fn.params.size + fn.nfree) fn.ntmps) with
  | false => rw [hc] at hr; cases hr
  | true =>
    rw [hc, cond_true] at hr
    simp only [Bool.and_eq_true, Nat.beq_eq] at hc
    obtain ⟨⟨⟨⟨⟨⟨c1, c2⟩, c3⟩, c4⟩, c5⟩, c6⟩, c7⟩ := hc
    split at hr
    · rename_i c hb
      have hlen := (paramS_R (n := 0) (k := 0) c2 hps).1
      have hslot : SlotR Γ0 (paramS ps v 0) (plugK (List.range (fn.params.size + fn.nfree)) 0 as) := by
        intro k w hw
        obtain ⟨g1, g2, g3, g4⟩ := (paramS_R (n := 0) (k := k) c2 hps).2 w hw
        refine ⟨g1, ?_⟩
        rw [List.range_eq_range', plug_range _ _ _ _ (by omega) (by omega)]
        rw [Nat.sub_zero] at g3
        exact g3
      have hmem : MemR Γ0 [] [] := ⟨(fun id hid => by simp at hid), (fun _ _ => rfl), (fun i j r n l n' l' h => by cases h), (fun i r n l h => by cases h)⟩
      obtain ⟨e, σ1, m1, σA1, st1, Γ1, g1, g2, g3, g4, g5, g6⟩ := DT_ok hE c hslot hmem hr
      have hend : endT P σ1 m1 fn.results.toList res = some r ∧ (e = .normal ∨ e = .ret) := by
        cases e with
        | normal => exact ⟨g1, .inl rfl⟩
        | ret => exact ⟨g1, .inr rfl⟩
        | exit i => cases g1
      obtain ⟨a, b, k1, k2, k3⟩ := endT_R g2 g3 c4 c5 hend.1
      refine ⟨b, ?_, k3⟩
      have hrf : runF P E h fn as [] = some (a, st1) := by
        unfold runF
        have : Nat.beq as.length (fn.params.size + fn.nfree) = true := by rw [Nat.beq_eq]; omega
        rw [hb] at c6
        simp only [Option.getD_some] at c6
        rw [this, hb]
        simp only [cond_true, Option.getD_some, c6, c7, Bool.and_self]
        rw [g6]
        rcases hend.2 with rfl | rfl <;> simp only [k1, Option.map_some]
      simp only [closeF, hrf, Option.bind_some, k2]
    · cases hr
end
end Go.TY
