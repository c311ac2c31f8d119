/- The primitives that ask nothing of the store, in the model. -/
import Derived.Test.YtnafmjbakholcaaDoorE3
import Derived.ChangeKeysEq
set_option linter.unusedVariables false
set_option linter.unusedSimpArgs false
namespace Go.EM
section
variable {P : Program} {w : World} {O : Nat → Prop} {α : AM}

theorem info_of_szOf {t : TypeId} {n : Nat} (h : szOf P t = some n) : ∃ i, P.info? t = some i ∧ i.size = n := by
  unfold szOf at h
  cases hi : P.info? t with
  | none => simp [hi] at h
  | some i => simp [hi] at h; exact ⟨i, rfl, h⟩

theorem run_aeq : ∀ (d : Nat) (t : TypeId) (x y : AVal) (b : Bool) (u v : Value), aeq P d t x y = some b → Rep w O α x u → Rep w O α y v →
    ∀ D, d ≤ D → (Op.equalIn D t u v).run P w = .ok b w
  | 0, _, _, _, _, _, _, h, _, _, _, _ => by simp [aeq] at h
  | d + 1, t, x, y, b, u, v, h, hx, hy, 0, hD => by omega
  | d + 1, t, x, y, b, u, v, h, hx, hy, D + 1, hD => by
    unfold aeq at h
    split at h
    · rename_i hu
      split at h
      · rename_i a c
        simp only [Rep] at hx hy
        subst hx; subst hy
        cases h
        exact run_equalIn_bool w D t a c hu
      · cases h
    · rename_i k hu
      split at h
      · rename_i k1 a k2 c
        simp only [Rep] at hx hy
        subst hx; subst hy
        split at h
        · rename_i hk
          subst hk
          cases h
          exact run_equalIn_int w D t k1 k a c hu
        · cases h
      · cases h
    · rename_i hu
      split at h
      · rename_i a c
        simp only [Rep] at hx hy
        subst hx; subst hy
        cases h
        rw [run_equalIn_string w D t _ _ hu, ByteArray.toList_mk, ByteArray.toList_mk]
      · cases h
    · rename_i e hu
      split at h
      · simp only [Rep] at hx hy
        subst hx; subst hy; cases h
        simp [Op.equalIn, run_underlying hu]
      · simp only [Rep] at hx hy
        obtain ⟨_, _, rfl, _⟩ := hy
        subst hx; cases h
        simp [Op.equalIn, run_underlying hu]
      · simp only [Rep] at hx hy
        obtain ⟨_, _, rfl, _⟩ := hx
        subst hy; cases h
        simp [Op.equalIn, run_underlying hu]
      · cases h
    · rename_i ms hu
      split at h
      · simp only [Rep] at hx hy
        subst hx; subst hy; cases h
        simp [Op.equalIn, run_underlying hu]
      · simp only [Rep] at hx hy
        obtain ⟨_, rfl, _⟩ := hy
        subst hx; cases h
        simp [Op.equalIn, run_underlying hu]
      · simp only [Rep] at hx hy
        obtain ⟨_, rfl, _⟩ := hx
        subst hy; cases h
        simp [Op.equalIn, run_underlying hu]
      · cases h
    · rename_i _ _ _ hu
      split at h
      · simp only [Rep] at hx hy
        subst hx; subst hy; cases h
        simp [Op.equalIn, run_underlying hu]
      · simp only [Rep] at hx hy
        obtain ⟨_, _, rfl, _⟩ := hy
        subst hx; cases h
        simp [Op.equalIn, run_underlying hu]
      · simp only [Rep] at hx hy
        obtain ⟨_, _, rfl, _⟩ := hx
        subst hy; cases h
        simp [Op.equalIn, run_underlying hu]
      · cases h
    · rename_i fs hu
      split at h
      · rename_i xs ys
        split at h
        · cases h
        · rename_i hst
          simp only [Rep] at hx hy
          obtain ⟨l, rfl, hl⟩ := hx
          obtain ⟨m, rfl, hm⟩ := hy
          have hfs : P.fieldsOf t = fs := by simp [Program.fieldsOf, hu]
          rw [run_equalIn_struct w D t _ _ (by rw [hfs]; exact hu) (by simpa using hst), hfs]
          have key : ∀ (gs : List Field), aeqAll (fun a b u => aeq P d u a b) P gs xs ys = some b → (Op.eqFields D l.toArray m.toArray gs).run P w = .ok b w := by
            intro gs
            induction gs with
            | nil => intro h; simp [aeqAll] at h; subst h; simp [Op.eqFields]
            | cons g gs ih =>
              intro h
              simp only [aeqAll] at h
              split at h
              · rename_i hn; simp only [Op.eqFields, hn, ne_eq, not_true, if_false]; exact ih h
              · rename_i hn
                split at h
                · rename_i p q hp hq
                  obtain ⟨pu, hp1, hp2⟩ := partA_run hp hl
                  obtain ⟨qu, hq1, hq2⟩ := partA_run hq hm
                  cases hr : aeq P d g.type p q with
                  | none => simp [hr] at h
                  | some r =>
                    simp only [hr, Option.bind_some] at h
                    have he := run_aeq d g.type p q r pu qu hr hp2 hq2 D (by omega)
                    simp only [Op.eqFields, ne_eq, hn, not_false_iff, if_true, Sem.run_bind, hp1, hq1, he, Result.andThen_ok]
                    cases r with
                    | true => simpa using ih h
                    | false => simp at h; subst h; simp
                · cases h
          exact key _ h
      · cases h
    · rename_i len e hu
      split at h
      · rename_i xs ys
        simp only [Rep] at hx hy
        obtain ⟨l, rfl, hl⟩ := hx
        obtain ⟨m, rfl, hm⟩ := hy
        cases hn : szOf P e with
        | none => simp [hn] at h
        | some n =>
          simp only [hn, Option.bind_some] at h
          obtain ⟨i, hi, hi2⟩ := info_of_szOf hn
          rw [run_equalIn_array w D _ _ hu hi]
          have hc : P.cellsOf e = n := by simp [Program.cellsOf, hi, hi2]
          rw [hc]
          have key : ∀ (is : List Nat), aeqArr (fun a b u => aeq P d u a b) P e n is xs ys = some b → (Op.eqItems D e n l.toArray m.toArray is).run P w = .ok b w := by
            intro gs
            induction gs with
            | nil => intro h; simp [aeqArr] at h; subst h; simp [Op.eqItems]
            | cons g gs ih =>
              intro h
              simp only [aeqArr] at h
              split at h
              · rename_i p q hp hq
                obtain ⟨pu, hp1, hp2⟩ := partA_run hp hl
                obtain ⟨qu, hq1, hq2⟩ := partA_run hq hm
                cases hr : aeq P d e p q with
                | none => simp [hr] at h
                | some r =>
                  simp only [hr, Option.bind_some] at h
                  have he := run_aeq d e p q r pu qu hr hp2 hq2 D (by omega)
                  simp only [Op.eqItems, Sem.run_bind, hp1, hq1, he, Result.andThen_ok]
                  cases r with
                  | true => simpa using ih h
                  | false => simp at h; subst h; simp
              · cases h
          exact key _ h
      · cases h
    · cases h


theorem run_eqGuard {op : BinOp} {t : TypeId} {x y : AVal} {b : Bool} {u v : Value} {xo yo : Operand} (h : aeq P 8 t x y = some b)
    (hk : eqOk P t (isConst xo || isConst yo) x y = true) (hx : Rep w O α x u) (hy : Rep w O α y v) : (eqGuard op t xo yo u v).run P w = .ok () w := by
  by_cases ho : op = .eql ∨ op = .neq
  case neg =>
    cases op <;> simp at ho <;> simp [eqGuard]
  have key : (match u, v with
      | .nilIface, .nilIface => isConst xo || isConst yo
      | .agg _, .agg _ => !(P.eqGuardType P.depth t)
      | _, _ => true) = true := by
    unfold aeq at h
    split at h <;> first
      | (cases h; done)
      | (split at h <;> first
          | (cases h; done)
          | (simp only [Rep] at hx hy
             first
               | (subst hx; subst hy; (simp [eqOk] at hk ⊢ <;> exact hk))
               | (subst hx; obtain ⟨_, rfl, _⟩ := hy; (simp [eqOk] at hk ⊢ <;> exact hk))
               | (subst hx; obtain ⟨_, _, rfl, _⟩ := hy; (simp [eqOk] at hk ⊢ <;> exact hk))
               | (subst hy; obtain ⟨_, rfl, _⟩ := hx; (simp [eqOk] at hk ⊢ <;> exact hk))
               | (subst hy; obtain ⟨_, _, rfl, _⟩ := hx; (simp [eqOk] at hk ⊢ <;> exact hk))
               | (obtain ⟨_, rfl, _⟩ := hx; obtain ⟨_, rfl, _⟩ := hy; (simp [eqOk] at hk ⊢ <;> exact hk))))
  rcases ho with rfl | rfl
  all_goals
    split at key
    · cases xo <;> cases yo <;> simp [isConst] at key <;> simp [eqGuard]
    · simp only [Bool.not_eq_true'] at key
      exact run_eqGuard_agg w _ t xo yo _ _ key
    · rename_i h1 h2
      cases u <;> cases v <;> first
        | exact (h1 hx hy rfl rfl HEq.rfl HEq.rfl).elim
        | exact (h2 _ _ hx hy rfl rfl HEq.rfl HEq.rfl).elim
        | simp [eqGuard]

/-- '==' and '!=', by the table. -/
theorem run_eql {t : TypeId} {x y : AVal} {b : Bool} {u v : Value} (h : aeq P 8 t x y = some b) (hx : Rep w O α x u) (hy : Rep w O α y v) :
    (binOp .eql t u v).run P w = .ok (.bool b) w ∧ (binOp .neq t u v).run P w = .ok (.bool !b) w := by
  have he := run_aeq 8 t x y b u v h hx hy 10000 (by omega)
  have hq : (Op.equal t u v).run P w = .ok b w := he
  unfold aeq at h
  split at h <;> first
    | (cases h; done)
    | (split at h <;> first
        | (cases h; done)
        | (simp only [Rep] at hx hy
           first
             | (subst hx; subst hy; first
                 | (simp [binOp, hq]; done)
                 | (split at h
                    · rename_i hk; cases h; subst hk; exact ⟨by simp [binOp, Op.intCmp], by simp [binOp, Op.intCmp, bne]⟩
                    · cases h)
                 | (cases h; simp only [binOp, Op.stringOp, ByteArray.toList_mk, Sem.run_pure]; exact ⟨trivial, trivial⟩))
             | (subst hx; obtain ⟨_, rfl, _⟩ := hy; simp [binOp, hq]; done)
             | (subst hx; obtain ⟨_, _, rfl, _⟩ := hy; simp [binOp, hq]; done)
             | (subst hy; obtain ⟨_, rfl, _⟩ := hx; simp [binOp, hq]; done)
             | (subst hy; obtain ⟨_, _, rfl, _⟩ := hx; simp [binOp, hq]; done)
             | (obtain ⟨_, rfl, _⟩ := hx; obtain ⟨_, rfl, _⟩ := hy; simp [binOp, hq]; done)))

theorem run_abin {op : BinOp} {t : TypeId} {xo yo : Operand} {x y v : AVal} {u1 u2 : Value} (h : abin P op t (isConst xo || isConst yo) x y = some v)
    (hx : Rep w O α x u1) (hy : Rep w O α y u2) : ∃ u, (do eqGuard op t xo yo u1 u2; binOp op t u1 u2 : Sem Value).run P w = .ok u w ∧ Rep w O α v u := by
  have gen : ∀ (b : Bool) (f : Bool → Bool), (op = .eql ∧ f = id) ∨ (op = .neq ∧ f = not) → eqOk P t (isConst xo || isConst yo) x y = true → aeq P 8 t x y = some b → v = .bool (f b) →
      ∃ u, (do eqGuard op t xo yo u1 u2; binOp op t u1 u2 : Sem Value).run P w = .ok u w ∧ Rep w O α v u := by
    intro b f hop hk ha hv
    have hg := run_eqGuard (op := op) (xo := xo) (yo := yo) ha hk hx hy
    obtain ⟨e1, e2⟩ := run_eql ha hx hy
    rcases hop with ⟨rfl, rfl⟩ | ⟨rfl, rfl⟩
    · exact ⟨.bool b, by rw [Sem.run_bind, hg]; exact e1, by rw [hv]; simp [Rep]⟩
    · exact ⟨.bool !b, by rw [Sem.run_bind, hg]; exact e2, by rw [hv]; simp [Rep]⟩
  have gi : ∀ k a c, (eqGuard op t xo yo (.int k a) c).run P w = .ok () w := by
    intro k a c; cases op <;> cases c <;> simp [eqGuard]
  have gs : ∀ a c, (eqGuard op t xo yo (.string a) c).run P w = .ok () w := by
    intro a c; cases op <;> cases c <;> simp [eqGuard]
  unfold abin at h
  split at h
  · split at h
    · simp only [Rep] at hx hy; subst hx; subst hy
      rw [Sem.run_bind, gi]
      exact run_ashift h
    · cases h
  · split at h
    · simp only [Rep] at hx hy; subst hx; subst hy
      rw [Sem.run_bind, gi]
      exact run_ashift h
    · cases h
  · split at h
    · simp only [Rep] at hx hy; subst hx; subst hy
      split at h
      · rename_i hk; subst hk
        rw [Sem.run_bind, gi]
        exact run_aint (by simp) (by simp) h
      · cases h
    · simp only [Rep] at hx hy; subst hx; subst hy
      rw [Sem.run_bind, gs]
      exact run_astr (by simp) (by simp) h
    · cases hk : eqOk P t (isConst xo || isConst yo) x y with
      | false => simp [hk] at h
      | true =>
        simp only [hk, cond_true, Option.map_eq_some_iff] at h
        obtain ⟨b, hb, hv⟩ := h
        exact gen b id (.inl ⟨rfl, rfl⟩) hk hb hv.symm
  · split at h
    · simp only [Rep] at hx hy; subst hx; subst hy
      split at h
      · rename_i hk; subst hk
        rw [Sem.run_bind, gi]
        exact run_aint (by simp) (by simp) h
      · cases h
    · simp only [Rep] at hx hy; subst hx; subst hy
      rw [Sem.run_bind, gs]
      exact run_astr (by simp) (by simp) h
    · cases hk : eqOk P t (isConst xo || isConst yo) x y with
      | false => simp [hk] at h
      | true =>
        simp only [hk, cond_true, Option.map_eq_some_iff] at h
        obtain ⟨b, hb, hv⟩ := h
        exact gen b not (.inr ⟨rfl, rfl⟩) hk hb hv.symm
  · rename_i h1 h2 h3 h4
    split at h
    · simp only [Rep] at hx hy; subst hx; subst hy
      split at h
      · rename_i hk; subst hk
        rw [Sem.run_bind, gi]
        exact run_aint (fun e => h1 e) (fun e => h2 e) h
      · cases h
    · simp only [Rep] at hx hy; subst hx; subst hy
      rw [Sem.run_bind, gs]
      exact run_astr (fun e => h1 e) (fun e => h2 e) h
    · cases h

theorem run_aun {op : UnOp} {x v : AVal} {u : Value} (h : aun op x = some v) (hx : Rep w O α x u) : ∃ r, (Op.unary op u).run P w = .ok r w ∧ Rep w O α v r := by
  unfold aun at h
  split at h
  · simp only [Rep] at hx; subst hx; cases h
    exact ⟨_, by simp [Op.unary, Op.intArith]; rfl, by simp [Rep]⟩
  · simp only [Rep] at hx; subst hx
    simp only [aint] at h
    cases h
    exact ⟨_, by simp only [Op.unary, Op.intBits, Sem.run_pure]; rfl, by simp [Rep]⟩
  · simp only [Rep] at hx; subst hx; cases h
    exact ⟨_, by simp [Op.unary]; rfl, by simp [Rep]⟩
  · cases h

theorem run_apick {c a b v : AVal} {uc ua ub : Value} (h : apick c a b = some v) (hc : Rep w O α c uc) (ha : Rep w O α a ua) (hb : Rep w O α b ub) :
    ∃ r, (do pure (if ← asBool uc then ua else ub) : Sem Value).run P w = .ok r w ∧ Rep w O α v r := by
  unfold apick at h
  split at h
  · rename_i t
    simp only [Rep] at hc; subst hc; cases h
    cases t
    · exact ⟨ub, by simp [asBool], by simpa using hb⟩
    · exact ⟨ua, by simp [asBool], by simpa using ha⟩
  · cases h

theorem run_aconv {src dst : TypeId} {x v : AVal} {u : Value} (h : aconv P src dst x = some v) (hx : Rep w O α x u) : ∃ r, (convert src dst u).run P w = .ok r w ∧ Rep w O α v r := by
  unfold aconv at h
  split at h
  · rename_i ds k hs hd
    split at h
    · rename_i k' n
      simp only [Rep] at hx; subst hx; cases h
      refine ⟨.int k (k.wrap n), ?_, by simp [Rep]⟩
      unfold convert
      rw [Sem.run_bind, run_underlying hs, Result.andThen_ok, Sem.run_bind, run_underlying hd, Result.andThen_ok]
      rfl
    · cases h
  · rename_i ds hs hd
    split at h
    · rename_i s
      simp only [Rep] at hx; subst hx; cases h
      refine ⟨.string ⟨s.toArray⟩, ?_, by simp [Rep]⟩
      unfold convert
      rw [Sem.run_bind, run_underlying hs, Result.andThen_ok, Sem.run_bind, run_underlying hd, Result.andThen_ok]
      rfl
    · rename_i k n
      simp only [Rep] at hx; subst hx; cases h
      refine ⟨.string (Utf8.encode n), ?_, by simp [Rep]⟩
      unfold convert
      rw [Sem.run_bind, run_underlying hs, Result.andThen_ok, Sem.run_bind, run_underlying hd, Result.andThen_ok]
      rfl
    · cases h
  · cases h

end
end Go.EM
