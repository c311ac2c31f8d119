/- One operation. -/
import Derived.Test.YtnafmjbakholcaaDoorE11p
set_option linter.unusedVariables false
set_option linter.unusedSimpArgs false
namespace Go.EM

def GlobOk (G : List (Nat × AVal)) (w : World) (O : Nat → Prop) (α : AM) : Prop :=
  ∀ g v, lookN G g = some v → closed v = true ∧ Rep w O α v (.pointer (some ⟨g, 0, none⟩))

def Goes (P : Program) (f : Nat) : Prop := ∃ fn, P.funcs[f]? = some fn ∧ fn.body.isNone = false ∧ (fn.name == "runtime.NumGoroutine") = false

def SoundP (P : Program) (G : List (Nat × AVal)) (f : Nat) (F : PFn) : Prop :=
  Goes P f ∧ ∀ xs r, F xs = some r → closedL xs = true → ∀ w O vs, (∀ b, O b → b < w.heap.size) → GlobOk G w O [] → RepL w O [] xs vs →
    Calls P f vs.toArray w fun e w' => ∃ v, e = .returned v ∧ Quiet w w' ∧ Rep w' O [] r v ∧ closed r = true
def SoundS (P : Program) (G : List (Nat × AVal)) (f : Nat) (F : SFn) : Prop :=
  Goes P f ∧ ∀ xs st r st', F xs st = some (r, st') → ∀ w O α vs, Inv w O α st → GlobOk G w O α → RepL w O α xs vs →
    Calls P f vs.toArray w fun e w' => ∃ v α', e = .returned v ∧ Ext w α w' α' ∧ Inv w' O α' st' ∧ Rep w' O α' r v
/-- A function of the model's own that hands its argument on. -/
def Same (P : Program) (f : Nat) : Prop := ∃ fn, P.funcs[f]? = some fn ∧ (fn.name == "runtime.NumGoroutine") = false ∧ fn.body.isNone = true ∧ Extern.findNext fn = none ∧ Extern.find fn = some Extern.AbiNoEscape.same
structure EnvOk (P : Program) (E : Env) : Prop where
  same : ∀ f, memN f E.same = true → Same P f
  pure : ∀ f F, lookN E.pure f = some F → SoundP P E.glob f F
  raw : ∀ f F, lookN E.raw f = some F → SoundS P E.glob f F
  look : ∀ f F, lookN E.look f = some F → SoundP P E.glob f F

structure SlotRep (w : World) (O : Nat → Prop) (α : AM) (σ : Slots) (N : Nat) (a : Act) : Prop where
  slot : ∀ t, Rep w O α (getS σ t) (a.tmps.getD t undef)
  defers : a.defers = []
  size : a.tmps.size = N

section
variable {P : Program} {E : Env} {w w' : World} {O : Nat → Prop} {α α' : AM} {st : Store} {σ : Slots} {N : Nat} {a : Act}

theorem GlobOk.ext {G : List (Nat × AVal)} (h : GlobOk G w O α) (he : Ext w α w' α') : GlobOk G w' O α' := fun g v hv => ⟨(h g v hv).1, Rep_ext he (h g v hv).2⟩
theorem SlotRep.ext (h : SlotRep w O α σ N a) (he : Ext w α w' α') : SlotRep w' O α' σ N a := ⟨fun t => Rep_ext he (h.slot t), h.defers, h.size⟩

theorem opnd_rep (hs : SlotRep w O α σ N a) (hg : GlobOk E.glob w O α) (x : Operand) : Rep w O α (opnd E σ x) (a.eval x) := by
  cases x with
  | tmp t => exact hs.slot t
  | const v => exact ofConst_rep v
  | global g =>
    simp only [opnd, Act.eval]
    cases h : lookN E.glob g with
    | none => simp [Rep]
    | some v => exact (hg g v h).2
  | func f =>
    simp only [opnd, Act.eval, Rep]
    exact ⟨[], [], rfl, by simp [RepL], by simp [RepL]⟩
theorem args_rep (hs : SlotRep w O α σ N a) (hg : GlobOk E.glob w O α) : ∀ xs : List Operand, RepL w O α (args E σ xs) (xs.map a.eval)
  | [] => by simp [args, RepL]
  | x :: xs => by
    simp only [args, List.map_cons, RepL]
    exact ⟨_, _, rfl, opnd_rep hs hg x, args_rep hs hg xs⟩
theorem parts_rep (hs : SlotRep w O α σ N a) (hg : GlobOk E.glob w O α) : ∀ ps : List (Nat × Operand), RepParts w O α (ps.map fun p => (p.1, opnd E σ p.2)) (ps.map fun p => (p.1, a.eval p.2))
  | [] => by simp [RepParts]
  | p :: ps => by
    simp only [List.map_cons, RepParts]
    exact ⟨_, _, rfl, opnd_rep hs hg p.2, parts_rep hs hg ps⟩
theorem optO_rep (hs : SlotRep w O α σ N a) (hg : GlobOk E.glob w O α) (x : Option Operand) : RepO w O α (x.map (opnd E σ)) (x.map a.eval) := by
  cases x with
  | none => rfl
  | some x => exact ⟨_, rfl, opnd_rep hs hg x⟩

/-- From a run to the operation's rule. -/
theorem wp_of_run {o : Oper} {next : Act → World → Prop} {Q : Exit → Act → World → Prop} {s : Sem Value} {u : Value} (he : execOp a.eval o = (do pure (.value (← s)))) (hr : s.run P w = .ok u w')
    (h : next (a.put o.dst u) w') : o.wp P a w next Q := by
  unfold Oper.wp
  rw [he, Sem.run_bind, hr]
  exact h
theorem wp_of_val {o : Oper} {next : Act → World → Prop} {Q : Exit → Act → World → Prop} {u : Value} (he : execOp a.eval o = pure (.value u))
    (h : next (a.put o.dst u) w) : o.wp P a w next Q := by
  unfold Oper.wp
  rw [he]
  exact h

theorem run_callSame {f : Nat} {x : Value} (h : Same P f) : (callFunc f #[x]).run P w = .ok (.value x) w := by
  obtain ⟨fn, h1, h2, h3, h4, h5⟩ := h
  unfold callFunc
  rw [Sem.run_bind, run_program, Result.andThen_ok, h1]
  simp only [h2, h3, h4, h5, Bool.false_eq_true, if_false, if_true]
  rfl

/-- A call of a function of Go's own text. -/
theorem run_callFunc {f : Nat} {xs : Array Value} (h : Goes P f) : (callFunc f xs).run P w = .ok (.enter f xs) w := by
  obtain ⟨fn, h1, h2, h3⟩ := h
  unfold callFunc
  rw [Sem.run_bind, run_program, Result.andThen_ok, h1]
  simp only [h3, h2, Bool.false_eq_true, if_false]
  rfl

theorem pres_in (hi : Inv w O α st) : Pres true w O α w (fun b => O b ∨ Owned α b) [] :=
  ⟨fun _ _ _ _ _ h => h, fun b _ _ h1 h2 _ => ⟨fun h => h.elim h1 h2, fun ⟨r, ri, h, _⟩ => by simp at h⟩, (fun h => Bool.noConfusion h), (fun h => Bool.noConfusion h)⟩
theorem pres_out : Pres true w (fun b => O b ∨ Owned α b) [] w O α :=
  ⟨fun _ _ _ _ _ h => h, fun b _ _ h1 _ _ => ⟨fun h => h1 (.inl h), fun h => h1 (.inr h)⟩, (fun h => Bool.noConfusion h), (fun h => Bool.noConfusion h)⟩

theorem calls_pure {f : Nat} {F : PFn} {xs : List AVal} {vs : List Value} {r : AVal} (hF : SoundP P E.glob f F) (hi : Inv w O α st) (hg : GlobOk E.glob w O α) (h : callP F xs = some r) (hv : RepL w O α xs vs) :
    Calls P f vs.toArray w fun e w' => ∃ v, e = .returned v ∧ Quiet w w' ∧ Rep w' O α r v := by
  unfold callP at h
  cases hc : closedL xs with
  | false => simp [hc] at h
  | true =>
    simp only [hc, cond_true] at h
    have := hF.2 xs r h hc w (fun b => O b ∨ Owned α b) vs (fun b hb => hb.elim (hi.bound b) (fun ⟨r, ri, h1, h2⟩ => by rw [← h2]; exact (hi.fresh r ri h1).2))
      (fun g v hgv => ⟨(hg g v hgv).1, Rep_pres (pres_in hi) v _ (fun _ => (hg g v hgv).1) (hg g v hgv).2⟩)
      (RepL_pres (pres_in hi) xs vs (fun _ => hc) hv)
    refine this.mono ?_
    rintro e w' ⟨v, he, hq, hr, hcl⟩
    exact ⟨v, he, hq, Rep_pres pres_out r v (fun _ => hcl) hr⟩

theorem calls_look {f : Nat} {F : PFn} {xs : List AVal} {vs : List Value} {r : AVal} (hF : SoundP P E.glob f F) (hi : Inv w O α st) (hg : GlobOk E.glob w O α) (h : callQ F xs st = some r) (hv : RepL w O α xs vs) :
    Calls P f vs.toArray w fun e w' => ∃ v, e = .returned v ∧ Quiet w w' ∧ Rep w' O α r v := by
  unfold callQ at h
  simp only [Option.bind_eq_some_iff] at h
  obtain ⟨ys, hys, v, hF', hs⟩ := h
  cases hsc : scalar v with
  | false => rw [hsc] at hs; cases hs
  | true =>
    rw [hsc] at hs
    cases hs
    obtain ⟨h1, h2⟩ := packL_sound hi xs ys vs hys hv
    have := hF.2 ys r hF' h2 w O vs hi.bound (fun g v hgv => ⟨(hg g v hgv).1, closed_any (hg g v hgv).1 (hg g v hgv).2⟩) h1
    refine this.mono ?_
    rintro e w' ⟨v, he, hq, hr, hcl⟩
    exact ⟨v, he, hq, scalar_rep r v hsc hr⟩

theorem wp_enter {o : Oper} {next : Act → World → Prop} {Q : Exit → Act → World → Prop} {f : Nat} {xs : Array Value} (he : (execOp a.eval o).run P w = .ok (.enter f xs) w)
    (h : Calls P f xs w fun e w' => ∃ v, e = .returned v ∧ next (a.put o.dst v) w') : o.wp P a w next Q := by
  unfold Oper.wp
  rw [he, Oper.upon_enter]
  refine h.mono ?_
  rintro e w' ⟨v, rfl, hn⟩
  exact hn

theorem exec_call {o : Oper} {c : Call} {f : Nat} (ho : o.op = .call c) (hc : c.callee = .value (.func f)) (hG : Goes P f) :
    (execOp a.eval o).run P w = .ok (.enter f (c.args.toList.map a.eval).toArray) w := by
  unfold execOp
  simp only [ho, resolve, hc, Act.eval, Deferred.ofValue, Sem.run_bind, Sem.run_pure, Result.andThen_ok, invoke]
  rw [run_callFunc hG]
  congr 2
  apply Array.ext'
  simp

set_option maxHeartbeats 1000000 in
/-- Operations of class 0. -/
theorem opP_sound (hE : EnvOk P E) {o : Oper} {v : AVal} (h : opP P E σ o = some v) (hi : Inv w O α st) (hg : GlobOk E.glob w O α) (hs : SlotRep w O α σ N a)
    (next : Act → World → Prop) (Q : Exit → Act → World → Prop) (hn : ∀ u w', Quiet w w' → Rep w' O α v u → next (a.put o.dst u) w') : o.wp P a w next Q := by
  have R := fun x => opnd_rep (E := E) hs hg x
  have same : ∀ {s : Sem Value}, execOp a.eval o = (do pure (.value (← s))) → (∃ r, s.run P w = .ok r w ∧ Rep w O α v r) → o.wp P a w next Q := by
    intro s he ⟨r, h1, h2⟩
    exact wp_of_run he h1 (hn r w (Quiet.refl w) h2)
  unfold opP at h
  split at h
  · rename_i x ho
    cases h
    exact wp_of_val (u := a.eval x) (by unfold execOp; simp only [ho]) (hn _ w (Quiet.refl w) (R x))
  · rename_i x ho
    cases h
    exact wp_of_val (u := a.eval x) (by unfold execOp; simp only [ho]) (hn _ w (Quiet.refl w) (R x))
  · rename_i c p q ho
    obtain ⟨r, h1, h2⟩ := run_apick (P := P) h (R c) (R p) (R q)
    refine same (s := do pure (if ← asBool (a.eval c) then a.eval p else a.eval q)) ?_ ⟨r, h1, h2⟩
    unfold execOp; simp only [ho, bind_assoc, pure_bind]
  · rename_i op t x y yt ho
    exact same (by unfold execOp; simp only [ho]) (run_abin (P := P) h (R x) (R y))
  · rename_i op t x ho
    exact same (by unfold execOp; simp only [ho]) (run_aun (P := P) h (R x))
  · rename_i src dst x ho
    exact same (by unfold execOp; simp only [ho]) (run_aconv (P := P) h (R x))
  · rename_i t x i ho
    exact same (by unfold execOp; simp only [ho]) (run_aindex (P := P) h (R x) (R i))
  · rename_i t x i ho
    exact same (by unfold execOp; simp only [ho]) (run_aidx (P := P) h (R x) (R i))
  · rename_i s x f ho
    exact same (by unfold execOp; simp only [ho]) (run_afaddr (P := P) h (R x))
  · rename_i s x f ho
    exact same (by unfold execOp; simp only [ho]) (run_afield (P := P) h (R x))
  · rename_i x i ho
    exact same (by unfold execOp; simp only [ho]) (run_aextract (P := P) h (R x))
  · rename_i t x lo hi' mx ho
    exact same (by unfold execOp; simp only [ho]) (run_aslice (P := P) h (R x) (optO_rep hs hg lo) (optO_rep hs hg hi') (optO_rep hs hg mx))
  · rename_i t parts ho
    refine same (s := Instr.build t (parts.map fun p => (p.1, a.eval p.2))) (by unfold execOp; simp only [ho]) (run_abuild (P := P) h ?_)
    rw [Array.toList_map]
    exact parts_rep hs hg parts.toList
  · rename_i t len parts ho
    simp only [Option.map_eq_some_iff] at h
    obtain ⟨⟨n, xs⟩, hp, rfl⟩ := h
    obtain ⟨c, e, us, h1, h2, h3, h4, h5, _⟩ := run_abuildSlice (P := P) hi (vs := parts.map fun p => (p.1, a.eval p.2)) hp (by rw [Array.toList_map]; exact parts_rep hs hg parts.toList)
    have hq := Quiet.alloc w (.cells c e)
    obtain ⟨n1, n2⟩ := not_owned_new hi
    refine wp_of_run (s := Instr.buildSlice t len (parts.map fun p => (p.1, a.eval p.2))) (by unfold execOp; simp only [ho]) h1 (hn _ _ hq ?_)
    simp only [Rep]
    refine ⟨_, _, by rw [h4], by omega, fun _ => h4.symm, .inr ⟨h5, w.heap.size, 0, rfl, n1, n2, ?_⟩⟩
    refine row_of 0 (RowVals_pres (Pres.of_ext (hq.ext α)) h2) (fun j hj => ?_)
    have hb := cells_alloc (w := w) c e (0, 0)
    simp only [World.cell?, hb, Option.isSome_none, Bool.false_eq_true, if_false, Nat.zero_add]
    rw [← Array.getElem?_toList, h3]
  · rename_i t x ho
    exact same (by unfold execOp; simp only [ho]) (run_amkIface (P := P) h (R x))
  · rename_i x xt t ok ho
    exact same (s := Instr.typeAssert (a.eval x) xt t ok) (by unfold execOp; simp only [ho]) (run_aassert (P := P) h (R x))
  · rename_i fn f c ho
    cases h
    refine same (s := Instr.makeFunc fn (f.map a.eval) (c.map a.eval)) (by unfold execOp; simp only [ho]) ⟨_, rfl, ?_⟩
    simp only [Rep]
    refine ⟨f.toList.map a.eval, c.toList.map a.eval, ?_, args_rep hs hg _, args_rep hs hg _⟩
    congr 1 <;> (apply Array.ext'; simp)
  · rename_i x ho
    have hx := R x
    have key : (∃ b o, a.eval x = .pointer (some ⟨b, o, none⟩)) ∧ Rep w O α v (a.eval x) := by
      unfold anilck at h
      split at h
      · rename_i r top i off he
        cases h
        rw [he] at hx
        refine ⟨?_, hx⟩
        simp only [Rep] at hx
        obtain ⟨_, b, o, e, _⟩ := hx
        exact ⟨b, o, e⟩
      · rename_i cs he
        cases h
        rw [he] at hx
        refine ⟨?_, hx⟩
        simp only [Rep] at hx
        obtain ⟨b, o, e, _⟩ := hx
        exact ⟨b, o, e⟩
      · cases h
    obtain ⟨⟨b, o', e⟩, hr⟩ := key
    exact wp_of_val (u := a.eval x) (by unfold execOp; simp only [ho, e]) (hn _ w (Quiet.refl w) hr)
  · rename_i c ho
    split at h
    · rename_i hc
      split at h
      · rename_i x t hx ht
        have e1 : c.args = #[x] := by apply Array.ext'; simpa using hx
        have e2 : c.argTypes = #[t] := by apply Array.ext'; simpa using ht
        refine same (s := Builtin.len_ #[t] o.type #[a.eval x]) ?_ (run_alen (P := P) h (R x))
        unfold execOp
        simp only [ho, resolve, hc, pure_bind, invoke, builtin, e1, e2, List.map_toArray, List.map_cons, List.map_nil]
      · cases h
    · rename_i hc
      have := run_aminmax (P := P) (tys := c.argTypes) (ty := o.type) h (args_rep hs hg c.args.toList)
      refine same (s := Builtin.max_ c.argTypes o.type (c.args.map a.eval)) ?_ ?_
      · unfold execOp
        simp only [ho, resolve, hc, pure_bind, invoke, builtin]
      · obtain ⟨r, h1, h2⟩ := this
        refine ⟨r, ?_, h2⟩
        rw [← h1]
        have e : (c.args.toList.map a.eval).toArray = c.args.map a.eval := by apply Array.ext'; simp
        rw [e]
        rfl
    · rename_i hc
      have := run_aminmax (P := P) (tys := c.argTypes) (ty := o.type) h (args_rep hs hg c.args.toList)
      refine same (s := Builtin.min_ c.argTypes o.type (c.args.map a.eval)) ?_ ?_
      · unfold execOp
        simp only [ho, resolve, hc, pure_bind, invoke, builtin]
      · obtain ⟨r, h1, h2⟩ := this
        refine ⟨r, ?_, h2⟩
        rw [← h1]
        have e : (c.args.toList.map a.eval).toArray = c.args.map a.eval := by apply Array.ext'; simp
        rw [e]
        rfl
    · rename_i f hc
      split at h
      · rename_i F hF
        have hS := hE.pure f F hF
        refine wp_enter (exec_call ho hc hS.1) ?_
        refine (calls_pure hS hi hg h (args_rep hs hg c.args.toList)).mono ?_
        rintro e w' ⟨v', he, hq, hr⟩
        exact ⟨v', he, hn v' w' hq hr⟩
      · cases hm : memN f E.same with
        | false => rw [hm] at h; cases h
        | true =>
          rw [hm] at h
          simp only [cond_true] at h
          split at h
          · rename_i x hx
            cases h
            have hv := args_rep (E := E) hs hg c.args.toList
            rw [hx] at hv
            simp only [RepL] at hv
            obtain ⟨u, us, hu, hr1, rfl⟩ := hv
            have e1 : c.args.map a.eval = #[u] := by apply Array.ext'; simpa using hu
            have hr : (execOp a.eval o).run P w = .ok (.value u) w := by
              have ef : a.eval (.func f) = .func (.func f) #[] #[] := rfl
              unfold execOp
              simp only [ho, resolve, hc, ef, Deferred.ofValue, Sem.run_bind, Sem.run_pure, Result.andThen_ok, invoke, e1]
              have := run_callSame (w := w) (x := u) (hE.same f hm)
              simpa using this
            unfold Oper.wp
            rw [hr]
            exact hn _ w (Quiet.refl w) hr1
          · cases h
    · cases h
  · cases h

theorem calls_A (hE : EnvOk P E) {f : Nat} {xs : List AVal} {vs : List Value} {r : AVal} {st' : Store} (h : callA E f xs st = some (r, st')) (hi : Inv w O α st) (hg : GlobOk E.glob w O α) (hv : RepL w O α xs vs) :
    Goes P f ∧ Calls P f vs.toArray w fun e w' => ∃ v α', e = .returned v ∧ Ext w α w' α' ∧ Inv w' O α' st' ∧ Rep w' O α' r v := by
  unfold callA at h
  split at h
  · rename_i F hF
    simp only [Option.map_eq_some_iff, Prod.mk.injEq] at h
    obtain ⟨v, hc, rfl, rfl⟩ := h
    have hS := hE.pure f F hF
    refine ⟨hS.1, (calls_pure hS hi hg hc hv).mono ?_⟩
    rintro e w' ⟨u, he, hq, hr⟩
    exact ⟨u, α, he, hq.ext α, hq.inv hi, hr⟩
  · split at h
    · rename_i F hF
      simp only [Option.map_eq_some_iff, Prod.mk.injEq] at h
      obtain ⟨v, hc, rfl, rfl⟩ := h
      have hS := hE.look f F hF
      refine ⟨hS.1, (calls_look hS hi hg hc hv).mono ?_⟩
      rintro e w' ⟨u, he, hq, hr⟩
      exact ⟨u, α, he, hq.ext α, hq.inv hi, hr⟩
    split at h
    · rename_i F hF
      have hS := hE.raw f F hF
      exact ⟨hS.1, hS.2 xs st r st' h w O α vs hi hg hv⟩
    · cases h

theorem wp_done {o : Oper} {next : Act → World → Prop} {Q : Exit → Act → World → Prop} {s : Sem Value} {v : AVal} {st' : Store} (he : execOp a.eval o = (do pure (.value (← s)))) (hd : Done P s w O α v st')
    (hn : ∀ u w' α', Ext w α w' α' → Inv w' O α' st' → Rep w' O α' v u → next (a.put o.dst u) w') : o.wp P a w next Q := by
  obtain ⟨u, w', α', h1, h2, h3, h4⟩ := hd
  exact wp_of_run he h1 (hn u w' α' h2 h3 h4)

theorem run_aptrEq {e n : Nat} {t : TypeId} {x y : AVal} {b : Bool} {u1 u2 : Value} (hi : Inv w O α st) (hb : aptrEq st x y = some b) (he : P.underlying t = some (.pointer e)) (hn : szOf P e = some n) (hn0 : n ≠ 0)
    (hx : Rep w O α x u1) (hy : Rep w O α y u2) : (∀ D, (Op.equalIn (D + 1) t u1 u2).run P w = .ok b w) ∧ ∃ p q, u1 = .pointer p ∧ u2 = .pointer q := by
  have nilx : ∀ {r top i off u}, Rep w O α (.ptr r top i off) u → ∃ b o, u = .pointer (some ⟨b, o, none⟩) := by
    intro r top i off u hu
    simp only [Rep] at hu
    obtain ⟨_, b, o, e, _⟩ := hu
    exact ⟨b, o, e⟩
  unfold aptrEq at hb
  split at hb
  · simp only [Rep] at hx hy; subst hx; subst hy; cases hb
    exact ⟨fun D => by simp [Op.equalIn, run_underlying he], _, _, rfl, rfl⟩
  · simp only [Rep] at hx hy; subst hx; obtain ⟨_, _, rfl, _⟩ := hy; cases hb
    exact ⟨fun D => by simp [Op.equalIn, run_underlying he], _, _, rfl, rfl⟩
  · simp only [Rep] at hx hy; subst hy; obtain ⟨_, _, rfl, _⟩ := hx; cases hb
    exact ⟨fun D => by simp [Op.equalIn, run_underlying he], _, _, rfl, rfl⟩
  · obtain ⟨p, q, rfl⟩ := nilx hy
    simp only [Rep] at hx; subst hx
    simp only [Option.map_eq_some_iff] at hb
    obtain ⟨_, _, rfl⟩ := hb
    exact ⟨fun D => by simp [Op.equalIn, run_underlying he], _, _, rfl, rfl⟩
  · obtain ⟨p, q, rfl⟩ := nilx hx
    simp only [Rep] at hy; subst hy
    simp only [Option.map_eq_some_iff] at hb
    obtain ⟨_, _, rfl⟩ := hb
    exact ⟨fun D => by simp [Op.equalIn, run_underlying he], _, _, rfl, rfl⟩
  · split at hb
    · rename_i hc
      obtain ⟨rfl, rfl, rfl, rfl⟩ := hc
      simp only [Option.map_eq_some_iff] at hb
      obtain ⟨⟨m, xs, z⟩, hcz, rfl⟩ := hb
      obtain ⟨h1, h2⟩ := cellsAt_spec hi hcz
      obtain ⟨ri, g1, g2, g3, g4, _⟩ := hi.alive h1
      simp only [Rep] at hx hy
      obtain ⟨_, b1, o1, rfl, k1⟩ := hx
      obtain ⟨_, b2, o2, rfl, k2⟩ := hy
      obtain ⟨rfl, rfl⟩ := (k1 ri g1).2 g4
      obtain ⟨rfl, rfl⟩ := (k2 ri g1).2 g4
      refine ⟨fun D => ?_, _, _, rfl, rfl⟩
      have hsz := EM.run_sizeOf (P := P) (w := w) hn
      simp only [Op.equalIn, Sem.run_bind, run_underlying he, Result.andThen_ok, hsz]
      rw [if_pos hn0]
      simp [sameAddr]
    · cases hb
  · cases hb

theorem run_aptrOp {op : BinOp} {t : TypeId} {xo yo : Operand} {x y v : AVal} {u1 u2 : Value} (hi : Inv w O α st) (h : aptrOp P op t st x y = some v)
    (hx : Rep w O α x u1) (hy : Rep w O α y u2) : ∃ u, (do eqGuard op t xo yo u1 u2; binOp op t u1 u2 : Sem Value).run P w = .ok u w ∧ Rep w O α v u := by
  unfold aptrOp at h
  cases hz : Nat.beq (ptrSize P t) 0 with
  | true => simp [hz] at h
  | false =>
    simp only [hz, cond_false] at h
    have hp : ∃ e n, P.underlying t = some (.pointer e) ∧ szOf P e = some n ∧ n ≠ 0 := by
      unfold ptrSize at hz
      split at hz
      · rename_i e he
        cases hn : szOf P e with
        | none => simp [hn] at hz
        | some n => refine ⟨e, n, he, hn, fun h0 => ?_⟩; subst h0; simp [hn] at hz
      · simp at hz
    obtain ⟨e, n, he, hn, hn0⟩ := hp
    have gok : ∀ p q, (eqGuard op t xo yo (.pointer p) (.pointer q)).run P w = .ok () w := by
      intro p q; cases op <;> simp [eqGuard]
    split at h
    · simp only [Option.map_eq_some_iff] at h
      obtain ⟨b, hb, rfl⟩ := h
      obtain ⟨h1, p, q, rfl, rfl⟩ := run_aptrEq (P := P) hi hb he hn hn0 hx hy
      have h2 : (Op.equal t (.pointer p) (.pointer q)).run P w = .ok b w := h1 9999
      refine ⟨.bool b, ?_, by simp [Rep]⟩
      rw [Sem.run_bind, gok, Result.andThen_ok]
      simp only [binOp, Sem.run_bind, h2, Result.andThen_ok, Sem.run_pure]
    · simp only [Option.map_eq_some_iff] at h
      obtain ⟨b, hb, rfl⟩ := h
      obtain ⟨h1, p, q, rfl, rfl⟩ := run_aptrEq (P := P) hi hb he hn hn0 hx hy
      have h2 : (Op.equal t (.pointer p) (.pointer q)).run P w = .ok b w := h1 9999
      refine ⟨.bool !b, ?_, by simp [Rep]⟩
      rw [Sem.run_bind, gok, Result.andThen_ok]
      simp only [binOp, Sem.run_bind, h2, Result.andThen_ok, Sem.run_pure]
    · cases h

set_option maxHeartbeats 1000000 in
/-- Any other operation. -/
theorem opS_sound (hE : EnvOk P E) {o : Oper} {v : AVal} {st' : Store} (h : opS P E σ st o = some (v, st')) (hi : Inv w O α st) (hg : GlobOk E.glob w O α) (hs : SlotRep w O α σ N a)
    (next : Act → World → Prop) (Q : Exit → Act → World → Prop) (hn : ∀ u w' α', Ext w α w' α' → Inv w' O α' st' → Rep w' O α' v u → next (a.put o.dst u) w') : o.wp P a w next Q := by
  have R := fun x => opnd_rep (E := E) hs hg x
  unfold opS at h
  split at h
  · rename_i op t x y yt ho
    simp only [Option.map_eq_some_iff, Prod.mk.injEq] at h
    obtain ⟨v', h, rfl, rfl⟩ := h
    exact wp_done (s := do eqGuard op t x y (a.eval x) (a.eval y); binOp op t (a.eval x) (a.eval y)) (by unfold execOp; simp only [ho]) (Done.pure hi (run_aptrOp (P := P) hi h (R x) (R y))) hn
  · rename_i src dst x ho
    exact wp_done (s := convert src dst (a.eval x)) (by unfold execOp; simp only [ho]) (done_convS hi h (R x)) hn
  · rename_i t len parts ho
    simp only [Option.map_eq_some_iff] at h
    obtain ⟨⟨n, xs⟩, hp, he⟩ := h
    have hd := done_buildSliceS (P := P) hi (vs := parts.map fun p => (p.1, a.eval p.2)) hp (by rw [Array.toList_map]; exact parts_rep hs hg parts.toList)
    simp only [] at he
    rw [he] at hd
    exact wp_done (s := Instr.buildSlice t len (parts.map fun p => (p.1, a.eval p.2))) (by unfold execOp; simp only [ho]) hd hn
  · rename_i t x ho
    simp only [Option.map_eq_some_iff, Prod.mk.injEq] at h
    obtain ⟨v', h, rfl, rfl⟩ := h
    exact wp_done (s := Instr.loadAt t (a.eval x)) (by unfold execOp; simp only [ho]) (Done.pure hi (run_aload (P := P) hi h (R x))) hn
  · rename_i t x y ho
    simp only [Option.map_eq_some_iff, Prod.mk.injEq] at h
    obtain ⟨st2, h, rfl, rfl⟩ := h
    obtain ⟨w', α', h1, h2, h3⟩ := done_store (P := P) hi h (R x) (R y)
    unfold Oper.wp
    have he : execOp a.eval o = (do Instr.storeAt t (a.eval x) (a.eval y); pure .skip) := by unfold execOp; simp only [ho]
    rw [he, Sem.run_bind, h1]
    exact hn _ w' α' h2 h3 (by simp [Rep])
  · rename_i t ho
    exact wp_done (s := Instr.alloc t true (.tuple #[])) (by unfold execOp; simp only [ho]) (done_alloc hi h) hn
  · rename_i t x ho
    exact wp_done (s := Instr.box t (a.eval x)) (by unfold execOp; simp only [ho]) (done_box hi h (R x)) hn
  · rename_i t l c ho
    exact wp_done (s := Instr.makeSlice t (a.eval l) (a.eval c)) (by unfold execOp; simp only [ho]) (done_make hi h (R l) (R c)) hn
  · rename_i t x ho
    exact wp_done (s := Instr.range t (a.eval x)) (by unfold execOp; simp only [ho]) (done_range hi h (R x)) hn
  · rename_i it b ho
    exact wp_done (s := Instr.next (a.eval it) b o.type) (by unfold execOp; simp only [ho]) (done_next hi h (R it)) hn
  · rename_i c ho
    split at h
    · rename_i hc
      split at h
      · rename_i x y hx
        have e1 : c.args = #[x, y] := by apply Array.ext'; simpa using hx
        have ht : ∃ t u, c.argTypes.toList = [t, u] := by
          unfold aappendOp at h
          split at h
          · rename_i t u htu; exact ⟨t, u, htu⟩
          · cases h
        obtain ⟨t, u, ht⟩ := ht
        rw [ht] at h
        have e2 : c.argTypes = #[t, u] := by apply Array.ext'; simpa using ht
        refine wp_done (s := Builtin.append_ #[t, u] o.type #[a.eval x, a.eval y]) ?_ (done_append hi h (R x) (R y)) hn
        unfold execOp
        simp only [ho, resolve, hc, pure_bind, invoke, builtin, e1, e2, List.map_toArray, List.map_cons, List.map_nil]
      · cases h
    · rename_i hc
      split at h
      · rename_i x hx
        simp only [Option.map_eq_some_iff, Prod.mk.injEq] at h
        obtain ⟨v', h, rfl, rfl⟩ := h
        have hv := args_rep (E := E) hs hg c.args.toList
        rw [hx] at hv
        simp only [RepL] at hv
        obtain ⟨u, us, hu, hr1, rfl⟩ := hv
        have e1 : c.args.map a.eval = #[u] := by apply Array.ext'; simpa using hu
        refine wp_done (s := Builtin.unsafeSliceData_ c.argTypes o.type #[u]) ?_ (Done.pure hi (run_sliceData (P := P) hi h hr1)) hn
        unfold execOp
        simp only [ho, resolve, hc, pure_bind, invoke, builtin, e1]
      · cases h
    · rename_i hc
      split at h
      · rename_i x y hx
        have hv := args_rep (E := E) hs hg c.args.toList
        rw [hx] at hv
        simp only [RepL] at hv
        obtain ⟨u, us, hu, hr1, u2, us2, rfl, hr2, rfl⟩ := hv
        have e1 : c.args.map a.eval = #[u, u2] := by apply Array.ext'; simpa using hu
        refine wp_done (s := Builtin.unsafeString_ c.argTypes.toList.toArray o.type #[u, u2]) ?_ (done_unsafeStr hi h hr1 hr2) hn
        unfold execOp
        simp only [ho, resolve, hc, pure_bind, invoke, builtin, e1, Array.toArray_toList]
      · cases h
    · rename_i f hc
      obtain ⟨hG, hcalls⟩ := calls_A hE h hi hg (args_rep hs hg c.args.toList)
      refine wp_enter (exec_call ho hc hG) (hcalls.mono ?_)
      rintro e w' ⟨u, α', he, h1, h2, h3⟩
      exact ⟨u, he, hn u w' α' h1 h2 h3⟩
    · rename_i x hne hc
      unfold callV at h
      split at h
      · rename_i f p q hx
        have hr := R x
        rw [hx] at hr
        simp only [Rep] at hr
        obtain ⟨l, m, hev, hl, hm⟩ := hr
        have hv := RepL_append (RepL_append hl (args_rep hs hg c.args.toList)) hm
        obtain ⟨hG, hcalls⟩ := calls_A hE h hi hg hv
        refine wp_enter (f := f) (xs := (l ++ c.args.toList.map a.eval ++ m).toArray) ?_ (hcalls.mono ?_)
        · unfold execOp
          simp only [ho, resolve, hc, hev, Deferred.ofValue, Sem.run_bind, Sem.run_pure, Result.andThen_ok, invoke]
          rw [run_callFunc hG]
          congr 2
          apply Array.ext'
          simp
        · rintro e w' ⟨u, α', he, h1, h2, h3⟩
          exact ⟨u, he, hn u w' α' h1 h2 h3⟩
      · cases h
    · cases h
  · cases h

end
end Go.EM
