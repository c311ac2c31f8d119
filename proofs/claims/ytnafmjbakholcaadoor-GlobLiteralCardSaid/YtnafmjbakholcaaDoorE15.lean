/- Code, and functions. -/
import Derived.Test.YtnafmjbakholcaaDoorE14
set_option linter.unusedVariables false
set_option linter.unusedSimpArgs false
namespace Go.EM

def AExit.conc : AExit → Exit
  | .normal => .normal
  | .exit id => .exit id
  | .ret => .ret

section
variable {P : Program} {E : Env} {h : Hints} {w w' : World} {O : Nat → Prop} {α α' : AM} {st : Store} {σ : Slots} {N : Nat} {a : Act}

/-- What is told of a piece of code: it comes to this end, with these slots, and this store. -/
def Runs (P : Program) (E : Env) (N : Nat) (c : Code) (σ : Slots) (st : Store) (e : AExit) (σ' : Slots) (st' : Store) : Prop :=
  ∀ (w : World) (O : Nat → Prop) (α : AM) (a : Act) (Q : Exit → Act → World → Prop), Inv w O α st → GlobOk E.glob w O α → SlotRep w O α σ N a →
    (∀ a' w', Post w O α σ' st' N a' w' → Q e.conc a' w') → c.wp P Q a w

theorem Post.trans {σ1 σ2 : Slots} {st1 st2 : Store} {a1 a2 : Act} {w1 w2 : World} {α1 : AM} (h1 : Ext w α w1 α1) (h2 : Post w1 O α1 σ2 st2 N a2 w2) : Post w O α σ2 st2 N a2 w2 := by
  obtain ⟨α2, e1, e2, e3⟩ := h2
  exact ⟨α2, h1.trans e1, e2, e3⟩

theorem slots_weak {σ' : Slots} (hs : SlotRep w O α σ N a) (hw : ∀ t, getS σ' t = getS σ t ∨ getS σ' t = .any) : SlotRep w O α σ' N a := by
  refine ⟨fun t => ?_, hs.defers, hs.size⟩
  rcases hw t with e | e
  · rw [e]; exact hs.slot t
  · rw [e]; simp [Rep]

theorem getL_pick {σ : Slots} : ∀ (keep : List Nat) (j : Nat), getL (pickK keep σ) j = (match keep[j]? with | some k => getS σ k | none => .any)
  | [], j => by simp [pickK, getL]
  | k :: ks, 0 => by simp [pickK, getL]
  | k :: ks, j + 1 => by simp only [pickK, getL, List.getElem?_cons_succ]; exact getL_pick ks j

theorem plug_pick {σ : Slots} (keep : List Nat) : ∀ t, getS (plugK keep 0 (pickK keep σ)) t = getS σ t ∨ getS (plugK keep 0 (pickK keep σ)) t = .any := by
  have gen : ∀ (ks : List Nat) (j : Nat), (∀ i, ks[i]? = keep[j + i]?) → ∀ t, getS (plugK ks j (pickK keep σ)) t = getS σ t ∨ getS (plugK ks j (pickK keep σ)) t = .any := by
    intro ks
    induction ks with
    | nil => intro j _ t; right; rfl
    | cons k ks ih =>
      intro j hk t
      simp only [plugK, getS]
      cases hb : Nat.beq k t with
      | true =>
        left
        have hkt := Nat.eq_of_beq_eq_true hb
        subst hkt
        simp only [cond_true]
        rw [getL_pick]
        have := hk 0
        simp only [List.getElem?_cons_zero, Nat.add_zero] at this
        rw [← this]
      | false =>
        simp only [cond_false]
        exact ih (j + 1) (fun i => by have := hk (i + 1); simp at this; rw [show j + 1 + i = j + (i + 1) by omega]; exact this) t
  exact gen keep 0 (fun i => by simp)

theorem dstsIn_region {n id : Nat} {ops : Array Oper} {dr : Bool} (hd : dstsIn n (.region id ops dr) = true) : ∀ o ∈ ops.toList, ∀ t, o.dst = some t → t < n := by
  intro o ho t ht
  simp only [dstsIn, List.all_eq_true] at hd
  have := hd o ho
  rw [ht] at this
  exact Nat.le_of_ble_eq_true this

/-- A loop's limit. -/
theorem loopA_some {R : Type} {f : List AVal → Store → Option (Live R)} {l : List AVal} {st : Store} {r : R} (hh : loopA f l st = some r) : ∃ n, loopN f n l st = some r := by
  unfold loopA at hh
  split at hh
  · rename_i he
    exact ⟨_, hh⟩
  · cases hh

theorem D_sound (hE : EnvOk P E) : ∀ (c : Code) (R : Type) (σ : Slots) (st : Store) (K : AExit → Slots → Store → Option R) (r : R), dstsIn N c = true → D P E h c R σ st K = some r →
    ∃ e σ' st', K e σ' st' = some r ∧ Runs P E N c σ st e σ' st'
  | .skip, R, σ, st, K, r, hd, hh => ⟨.normal, σ, st, hh, fun w O α a Q hi hg hs hQ => wp_skip (hQ a w ⟨α, Ext.refl w α, hi, hs⟩)⟩
  | .region id ops false, R, σ, st, K, r, hd, hh => by
    simp only [D, Bool.false_and, cond_false, evalT_eq] at hh
    obtain ⟨σ', st', hK, hw⟩ := evalOps_sound (N := N) hE (dstsIn_region hd) ops.toList 0 σ st (fun j => by simp) hh
    refine ⟨.normal, σ', st', hK, fun w O α a Q hi hg hs hQ => wp_region ?_⟩
    have := hw w O α a Q hi hg hs hQ
    rw [← List.range_eq_range'] at this
    simpa using this
  | .region id ops true, R, σ, st, K, r, hd, hh => by
    simp only [D, Bool.true_and, evalT_eq] at hh
    cases hdr : drawOk P E h ops with
    | false => rw [hdr] at hh; simp at hh
    | true =>
      rw [hdr] at hh
      simp only [Bool.not_true, cond_false] at hh
      have hf := drawOk_facts hdr
      obtain ⟨σ', st', hK, hw⟩ := draw_sound (N := N) hE hf (dstsIn_region hd) hh
      refine ⟨.normal, σ', st', hK, fun w O α a Q hi hg hs hQ => wp_region_any hf.mixed ?_⟩
      have hq := Quiet.drew w
      have := hw w.drew O α a Q (hq.inv hi) (hg.ext (hq.ext α)) (hs.ext (hq.ext α)) (fun a' w' hp => hQ a' w' (Post.trans (σ1 := σ) (st1 := st) (a1 := a) (hq.ext α) hp))
      simpa using this
  | .seq x y, R, σ, st, K, r, hd, hh => by
    simp only [dstsIn, Bool.and_eq_true] at hd
    simp only [D] at hh
    split at hh
    · rename_i keep _
      simp only [Option.bind_eq_some_iff] at hh
      obtain ⟨lv, hx, hy⟩ := hh
      obtain ⟨e, σ1, st1, hK, hr1⟩ := D_sound hE x (Live R) σ st _ lv hd.1 hx
      cases e with
      | normal =>
        simp only [Option.some.injEq] at hK
        subst hK
        simp only [joinA] at hy
        obtain ⟨e2, σ2, st2, hK2, hr2⟩ := D_sound hE y R _ _ K r hd.2 hy
        refine ⟨e2, σ2, st2, hK2, fun w O α a Q hi hg hs hQ => wp_seq ?_⟩
        refine hr1 w O α a _ hi hg hs (fun a1 w1 hp => ?_)
        obtain ⟨α1, e1, e3, e4⟩ := hp
        show y.wp P Q a1 w1
        exact hr2 w1 O α1 a1 Q e3 (hg.ext e1) (slots_weak e4 (plug_pick keep)) (fun a2 w2 hp2 => hQ a2 w2 (Post.trans (σ1 := σ1) (st1 := st1) (a1 := a1) e1 hp2))
      | exit id =>
        simp only [Option.map_eq_some_iff] at hK
        obtain ⟨r', hK', rfl⟩ := hK
        simp only [joinA, Option.some.injEq] at hy
        subst hy
        exact ⟨.exit id, σ1, st1, hK', fun w O α a Q hi hg hs hQ => wp_seq (hr1 w O α a _ hi hg hs hQ)⟩
      | ret =>
        simp only [Option.map_eq_some_iff] at hK
        obtain ⟨r', hK', rfl⟩ := hK
        simp only [joinA, Option.some.injEq] at hy
        subst hy
        exact ⟨.ret, σ1, st1, hK', fun w O α a Q hi hg hs hQ => wp_seq (hr1 w O α a _ hi hg hs hQ)⟩
    · obtain ⟨e, σ1, st1, hK, hr1⟩ := D_sound hE x R σ st _ r hd.1 hh
      cases e with
      | normal =>
        obtain ⟨e2, σ2, st2, hK2, hr2⟩ := D_sound hE y R σ1 st1 K r hd.2 hK
        refine ⟨e2, σ2, st2, hK2, fun w O α a Q hi hg hs hQ => wp_seq ?_⟩
        refine hr1 w O α a _ hi hg hs (fun a1 w1 hp => ?_)
        obtain ⟨α1, e1, e3, e4⟩ := hp
        show y.wp P Q a1 w1
        exact hr2 w1 O α1 a1 Q e3 (hg.ext e1) e4 (fun a2 w2 hp2 => hQ a2 w2 (Post.trans (σ1 := σ1) (st1 := st1) (a1 := a1) e1 hp2))
      | exit id => exact ⟨.exit id, σ1, st1, hK, fun w O α a Q hi hg hs hQ => wp_seq (hr1 w O α a _ hi hg hs hQ)⟩
      | ret => exact ⟨.ret, σ1, st1, hK, fun w O α a Q hi hg hs hQ => wp_seq (hr1 w O α a _ hi hg hs hQ)⟩
  | .cond c x y, R, σ, st, K, r, hd, hh => by
    simp only [dstsIn, Bool.and_eq_true] at hd
    simp only [D] at hh
    unfold condA at hh
    split at hh
    · rename_i t ht
      cases t with
      | true =>
        simp only [cond_true] at hh
        obtain ⟨e, σ1, st1, hK, hr1⟩ := D_sound hE x R σ st K r hd.1 hh
        refine ⟨e, σ1, st1, hK, fun w O α a Q hi hg hs hQ => ?_⟩
        have := opnd_rep hs hg c
        rw [ht] at this
        simp only [Rep] at this
        exact wp_cond_true this (hr1 w O α a Q hi hg hs hQ)
      | false =>
        simp only [cond_false] at hh
        obtain ⟨e, σ1, st1, hK, hr1⟩ := D_sound hE y R σ st K r hd.2 hh
        refine ⟨e, σ1, st1, hK, fun w O α a Q hi hg hs hQ => ?_⟩
        have := opnd_rep hs hg c
        rw [ht] at this
        simp only [Rep] at this
        exact wp_cond_false this (hr1 w O α a Q hi hg hs hQ)
    · cases hh
  | .block id x, R, σ, st, K, r, hd, hh => by
    simp only [dstsIn] at hd
    simp only [D] at hh
    obtain ⟨e, σ1, st1, hK, hr1⟩ := D_sound hE x R σ st _ r hd hh
    cases e with
    | normal => exact ⟨.normal, σ1, st1, hK, fun w O α a Q hi hg hs hQ => wp_block (hr1 w O α a _ hi hg hs hQ)⟩
    | ret => exact ⟨.ret, σ1, st1, hK, fun w O α a Q hi hg hs hQ => wp_block (hr1 w O α a _ hi hg hs hQ)⟩
    | exit i =>
      simp only [] at hK
      cases hb : Nat.beq i id with
      | true =>
        rw [hb] at hK
        have hid := Nat.eq_of_beq_eq_true hb
        refine ⟨.normal, σ1, st1, hK, fun w O α a Q hi hg hs hQ => wp_block (hr1 w O α a _ hi hg hs (fun a' w' hp => ?_))⟩
        show (if i = id then Q .normal a' w' else Q (.exit i) a' w')
        rw [if_pos hid]
        exact hQ a' w' hp
      | false =>
        rw [hb] at hK
        have hid : ¬ i = id := fun e => by subst e; rw [Nat.beq_refl] at hb; cases hb
        refine ⟨.exit i, σ1, st1, hK, fun w O α a Q hi hg hs hQ => wp_block (hr1 w O α a _ hi hg hs (fun a' w' hp => ?_))⟩
        show (if i = id then Q .normal a' w' else Q (.exit i) a' w')
        rw [if_neg hid]
        exact hQ a' w' hp
  | .loop x, R, σ, st, K, r, hd, hh => by
    simp only [dstsIn] at hd
    simp only [D] at hh
    split at hh
    · rename_i keep _
      obtain ⟨n, hn⟩ := loopA_some hh
      clear hh
      -- n rounds
      have key : ∀ (n : Nat) (l : List AVal) (st : Store), loopN (fun live st' => D P E h x (Live R) (plugK keep 0 live) st' (fun e σ'' st'' => match e with
          | .normal => some (.inl (pickK keep σ'', st''))
          | e => (K e σ'' st'').map .inr)) n l st = some r →
          ∃ e σ' st', K e σ' st' = some r ∧ ∀ (w : World) (O : Nat → Prop) (α : AM) (a : Act) (Q : Exit → Act → World → Prop), Inv w O α st → GlobOk E.glob w O α → SlotRep w O α (plugK keep 0 l) N a →
            (∀ a' w', Post w O α σ' st' N a' w' → Q e.conc a' w') → ∀ (b : Frame) (k : List Item) (cs : List Frame), ∃ e a' w', Q e a' w' ∧ Arrives P (lone (b.at a (.code x :: .inLoop x :: k)) cs w) b k cs e a' w' := by
        intro n
        induction n with
        | zero => intro l st hn; simp [loopN] at hn
        | succ n ih =>
          intro l st hn
          simp only [loopN, Option.bind_eq_some_iff] at hn
          obtain ⟨lv, hx, hy⟩ := hn
          obtain ⟨e, σ1, st1, hK, hr1⟩ := D_sound hE x (Live R) _ _ _ lv hd hx
          have other : e ≠ .normal → ∀ r', K e σ1 st1 = some r' → lv = .inr r' → ∃ e σ' st', K e σ' st' = some r ∧
              ∀ (w : World) (O : Nat → Prop) (α : AM) (a : Act) (Q : Exit → Act → World → Prop), Inv w O α st → GlobOk E.glob w O α → SlotRep w O α (plugK keep 0 l) N a →
                (∀ a' w', Post w O α σ' st' N a' w' → Q e.conc a' w') → ∀ (b : Frame) (k : List Item) (cs : List Frame), ∃ e a' w', Q e a' w' ∧ Arrives P (lone (b.at a (.code x :: .inLoop x :: k)) cs w) b k cs e a' w' := by
            intro hne r' hK' hl
            subst hl
            simp only [joinA, Option.some.injEq] at hy
            subst hy
            refine ⟨e, σ1, st1, hK', fun w O α a Q hi hg hs hQ b k cs => ?_⟩
            obtain ⟨e2, a2, w2, hq2, harr⟩ := hr1 w O α a (fun e' a' w' => e' = e.conc ∧ Q e' a' w') hi hg hs (fun a2 w2 hp => ⟨rfl, hQ a2 w2 hp⟩) b (.inLoop x :: k) cs
            obtain ⟨rfl, hq2⟩ := hq2
            have hne' : e.conc ≠ .normal := by cases e <;> first | exact absurd rfl hne | (intro hh; cases hh)
            exact ⟨_, a2, w2, hq2, .pass (x := .inLoop x) rfl (fun _ _ => .inl hne') harr⟩
          cases e with
          | normal =>
            simp only [Option.some.injEq] at hK
            subst hK
            simp only [joinA] at hy
            obtain ⟨e2, σ2, st2, hK2, hr2⟩ := ih _ _ hy
            refine ⟨e2, σ2, st2, hK2, fun w O α a Q hi hg hs hQ b k cs => ?_⟩
            obtain ⟨e', a1, w1, ⟨rfl, hp⟩, harr⟩ := hr1 w O α a (fun e' a' w' => e' = .normal ∧ Post w O α σ1 st1 N a' w') hi hg hs (fun a1 w1 hp => ⟨rfl, hp⟩) b (.inLoop x :: k) cs
            have hp' := hp
            obtain ⟨α1, e1, e3, e4⟩ := hp
            obtain ⟨e5, a2, w2, hq2, harr2⟩ := hr2 w1 O α1 a1 Q e3 (hg.ext e1) (slots_weak e4 (plug_pick keep)) (fun a2 w2 hp2 => hQ a2 w2 (Post.trans (σ1 := σ1) (st1 := st1) (a1 := a1) e1 hp2)) b k cs
            exact ⟨e5, a2, w2, hq2, .of_steps (Steps.trans harr (.one step_inLoop)) harr2⟩
          | exit id =>
            simp only [Option.map_eq_some_iff] at hK
            obtain ⟨r', hK', hl⟩ := hK
            exact other (by simp) r' hK' hl.symm
          | ret =>
            simp only [Option.map_eq_some_iff] at hK
            obtain ⟨r', hK', hl⟩ := hK
            exact other (by simp) r' hK' hl.symm
      obtain ⟨e, σ', st', hK, hr⟩ := key n _ _ hn
      refine ⟨e, σ', st', hK, fun w O α a Q hi hg hs hQ b k cs => ?_⟩
      obtain ⟨e5, a2, w2, hq2, harr2⟩ := hr w O α a Q hi hg (slots_weak hs (plug_pick keep)) hQ b k cs
      exact ⟨e5, a2, w2, hq2, .of_steps (.one step_loop) harr2⟩
    · cases hh
  | .exit id, R, σ, st, K, r, hd, hh => ⟨.exit id, σ, st, hh, fun w O α a Q hi hg hs hQ => wp_exit (hQ a w ⟨α, Ext.refl w α, hi, hs⟩)⟩
  | .ret, R, σ, st, K, r, hd, hh => ⟨.ret, σ, st, hh, fun w O α a Q hi hg hs hQ => wp_ret (hQ a w ⟨α, Ext.refl w α, hi, hs⟩)⟩
  | .rangeFunc .., R, σ, st, K, r, hd, hh => by simp [D] at hh
  | .scope .., R, σ, st, K, r, hd, hh => by simp [D] at hh
  | .label .., R, σ, st, K, r, hd, hh => by simp [D] at hh
  | .goto .., R, σ, st, K, r, hd, hh => by simp [D] at hh
  | .refuse .., R, σ, st, K, r, hd, hh => by simp [D] at hh

/-! ### functions -/
theorem plug_args {vs : List Value} : ∀ (n j : Nat) (xs : List AVal), RepL w O α xs vs → ∀ t, Rep w O α (getS (plugK (List.range' j n) j xs) t) ((vs.toArray).getD t undef)
  | 0, j, xs, hx, t => by simp [plugK, getS, Rep]
  | n + 1, j, xs, hx, t => by
    simp only [List.range'_succ, plugK, getS]
    cases hb : Nat.beq j t with
    | true =>
      have := Nat.eq_of_beq_eq_true hb
      subst this
      simp only [cond_true]
      have gen : ∀ (xs : List AVal) (vs : List Value) (j : Nat), RepL w O α xs vs → Rep w O α (getL xs j) (vs.getD j undef) := by
        intro xs
        induction xs with
        | nil => intro vs j h; simp [getL, Rep]
        | cons x xs ih =>
          intro vs j h
          simp only [RepL] at h
          obtain ⟨v, us, rfl, h1, h2⟩ := h
          cases j with
          | zero => simpa [getL] using h1
          | succ j => simpa [getL] using ih us j h2
      have := gen xs vs j hx
      rw [List.getD_eq_getElem?_getD] at this
      rw [Array.getD_eq_getD_getElem?]
      simpa using this
    | false =>
      simp only [cond_false]
      exact plug_args n (j + 1) xs hx t

theorem resL_run (hi : Inv w O α st) (hs : SlotRep w O α σ N a) : ∀ (rs : List ResultVar) (l : List AVal), resL P σ st rs = some l →
    ∃ vs : List Value, (rs.mapM fun
      | .tmp t => pure (a.tmps.getD t undef)
      | .cell b t => do loadVar t (← asAddr (a.tmps.getD b undef)) : Sem (List Value)).run P w = .ok vs w ∧ RepL w O α l vs
  | [], l, h => by simp only [resL, Option.some.injEq] at h; subst h; exact ⟨[], by simp, by simp [RepL]⟩
  | .tmp t :: rs, l, h => by
    simp only [resL, Option.map_eq_some_iff] at h
    obtain ⟨l', h1, rfl⟩ := h
    obtain ⟨vs, g1, g2⟩ := resL_run hi hs rs l' h1
    refine ⟨a.tmps.getD t undef :: vs, ?_, by simp only [RepL]; exact ⟨_, _, rfl, hs.slot t, g2⟩⟩
    rw [List.mapM_cons, Sem.run_bind, Sem.run_pure, Result.andThen_ok, Sem.run_bind, g1]
    rfl
  | .cell b t :: rs, l, h => by
    simp only [resL, Option.bind_eq_some_iff, Option.map_eq_some_iff] at h
    obtain ⟨v, hv, l', h1, rfl⟩ := h
    obtain ⟨vs, g1, g2⟩ := resL_run hi hs rs l' h1
    obtain ⟨u, k1, k2⟩ := run_aload (P := P) hi hv (hs.slot b)
    have k3 : (do loadVar t (← asAddr (a.tmps.getD b undef)) : Sem Value).run P w = .ok u w := by
      simp only [Instr.loadAt] at k1
      rw [Sem.run_bind] at k1 ⊢
      generalize a.tmps.getD b undef = q at k1 ⊢
      unfold Instr.sureAddr at k1
      unfold asAddr
      split at k1
      · exact k1
      · simp [Result.andThen] at k1
    refine ⟨u :: vs, ?_, by simp only [RepL]; exact ⟨_, _, rfl, k2, g2⟩⟩
    rw [List.mapM_cons, Sem.run_bind, k3, Result.andThen_ok, Sem.run_bind, g1]
    rfl

theorem resV_run (hi : Inv w O α st) (hs : SlotRep w O α σ N a) {fn : Func} {v : AVal} (h : resV P σ st fn.results.toList = some v) :
    ∃ u, (results fn a.tmps).run P w = .ok u w ∧ Rep w O α v u := by
  have hL : ∀ l, resL P σ st fn.results.toList = some l → (match l with | [v] => v | l => .tup l) = v → ∃ u, (results fn a.tmps).run P w = .ok u w ∧ Rep w O α v u := by
    intro l hl hv
    obtain ⟨vs, g1, g2⟩ := resL_run (P := P) hi hs fn.results.toList l hl
    have hlen := RepL_length g2
    refine ⟨if h : vs.toArray.size = 1 then vs.toArray[0] else .tuple vs.toArray, ?_, ?_⟩
    · unfold results
      rw [Sem.run_bind]
      have : (fn.results.mapM fun
          | .tmp t => pure (a.tmps.getD t undef)
          | .cell b t => do loadVar t (← asAddr (a.tmps.getD b undef)) : Sem (Array Value)).run P w = .ok vs.toArray w := by
        rw [Array.mapM_eq_mapM_toList, Sem.run_map, g1]
        rfl
      exact (congrArg (fun q => Result.andThen q (fun a w' => Sem.run P (pure (if h : a.size = 1 then a[0] else Value.tuple a)) w')) this).trans rfl
    · cases l with
      | nil =>
        simp only [List.length_nil] at hlen
        have : vs = [] := List.eq_nil_of_length_eq_zero hlen
        subst this
        simp only [] at hv
        subst hv
        simp only [Rep]
        exact ⟨[], by simp, by simp [RepL]⟩
      | cons x l =>
        cases l with
        | nil =>
          simp only [] at hv
          subst hv
          simp only [RepL] at g2
          obtain ⟨u, us, rfl, h1, rfl⟩ := g2
          simpa using h1
        | cons y l =>
          simp only [] at hv
          subst hv
          simp only [List.length_cons] at hlen
          rw [dif_neg (by simp; omega)]
          simp only [Rep]
          exact ⟨vs, rfl, g2⟩
  unfold resV at h
  split at h
  · rename_i t ht
    refine hL [getS σ t] (by rw [ht]; simp [resL]) ?_
    simpa using h
  · simp only [Option.map_eq_some_iff] at h
    obtain ⟨l, h1, h2⟩ := h
    exact hL l h1 h2

theorem runF_sound (hE : EnvOk P E) {f : Nat} {fn : Func} (hf : P.funcs[f]? = some fn) (hb0 : fn.body.isNone = false) (hn : (fn.name == "runtime.NumGoroutine") = false) : SoundS P E.glob f (runF P E h fn) := by
  cases hb : fn.body with
  | none => rw [hb] at hb0; cases hb0
  | some c =>
    refine ⟨⟨fn, hf, by rw [hb]; rfl, hn⟩, fun xs st r st' hh w O α vs hi hg hv => ?_⟩
    unfold runF at hh
    rw [hb] at hh
    cases h1 : Nat.beq xs.length (fn.params.size + fn.nfree) with
    | false => rw [h1] at hh; simp at hh
    | true =>
      rw [h1] at hh
      simp only [cond_true, Option.getD_some] at hh
      cases h2 : dstsIn fn.ntmps c && Nat.ble (fn.params.size + fn.nfree) fn.ntmps with
      | false => rw [h2] at hh; simp at hh
      | true =>
        rw [h2] at hh
        simp only [cond_true] at hh
        simp only [Bool.and_eq_true] at h2
        obtain ⟨h2, h3⟩ := h2
        have hlen := Nat.eq_of_beq_eq_true h1
        have hle := Nat.le_of_ble_eq_true h3
        have hvl := RepL_length hv
        obtain ⟨e, σ', st1, hK, hr⟩ := D_sound (N := fn.ntmps) hE c _ _ st _ (r, st') h2 hh
        have hslots : SlotRep w O α (plugK (List.range (fn.params.size + fn.nfree)) 0 xs) fn.ntmps { tmps := vs.toArray ++ Array.replicate (fn.ntmps - vs.toArray.size) undef, defers := [] } := by
          refine ⟨fun t => ?_, rfl, by simp; omega⟩
          have := plug_args (w := w) (O := O) (α := α) (fn.params.size + fn.nfree) 0 xs hv t
          rw [← List.range_eq_range'] at this
          have e1 : (vs.toArray ++ Array.replicate (fn.ntmps - vs.toArray.size) undef).getD t undef = vs.toArray.getD t undef := by
            rw [Array.getD_eq_getD_getElem?, Array.getD_eq_getD_getElem?, Array.getElem?_append]
            split
            · rfl
            · rename_i hge
              rw [Array.getElem?_eq_none (by omega : vs.toArray.size ≤ t)]
              rw [Array.getElem?_replicate]
              split <;> rfl
          rw [e1]
          exact this
        refine calls_of_wp hf hb ?_
        refine hr w O α _ _ hi hg hslots (fun a' w' hp => ?_)
        obtain ⟨α', e1, e2, e3⟩ := hp
        have fin : ∀ v, resV P σ' st1 fn.results.toList = some v → (v, st1) = (r, st') → a'.defers = [] ∧ ∃ u, (results fn a'.tmps).run P w' = .ok u w' ∧
            ∃ v α', Ending.returned u = .returned v ∧ Ext w α w' α' ∧ Inv w' O α' st' ∧ Rep w' O α' r v := by
          intro v hv' hpair
          simp only [Prod.mk.injEq] at hpair
          obtain ⟨rfl, rfl⟩ := hpair
          obtain ⟨u, k1, k2⟩ := resV_run (P := P) e2 e3 (fn := fn) hv'
          exact ⟨e3.defers, u, k1, u, α', rfl, e1, e2, k2⟩
        cases e with
        | normal =>
          simp only [Option.map_eq_some_iff] at hK
          obtain ⟨v, hv', hpair⟩ := hK
          exact fin v hv' hpair
        | ret =>
          simp only [Option.map_eq_some_iff] at hK
          obtain ⟨v, hv', hpair⟩ := hK
          exact fin v hv' hpair
        | exit id => cases hK

theorem closeF_sound {G : List (Nat × AVal)} {f : Nat} {F : SFn} (hF : SoundS P G f F) : SoundP P G f (closeF F) := by
  refine ⟨hF.1, fun xs r hr hc w O vs hb hg hv => ?_⟩
  simp only [closeF, Option.bind_eq_some_iff] at hr
  obtain ⟨⟨x, st'⟩, h1, h2⟩ := hr
  refine (hF.2 xs [] x st' h1 w O [] vs (Inv.nil w O hb) hg hv).mono ?_
  rintro e w' ⟨v, α', rfl, he, hi, hx⟩
  obtain ⟨g1, g2⟩ := packV_sound hi x r v h2 hx
  have hq : Quiet w w' := ⟨he.os, he.tape, he.output, he.size, fun b hb => he.old b hb (fun ⟨r, ri, e, _⟩ => by simp at e)⟩
  exact ⟨v, rfl, hq, g1, g2⟩
end
/-! ### lists of functions -/
theorem envP_nil {P : Program} {G : List (Nat × AVal)} : ∀ (f : Nat) (F : PFn), lookN ([] : List (Nat × PFn)) f = some F → SoundP P G f F := fun _ _ h => by cases h
theorem envP_cons {P : Program} {G : List (Nat × AVal)} {l : List (Nat × PFn)} {k : Nat} {K : PFn} (hK : SoundP P G k K) (h : ∀ f F, lookN l f = some F → SoundP P G f F) : ∀ f F, lookN ((k, K) :: l) f = some F → SoundP P G f F := by
  intro f F hf
  simp only [lookN] at hf
  cases hb : Nat.beq k f with
  | true => rw [hb] at hf; cases hf; obtain rfl := Nat.eq_of_beq_eq_true hb; exact hK
  | false => rw [hb] at hf; exact h f F hf
theorem envS_nil {P : Program} {G : List (Nat × AVal)} : ∀ (f : Nat) (F : SFn), lookN ([] : List (Nat × SFn)) f = some F → SoundS P G f F := fun _ _ h => by cases h
theorem envS_cons {P : Program} {G : List (Nat × AVal)} {l : List (Nat × SFn)} {k : Nat} {K : SFn} (hK : SoundS P G k K) (h : ∀ f F, lookN l f = some F → SoundS P G f F) : ∀ f F, lookN ((k, K) :: l) f = some F → SoundS P G f F := by
  intro f F hf
  simp only [lookN] at hf
  cases hb : Nat.beq k f with
  | true => rw [hb] at hf; cases hf; obtain rfl := Nat.eq_of_beq_eq_true hb; exact hK
  | false => rw [hb] at hf; exact h f F hf
end Go.EM
