/- Lists of operations, in the text's order and in any other. -/
import Derived.Test.YtnafmjbakholcaaDoorE12
set_option linter.unusedVariables false
set_option linter.unusedSimpArgs false
namespace Go.EM

def pushD (d : Option Nat) (v : AVal) (σ : Slots) : Slots :=
  match d with
  | some t => (t, v) :: σ
  | none => σ
def wantedA (ops : List Oper) (σ : Slots) (o : Oper) : Option Bool :=
  match o.guard with
  | none => some true
  | some (j, want) => match guardOf ops j σ with
    | .bool b => some (b == want)
    | .tup [] => some false
    | _ => none

/-- One operation: what it comes to, and the store behind it. -/
def StepA (P : Program) (E : Env) (h : Hints) (ops : List Oper) (o : Oper) (σ : Slots) (st : Store) (v : AVal) (st' : Store) : Prop :=
  (wantedA ops σ o = some true ∧ ((cls E h o = 0 ∧ opP P E σ o = some v ∧ st' = st) ∨ (cls E h o ≠ 0 ∧ opS P E σ st o = some (v, st')))) ∨
  (wantedA ops σ o = some false ∧ v = .tup [] ∧ st' = st)

section
variable {P : Program} {E : Env} {h : Hints} {w w' : World} {O : Nat → Prop} {α α' : AM} {st : Store} {σ : Slots} {N : Nat} {a : Act}

theorem evalOps_step {R : Type} {ops os : List Oper} {o : Oper} {K : Slots → Store → Option R} {r : R} (hh : evalOps P E h ops (o :: os) σ st K = some r) :
    ∃ v st', StepA P E h ops o σ st v st' ∧ evalOps P E h ops os (pushD o.dst v σ) st' K = some r := by
  simp only [evalOps] at hh
  have fin : ∀ v st', (match o.dst with | some d => evalOps P E h ops os ((d, v) :: σ) st' K | none => evalOps P E h ops os σ st' K) = some r → evalOps P E h ops os (pushD o.dst v σ) st' K = some r := by
    intro v st' hx
    unfold pushD
    split at hx <;> rename_i hd <;> rw [hd] <;> exact hx
  split at hh
  · rename_i hc
    have hc0 : cls E h o = 0 := Nat.eq_of_beq_eq_true hc
    simp only [Option.bind_eq_some_iff] at hh
    obtain ⟨v, hv, hk⟩ := hh
    refine ⟨v, st, ?_, fin v st hk⟩
    split at hv
    · rename_i hg
      exact .inl ⟨by simp [wantedA, hg], .inl ⟨hc0, hv, rfl⟩⟩
    · rename_i j want hg
      unfold guardV at hv
      split at hv
      · rename_i b hb
        cases want <;> cases b <;> simp at hv
        · exact .inl ⟨by simp [wantedA, hg, hb], .inl ⟨hc0, hv, rfl⟩⟩
        · exact .inr ⟨by simp [wantedA, hg, hb], hv.symm, rfl⟩
        · exact .inr ⟨by simp [wantedA, hg, hb], hv.symm, rfl⟩
        · exact .inl ⟨by simp [wantedA, hg, hb], .inl ⟨hc0, hv, rfl⟩⟩
      · rename_i hb
        cases hv
        exact .inr ⟨by simp [wantedA, hg, hb], rfl, rfl⟩
      · cases hv
  · rename_i hc
    have hc0 : cls E h o ≠ 0 := fun e => by rw [e] at hc; simp at hc
    simp only [Option.bind_eq_some_iff] at hh
    obtain ⟨⟨v, st'⟩, hv, hk⟩ := hh
    refine ⟨v, st', ?_, fin v st' hk⟩
    split at hv
    · rename_i hg
      exact .inl ⟨by simp [wantedA, hg], .inr ⟨hc0, hv⟩⟩
    · rename_i j want hg
      unfold guardS at hv
      split at hv
      · rename_i b hb
        cases want <;> cases b <;> simp at hv
        · exact .inl ⟨by simp [wantedA, hg, hb], .inr ⟨hc0, hv⟩⟩
        · exact .inr ⟨by simp [wantedA, hg, hb], hv.1.symm, hv.2.symm⟩
        · exact .inr ⟨by simp [wantedA, hg, hb], hv.1.symm, hv.2.symm⟩
        · exact .inl ⟨by simp [wantedA, hg, hb], .inr ⟨hc0, hv⟩⟩
      · rename_i hb
        cases hv
        exact .inr ⟨by simp [wantedA, hg, hb], rfl, rfl⟩
      · cases hv

theorem wanted_spec {ops : List Oper} {o : Oper} {b : Bool} (hs : SlotRep w O α σ N a) (hw : wantedA ops σ o = some b) : Region.wanted o (yielded ops.toArray a.tmps) = b := by
  unfold wantedA at hw
  unfold Region.wanted
  split at hw
  · rename_i hg; cases hw; rw [hg]
  · rename_i j want hg
    rw [hg]
    simp only []
    split at hw
    · rename_i q hq
      cases hw
      unfold guardOf at hq
      split at hq
      · rename_i d hd
        have hr := hs.slot d
        rw [hq] at hr
        simp only [Rep] at hr
        have hy : yielded ops.toArray a.tmps j = some q := by
          unfold yielded
          have hd' : (ops.toArray[j]?).bind (·.dst) = some d := by simpa using hd
          rw [hd']
          simp only [Option.bind_some]
          have : a.tmps[d]? = some (.bool q) := by
            rw [Array.getD_eq_getD_getElem?] at hr
            cases ht : a.tmps[d]? with
            | none => rw [ht] at hr; simp [undef] at hr
            | some u => rw [ht] at hr; simp at hr; rw [hr]
          rw [this]
        rw [hy]
        cases q <;> cases want <;> rfl
      · cases hq
    · rename_i hq
      cases hw
      unfold guardOf at hq
      split at hq
      · rename_i d hd
        have hr := hs.slot d
        rw [hq] at hr
        simp only [Rep] at hr
        obtain ⟨l, hr, hl⟩ := hr
        simp only [RepL] at hl
        subst hl
        have hy : yielded ops.toArray a.tmps j = none := by
          unfold yielded
          have hd' : (ops.toArray[j]?).bind (·.dst) = some d := by simpa using hd
          rw [hd']
          simp only [Option.bind_some]
          rw [Array.getD_eq_getD_getElem?] at hr
          cases ht : a.tmps[d]? with
          | none => rfl
          | some u => rw [ht] at hr; simp at hr; rw [hr]
        rw [hy]
        cases want <;> rfl
      · cases hq
    · cases hw

theorem slot_put (hs : SlotRep w O α σ N a) {d : Option Nat} {v : AVal} {u : Value} (hd : ∀ t, d = some t → t < N) (hv : Rep w O α v u) : SlotRep w O α (pushD d v σ) N (a.put d u) := by
  cases d with
  | none => exact hs
  | some t =>
    refine ⟨fun k => ?_, hs.defers, by simp [Act.put, hs.size]⟩
    have ht := hd t rfl
    simp only [pushD, getS, Act.put]
    by_cases hk : t = k
    · subst hk
      rw [Nat.beq_refl]
      simp only [cond_true]
      rw [Array.getD_eq_getD_getElem?, Array.getElem?_setIfInBounds_self_of_lt (by rw [hs.size]; exact ht)]
      exact hv
    · have : Nat.beq t k = false := by
        cases hb : Nat.beq t k with
        | false => rfl
        | true => exact absurd (Nat.eq_of_beq_eq_true hb) hk
      rw [this]
      simp only [cond_false]
      rw [Array.getD_eq_getD_getElem?, Array.getElem?_setIfInBounds_ne hk, ← Array.getD_eq_getD_getElem?]
      exact hs.slot k

/-- The step in the model. -/
theorem step_sound (hE : EnvOk P E) {ops : List Oper} {i : Nat} {o : Oper} (ho : ops[i]? = some o) {v : AVal} {st' : Store} (hstep : StepA P E h ops o σ st v st') (hi : Inv w O α st) (hg : GlobOk E.glob w O α)
    (hs : SlotRep w O α σ N a) (K : Act → World → Prop) (Q : Exit → Act → World → Prop) (hn : ∀ u w' α', Ext w α w' α' → Inv w' O α' st' → Rep w' O α' v u → K (a.put o.dst u) w') :
    wpOp P ops.toArray Q i K a w := by
  unfold wpOp
  have ho' : ops.toArray[i]? = some o := by simpa using ho
  rw [ho']
  simp only []
  rcases hstep with ⟨hw, hstep⟩ | ⟨hw, rfl, rfl⟩
  · rw [wanted_spec hs hw]
    simp only [if_true]
    left
    rcases hstep with ⟨_, hp, rfl⟩ | ⟨_, hp⟩
    · exact opP_sound hE hp hi hg hs K Q (fun u w' hq hr => hn u w' α (hq.ext α) (hq.inv hi) hr)
    · exact opS_sound hE hp hi hg hs K Q hn
  · rw [wanted_spec hs hw]
    simp only [Bool.false_eq_true, if_false]
    exact hn undef w α (Ext.refl w α) hi (by simp only [Rep]; exact ⟨[], rfl, by simp [RepL]⟩)

def Post (w : World) (O : Nat → Prop) (α : AM) (σ' : Slots) (st' : Store) (N : Nat) (a' : Act) (w' : World) : Prop :=
  ∃ α', Ext w α w' α' ∧ Inv w' O α' st' ∧ SlotRep w' O α' σ' N a'

theorem evalOps_sound (hE : EnvOk P E) {R : Type} {ops : List Oper} (hd : ∀ o ∈ ops, ∀ t, o.dst = some t → t < N) {K : Slots → Store → Option R} {r : R} :
    ∀ (os : List Oper) (k : Nat) (σ : Slots) (st : Store), (∀ j, os[j]? = ops[k + j]?) → evalOps P E h ops os σ st K = some r →
      ∃ σ' st', K σ' st' = some r ∧ ∀ (w : World) (O : Nat → Prop) (α : AM) (a : Act) (Q : Exit → Act → World → Prop), Inv w O α st → GlobOk E.glob w O α → SlotRep w O α σ N a →
        (∀ a' w', Post w O α σ' st' N a' w' → Q .normal a' w') → wpOps P ops.toArray Q (List.range' k os.length) a w
  | [], k, σ, st, _, hh => ⟨σ, st, hh, fun w O α a Q hi hg hs hQ => by simpa [wpOps] using hQ a w ⟨α, Ext.refl w α, hi, hs⟩⟩
  | o :: os, k, σ, st, hk, hh => by
    obtain ⟨v, st1, hstep, hrest⟩ := evalOps_step hh
    obtain ⟨σ', st', hK, hw⟩ := evalOps_sound hE hd os (k + 1) (pushD o.dst v σ) st1 (fun j => by have := hk (j + 1); simp at this; rw [show k + 1 + j = k + (j + 1) by omega]; exact this) hrest
    refine ⟨σ', st', hK, fun w O α a Q hi hg hs hQ => ?_⟩
    have ho : ops[k]? = some o := by have := hk 0; simpa using this.symm
    have hmem : o ∈ ops := List.mem_of_getElem? ho
    rw [List.length_cons, List.range'_succ, wpOps_cons]
    refine step_sound hE ho hstep hi hg hs _ Q (fun u w' α' he hi' hr => ?_)
    refine hw w' O α' _ Q hi' (hg.ext he) (slot_put (hs.ext he) (hd o hmem) hr) (fun a' w'' hp => hQ a' w'' ?_)
    obtain ⟨α'', e1, e2, e3⟩ := hp
    exact ⟨α'', he.trans e1, e2, e3⟩

/-! ### any order -/
theorem opnd_congr {σ' : Slots} {x : Operand} (hx : ∀ t, x = .tmp t → getS σ t = getS σ' t) : opnd E σ x = opnd E σ' x := by
  cases x <;> first | rfl | exact hx _ rfl
theorem args_congr {σ' : Slots} : ∀ {xs : List Operand}, (∀ x ∈ xs, opnd E σ x = opnd E σ' x) → args E σ xs = args E σ' xs
  | [], _ => rfl
  | x :: xs, hx => by simp only [args]; rw [hx x List.mem_cons_self, args_congr (fun y hy => hx y (List.mem_cons_of_mem _ hy))]
theorem parts_congr {σ' : Slots} {ps : List (Nat × Operand)} (hx : ∀ x ∈ ps.map (·.2), opnd E σ x = opnd E σ' x) : (ps.map fun p => (p.1, opnd E σ p.2)) = ps.map fun p => (p.1, opnd E σ' p.2) := by
  apply List.map_congr_left
  intro p hp
  rw [hx p.2 (List.mem_map_of_mem hp)]

end
end Go.EM
