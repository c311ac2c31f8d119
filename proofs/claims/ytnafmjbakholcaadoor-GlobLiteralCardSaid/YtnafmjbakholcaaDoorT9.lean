/- Every operation; regions. -/
import Derived.Test.YtnafmjbakholcaaDoorT8
set_option linter.unusedVariables false
set_option linter.unusedSimpArgs false
namespace Go.TY
open Go.EM
structure EnvT (E : Env) (ET : TEnv) : Prop where
  pure : ∀ f tf, lookN ET.pure f = some tf → ∃ F, lookN E.pure f = some F ∧ TOk F tf
  look : ∀ f tf, lookN ET.look f = some tf → lookN E.pure f = none ∧ ∃ F, lookN E.look f = some F ∧ TOk F tf
  glob : ∀ g w, lookN ET.glob g = some w → w.t.isV = true ∧ w.t.still = true ∧ R Γ0 w.t w.v false [(lookN E.glob g).getD .any]
def SlotR (Γ : Ctx) (σ : TS) (σA : Slots) : Prop := ∀ k w, getT σ k = some w → w.t.isV = true ∧ R Γ w.t w.v false [getS σA k]
section
variable {Γ : Ctx} {m : Mem} {st : Store} {P : Program} {d : Option Nat} {E : Env} {ET : TEnv} {h : Hints} {H : TH} {σ : TS} {σA : Slots}
theorem opndT_R (hE : EnvT E ET) (hs : SlotR Γ σ σA) {x : Operand} {w : TV} (hw : opndT ET σ x = some w) : w.t.isV = true ∧ R Γ w.t w.v false [opnd E σA x] := by
  cases x with
  | tmp t => exact hs t w hw
  | const v => exact constT_R hw
  | global g => obtain ⟨h1, h2, h3⟩ := hE.glob g w hw; exact ⟨h1, R_moveS h2 h3⟩
  | func f => cases hw
theorem opnds_R (hE : EnvT E ET) (hs : SlotR Γ σ σA) : ∀ {xs : List Operand} {ws : List TV}, opnds ET σ xs = some ws → ValsR Γ ws (args E σA xs)
  | [], ws, h => by simp only [opnds] at h; cases h; trivial
  | x :: xs, ws, h => by
    simp only [opnds, Option.bind_eq_some_iff, Option.map_eq_some_iff] at h
    obtain ⟨w, hw, ws', hws, rfl⟩ := h
    exact ⟨opndT_R hE hs hw, opnds_R hE hs hws⟩
theorem partsT_R (hE : EnvT E ET) (hs : SlotR Γ σ σA) : ∀ {xs : List (Nat × Operand)} {ws : List (Nat × TV)}, partsT ET σ xs = some ws → PartsR Γ ws (xs.map fun p => (p.1, opnd E σA p.2))
  | [], ws, h => by simp only [partsT] at h; cases h; trivial
  | (i, x) :: xs, ws, h => by
    simp only [partsT, Option.bind_eq_some_iff, Option.map_eq_some_iff] at h
    obtain ⟨w, hw, ws', hws, rfl⟩ := h
    exact ⟨⟨rfl, opndT_R hE hs hw⟩, partsT_R hE hs hws⟩
theorem optT_R (hE : EnvT E ET) (hs : SlotR Γ σ σA) {x : Option Operand} {w : Option TV} (hw : optT ET σ x = some w) : OptR Γ w (x.map (opnd E σA)) := by
  cases x with
  | none => simp only [optT] at hw; cases hw; trivial
  | some x =>
    simp only [optT, Option.map_eq_some_iff] at hw
    obtain ⟨y, hy, rfl⟩ := hw
    exact (opndT_R hE hs hy).2
theorem w1_P {x : Option TV} {f : TV → OR} {av : Option AVal} (hf : ∀ w, x = some w → OkP Γ m av (f w)) : OkP Γ m av (w1 x f) := by
  cases x with
  | none => exact .no
  | some w => exact hf w rfl
theorem w1_M {x : Option TV} {f : TV → OR} {ares : Option (AVal × Store)} (hf : ∀ w, x = some w → OkM d Γ m st ares (f w)) : OkM d Γ m st ares (w1 x f) := by
  cases x with
  | none => exact .no
  | some w => exact hf w rfl
theorem opPT_ok (hE : EnvT E ET) (hs : SlotR Γ σ σA) (hm : MemR Γ m st) (o : Oper) : OkP Γ m (opP P E σA o) (opPT P ET σ m o) := by
  unfold opPT
  split
  · rename_i x ho
    refine .ofO fun w hw => ?_
    obtain ⟨h1, h2⟩ := opndT_R hE hs hw
    exact ⟨h1, _, h2, by simp only [opP, ho]⟩
  · rename_i x ho
    refine .ofO fun w hw => ?_
    obtain ⟨h1, h2⟩ := opndT_R hE hs hw
    exact ⟨h1, _, h2, by simp only [opP, ho]⟩
  · rename_i c a b ho
    refine w1_P fun c' hc => w1_P fun a' ha => w1_P fun b' hb => ?_
    have e : opP P E σA o = apick (opnd E σA c) (opnd E σA a) (opnd E σA b) := by simp only [opP, ho]
    rw [e]
    exact pickT_ok (opndT_R hE hs hc).2 (opndT_R hE hs ha).2 (opndT_R hE hs hb).2 (opndT_R hE hs ha).1 (opndT_R hE hs hb).1
  · rename_i op t x y yt ho
    refine w1_P fun x' hx => w1_P fun y' hy => ?_
    have e : opP P E σA o = abin P op t (isConst x || isConst y) (opnd E σA x) (opnd E σA y) := by simp only [opP, ho]
    rw [e]
    exact binT_ok (opndT_R hE hs hx).2 (opndT_R hE hs hy).2 (opndT_R hE hs hx).1 (opndT_R hE hs hy).1
  · rename_i op t x ho
    refine w1_P fun x' hx => ?_
    have e : opP P E σA o = aun op (opnd E σA x) := by simp only [opP, ho]
    rw [e]
    exact unT_ok (opndT_R hE hs hx).2
  · rename_i src dst x ho
    refine w1_P fun x' hx => ?_
    have e : opP P E σA o = aconv P src dst (opnd E σA x) := by simp only [opP, ho]
    rw [e]
    exact convT_ok (opndT_R hE hs hx).2
  · rename_i t x i ho
    refine w1_P fun x' hx => w1_P fun i' hi => ?_
    have e : opP P E σA o = aindex P t (opnd E σA x) (opnd E σA i) := by simp only [opP, ho]
    rw [e]
    exact indexT_ok (opndT_R hE hs hx).2 (opndT_R hE hs hi).2
  · rename_i t x i ho
    refine w1_P fun x' hx => w1_P fun i' hi => ?_
    have e : opP P E σA o = aidx P t (opnd E σA x) (opnd E σA i) := by simp only [opP, ho]
    rw [e]
    exact idxT_ok hm (opndT_R hE hs hx).2 (opndT_R hE hs hi).2
  · rename_i s x f ho
    refine w1_P fun x' hx => ?_
    have e : opP P E σA o = afaddr P s (opnd E σA x) f := by simp only [opP, ho]
    rw [e]
    exact faddrT_ok (opndT_R hE hs hx).2
  · rename_i s x f ho
    refine w1_P fun x' hx => ?_
    have e : opP P E σA o = afield P s (opnd E σA x) f := by simp only [opP, ho]
    rw [e]
    exact fieldT_ok (opndT_R hE hs hx).1 (opndT_R hE hs hx).2
  · rename_i x i ho
    refine w1_P fun x' hx => ?_
    have e : opP P E σA o = aextract (opnd E σA x) i := by simp only [opP, ho]
    rw [e]
    exact extractT_ok (opndT_R hE hs hx).2
  · rename_i t x lo hi mx ho
    refine w1_P fun x' hx => ?_
    have e : opP P E σA o = aslice P t (opnd E σA x) (lo.map (opnd E σA)) (hi.map (opnd E σA)) (mx.map (opnd E σA)) := by simp only [opP, ho]
    rw [e]
    split
    · rename_i l' h' m' h1 h2 h3
      exact sliceT_ok (opndT_R hE hs hx).2 (optT_R hE hs h1) (optT_R hE hs h2) (optT_R hE hs h3)
    · exact .no
  · rename_i t parts ho
    split
    · rename_i ps hps
      have e : opP P E σA o = abuild P t (parts.toList.map fun p => (p.1, opnd E σA p.2)) := by simp only [opP, ho]
      rw [e]
      exact buildT_ok (partsT_R hE hs hps)
    · exact .no
  · rename_i t len parts ho
    split
    · rename_i ps hps
      split
      · rename_i u xs hb
        obtain ⟨g1, g2, g3, g4, g5⟩ := buildSlT_R (partsT_R hE hs hps) hb
        refine .ok rfl (a := .tree true u.size _) (.inr ⟨true, u.size, _, rfl, .inr rfl, g5⟩) ?_
        simp only [opP, ho, g4, Option.map_some]
      · exact .no
    · exact .no
  · rename_i x ho
    refine w1_P fun x' hx => ?_
    have e : opP P E σA o = anilck (opnd E σA x) := by simp only [opP, ho]
    rw [e]
    exact nilckT_ok (opndT_R hE hs hx).1 (opndT_R hE hs hx).2
  · rename_i c ho
    split
    · rename_i hc
      split
      · rename_i x t h1 h2
        refine w1_P fun x' hx => ?_
        have e : opP P E σA o = alen P t (opnd E σA x) := by simp only [opP, ho, hc, h1, h2]
        rw [e]
        exact lenT_ok hm (opndT_R hE hs hx).2
      · exact .no
    · rename_i hc
      split
      · rename_i l hl
        have e : opP P E σA o = aminmax true (args E σA c.args.toList) := by simp only [opP, ho, hc]
        rw [e]
        exact minmaxT_ok (opnds_R hE hs hl)
      · exact .no
    · rename_i hc
      split
      · rename_i l hl
        have e : opP P E σA o = aminmax false (args E σA c.args.toList) := by simp only [opP, ho, hc]
        rw [e]
        exact minmaxT_ok (opnds_R hE hs hl)
      · exact .no
    · rename_i f hc
      split
      · rename_i tf htf
        split
        · rename_i l hl
          obtain ⟨F, hF, hok⟩ := hE.pure f tf htf
          have e : opP P E σA o = callP F (args E σA c.args.toList) := by simp only [opP, ho, hc, hF]
          rw [e]
          exact callT_ok hok (opnds_R hE hs hl)
        · exact .no
      · exact .no
    · exact .no
  · exact .no
theorem scal_R : ∀ {t : Ty} {v : t.V} {c : Bool} {l : List AVal}, t.scal = true → R Γ t v c l → scalarL l = true
  | .int _, v, c, l, _, h => by simp only [R] at h; subst h; rfl
  | .bool, v, c, l, _, h => by simp only [R] at h; subst h; rfl
  | .str, v, c, l, _, h => by simp only [R] at h; subst h; rfl
  | .tup t, v, c, l, hk, h => by
    simp only [R] at h; obtain ⟨as, rfl, h⟩ := h
    have := scal_R (t := t) hk h
    simp only [scalarL, scalar, this, Bool.and_self]
  | .unit, v, c, l, _, h => by simp only [R] at h; subst h; rfl
  | .cons t ts, v, c, l, hk, h => by
    simp only [Ty.scal, Bool.and_eq_true] at hk
    simp only [R] at h; obtain ⟨l1, l2, rfl, h1, h2⟩ := h
    exact app (scal_R hk.1 h1) (scal_R hk.2 h2)
  | .sl _, v, c, l, hk, h => by cases hk
  | .agg _, v, c, l, hk, h => by cases hk
  | .arr _ _, v, c, l, hk, h => by cases hk
  | .nilsl, v, c, l, hk, h => by cases hk
  | .nilp, v, c, l, hk, h => by cases hk
  | .undef, v, c, l, hk, h => by cases hk
  | .any, v, c, l, hk, h => by cases hk
  | .own _, v, c, l, hk, h => by cases hk
  | .it _, v, c, l, hk, h => by cases hk
  | .bx _ _, v, c, l, hk, h => by cases hk
  | .ptr _ _, v, c, l, hk, h => by cases hk
  | .rp _ _, v, c, l, hk, h => by cases hk
where
  app : ∀ {a b : List AVal}, scalarL a = true → scalarL b = true → scalarL (a ++ b) = true
    | [], b, _, h => h
    | x :: a, b, h, k => by
      simp only [scalarL, Bool.and_eq_true, List.cons_append] at h ⊢
      exact ⟨h.1, app h.2 k⟩
theorem closeL_R (hm : MemR Γ m st) : ∀ {u : Ty} {l : List TV} {x : u.V} {as : List AVal}, u.closed = true → closeL m u l = some x → ValsR Γ l as → ∃ as', packL st as = some as' ∧ R Γ0 u x false as'
  | .cons t ts, w :: l, x, a :: as, hc, h, hr => by
    simp only [closeL, Option.bind_eq_some_iff, Option.map_eq_some_iff] at h
    obtain ⟨y, h1, z, h2, rfl⟩ := h
    simp only [Ty.closed, Bool.and_eq_true] at hc
    obtain ⟨k1, g1, g2⟩ := closeTo_R hm hc.1 h1 hr.1.2
    obtain ⟨k2, g3, g4⟩ := closeL_R hm hc.2 h2 hr.2
    exact ⟨k1 ++ k2, packL_app g1 g3, k1, k2, rfl, g2, g4⟩
  | .cons t ts, w :: l, x, [], hc, h, hr => hr.elim
  | .cons t ts, [], x, as, hc, h, hr => by simp [closeL] at h
  | .unit, [], x, [], hc, h, hr => ⟨[], rfl, rfl⟩
  | .unit, [], x, a :: as, hc, h, hr => hr.elim
  | .unit, w :: l, x, as, hc, h, hr => by simp [closeL] at h
  | .int _, l, x, as, hc, h, hr => by simp [closeL] at h
  | .bool, l, x, as, hc, h, hr => by simp [closeL] at h
  | .str, l, x, as, hc, h, hr => by simp [closeL] at h
  | .sl _, l, x, as, hc, h, hr => by simp [closeL] at h
  | .agg _, l, x, as, hc, h, hr => by simp [closeL] at h
  | .arr _ _, l, x, as, hc, h, hr => by simp [closeL] at h
  | .tup _, l, x, as, hc, h, hr => by simp [closeL] at h
  | .nilsl, l, x, as, hc, h, hr => by simp [closeL] at h
  | .nilp, l, x, as, hc, h, hr => by simp [closeL] at h
  | .undef, l, x, as, hc, h, hr => by simp [closeL] at h
  | .any, l, x, as, hc, h, hr => by simp [closeL] at h
  | .own _, l, x, as, hc, h, hr => by simp [closeL] at h
  | .it _, l, x, as, hc, h, hr => by simp [closeL] at h
  | .bx _ _, l, x, as, hc, h, hr => by simp [closeL] at h
  | .ptr _ _, l, x, as, hc, h, hr => by simp [closeL] at h
  | .rp _ _, l, x, as, hc, h, hr => by simp [closeL] at h
theorem lookT_ok (hm : MemR Γ m st) {F : PFn} {tf : TFn} {l : List TV} {as : List AVal} (hF : TOk F tf) (h : ValsR Γ l as) : OkP Γ m (callQ F as st) (lookT tf l m) := by
  unfold lookT
  cases hsc : tf.res.scal with
  | false => exact .no
  | true =>
    simp only [cond_true]
    split
    · rename_i v hv
      refine .opt fun r hr => ?_
      obtain ⟨as', h1, h2⟩ := closeL_R hm hF.ps hv h
      obtain ⟨a, h3, h4⟩ := hF.run v r as' hr h2
      have hs := scal_R hsc h4
      simp only [scalarL, Bool.and_true] at hs
      refine .ok hF.isV (R_move hF.res h4) ?_
      simp only [callQ, h1, Option.bind_some, h3, hs, cond_true]
    · exact .no
theorem normC_R {t : TypeId} {x : Operand} {w : TV} {a : AVal} (hv : w.t.isV = true) (hr : R Γ w.t w.v false [a]) : (normC P t x w).t.isV = true ∧ R Γ (normC P t x w).t (normC P t x w).v false [a] := by
  unfold normC
  cases isConst x with
  | false => exact ⟨hv, hr⟩
  | true => exact normT_R hv hr
theorem opST_ok (hE : EnvT E ET) (hs : SlotR Γ σ σA) (hm : MemR Γ m st) (o : Oper) : OkM o.dst Γ m st (opS P E σA st o) (opST P ET H σ m o) := by
  unfold opST
  split
  · rename_i src dst x ho
    refine w1_M fun x' hx => ?_
    have e : opS P E σA st o = aconvS P src dst (opnd E σA x) st := by simp only [opS, ho]
    rw [e]
    exact convS_ok hm (opndT_R hE hs hx).2
  · rename_i t len parts ho
    split
    · rename_i ps hps
      split
      · rename_i u xs hb
        obtain ⟨g1, g2, g3, g4, g5⟩ := buildSlT_R (partsT_R hE hs hps) hb
        cases hk : u.okRow with
        | false => exact .no
        | true =>
          refine fresh_ok hm rfl g1 g2 hk g3 g5 ?_
          simp only [opS, ho, g4, Option.map_some]
      · exact .no
    · exact .no
  · rename_i t a ho
    refine w1_M fun a' ha => ?_
    have e : opS P E σA st o = (aload P t (opnd E σA a) st).map fun v => (v, st) := by simp only [opS, ho]
    rw [e]
    exact .ofP hm (loadT_ok hm (opndT_R hE hs ha).1 (opndT_R hE hs ha).2)
  · rename_i t a v ho
    split
    · exact .no
    · rename_i hd
      refine w1_M fun a' ha => w1_M fun v' hv => ?_
      have e : opS P E σA st o = (astore P t (opnd E σA a) (opnd E σA v) st).map fun s => (.any, s) := by simp only [opS, ho]
      rw [e, hd]
      exact storeT_ok hm (opndT_R hE hs ha).2 (normC_R (opndT_R hE hs hv).1 (opndT_R hE hs hv).2).2
  · rename_i t ho
    have e : opS P E σA st o = aalloc P t st := by simp only [opS, ho]
    rw [e]
    exact allocT_ok hm
  · rename_i t v ho
    refine w1_M fun v' hv => ?_
    have e : opS P E σA st o = abox P t (opnd E σA v) st := by simp only [opS, ho]
    rw [e]
    exact boxT_ok hm (normC_R (opndT_R hE hs hv).1 (opndT_R hE hs hv).2).2
  · rename_i t l c ho
    refine w1_M fun l' hl => w1_M fun c' hc => ?_
    have e : opS P E σA st o = amake P t (opnd E σA l) (opnd E σA c) st := by simp only [opS, ho]
    rw [e]
    exact makeT_ok hm (opndT_R hE hs hl).2 (opndT_R hE hs hc).2
  · rename_i t x ho
    refine w1_M fun x' hx => ?_
    have e : opS P E σA st o = arange P t (opnd E σA x) st := by simp only [opS, ho]
    rw [e]
    exact rangeT_ok hm (opndT_R hE hs hx).2
  · rename_i it b ho
    refine w1_M fun x' hx => ?_
    have e : opS P E σA st o = anext (opnd E σA it) b st := by simp only [opS, ho]
    rw [e]
    exact nextT_ok hm (opndT_R hE hs hx).2
  · rename_i c ho
    split
    · rename_i hc
      split
      · rename_i x y hxy
        refine w1_M fun x' hx => w1_M fun y' hy => ?_
        have e : opS P E σA st o = aappendOp P c.argTypes.toList (opnd E σA x) (opnd E σA y) st := by simp only [opS, ho, hc, hxy]
        rw [e]
        exact appendT_ok hm (opndT_R hE hs hx).2 (opndT_R hE hs hy).2
      · exact .no
    · rename_i f hc
      split
      · rename_i tf htf
        split
        · rename_i l hl
          obtain ⟨hn, F, hF, hok⟩ := hE.look f tf htf
          have e : opS P E σA st o = (callQ F (args E σA c.args.toList) st).map fun v => (v, st) := by simp only [opS, ho, hc, callA, hn, hF]
          rw [e]
          exact .ofP hm (lookT_ok hm hok (opnds_R hE hs hl))
        · exact .no
      · exact .no
    · exact .no
  · exact .no

/-! ### steps -/
/-- What the abstract machine makes of an operation. -/
def aop (P : Program) (E : Env) (h : Hints) (σA : Slots) (st : Store) (o : Oper) : Option (AVal × Store) :=
  match Nat.beq (cls E h o) 0 with
  | true => (opP P E σA o).map fun v => (v, st)
  | false => opS P E σA st o
theorem opT_ok (hE : EnvT E ET) (hs : SlotR Γ σ σA) (hm : MemR Γ m st) (o : Oper) : OkM o.dst Γ m st (aop P E h σA st o) (opT P E h ET H σ m o) := by
  unfold opT aop
  cases Nat.beq (cls E h o) 0 with
  | true => exact .ofP hm (opPT_ok hE hs hm o)
  | false => exact opST_ok hE hs hm o
def pushA (d : Option Nat) (a : AVal) (σA : Slots) : Slots :=
  match d with
  | some d => (d, a) :: σA
  | none => σA
theorem getT_filter {p : Nat → Bool} : ∀ {σ : TS} {k : Nat} {w : TV}, getT (σ.filter fun q => p q.1) k = some w → getT σ k = some w ∧ p k = true
  | [], k, w, h => by cases h
  | (j, v) :: σ, k, w, h => by
    simp only [List.filter_cons] at h
    cases hp : p j with
    | true =>
      simp only [hp, if_true, getT] at h
      cases hj : Nat.beq j k with
      | true =>
        rw [hj, cond_true] at h
        rw [Nat.beq_eq] at hj
        subst hj
        simp only [getT]
        have : Nat.beq j j = true := by simp
        rw [this, cond_true]
        exact ⟨h, hp⟩
      | false =>
        rw [hj, cond_false] at h
        simp only [getT, hj, cond_false]
        exact getT_filter h
    | false =>
      simp only [hp, Bool.false_eq_true, if_false] at h
      obtain ⟨h1, h2⟩ := getT_filter h
      cases hj : Nat.beq j k with
      | true =>
        rw [Nat.beq_eq] at hj
        subst hj
        rw [hp] at h2; cases h2
      | false =>
        simp only [getT, hj, cond_false]
        exact ⟨h1, h2⟩
theorem killS_get {kk : Option Nat} {k : Nat} {w : TV} (hg : getT (killS kk σ) k = some w) : getT σ k = some w ∧ ∀ j, kk = some j → w.t.names j = false := by
  unfold killS at hg
  split at hg
  · exact ⟨hg, fun j hj => by cases hj⟩
  · rename_i j
    obtain ⟨h1, h2⟩ := getT_filter (p := fun q => match getT σ q with | some w => !(w.t.names j) | none => false) hg
    refine ⟨h1, fun i hi => ?_⟩
    cases hi
    rw [h1] at h2
    simpa using h2
theorem slots_push {w : TV} {a : AVal} {Γ' : Ctx} {kk : Option Nat} (hs : SlotR Γ σ σA) (he : ∀ j y, kk ≠ some j → Γ j = some y → Γ' j = some y) (hr : d = none ∨ (w.t.isV = true ∧ R Γ' w.t w.v false [a])) : SlotR Γ' (pushT d w (killS kk σ)) (pushA d a σA) := by
  have base : ∀ k v, getT (killS kk σ) k = some v → v.t.isV = true ∧ R Γ' v.t v.v false [getS σA k] := by
    intro k v hv
    obtain ⟨h1, h2⟩ := killS_get hv
    obtain ⟨h3, h4⟩ := hs k v h1
    refine ⟨h3, R_ext (fun j y hj hy => he j y (fun e => ?_) hy) h4⟩
    rw [h2 j e] at hj; cases hj
  cases d with
  | none => exact base
  | some d =>
    intro k v hv
    simp only [pushT, getT] at hv
    simp only [pushA, getS]
    cases hk : Nat.beq d k with
    | true =>
      simp only [hk, cond_true] at hv ⊢
      cases hv
      rcases hr with hr | hr
      · cases hr
      · exact hr
    | false =>
      simp only [hk, cond_false] at hv ⊢
      exact base k v hv
theorem pushA_get {d : Option Nat} {a : AVal} {k : Nat} (hk : ∀ j, d = some j → j ≠ k) : getS (pushA d a σA) k = getS σA k := by
  cases d with
  | none => rfl
  | some j =>
    have : Nat.beq j k = false := by
      cases hb : Nat.beq j k with
      | false => rfl
      | true => rw [Nat.beq_eq] at hb; exact absurd hb (hk j rfl)
    simp only [pushA, getS, this, cond_false]
/-- Where a path leads: the abstract machine goes along. -/
def Leads (P : Program) (E : Env) (h : Hints) (ops os : List Oper) (m : Mem) (σA : Slots) (st : Store) (Q : TS → Mem → Prop) : Prop :=
  ∃ σ' m' σA' st' Γ', Q σ' m' ∧ SlotR Γ' σ' σA' ∧ MemR Γ' m' st' ∧ Pers m m' ∧ (∀ k, notDst os k = true → getS σA' k = getS σA k) ∧
    ∀ (R : Type) (K : Slots → Store → Option R), evalOps P E h ops os σA st K = K σA' st'
theorem evalOps_cons {R : Type} {ops os : List Oper} {o : Oper} {K : Slots → Store → Option R} {v : AVal} {st' : Store}
    (hr : (match o.guard with
      | none => aop P E h σA st o
      | some (j, want) => guardS (guardOf ops j σA) want st fun _ => aop P E h σA st o) = some (v, st')) :
    evalOps P E h ops (o :: os) σA st K = evalOps P E h ops os (pushA o.dst v σA) st' K := by
  conv => lhs; unfold evalOps
  unfold aop at hr
  cases hc : Nat.beq (cls E h o) 0 with
  | true =>
    simp only [hc] at hr ⊢
    cases hg : o.guard with
    | none =>
      simp only [hg] at hr ⊢
      rw [Option.map_eq_some_iff] at hr
      obtain ⟨a, ha, e⟩ := hr
      cases e
      simp only [ha, Option.bind_some]
      cases o.dst <;> rfl
    | some p =>
      obtain ⟨j, want⟩ := p
      simp only [hg] at hr ⊢
      have : guardV (guardOf ops j σA) want (fun _ => opP P E σA o) = some v ∧ st' = st := by
        unfold guardS at hr
        unfold guardV
        split at hr
        · rename_i b _
          cases want <;> cases b <;> simp only [cond_true, cond_false] at hr ⊢
          · rw [Option.map_eq_some_iff] at hr; obtain ⟨a, ha, e⟩ := hr; cases e; exact ⟨ha, rfl⟩
          · cases hr; exact ⟨rfl, rfl⟩
          · cases hr; exact ⟨rfl, rfl⟩
          · rw [Option.map_eq_some_iff] at hr; obtain ⟨a, ha, e⟩ := hr; cases e; exact ⟨ha, rfl⟩
        · cases hr; exact ⟨rfl, rfl⟩
        · cases hr
      obtain ⟨h1, rfl⟩ := this
      simp only [h1, Option.bind_some]
      cases o.dst <;> rfl
  | false =>
    simp only [hc] at hr ⊢
    cases hg : o.guard with
    | none =>
      simp only [hg] at hr ⊢
      simp only [hr, Option.bind_some]
      cases o.dst <;> rfl
    | some p =>
      obtain ⟨j, want⟩ := p
      simp only [hg] at hr ⊢
      simp only [hr, Option.bind_some]
      cases o.dst <;> rfl
/-- One step. -/
theorem stepT_ok (hE : EnvT E ET) (hs : SlotR Γ σ σA) (hm : MemR Γ m st) {ops : List Oper} {o : Oper} {X : Type} {K : TS → Mem → Option X} {x : X} (hx : stepT P E h ET H ops σ m o K = some x) :
    ∃ σ' m' a st' Γ', K σ' m' = some x ∧ SlotR Γ' σ' (pushA o.dst a σA) ∧ MemR Γ' m' st' ∧ Pers m m' ∧
      (match o.guard with
        | none => aop P E h σA st o
        | some (j, want) => guardS (guardOf ops j σA) want st fun _ => aop P E h σA st o) = some (a, st') := by
  have dok : ∀ {σ : TS}, SlotR Γ σ σA → doT P E h ET H σ m o K = some x → ∃ σ' m' a st' Γ', K σ' m' = some x ∧ SlotR Γ' σ' (pushA o.dst a σA) ∧ MemR Γ' m' st' ∧ Pers m m' ∧ aop P E h σA st o = some (a, st') := by
    intro σ hs hx
    unfold doT at hx
    obtain ⟨w, m', k, a, st', Γ', h1, h2, h3, h4, h5, h6⟩ := opT_ok (P := P) (h := h) (H := H) hE hs hm o X _ x hx
    exact ⟨_, m', a, st', Γ', h1, slots_push hs h5 h3, h4, h6, h2⟩
  have sok : ∀ {σ : TS}, SlotR Γ σ σA → skipT σ m o K = some x → ∃ σ' m' a st' Γ', K σ' m' = some x ∧ SlotR Γ' σ' (pushA o.dst a σA) ∧ MemR Γ' m' st' ∧ Pers m m' ∧ some ((AVal.tup []), st) = some (a, st') := by
    intro σ hs hx
    unfold skipT at hx
    exact ⟨_, m, .tup [], st, Γ, hx, slots_push (kk := none) hs (fun _ _ _ h => h) (.inr ⟨rfl, rfl⟩), hm, .refl m, rfl⟩
  unfold stepT at hx
  split at hx
  · rename_i hg
    rw [hg]
    exact dok hs hx
  · rename_i j want hg
    rw [hg]
    simp only
    split at hx
    · rename_i g hgd
      have hgo : guardOf ops j σA = getS σA g := by
        unfold guardOf; rw [hgd]
      split at hx
      · rename_i b hb
        have hbr := (hs g _ hb).2
        simp only [R] at hbr
        have hbr := (List.cons.inj hbr).1
        rw [hgo, hbr]
        have hs' : ∀ c, b = c → SlotR Γ ((g, ⟨.bool, c⟩) :: σ) σA := by
          intro c hc k v hv
          simp only [getT] at hv
          cases hk : Nat.beq g k with
          | true =>
            rw [hk, cond_true] at hv
            rw [Nat.beq_eq] at hk
            cases hv
            subst hk
            exact ⟨rfl, by simp only [R]; rw [hbr, hc]⟩
          | false => rw [hk, cond_false] at hv; exact hs k v hv
        cases b with
        | true =>
          simp only [cond_true] at hx
          cases want with
          | true => exact dok (hs' true rfl) hx
          | false => exact sok (hs' true rfl) hx
        | false =>
          simp only [cond_false] at hx
          cases want with
          | true => exact sok (hs' false rfl) hx
          | false => exact dok (hs' false rfl) hx
      · rename_i u hb
        have hbr := (hs g _ hb).2
        simp only [R] at hbr
        have hbr := (List.cons.inj hbr).1
        rw [hgo, hbr]
        exact sok hs hx
      · cases hx
    · cases hx
theorem opsT_ok (hE : EnvT E ET) {ops : List Oper} {X : Type} {K : TS → Mem → Option X} {x : X} : ∀ {os : List Oper} {σ : TS} {m : Mem} {σA : Slots} {st : Store} {Γ : Ctx}, SlotR Γ σ σA → MemR Γ m st → opsT P E h ET H ops os σ m K = some x →
    Leads P E h ops os m σA st (fun σ' m' => K σ' m' = some x)
  | [], σ, m, σA, st, Γ, hs, hm, hx => ⟨σ, m, σA, st, Γ, hx, hs, hm, .refl m, fun _ _ => rfl, fun _ _ => rfl⟩
  | o :: os, σ, m, σA, st, Γ, hs, hm, hx => by
    simp only [opsT] at hx
    obtain ⟨σ1, m1, a, st1, Γ1, h1, h2, h3, h4, h5⟩ := stepT_ok hE hs hm hx
    obtain ⟨σ2, m2, σA2, st2, Γ2, g1, g2, g3, g4, g5, g6⟩ := opsT_ok hE h2 h3 h1
    refine ⟨σ2, m2, σA2, st2, Γ2, g1, g2, g3, h4.trans g4, fun k hk => ?_, fun R K => ?_⟩
    · simp only [notDst, List.all_cons, Bool.and_eq_true] at hk
      rw [g5 k hk.2]
      refine pushA_get fun j hj e => ?_
      rw [hj] at hk
      subst e
      simp at hk
    · rw [evalOps_cons h5]; exact g6 R K
end
end Go.TY
