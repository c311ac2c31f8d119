/- The evaluator with loops of so many turns: what runs in Lean's kernel. -/
import Derived.Test.YtnafmjbakholcaaDoorE15
import Derived.Test.YtnafmjbakholcaaDoorE16
set_option linter.unusedVariables false
set_option linter.unusedSimpArgs false
namespace Go.EM

def Dn (n : Nat) (P : Program) (E : Env) (h : Hints) : Code → (R : Type) → Slots → Store → (AExit → Slots → Store → Option R) → Option R
  | .skip, _, σ, st, K => K .normal σ st
  | .region _ ops draw, _, σ, st, K => cond (draw && !drawOk P E h ops) none (evalT P E h ops.toList ops.toList σ st (K .normal))
  | .seq a b, R, σ, st, K =>
    match lookN h.seqs (firstRegion b) with
    | some keep =>
      (Dn n P E h a (Live R) σ st (fun e σ' st' => match e with
        | .normal => some (.inl (pickK keep σ', st'))
        | e => (K e σ' st').map .inr)).bind (joinA fun live st' => Dn n P E h b R (plugK keep 0 live) st' K)
    | none => Dn n P E h a R σ st (fun e σ' st' => match e with
        | .normal => Dn n P E h b R σ' st' K
        | e => K e σ' st')
  | .cond c a b, R, σ, st, K => condA (opnd E σ c) (fun _ => Dn n P E h a R σ st K) (fun _ => Dn n P E h b R σ st K)
  | .block id b, R, σ, st, K => Dn n P E h b R σ st (fun e σ' st' => match e with
      | .exit i => cond (Nat.beq i id) (K .normal σ' st') (K (.exit i) σ' st')
      | e => K e σ' st')
  | .loop b, R, σ, st, K =>
    match lookN h.loops (firstRegion b) with
    | some keep => loopN (fun live st' => Dn n P E h b (Live R) (plugK keep 0 live) st' (fun e σ'' st'' => match e with
        | .normal => some (.inl (pickK keep σ'', st''))
        | e => (K e σ'' st'').map .inr)) n (pickK keep σ) st
    | none => none
  | .exit id, _, σ, st, K => K (.exit id) σ st
  | .ret, _, σ, st, K => K .ret σ st
  | _, _, _, _, _ => none

def Sub {A : Type} (x y : Option A) : Prop := ∀ r, x = some r → y = some r
theorem Sub.refl {A : Type} (x : Option A) : Sub x x := fun _ h => h
theorem Sub.bind {A B : Type} {x y : Option A} {f g : A → Option B} (h : Sub x y) (k : ∀ a, Sub (f a) (g a)) : Sub (x.bind f) (y.bind g) := by
  intro r hr
  obtain ⟨a, h1, h2⟩ := Option.bind_eq_some_iff.1 hr
  exact Option.bind_eq_some_iff.2 ⟨a, h a h1, k a r h2⟩
theorem Sub.map {A B : Type} {x y : Option A} {f : A → B} (h : Sub x y) : Sub (x.map f) (y.map f) := by
  intro r hr
  obtain ⟨a, h1, h2⟩ := Option.map_eq_some_iff.1 hr
  exact Option.map_eq_some_iff.2 ⟨a, h a h1, h2⟩
theorem Sub.join {R : Type} {f g : List AVal → Store → Option R} (h : ∀ l s, Sub (f l s) (g l s)) (x : Live R) : Sub (joinA f x) (joinA g x) := by
  cases x with
  | inl p => exact h _ _
  | inr r => exact Sub.refl _

theorem evalT_sub {P : Program} {E : Env} {h : Hints} {R : Type} {ops : List Oper} {K K' : Slots → Store → Option R} (hK : ∀ σ st, Sub (K σ st) (K' σ st)) :
    ∀ (os : List Oper) (σ : Slots) (st : Store), Sub (evalT P E h ops os σ st K) (evalT P E h ops os σ st K')
  | [], σ, st => hK σ st
  | o :: os, σ, st => by
    have ih := fun σ st => evalT_sub (P := P) (E := E) (h := h) (ops := ops) hK os σ st
    unfold evalT
    split
    · split
      · exact ih _ _
      · exact ih _ _
    · split
      · refine Sub.bind (Sub.refl _) (fun v => ?_)
        split
        · exact ih _ _
        · exact ih _ _
      · refine Sub.bind (Sub.refl _) (fun v => ?_)
        split
        · exact ih _ _
        · exact ih _ _

theorem loopN_sub {R : Type} {f g : List AVal → Store → Option (Live R)} (h : ∀ l s, Sub (f l s) (g l s)) : ∀ (n : Nat) (l : List AVal) (st : Store), Sub (loopN f n l st) (loopN g n l st)
  | 0, _, _ => Sub.refl _
  | n + 1, l, st => by
    simp only [loopN]
    exact Sub.bind (h l st) (Sub.join (loopN_sub h n))
theorem loopN_loopA {R : Type} {f : List AVal → Store → Option (Live R)} (n : Nat) (l : List AVal) (st : Store) : Sub (loopN f n l st) (loopA f l st) := fun r h => loopA_iff.2 ⟨n, h⟩
theorem Sub.trans {A : Type} {x y z : Option A} (h : Sub x y) (k : Sub y z) : Sub x z := fun r hr => k r (h r hr)

theorem Dn_sub {n : Nat} {P : Program} {E : Env} {h : Hints} : ∀ (c : Code) (R : Type) (σ : Slots) (st : Store) (K K' : AExit → Slots → Store → Option R), (∀ e σ st, Sub (K e σ st) (K' e σ st)) →
    Sub (Dn n P E h c R σ st K) (D P E h c R σ st K')
  | .skip, R, σ, st, K, K', hK => hK _ _ _
  | .region _ ops draw, R, σ, st, K, K', hK => by
    simp only [Dn, D]
    cases (draw && !drawOk P E h ops)
    · exact evalT_sub (hK .normal) _ _ _
    · exact Sub.refl _
  | .seq a b, R, σ, st, K, K', hK => by
    simp only [Dn, D]
    cases lookN h.seqs (firstRegion b) with
    | some keep =>
      simp only []
      refine Sub.bind (Dn_sub a (Live R) σ st _ _ (fun e σ' st' => ?_)) (Sub.join fun l s => Dn_sub b R _ _ K K' hK)
      cases e with
      | normal => exact Sub.refl _
      | exit i => exact (hK (.exit i) σ' st').map
      | ret => exact (hK .ret σ' st').map
    | none =>
      simp only []
      refine Dn_sub a R σ st _ _ (fun e σ' st' => ?_)
      cases e with
      | normal => exact Dn_sub b R σ' st' K K' hK
      | exit i => exact hK (.exit i) σ' st'
      | ret => exact hK .ret σ' st'
  | .cond c a b, R, σ, st, K, K', hK => by
    simp only [Dn, D]
    unfold condA
    split
    · rename_i t _
      cases t
      · exact Dn_sub b R σ st K K' hK
      · exact Dn_sub a R σ st K K' hK
    · exact Sub.refl _
  | .block id b, R, σ, st, K, K', hK => by
    simp only [Dn, D]
    refine Dn_sub b R σ st _ _ (fun e σ' st' => ?_)
    cases e with
    | normal => exact hK .normal σ' st'
    | exit i =>
      simp only []
      cases Nat.beq i id
      · exact hK (.exit i) σ' st'
      · exact hK .normal σ' st'
    | ret => exact hK .ret σ' st'
  | .loop b, R, σ, st, K, K', hK => by
    simp only [Dn, D]
    cases lookN h.loops (firstRegion b) with
    | none => exact Sub.refl _
    | some keep =>
      simp only []
      refine (loopN_sub (fun l s => Dn_sub b (Live R) _ _ _ _ (fun e σ' st' => ?_)) n _ _).trans (loopN_loopA n _ _)
      cases e with
      | normal => exact Sub.refl _
      | exit i => exact (hK (.exit i) σ' st').map
      | ret => exact (hK .ret σ' st').map
  | .exit id, R, σ, st, K, K', hK => hK _ _ _
  | .ret, R, σ, st, K, K', hK => hK _ _ _
  | .rangeFunc .., R, σ, st, K, K', hK => fun r hr => by simp [Dn] at hr
  | .scope .., R, σ, st, K, K', hK => fun r hr => by simp [Dn] at hr
  | .label .., R, σ, st, K, K', hK => fun r hr => by simp [Dn] at hr
  | .goto .., R, σ, st, K, K', hK => fun r hr => by simp [Dn] at hr
  | .refuse .., R, σ, st, K, K', hK => fun r hr => by simp [Dn] at hr

def runK (n : Nat) (P : Program) (E : Env) (h : Hints) (fn : Func) : SFn := fun xs st =>
  cond (Nat.beq xs.length (fn.params.size + fn.nfree)) (cond (dstsIn fn.ntmps (fn.body.getD .skip) && Nat.ble (fn.params.size + fn.nfree) fn.ntmps)
    (match fn.body with
     | some c => Dn n P E h c (AVal × Store) (plugK (List.range (fn.params.size + fn.nfree)) 0 xs) st (fun e σ st' => match e with
        | .normal => (resV P σ st' fn.results.toList).map fun v => (v, st')
        | .ret => (resV P σ st' fn.results.toList).map fun v => (v, st')
        | _ => none)
     | none => none) none) none
theorem runK_sub {n : Nat} {P : Program} {E : Env} {h : Hints} {fn : Func} (xs : List AVal) (st : Store) : Sub (runK n P E h fn xs st) (runF P E h fn xs st) := by
  unfold runK runF
  cases Nat.beq xs.length (fn.params.size + fn.nfree)
  · exact Sub.refl _
  · simp only [cond_true]
    cases (dstsIn fn.ntmps (fn.body.getD .skip) && Nat.ble (fn.params.size + fn.nfree) fn.ntmps)
    · exact Sub.refl _
    · simp only [cond_true]
      cases fn.body with
      | some c => exact Dn_sub _ _ _ _ _ _ (fun e σ st => Sub.refl _)
      | none => exact Sub.refl _
theorem soundS_sub {P : Program} {G : List (Nat × AVal)} {f : Nat} {F F' : SFn} (h : SoundS P G f F) (hs : ∀ xs st, Sub (F' xs st) (F xs st)) : SoundS P G f F' :=
  ⟨h.1, fun xs st r st' hr => h.2 xs st r st' (hs xs st _ hr)⟩
theorem soundP_sub {P : Program} {G : List (Nat × AVal)} {f : Nat} {F F' : PFn} (h : SoundP P G f F) (hs : ∀ xs, Sub (F' xs) (F xs)) : SoundP P G f F' :=
  ⟨h.1, fun xs r hr => h.2 xs r (hs xs _ hr)⟩
/-- What it is at one list of arguments. -/
theorem soundP_at {P : Program} {G : List (Nat × AVal)} {f : Nat} {F : PFn} (h : SoundP P G f F) {r : AVal} (hr : F [] = some r) : SoundP P G f (fun xs => match xs with | [] => some r | _ => none) :=
  soundP_sub h (fun xs v hv => by
    cases xs with
    | nil => rw [hr]; exact hv
    | cons x l => cases hv)
end Go.EM
