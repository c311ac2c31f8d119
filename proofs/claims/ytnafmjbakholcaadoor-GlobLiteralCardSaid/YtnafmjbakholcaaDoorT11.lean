/- Lists of functions; package tables; laws of the typed terms. -/
import Derived.Test.YtnafmjbakholcaaDoorT10
set_option linter.unusedVariables false
set_option linter.unusedSimpArgs false
namespace Go.TY
open Go.EM
/-- Functions, abstract and typed, side by side. -/
def PairsOk (l : List (Nat × PFn)) (lt : List (Nat × TFn)) : Prop := ∀ f tf, lookN lt f = some tf → ∃ F, lookN l f = some F ∧ TOk F tf
theorem pairs_nil {l : List (Nat × PFn)} : PairsOk l [] := fun f tf h => by cases h
theorem pairs_cons {l : List (Nat × PFn)} {lt : List (Nat × TFn)} {k : Nat} {F : PFn} {tf : TFn} (h : TOk F tf) (hl : PairsOk l lt) : PairsOk ((k, F) :: l) ((k, tf) :: lt) := fun f tf' hf => by
  simp only [lookN] at hf ⊢
  cases hk : Nat.beq k f with
  | true => rw [hk, cond_true] at hf; cases hf; exact ⟨F, rfl, h⟩
  | false => rw [hk, cond_false] at hf; exact hl f tf' hf
def LooksOk (pl l : List (Nat × PFn)) (lt : List (Nat × TFn)) : Prop := ∀ f tf, lookN lt f = some tf → lookN pl f = none ∧ ∃ F, lookN l f = some F ∧ TOk F tf
theorem looks_nil {pl l : List (Nat × PFn)} : LooksOk pl l [] := fun f tf h => by cases h
theorem looks_cons {pl l : List (Nat × PFn)} {lt : List (Nat × TFn)} {k : Nat} {F : PFn} {tf : TFn} (h : TOk F tf) (hn : lookN pl k = none) (hl : LooksOk pl l lt) : LooksOk pl ((k, F) :: l) ((k, tf) :: lt) := fun f tf' hf => by
  simp only [lookN] at hf ⊢
  cases hk : Nat.beq k f with
  | true => rw [hk, cond_true] at hf; cases hf; rw [Nat.beq_eq] at hk; subst hk; exact ⟨hn, F, rfl, h⟩
  | false => rw [hk, cond_false] at hf; exact hl f tf' hf
def GlobsOk (l : List (Nat × AVal)) (lt : List (Nat × TV)) : Prop := ∀ g w, lookN lt g = some w → w.t.isV = true ∧ w.t.still = true ∧ R Γ0 w.t w.v false [(lookN l g).getD .any]
theorem globs_nil {l : List (Nat × AVal)} : GlobsOk l [] := fun f tf h => by cases h
theorem globs_cons {l : List (Nat × AVal)} {lt : List (Nat × TV)} {k : Nat} {a : AVal} {w : TV} (h1 : w.t.isV = true) (h2 : w.t.still = true) (h : R Γ0 w.t w.v false [a]) (hl : GlobsOk l lt) : GlobsOk ((k, a) :: l) ((k, w) :: lt) := fun f tf' hf => by
  simp only [lookN] at hf ⊢
  cases hk : Nat.beq k f with
  | true => rw [hk, cond_true] at hf; cases hf; exact ⟨h1, h2, h⟩
  | false => rw [hk, cond_false] at hf; simp only [cond_false]; exact hl f tf' hf
theorem EnvT.of {E : Env} {ET : TEnv} (h1 : PairsOk E.pure ET.pure) (h2 : LooksOk E.pure E.look ET.look) (h3 : GlobsOk E.glob ET.glob) : EnvT E ET := ⟨h1, h2, h3⟩
theorem arr_ints {k : IntKind} : ∀ (xs : List Int), ∃ ls : List (List AVal), xs.map (AVal.int k) = ls.flatten ∧ All2 (fun x c => R Γ0 (.int k) x true c) xs ls
  | [] => ⟨[], rfl, trivial⟩
  | x :: xs => by
    obtain ⟨ls, h1, h2⟩ := arr_ints (k := k) xs
    exact ⟨[.int k x] :: ls, by simp [h1], rfl, h2⟩
theorem glob_ints {k : IntKind} {xs : List Int} {n : Nat} (hn : xs.length = n) : R Γ0 (.rp (.arr n (.int k)) 0) xs false [.rptr (xs.map (AVal.int k))] := by
  obtain ⟨ls, h1, h2⟩ := arr_ints (k := k) xs
  exact ⟨.agg (xs.map (AVal.int k)), [], ⟨_, rfl, hn, ls, h1, h2⟩, by simp [AVal.cells]⟩
theorem arr_pairs {k k' : IntKind} : ∀ (xs : List (Int × Int × Unit)), ∃ ls : List (List AVal), (xs.flatMap fun p => [AVal.int k p.1, AVal.int k' p.2.1]) = ls.flatten ∧ All2 (fun x c => R Γ0 (.agg (.cons (.int k) (.cons (.int k') .unit))) x true c) xs ls
  | [] => ⟨[], rfl, trivial⟩
  | x :: xs => by
    obtain ⟨ls, h1, h2⟩ := arr_pairs (k := k) (k' := k') xs
    exact ⟨[.int k x.1, .int k' x.2.1] :: ls, by simp [h1], ⟨[_], [_], rfl, rfl, [_], [], rfl, rfl, rfl⟩, h2⟩
theorem glob_pairs {k k' : IntKind} {xs : List (Int × Int × Unit)} {n : Nat} (hn : xs.length = n) : R Γ0 (.rp (.arr n (.agg (.cons (.int k) (.cons (.int k') .unit)))) 0) xs false [.rptr (xs.flatMap fun p => [AVal.int k p.1, AVal.int k' p.2.1])] := by
  obtain ⟨ls, h1, h2⟩ := arr_pairs (k := k) (k' := k') xs
  exact ⟨.agg _, [], ⟨_, rfl, hn, ls, h1, h2⟩, by simp [AVal.cells]⟩

/-! ### laws of the typed terms -/
section
variable {A X : Type}
theorem loopTn_succ {f : A → Option (A ⊕ X)} : ∀ (n : Nat) (a : A) (x : X), loopTn f n a = some x → loopTn f (n + 1) a = some x
  | 0, _, _, h => by cases h
  | n + 1, a, x, h => by
    simp only [loopTn, Option.bind_eq_some_iff] at h ⊢
    obtain ⟨y, hy, h⟩ := h
    refine ⟨y, hy, ?_⟩
    cases y with
    | inl b => exact loopTn_succ n b x h
    | inr z => exact h
theorem loopTn_le {f : A → Option (A ⊕ X)} {n m : Nat} (hnm : n ≤ m) {a : A} {x : X} (h : loopTn f n a = some x) : loopTn f m a = some x := by
  induction hnm with
  | refl => exact h
  | step _ ih => exact loopTn_succ _ _ _ ih
theorem loopT_iff {f : A → Option (A ⊕ X)} {a : A} {x : X} : loopT f a = some x ↔ ∃ n, loopTn f n a = some x := by
  unfold loopT
  split
  · rename_i h
    obtain ⟨x', hx'⟩ := h.choose_spec
    constructor
    · intro e; exact ⟨_, e⟩
    · rintro ⟨n, hn⟩
      have h1 := loopTn_le (Nat.le_max_left n h.choose) hn
      have h2 := loopTn_le (Nat.le_max_right n h.choose) hx'
      rw [h1] at h2
      rw [hx']; exact h2.symm
  · rename_i h
    constructor
    · intro e; cases e
    · rintro ⟨n, hn⟩; exact absurd ⟨n, x, hn⟩ h
/-- A loop unfolds. -/
theorem loopT_eq (f : A → Option (A ⊕ X)) (a : A) : loopT f a = (f a).bind (joinS (loopT f)) := by
  apply Option.ext
  intro x
  rw [loopT_iff]
  constructor
  · rintro ⟨n, hn⟩
    cases n with
    | zero => cases hn
    | succ n =>
      simp only [loopTn, Option.bind_eq_some_iff] at hn ⊢
      obtain ⟨y, hy, h⟩ := hn
      refine ⟨y, hy, ?_⟩
      cases y with
      | inl b => exact loopT_iff.2 ⟨n, h⟩
      | inr z => exact h
  · intro h
    simp only [Option.bind_eq_some_iff] at h
    obtain ⟨y, hy, h⟩ := h
    cases y with
    | inl b =>
      obtain ⟨n, hn⟩ := loopT_iff.1 h
      exact ⟨n + 1, by simp only [loopTn, hy, Option.bind_some]; exact hn⟩
    | inr z => exact ⟨1, by simp only [loopTn, hy, Option.bind_some]; exact h⟩
theorem loopT_inl {f : A → Option (A ⊕ X)} {a b : A} (h : f a = some (.inl b)) : loopT f a = loopT f b := by rw [loopT_eq, h]; rfl
theorem loopT_inr {f : A → Option (A ⊕ X)} {a : A} {x : X} (h : f a = some (.inr x)) : loopT f a = some x := by rw [loopT_eq, h]; rfl
@[simp] theorem joinS_inl {f : A → Option X} {a : A} : joinS f (.inl a) = f a := rfl
@[simp] theorem joinS_inr {f : A → Option X} {x : X} : joinS f (.inr x) = some x := rfl
end
/-- A loop over a list, one behind the other: what a turn does of a state and an element. -/
def foldT {S E X : Type} (g : S → E → S ⊕ X) : S → List E → S ⊕ X
  | s, [] => .inl s
  | s, e :: l => match g s e with
    | .inl s' => foldT g s' l
    | .inr x => .inr x
@[simp] theorem cond_dec {A : Type} {p : Prop} [Decidable p] {x y : A} : cond (decide p) x y = if p then x else y := by by_cases h : p <;> simp [h]
@[simp] theorem cond_ndec {A : Type} {p : Prop} [Decidable p] {x y : A} : cond (!decide p) x y = if p then y else x := by by_cases h : p <;> simp [h]
theorem and_join {X : Type} {p q : Prop} [Decidable p] [Decidable q] {f : Bool × Unit → Option X} : ((if p then some (.inl (decide q, ())) else some (.inl (false, ())) : Option ((Bool × Unit) ⊕ X)).bind (joinS f)) = f (decide (p ∧ q), ()) := by
  by_cases hp : p <;> by_cases hq : q <;> simp [hp, hq]
theorem or_join {X : Type} {p q : Prop} [Decidable p] [Decidable q] {f : Bool × Unit → Option X} : ((if p then some (.inl (true, ())) else some (.inl (decide q, ())) : Option ((Bool × Unit) ⊕ X)).bind (joinS f)) = f (decide (p ∨ q), ()) := by
  by_cases hp : p <;> by_cases hq : q <;> simp [hp, hq]
theorem ite_and2 {A : Type} {p q : Prop} [Decidable p] [Decidable q] {x y : A} : (if p then (if q then x else y) else y) = if p ∧ q then x else y := by
  by_cases hp : p <;> by_cases hq : q <;> simp [hp, hq]
theorem ite_or2 {A : Type} {p q : Prop} [Decidable p] [Decidable q] {x y : A} : (if p then x else (if q then x else y)) = if p ∨ q then x else y := by
  by_cases hp : p <;> by_cases hq : q <;> simp [hp, hq]
theorem bind_join_inl {A X : Type} {f : A → Option X} {a : A} : ((some (.inl a) : Option (A ⊕ X)).bind (joinS f)) = f a := rfl
theorem bind_join_inr {A X : Type} {f : A → Option X} {x : X} : ((some (.inr x) : Option (A ⊕ X)).bind (joinS f)) = some x := rfl
/-- A test that ends a function, or goes on. -/
theorem guard_join {A X : Type} {p : Prop} [Decidable p] {z : X} {a : A} {f : A → Option X} : (((if p then some (.inr z) else some (.inl a)) : Option (A ⊕ X)).bind (joinS f)) = if p then some z else f a := by
  by_cases hp : p <;> simp [hp]
theorem wrap64 {n : Int} (h1 : -9223372036854775808 ≤ n) (h2 : n ≤ 9223372036854775807) : IntKind.wrap .i64 n = n := by
  simp [IntKind.wrap, IntKind.bits, IntKind.signed]; omega
theorem wrap32 {n : Int} (h1 : -2147483648 ≤ n) (h2 : n ≤ 2147483647) : IntKind.wrap .i32 n = n := by
  simp [IntKind.wrap, IntKind.bits, IntKind.signed]; omega
theorem wrap8 {n : Int} (h1 : 0 ≤ n) (h2 : n ≤ 255) : IntKind.wrap .u8 n = n := by
  simp [IntKind.wrap, IntKind.bits, IntKind.signed]; omega
theorem wrapU64 {n : Int} (h1 : 0 ≤ n) (h2 : n < 18446744073709551616) : IntKind.wrap .u64 n = n := by
  simp [IntKind.wrap, IntKind.bits, IntKind.signed]; omega
theorem roomT_lt {n : Nat} (h : n < 4294967296) : roomT n = some () := by unfold roomT; rw [if_pos (by simpa [most] using h)]
theorem atI_nat {A : Type} {l : List A} {i : Nat} : atI l (i : Int) = l[i]? := by unfold atI; rw [if_pos (by omega)]; simp
theorem atI_lt {A : Type} {l : List A} {i : Nat} (h : i < l.length) : atI l (i : Int) = some l[i] := by rw [atI_nat, List.getElem?_eq_getElem h]
theorem subI_nat {A : Type} {l : List A} {i j : Nat} (h : i ≤ j) (h2 : j ≤ l.length) : subI l (i : Int) (j : Int) = some ((l.take j).drop i) := by unfold subI; rw [if_pos (by omega)]; simp
theorem subI_from {A : Type} {l : List A} {i : Nat} (h2 : i ≤ l.length) : subI l (i : Int) (l.length : Int) = some (l.drop i) := by rw [subI_nat h2 (Nat.le_refl _), List.take_of_length_le (Nat.le_refl _)]
theorem inI_nat {n i : Nat} (h : i < n) : inI n (i : Int) = some i := by unfold inI; rw [if_pos (by omega)]; simp
theorem catT_some {x y : List UInt8} (h : x.length + y.length ≤ 9223372036854775807) : catT x y = some (x ++ y) := by unfold catT; rw [if_neg (by omega)]
theorem mkT_nat {n : Nat} (h : n < 4294967296) : mkT (n : Int) (n : Int) = some () := by unfold mkT; rw [if_pos ⟨rfl, by omega, by omega⟩]
end Go.TY
