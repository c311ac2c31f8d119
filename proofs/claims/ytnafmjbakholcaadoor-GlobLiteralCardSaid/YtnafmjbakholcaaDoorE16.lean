/- Laws of the shallow terms: loops unfold; what each primitive comes to. -/
import Derived.Test.YtnafmjbakholcaaDoorE1
set_option linter.unusedVariables false
set_option linter.unusedSimpArgs false
namespace Go.EM

/-! ### loops -/
theorem joinA_mono {R : Type} {f g : List AVal → Store → Option R} (h : ∀ l s r, f l s = some r → g l s = some r) {x : Live R} {r : R} (hx : joinA f x = some r) : joinA g x = some r := by
  cases x with
  | inl p => exact h _ _ _ hx
  | inr q => exact hx
theorem loopN_succ {R : Type} {f : List AVal → Store → Option (Live R)} : ∀ (n : Nat) (l : List AVal) (st : Store) (r : R), loopN f n l st = some r → loopN f (n + 1) l st = some r
  | 0, _, _, _, h => by cases h
  | n + 1, l, st, r, h => by
    simp only [loopN] at h ⊢
    cases hf : f l st with
    | none => rw [hf] at h; cases h
    | some x =>
      rw [hf] at h
      simp only [Option.bind_some] at h ⊢
      exact joinA_mono (fun l s r => loopN_succ n l s r) h
theorem loopN_le {R : Type} {f : List AVal → Store → Option (Live R)} {n m : Nat} (hnm : n ≤ m) {l : List AVal} {st : Store} {r : R} (h : loopN f n l st = some r) : loopN f m l st = some r := by
  induction hnm with
  | refl => exact h
  | step _ ih => exact loopN_succ _ _ _ _ ih
theorem loopA_iff {R : Type} {f : List AVal → Store → Option (Live R)} {l : List AVal} {st : Store} {r : R} : loopA f l st = some r ↔ ∃ n, loopN f n l st = some r := by
  unfold loopA
  split
  · rename_i h
    have hc := h.choose_spec
    obtain ⟨r', hr'⟩ := hc
    constructor
    · intro e; exact ⟨_, e⟩
    · rintro ⟨n, hn⟩
      have h1 := loopN_le (Nat.le_max_left n h.choose) hn
      have h2 := loopN_le (Nat.le_max_right n h.choose) hr'
      rw [h1] at h2
      rw [hr']; exact h2.symm
  · rename_i h
    constructor
    · intro e; cases e
    · rintro ⟨n, hn⟩; exact absurd ⟨n, r, hn⟩ h
theorem loopA_eq {R : Type} (f : List AVal → Store → Option (Live R)) (l : List AVal) (st : Store) : loopA f l st = (f l st).bind (joinA (loopA f)) := by
  apply Option.ext
  intro r
  rw [loopA_iff]
  constructor
  · rintro ⟨n, hn⟩
    cases n with
    | zero => cases hn
    | succ n =>
      simp only [loopN] at hn
      cases hf : f l st with
      | none => rw [hf] at hn; cases hn
      | some x =>
        rw [hf] at hn
        simp only [Option.bind_some] at hn ⊢
        exact joinA_mono (fun l s r h => loopA_iff.2 ⟨n, h⟩) hn
  · intro h
    cases hf : f l st with
    | none => rw [hf] at h; cases h
    | some x =>
      rw [hf] at h
      simp only [Option.bind_some] at h
      cases x with
      | inr q => exact ⟨1, by simp only [loopN, hf, Option.bind_some]; exact h⟩
      | inl p =>
        obtain ⟨n, hn⟩ := loopA_iff.1 h
        exact ⟨n + 1, by simp only [loopN, hf, Option.bind_some]; exact hn⟩
theorem loopA_inl {R : Type} {f : List AVal → Store → Option (Live R)} {l l' : List AVal} {st st' : Store} (h : f l st = some (.inl (l', st'))) : loopA f l st = loopA f l' st' := by
  rw [loopA_eq, h]; rfl
theorem loopA_inr {R : Type} {f : List AVal → Store → Option (Live R)} {l : List AVal} {st : Store} {r : R} (h : f l st = some (.inr r)) : loopA f l st = some r := by
  rw [loopA_eq, h]; rfl

/-! ### primitives -/
def mv (v : AVal) : Option AVal := some v
theorem mv_some {v : AVal} : mv v = some v := rfl
section
variable {P : Program} {t : Nat} {lit : Bool} {k : IntKind} {a b : Int}
theorem abin_lss : abin P .lss t lit (.int k a) (.int k b) = some (.bool (decide (a < b))) := by simp [abin, aint]
theorem abin_leq : abin P .leq t lit (.int k a) (.int k b) = some (.bool (decide (a ≤ b))) := by simp [abin, aint]
theorem abin_gtr : abin P .gtr t lit (.int k a) (.int k b) = some (.bool (decide (a > b))) := by simp [abin, aint]
theorem abin_geq : abin P .geq t lit (.int k a) (.int k b) = some (.bool (decide (a ≥ b))) := by simp [abin, aint]
theorem abin_eql : abin P .eql t lit (.int k a) (.int k b) = some (.bool (decide (a = b))) := by
  have : (a == b) = decide (a = b) := by by_cases h : a = b <;> simp [h]
  simp [abin, aint, this]
theorem abin_neq : abin P .neq t lit (.int k a) (.int k b) = some (.bool (!decide (a = b))) := by
  have : (a != b) = !decide (a = b) := by by_cases h : a = b <;> simp [h, bne]
  simp [abin, aint, this]
theorem abin_add : abin P .add t lit (.int k a) (.int k b) = some (.int k (k.wrap (a + b))) := by simp [abin, aint]
theorem abin_sub : abin P .sub t lit (.int k a) (.int k b) = some (.int k (k.wrap (a - b))) := by simp [abin, aint]
theorem abin_mul : abin P .mul t lit (.int k a) (.int k b) = some (.int k (k.wrap (a * b))) := by simp [abin, aint]
theorem abin_eqlS {x y : List UInt8} : abin P .eql t lit (.str x) (.str y) = some (.bool (decide (x = y))) := by
  have : (x == y) = decide (x = y) := by by_cases h : x = y <;> simp [h]
  simp [abin, astr, this]
theorem abin_neqS {x y : List UInt8} : abin P .neq t lit (.str x) (.str y) = some (.bool (!decide (x = y))) := by
  have : (x == y) = decide (x = y) := by by_cases h : x = y <;> simp [h]
  simp [abin, astr, this]
theorem abin_addS {x y : List UInt8} (h : x.length + y.length ≤ 9223372036854775807) : abin P .add t lit (.str x) (.str y) = some (.str (x ++ y)) := by
  have : ¬ (((x.length + y.length : Nat) : Int) > IntKind.i64.max) := by
    have : IntKind.i64.max = 9223372036854775807 := by decide
    omega
  simp only [abin, astr, if_neg this]

theorem wrap_i64 {n : Int} (h1 : -9223372036854775808 ≤ n) (h2 : n ≤ 9223372036854775807) : IntKind.i64.wrap n = n := by
  simp [IntKind.wrap, IntKind.bits, IntKind.signed]; omega
end
theorem guardV_tt {f : Unit → Option AVal} : guardV (.bool true) true f = f () := rfl
theorem guardV_tf {f : Unit → Option AVal} : guardV (.bool false) true f = some (.tup []) := rfl
theorem guardV_ft {f : Unit → Option AVal} : guardV (.bool true) false f = some (.tup []) := rfl
theorem guardV_ff {f : Unit → Option AVal} : guardV (.bool false) false f = f () := rfl
theorem guardS_tt {f : Unit → Option (AVal × Store)} {st : Store} : guardS (.bool true) true st f = f () := rfl
theorem guardS_tf {f : Unit → Option (AVal × Store)} {st : Store} : guardS (.bool false) true st f = some (.tup [], st) := rfl
theorem guardS_ft {f : Unit → Option (AVal × Store)} {st : Store} : guardS (.bool true) false st f = some (.tup [], st) := rfl
theorem guardS_ff {f : Unit → Option (AVal × Store)} {st : Store} : guardS (.bool false) false st f = f () := rfl
theorem guardV_u {f : Unit → Option AVal} {want : Bool} : guardV (.tup []) want f = some (.tup []) := rfl
theorem guardS_u {f : Unit → Option (AVal × Store)} {want : Bool} {st : Store} : guardS (.tup []) want st f = some (.tup [], st) := rfl
theorem condA_t {R : Type} {a b : Unit → Option R} : condA (.bool true) a b = a () := rfl
theorem condA_f {R : Type} {a b : Unit → Option R} : condA (.bool false) a b = b () := rfl
theorem apick_t {a b : AVal} : apick (.bool true) a b = some a := rfl
theorem apick_f {a b : AVal} : apick (.bool false) a b = some b := rfl
theorem joinA_inl {R : Type} {f : List AVal → Store → Option R} {p : List AVal × Store} : joinA f (.inl p) = f p.1 p.2 := rfl
theorem joinA_inr {R : Type} {f : List AVal → Store → Option R} {r : R} : joinA f (.inr r) = some r := rfl
theorem getL_0 {v : AVal} {l : List AVal} : getL (v :: l) 0 = v := rfl
theorem getL_s {v : AVal} {l : List AVal} {n : Nat} : getL (v :: l) (n + 1) = getL l n := rfl
theorem aun_not {b : Bool} : aun .not (.bool b) = some (.bool !b) := rfl
theorem aextract_tup {vs : List AVal} {i : Nat} : aextract (.tup vs) i = vs[i]? := rfl
theorem nat_beq_self {n : Nat} : Nat.beq n n = true := by simp
end Go.EM
