/- The typed machine: its types, its values, and what they are of the abstract machine's. -/
import Derived.Test.YtnafmjbakholcaaDoorE18
set_option linter.unusedVariables false
set_option linter.unusedSimpArgs false
namespace Go.TY
open Go.EM

/-- Types. 'cons' and 'unit' are rows of types (a struct's fields, a tuple's parts). -/
inductive Ty where
  | int (k : IntKind)
  | bool
  | str
  | sl (t : Ty)
  | agg (t : Ty)
  | arr (n : Nat) (t : Ty)
  | tup (t : Ty)
  | unit
  | cons (t ts : Ty)
  | nilsl
  | nilp
  | undef
  | any
  | own (id : Nat)
  | it (id : Nat)
  | bx (id off : Nat)
  | ptr (id off : Nat)
  | rp (t : Ty) (off : Nat)

@[reducible] def Ty.V : Ty → Type
  | .int _ => Int
  | .bool => Bool
  | .str => List UInt8
  | .sl t => List t.V
  | .agg t => t.V
  | .arr _ t => List t.V
  | .tup t => t.V
  | .unit => Unit
  | .cons t ts => t.V × ts.V
  | .nilsl => Unit
  | .nilp => Unit
  | .undef => Unit
  | .any => Unit
  | .own _ => Unit
  | .it _ => Unit
  | .bx _ _ => Unit
  | .ptr _ _ => Nat
  | .rp t _ => t.V

def Ty.size : Ty → Nat
  | .cons t ts => t.size + ts.size
  | .unit => 0
  | .agg t => t.size
  | .arr n t => n * t.size
  | _ => 1
def Ty.isAgg : Ty → Bool
  | .agg _ => true
  | .arr _ _ => true
  | _ => false
/-- Is it of one value? -/
def Ty.isV : Ty → Bool
  | .cons _ _ => false
  | .unit => false
  | _ => true
/-- May it stand in one cell? -/
def Ty.isCell : Ty → Bool
  | .agg _ => false
  | .arr _ _ => false
  | .tup _ => false
  | .unit => false
  | .cons _ _ => false
  | .undef => false
  | _ => true
/-- Are all of a row's leaves cells? -/
def Ty.okRow : Ty → Bool
  | .cons t ts => t.isV && t.okRow && ts.okRow
  | .unit => true
  | .agg t => !t.isV && t.okRow
  | .arr _ t => t.isV && t.okRow
  | .tup _ => false
  | .undef => false
  | _ => true
/-- Does it need no memory of this function's? -/
def Ty.closed : Ty → Bool
  | .sl t => t.isV && t.closed
  | .agg t => t.closed
  | .arr _ t => t.isV && t.closed
  | .tup t => t.closed
  | .cons t ts => t.closed && ts.closed
  | .nilsl => false
  | .any => false
  | .own _ => false
  | .it _ => false
  | .bx _ _ => false
  | .ptr _ _ => false
  | .rp _ _ => false
  | _ => true

/-- Does it not matter where memory lies? -/
def Ty.still : Ty → Bool
  | .sl t => t.still
  | .agg t => t.still
  | .arr _ t => t.still
  | .tup t => t.still
  | .cons t ts => t.still && ts.still
  | .any => false
  | .own _ => false
  | .it _ => false
  | .bx _ _ => false
  | .ptr _ _ => false
  | .rp t _ => t.still
  | _ => true
theorem closed_still : ∀ {t : Ty}, t.closed = true → t.still = true
  | .sl t, h => by simp only [Ty.closed, Bool.and_eq_true] at h; exact closed_still (t := t) h.2
  | .agg t, h => closed_still (t := t) h
  | .arr _ t, h => by simp only [Ty.closed, Bool.and_eq_true] at h; exact closed_still (t := t) h.2
  | .tup t, h => closed_still (t := t) h
  | .cons t ts, h => by
    simp only [Ty.closed, Bool.and_eq_true] at h
    simp only [Ty.still, closed_still h.1, closed_still h.2, Bool.and_self]
  | .int _, _ => rfl
  | .bool, _ => rfl
  | .str, _ => rfl
  | .unit, _ => rfl
  | .nilsl, _ => rfl
  | .nilp, _ => rfl
  | .undef, _ => rfl
  | .any, h => by cases h
  | .own _, h => by cases h
  | .it _, h => by cases h
  | .bx _ _, h => by cases h
  | .ptr _ _, h => by cases h
  | .rp _ _, h => by cases h
def kbeq : IntKind → IntKind → Bool
  | .i8, .i8 => true | .i16, .i16 => true | .i32, .i32 => true | .i64, .i64 => true
  | .u8, .u8 => true | .u16, .u16 => true | .u32, .u32 => true | .u64, .u64 => true
  | _, _ => false
theorem kbeq_eq {a b : IntKind} (h : kbeq a b = true) : a = b := by cases a <;> cases b <;> first | rfl | cases h
def Ty.beq : Ty → Ty → Bool
  | .int a, .int b => kbeq a b
  | .bool, .bool => true
  | .str, .str => true
  | .sl a, .sl b => a.beq b
  | .agg a, .agg b => a.beq b
  | .arr n a, .arr k b => Nat.beq n k && a.beq b
  | .tup a, .tup b => a.beq b
  | .unit, .unit => true
  | .cons a b, .cons c d => a.beq c && b.beq d
  | .nilsl, .nilsl => true
  | .nilp, .nilp => true
  | .undef, .undef => true
  | .any, .any => true
  | .own a, .own b => Nat.beq a b
  | .it a, .it b => Nat.beq a b
  | .bx a b, .bx c d => Nat.beq a c && Nat.beq b d
  | .ptr a b, .ptr c d => Nat.beq a c && Nat.beq b d
  | .rp a b, .rp c d => a.beq c && Nat.beq b d
  | _, _ => false
theorem Ty.beq_eq : ∀ {a b : Ty}, a.beq b = true → a = b
  | .int a, b, h => by cases b <;> simp [Ty.beq] at h; rw [kbeq_eq h]
  | .bool, b, h => by cases b <;> simp [Ty.beq] at h; rfl
  | .str, b, h => by cases b <;> simp [Ty.beq] at h; rfl
  | .sl a, b, h => by cases b <;> simp [Ty.beq] at h; rw [Ty.beq_eq h]
  | .agg a, b, h => by cases b <;> simp [Ty.beq] at h; rw [Ty.beq_eq h]
  | .arr n a, b, h => by cases b <;> simp [Ty.beq] at h; rw [h.1, Ty.beq_eq h.2]
  | .tup a, b, h => by cases b <;> simp [Ty.beq] at h; rw [Ty.beq_eq h]
  | .unit, b, h => by cases b <;> simp [Ty.beq] at h; rfl
  | .cons a c, b, h => by cases b <;> simp [Ty.beq] at h; rw [Ty.beq_eq h.1, Ty.beq_eq h.2]
  | .nilsl, b, h => by cases b <;> simp [Ty.beq] at h; rfl
  | .nilp, b, h => by cases b <;> simp [Ty.beq] at h; rfl
  | .undef, b, h => by cases b <;> simp [Ty.beq] at h; rfl
  | .any, b, h => by cases b <;> simp [Ty.beq] at h; rfl
  | .own a, b, h => by cases b <;> simp [Ty.beq] at h; rw [h]
  | .it a, b, h => by cases b <;> simp [Ty.beq] at h; rw [h]
  | .bx a c, b, h => by cases b <;> simp [Ty.beq] at h; rw [h.1, h.2]
  | .ptr a c, b, h => by cases b <;> simp [Ty.beq] at h; rw [h.1, h.2]
  | .rp a c, b, h => by cases b <;> simp [Ty.beq] at h; rw [Ty.beq_eq h.1, h.2]

structure TV where
  t : Ty
  v : t.V

/-- A value as one of another type, which is the same one. -/
def castV {A : Type} (t : Ty) (v : t.V) (u : Ty) (k : u.V → A) : Option A :=
  if h : t.beq u = true then some (k (Ty.beq_eq h ▸ v)) else none
theorem castV_some {A : Type} {t u : Ty} {v : t.V} {k : u.V → A} {x : A} (h : castV t v u k = some x) : ∃ e : t = u, x = k (e ▸ v) := by
  unfold castV at h
  split at h
  · rename_i hb; cases h; exact ⟨Ty.beq_eq hb, rfl⟩
  · cases h

/-- Where a region lies in the abstract machine's memory: its place, an element's cells, how many elements; 'none': nowhere yet (a nil slice). -/
abbrev Ctx := Nat → Option (Option (Nat × Nat × Nat))

def All2 {A B : Type} (p : A → B → Prop) : List A → List B → Prop
  | [], [] => True
  | x :: l, a :: as => p x a ∧ All2 p l as
  | _, _ => False
theorem All2_len {A B : Type} {p : A → B → Prop} : ∀ {l : List A} {as : List B}, All2 p l as → as.length = l.length
  | [], [], _ => rfl
  | x :: l, a :: as, h => by simp only [List.length_cons, All2_len h.2]
theorem All2_get {A B : Type} {p : A → B → Prop} : ∀ {l : List A} {as : List B} {i : Nat} {x : A}, All2 p l as → l[i]? = some x → ∃ a, as[i]? = some a ∧ p x a
  | y :: l, a :: as, 0, x, h, hx => by simp at hx; subst hx; exact ⟨a, rfl, h.1⟩
  | y :: l, a :: as, i + 1, x, h, hx => by
    simp only [List.getElem?_cons_succ] at hx ⊢
    exact All2_get h.2 hx
theorem All2_app {A B : Type} {p : A → B → Prop} : ∀ {l m : List A} {as bs : List B}, All2 p l as → All2 p m bs → All2 p (l ++ m) (as ++ bs)
  | [], m, [], bs, _, h => h
  | x :: l, m, a :: as, bs, h, k => ⟨h.1, All2_app h.2 k⟩
theorem All2_take {A B : Type} {p : A → B → Prop} : ∀ {l : List A} {as : List B} (n : Nat), All2 p l as → All2 p (l.take n) (as.take n)
  | l, as, 0, _ => by simp [All2]
  | [], [], n + 1, _ => by simp [All2]
  | x :: l, a :: as, n + 1, h => ⟨h.1, All2_take n h.2⟩
theorem All2_drop {A B : Type} {p : A → B → Prop} : ∀ {l : List A} {as : List B} (n : Nat), All2 p l as → All2 p (l.drop n) (as.drop n)
  | l, as, 0, h => by simpa using h
  | [], [], n + 1, _ => by simp [All2]
  | x :: l, a :: as, n + 1, h => by simpa using All2_drop n h.2
theorem All2_set {A B : Type} {p : A → B → Prop} : ∀ {l : List A} {as : List B} {i : Nat} {x : A} {a : B}, All2 p l as → p x a → All2 p (l.set i x) (as.set i a)
  | [], [], i, x, a, _, _ => by simp [All2]
  | y :: l, b :: as, 0, x, a, h, k => ⟨k, h.2⟩
  | y :: l, b :: as, i + 1, x, a, h, k => ⟨h.1, All2_set h.2 k⟩
theorem All2_rep {A B : Type} {p : A → B → Prop} {x : A} {a : B} (h : p x a) : ∀ n, All2 p (List.replicate n x) (List.replicate n a)
  | 0 => by simp [All2]
  | n + 1 => ⟨h, All2_rep h n⟩
/-- What a typed value is of the abstract machine's. cl: as cells; else as values. -/
def R (Γ : Ctx) : (t : Ty) → t.V → Bool → List AVal → Prop
  | .int k, v, _, l => l = [.int k v]
  | .bool, v, _, l => l = [.bool v]
  | .str, v, _, l => l = [.str v]
  | .sl t, v, _, l => (v = [] ∧ l = [.nil]) ∨ ∃ f n as, l = [.tree f n as] ∧ (v = [] ∨ n = t.size) ∧ All2 (fun x a => R Γ t x false [a]) v as
  | .agg t, v, cl, l => match cl with
    | true => R Γ t v true l
    | false => ∃ cs, l = [.agg cs] ∧ R Γ t v true cs
  | .arr n t, v, cl, l => match cl with
    | true => v.length = n ∧ ∃ ls : List (List AVal), l = ls.flatten ∧ All2 (fun x c => R Γ t x true c) v ls
    | false => ∃ cs, l = [.agg cs] ∧ v.length = n ∧ ∃ ls : List (List AVal), cs = ls.flatten ∧ All2 (fun x c => R Γ t x true c) v ls
  | .tup t, v, _, l => ∃ as, l = [.tup as] ∧ R Γ t v false as
  | .unit, _, _, l => l = []
  | .cons t ts, v, cl, l => ∃ l1 l2, l = l1 ++ l2 ∧ R Γ t v.1 cl l1 ∧ R Γ ts v.2 cl l2
  | .nilsl, _, _, l => l = [.nil]
  | .nilp, _, _, l => l = [.nilptr]
  | .undef, _, _, l => l = [.tup []]
  | .any, _, _, l => ∃ a, l = [a] ∧ a.isCell = true
  | .own id, _, _, l => match Γ id with
    | some (some (r, n, len)) => l = [.own r n len 0 len]
    | some none => l = [.nil]
    | none => False
  | .it id, _, _, l => ∃ r, Γ id = some (some (r, 0, 0)) ∧ l = [.ptr r 0 0 0]
  | .bx id off, _, _, l => ∃ r n, Γ id = some (some (r, n, 1)) ∧ l = [.ptr r 1 0 off]
  | .ptr id off, i, _, l => ∃ r n len, Γ id = some (some (r, n, len)) ∧ l = [.ptr r len i off]
  | .rp t off, v, _, l => ∃ a rest, R Γ t v false [a] ∧ l = [.rptr ((a.cells ++ rest).drop off)]

section
variable {Γ : Ctx}
theorem R_len : ∀ {t : Ty} {v : t.V} {l : List AVal}, R Γ t v true l → l.length = t.size
  | .int k, v, l, h => by simp only [R] at h; subst h; rfl
  | .bool, v, l, h => by simp only [R] at h; subst h; rfl
  | .str, v, l, h => by simp only [R] at h; subst h; rfl
  | .sl t, v, l, h => by
    simp only [R] at h
    rcases h with ⟨_, rfl⟩ | ⟨_, _, _, rfl, _⟩ <;> rfl
  | .agg t, v, l, h => by simp only [R] at h; exact R_len (t := t) h
  | .arr n t, v, l, h => by
    simp only [R] at h
    obtain ⟨hn, ls, rfl, h⟩ := h
    simp only [Ty.size]
    rw [← hn]
    have : ∀ (v : List t.V) (ls : List (List AVal)), All2 (fun x c => R Γ t x true c) v ls → ls.flatten.length = v.length * t.size := by
      intro v
      induction v with
      | nil => intro ls h; cases ls with | nil => simp | cons _ _ => exact h.elim
      | cons x v ih =>
        intro ls h
        cases ls with
        | nil => exact h.elim
        | cons c ls =>
          rw [List.flatten_cons, List.length_append, R_len h.1, ih ls h.2, List.length_cons, Nat.succ_mul, Nat.add_comm]
    exact this v ls h
  | .tup t, v, l, h => by simp only [R] at h; obtain ⟨as, rfl, _⟩ := h; rfl
  | .unit, v, l, h => by simp only [R] at h; subst h; rfl
  | .cons t ts, v, l, h => by
    simp only [R] at h
    obtain ⟨l1, l2, rfl, h1, h2⟩ := h
    rw [List.length_append, R_len h1, R_len h2]; rfl
  | .nilsl, v, l, h => by simp only [R] at h; subst h; rfl
  | .nilp, v, l, h => by simp only [R] at h; subst h; rfl
  | .undef, v, l, h => by simp only [R] at h; subst h; rfl
  | .any, v, l, h => by simp only [R] at h; obtain ⟨a, rfl, _⟩ := h; rfl
  | .own id, v, l, h => by
    simp only [R] at h
    split at h
    · subst h; rfl
    · subst h; rfl
    · exact h.elim
  | .it id, v, l, h => by simp only [R] at h; obtain ⟨_, _, rfl⟩ := h; rfl
  | .bx id off, v, l, h => by simp only [R] at h; obtain ⟨_, _, _, rfl⟩ := h; rfl
  | .ptr id off, v, l, h => by simp only [R] at h; obtain ⟨_, _, _, _, rfl⟩ := h; rfl
  | .rp t off, v, l, h => by simp only [R] at h; obtain ⟨_, _, _, rfl⟩ := h; rfl

/-- One value's list is of one. -/
theorem R_one : ∀ {t : Ty} {v : t.V} {l : List AVal}, t.isV = true → R Γ t v false l → ∃ a, l = [a]
  | .int k, v, l, _, h => by simp only [R] at h; exact ⟨_, h⟩
  | .bool, v, l, _, h => by simp only [R] at h; exact ⟨_, h⟩
  | .str, v, l, _, h => by simp only [R] at h; exact ⟨_, h⟩
  | .sl t, v, l, _, h => by
    simp only [R] at h
    rcases h with ⟨_, h⟩ | ⟨_, _, _, h, _⟩ <;> exact ⟨_, h⟩
  | .agg t, v, l, _, h => by simp only [R] at h; obtain ⟨cs, h, _⟩ := h; exact ⟨_, h⟩
  | .arr n t, v, l, _, h => by simp only [R] at h; obtain ⟨cs, h, _⟩ := h; exact ⟨_, h⟩
  | .tup t, v, l, _, h => by simp only [R] at h; obtain ⟨as, h, _⟩ := h; exact ⟨_, h⟩
  | .unit, v, l, h, _ => by cases h
  | .cons t ts, v, l, h, _ => by cases h
  | .nilsl, v, l, _, h => by simp only [R] at h; exact ⟨_, h⟩
  | .nilp, v, l, _, h => by simp only [R] at h; exact ⟨_, h⟩
  | .undef, v, l, _, h => by simp only [R] at h; exact ⟨_, h⟩
  | .any, v, l, _, h => by simp only [R] at h; obtain ⟨a, h, _⟩ := h; exact ⟨_, h⟩
  | .own id, v, l, _, h => by
    simp only [R] at h
    split at h
    · exact ⟨_, h⟩
    · exact ⟨_, h⟩
    · exact h.elim
  | .it id, v, l, _, h => by simp only [R] at h; obtain ⟨_, _, h⟩ := h; exact ⟨_, h⟩
  | .bx id off, v, l, _, h => by simp only [R] at h; obtain ⟨_, _, _, h⟩ := h; exact ⟨_, h⟩
  | .ptr id off, v, l, _, h => by simp only [R] at h; obtain ⟨_, _, _, _, h⟩ := h; exact ⟨_, h⟩
  | .rp t off, v, l, _, h => by simp only [R] at h; obtain ⟨_, _, _, h⟩ := h; exact ⟨_, h⟩

/-- A value's cells. -/
theorem R_cells : ∀ {t : Ty} {v : t.V} {a : AVal}, t.isV = true → R Γ t v false [a] → R Γ t v true a.cells
  | .int k, v, a, _, h => by simp only [R] at h ⊢; cases h; rfl
  | .bool, v, a, _, h => by simp only [R] at h ⊢; cases h; rfl
  | .str, v, a, _, h => by simp only [R] at h ⊢; cases h; rfl
  | .sl t, v, a, _, h => by
    simp only [R] at h ⊢
    rcases h with ⟨h0, h⟩ | ⟨f, n, as, h, h1⟩
    · cases h; exact .inl ⟨h0, rfl⟩
    · cases h; exact .inr ⟨f, n, as, rfl, h1⟩
  | .agg t, v, a, _, h => by simp only [R] at h ⊢; obtain ⟨cs, h, h1⟩ := h; cases h; exact h1
  | .arr n t, v, a, _, h => by simp only [R] at h ⊢; obtain ⟨cs, h, h1⟩ := h; cases h; exact h1
  | .tup t, v, a, _, h => by simp only [R] at h ⊢; obtain ⟨as, h, h1⟩ := h; cases h; exact ⟨as, rfl, h1⟩
  | .unit, v, a, h, _ => by cases h
  | .cons t ts, v, a, h, _ => by cases h
  | .nilsl, v, a, _, h => by simp only [R] at h ⊢; cases h; rfl
  | .nilp, v, a, _, h => by simp only [R] at h ⊢; cases h; rfl
  | .undef, v, a, _, h => by simp only [R] at h ⊢; cases h; rfl
  | .any, v, a, _, h => by
    simp only [R] at h ⊢
    obtain ⟨b, h, h1⟩ := h
    cases h
    refine ⟨a, ?_, h1⟩
    cases a <;> first | rfl | cases h1
  | .own id, v, a, _, h => by
    simp only [R] at h ⊢
    split <;> rename_i hg <;> rw [hg] at h <;> simp only at h
    · cases h; rfl
    · cases h; rfl
  | .it id, v, a, _, h => by simp only [R] at h ⊢; obtain ⟨r, h1, h⟩ := h; cases h; exact ⟨r, h1, rfl⟩
  | .bx id off, v, a, _, h => by simp only [R] at h ⊢; obtain ⟨r, n, h1, h⟩ := h; cases h; exact ⟨r, n, h1, rfl⟩
  | .ptr id off, v, a, _, h => by simp only [R] at h ⊢; obtain ⟨r, n, len, h1, h⟩ := h; cases h; exact ⟨r, n, len, h1, rfl⟩
  | .rp t off, v, a, _, h => by simp only [R] at h ⊢; obtain ⟨b, rest, h1, h⟩ := h; cases h; exact ⟨b, rest, h1, rfl⟩
/-- Of a cell the two are one. -/
theorem R_mode : ∀ {t : Ty} {v : t.V} {l : List AVal} (c d : Bool), t.isCell = true → R Γ t v c l → R Γ t v d l
  | .int k, v, l, c, d, _, h => by simpa only [R] using h
  | .bool, v, l, c, d, _, h => by simpa only [R] using h
  | .str, v, l, c, d, _, h => by simpa only [R] using h
  | .sl t, v, l, c, d, _, h => by simpa only [R] using h
  | .agg t, v, l, c, d, h, _ => by cases h
  | .arr n t, v, l, c, d, h, _ => by cases h
  | .tup t, v, l, c, d, h, _ => by cases h
  | .unit, v, l, c, d, h, _ => by cases h
  | .cons t ts, v, l, c, d, h, _ => by cases h
  | .nilsl, v, l, c, d, _, h => by simpa only [R] using h
  | .nilp, v, l, c, d, _, h => by simpa only [R] using h
  | .undef, v, l, c, d, h, _ => by cases h
  | .any, v, l, c, d, _, h => by simpa only [R] using h
  | .own id, v, l, c, d, _, h => by simpa only [R] using h
  | .it id, v, l, c, d, _, h => by simpa only [R] using h
  | .bx id off, v, l, c, d, _, h => by simpa only [R] using h
  | .ptr id off, v, l, c, d, _, h => by simpa only [R] using h
  | .rp t off, v, l, c, d, _, h => by simpa only [R] using h
/-- Cells may stand in cells. -/
theorem R_isCell : ∀ {t : Ty} {v : t.V} {l : List AVal}, t.okRow = true → R Γ t v true l → l.all AVal.isCell = true
  | .int k, v, l, _, h => by simp only [R] at h; subst h; rfl
  | .bool, v, l, _, h => by simp only [R] at h; subst h; rfl
  | .str, v, l, _, h => by simp only [R] at h; subst h; rfl
  | .sl t, v, l, _, h => by
    simp only [R] at h
    rcases h with ⟨_, rfl⟩ | ⟨_, _, _, rfl, _⟩ <;> rfl
  | .agg t, v, l, hk, h => by
    simp only [Ty.okRow, Bool.and_eq_true] at hk
    simp only [R] at h; exact R_isCell hk.2 h
  | .arr n t, v, l, hk, h => by
    simp only [Ty.okRow, Bool.and_eq_true] at hk
    simp only [R] at h
    obtain ⟨_, ls, rfl, h⟩ := h
    have : ∀ (v : List t.V) (ls : List (List AVal)), All2 (fun x c => R Γ t x true c) v ls → ls.flatten.all AVal.isCell = true := by
      intro v
      induction v with
      | nil => intro ls h; cases ls with | nil => rfl | cons _ _ => exact h.elim
      | cons x v ih =>
        intro ls h
        cases ls with
        | nil => exact h.elim
        | cons c ls => rw [List.flatten_cons, List.all_append, R_isCell hk.2 h.1, ih ls h.2]; rfl
    exact this v ls h
  | .tup t, v, l, hk, h => by cases hk
  | .unit, v, l, _, h => by simp only [R] at h; subst h; rfl
  | .cons t ts, v, l, hk, h => by
    simp only [Ty.okRow, Bool.and_eq_true] at hk
    simp only [R] at h
    obtain ⟨l1, l2, rfl, h1, h2⟩ := h
    rw [List.all_append, R_isCell hk.1.2 h1, R_isCell hk.2 h2]; rfl
  | .nilsl, v, l, _, h => by simp only [R] at h; subst h; rfl
  | .nilp, v, l, _, h => by simp only [R] at h; subst h; rfl
  | .undef, v, l, hk, h => by cases hk
  | .any, v, l, _, h => by simp only [R] at h; obtain ⟨a, rfl, h⟩ := h; simp [h]
  | .own id, v, l, _, h => by
    simp only [R] at h
    split at h
    · subst h; rfl
    · subst h; rfl
    · exact h.elim
  | .it id, v, l, _, h => by simp only [R] at h; obtain ⟨_, _, rfl⟩ := h; rfl
  | .bx id off, v, l, _, h => by simp only [R] at h; obtain ⟨_, _, _, rfl⟩ := h; rfl
  | .ptr id off, v, l, _, h => by simp only [R] at h; obtain ⟨_, _, _, _, rfl⟩ := h; rfl
  | .rp t off, v, l, _, h => by simp only [R] at h; obtain ⟨_, _, _, rfl⟩ := h; rfl
theorem R_agg {t : Ty} {v : t.V} {a : AVal} (hv : t.isV = true) (h : R Γ t v false [a]) : t.isAgg = a.isAgg := by
  cases t <;> simp only [R] at h
  case agg => obtain ⟨cs, h, _⟩ := h; cases h; rfl
  case sl => rcases h with ⟨_, h⟩ | ⟨_, _, _, h, _⟩ <;> cases h <;> rfl
  case arr => obtain ⟨cs, h, _⟩ := h; cases h; rfl
  case tup => obtain ⟨cs, h, _⟩ := h; cases h; rfl
  case cons => cases hv
  case unit => cases hv
  case any => obtain ⟨b, e, hb⟩ := h; cases e; cases a <;> first | rfl | cases hb
  case own =>
    split at h
    · cases h; rfl
    · cases h; rfl
    · exact h.elim
  case it => obtain ⟨_, _, h⟩ := h; cases h; rfl
  case bx => obtain ⟨_, _, _, h⟩ := h; cases h; rfl
  case ptr => obtain ⟨_, _, _, _, h⟩ := h; cases h; rfl
  case rp => obtain ⟨_, _, _, h⟩ := h; cases h; rfl
  all_goals cases h; rfl
end
section
theorem closedL_app (a b : List AVal) : closedL (a ++ b) = (closedL a && closedL b) := closedL_append a b
theorem closedL_one (a : AVal) : closedL [a] = closed a := by simp [closedL]
theorem closedL_drop : ∀ (n : Nat) (l : List AVal), closedL l = true → closedL (l.drop n) = true
  | 0, l, h => h
  | n + 1, [], h => rfl
  | n + 1, a :: l, h => by simp only [closedL, Bool.and_eq_true] at h; exact closedL_drop n l h.2
theorem closedL_all2 {A : Type} {p : A → AVal → Prop} (hp : ∀ x a, p x a → closed a = true) : ∀ {l : List A} {as : List AVal}, All2 p l as → closedL as = true
  | [], [], _ => rfl
  | x :: l, a :: as, h => by simp only [closedL, hp x a h.1, closedL_all2 hp h.2, Bool.and_self]
theorem closed_cells {a : AVal} (h : closed a = true) : closedL a.cells = true := by
  cases a <;> first | (simpa [AVal.cells, closedL] using h) | (simpa [AVal.cells, closed] using h)
/-- What needs no memory of the function's is closed. -/
theorem R_closed {Γ : Ctx} : ∀ {t : Ty} {v : t.V} {c : Bool} {l : List AVal}, t.closed = true → R Γ t v c l → closedL l = true
  | .int k, v, c, l, _, h => by simp only [R] at h; subst h; rfl
  | .bool, v, c, l, _, h => by simp only [R] at h; subst h; rfl
  | .str, v, c, l, _, h => by simp only [R] at h; subst h; rfl
  | .sl t, v, c, l, hc, h => by
    simp only [Ty.closed, Bool.and_eq_true] at hc
    simp only [R] at h
    rcases h with ⟨_, rfl⟩ | ⟨_, _, as, rfl, _, h⟩
    · rfl
    · rw [closedL_one]
      exact closedL_all2 (p := fun x a => R Γ t x false [a]) (fun x a hx => by rw [← closedL_one]; exact R_closed (Γ := Γ) (t := t) (v := x) hc.2 hx) h
  | .agg t, v, c, l, hc, h => by
    cases c <;> simp only [R] at h
    · obtain ⟨cs, rfl, h⟩ := h
      rw [closedL_one]; exact R_closed (t := t) hc h
    · exact R_closed (t := t) hc h
  | .arr n t, v, c, l, hc, h => by
    simp only [Ty.closed, Bool.and_eq_true] at hc
    have : ∀ (v : List t.V) (ls : List (List AVal)), All2 (fun x c => R Γ t x true c) v ls → closedL ls.flatten = true := by
      intro v
      induction v with
      | nil => intro ls h; cases ls with | nil => rfl | cons _ _ => exact h.elim
      | cons x v ih =>
        intro ls h
        cases ls with
        | nil => exact h.elim
        | cons c ls => rw [List.flatten_cons, closedL_app, R_closed hc.2 h.1, ih ls h.2]; rfl
    cases c <;> simp only [R] at h
    · obtain ⟨cs, rfl, _, ls, rfl, h⟩ := h
      rw [closedL_one]; exact this v ls h
    · obtain ⟨_, ls, rfl, h⟩ := h
      exact this v ls h
  | .tup t, v, c, l, hc, h => by
    simp only [R] at h; obtain ⟨as, rfl, h⟩ := h
    rw [closedL_one]; exact R_closed (t := t) hc h
  | .unit, v, c, l, _, h => by simp only [R] at h; subst h; rfl
  | .cons t ts, v, c, l, hc, h => by
    simp only [Ty.closed, Bool.and_eq_true] at hc
    simp only [R] at h
    obtain ⟨l1, l2, rfl, h1, h2⟩ := h
    rw [closedL_app, R_closed hc.1 h1, R_closed hc.2 h2]; rfl
  | .nilsl, v, c, l, _, h => by simp only [R] at h; subst h; rfl
  | .nilp, v, c, l, _, h => by simp only [R] at h; subst h; rfl
  | .undef, v, c, l, _, h => by simp only [R] at h; subst h; rfl
  | .any, v, c, l, hc, h => by cases hc
  | .own id, v, c, l, hc, h => by cases hc
  | .it id, v, c, l, hc, h => by cases hc
  | .bx id off, v, c, l, hc, h => by cases hc
  | .ptr id off, v, c, l, hc, h => by cases hc
  | .rp t off, v, c, l, hc, h => by
    cases hc
/-- Nor does it matter where the function's memory lies. -/
theorem Forall2_imp {A B : Type} {p q : A → B → Prop} (h : ∀ x a, p x a → q x a) : ∀ {l : List A} {as : List B}, All2 p l as → All2 q l as
  | [], [], _ => trivial
  | x :: l, a :: as, k => ⟨h x a k.1, Forall2_imp h k.2⟩
theorem R_moveS {Γ Γ' : Ctx} : ∀ {t : Ty} {v : t.V} {c : Bool} {l : List AVal}, t.still = true → R Γ t v c l → R Γ' t v c l
  | .int k, v, c, l, _, h => by simpa only [R] using h
  | .bool, v, c, l, _, h => by simpa only [R] using h
  | .str, v, c, l, _, h => by simpa only [R] using h
  | .sl t, v, c, l, hc, h => by
    simp only [R] at h ⊢
    rcases h with h | ⟨f, n, as, rfl, h1, h⟩
    · exact .inl h
    · exact .inr ⟨f, n, as, rfl, h1, Forall2_imp (p := fun x a => R Γ t x false [a]) (fun x a hx => R_moveS (t := t) hc hx) h⟩
  | .agg t, v, c, l, hc, h => by
    cases c <;> simp only [R] at h ⊢
    · obtain ⟨cs, rfl, h⟩ := h
      exact ⟨cs, rfl, R_moveS (t := t) hc h⟩
    · exact R_moveS (t := t) hc h
  | .arr n t, v, c, l, hc, h => by
    cases c <;> simp only [R] at h ⊢
    · obtain ⟨cs, rfl, h1, ls, h2, h⟩ := h
      exact ⟨cs, rfl, h1, ls, h2, Forall2_imp (p := fun x c => R Γ t x true c) (fun x a hx => R_moveS (t := t) hc hx) h⟩
    · obtain ⟨h1, ls, h2, h⟩ := h
      exact ⟨h1, ls, h2, Forall2_imp (p := fun x c => R Γ t x true c) (fun x a hx => R_moveS (t := t) hc hx) h⟩
  | .tup t, v, c, l, hc, h => by
    simp only [R] at h ⊢; obtain ⟨as, rfl, h⟩ := h
    exact ⟨as, rfl, R_moveS (t := t) hc h⟩
  | .unit, v, c, l, _, h => by simpa only [R] using h
  | .cons t ts, v, c, l, hc, h => by
    simp only [Ty.still, Bool.and_eq_true] at hc
    simp only [R] at h ⊢
    obtain ⟨l1, l2, rfl, h1, h2⟩ := h
    exact ⟨l1, l2, rfl, R_moveS hc.1 h1, R_moveS hc.2 h2⟩
  | .nilsl, v, c, l, _, h => by simpa only [R] using h
  | .nilp, v, c, l, _, h => by simpa only [R] using h
  | .undef, v, c, l, _, h => by simpa only [R] using h
  | .any, v, c, l, hc, h => by cases hc
  | .own id, v, c, l, hc, h => by cases hc
  | .it id, v, c, l, hc, h => by cases hc
  | .bx id off, v, c, l, hc, h => by cases hc
  | .ptr id off, v, c, l, hc, h => by cases hc
  | .rp t off, v, c, l, hc, h => by
    simp only [R] at h ⊢; obtain ⟨a, rest, h, rfl⟩ := h
    exact ⟨a, rest, R_moveS (t := t) hc h, rfl⟩
theorem R_move {Γ Γ' : Ctx} {t : Ty} {v : t.V} {c : Bool} {l : List AVal} (hc : t.closed = true) (h : R Γ t v c l) : R Γ' t v c l := R_moveS (closed_still hc) h
/-- Does it hang on a region? -/
def Ty.names (j : Nat) : Ty → Bool
  | .sl t => t.names j
  | .agg t => t.names j
  | .arr _ t => t.names j
  | .tup t => t.names j
  | .cons t ts => t.names j || ts.names j
  | .own i => Nat.beq i j
  | .it i => Nat.beq i j
  | .bx i _ => Nat.beq i j
  | .ptr i _ => Nat.beq i j
  | .rp t _ => t.names j
  | _ => false
theorem R_ext {Γ Γ' : Ctx} : ∀ {t : Ty} {v : t.V} {c : Bool} {l : List AVal}, (∀ j x, t.names j = true → Γ j = some x → Γ' j = some x) → R Γ t v c l → R Γ' t v c l
  | .int k, v, c, l, _, h => by simpa only [R] using h
  | .bool, v, c, l, _, h => by simpa only [R] using h
  | .str, v, c, l, _, h => by simpa only [R] using h
  | .sl t, v, c, l, hc, h => by
    simp only [R] at h ⊢
    rcases h with h | ⟨f, n, as, rfl, h1, h⟩
    · exact .inl h
    · exact .inr ⟨f, n, as, rfl, h1, Forall2_imp (p := fun x a => R Γ t x false [a]) (fun x a hx => R_ext (t := t) (fun j y hj => hc j y hj) hx) h⟩
  | .agg t, v, c, l, hc, h => by
    cases c <;> simp only [R] at h ⊢
    · obtain ⟨cs, rfl, h⟩ := h
      exact ⟨cs, rfl, R_ext (t := t) hc h⟩
    · exact R_ext (t := t) hc h
  | .arr n t, v, c, l, hc, h => by
    cases c <;> simp only [R] at h ⊢
    · obtain ⟨cs, rfl, h1, ls, h2, h⟩ := h
      exact ⟨cs, rfl, h1, ls, h2, Forall2_imp (p := fun x c => R Γ t x true c) (fun x a hx => R_ext (t := t) (fun j y hj => hc j y hj) hx) h⟩
    · obtain ⟨h1, ls, h2, h⟩ := h
      exact ⟨h1, ls, h2, Forall2_imp (p := fun x c => R Γ t x true c) (fun x a hx => R_ext (t := t) (fun j y hj => hc j y hj) hx) h⟩
  | .tup t, v, c, l, hc, h => by
    simp only [R] at h ⊢; obtain ⟨as, rfl, h⟩ := h
    exact ⟨as, rfl, R_ext (t := t) hc h⟩
  | .unit, v, c, l, _, h => by simpa only [R] using h
  | .cons t ts, v, c, l, hc, h => by
    simp only [R] at h ⊢
    obtain ⟨l1, l2, rfl, h1, h2⟩ := h
    exact ⟨l1, l2, rfl, R_ext (fun j x hj => hc j x (by simp [Ty.names, hj])) h1, R_ext (fun j x hj => hc j x (by simp [Ty.names, hj])) h2⟩
  | .nilsl, v, c, l, _, h => by simpa only [R] using h
  | .nilp, v, c, l, _, h => by simpa only [R] using h
  | .undef, v, c, l, _, h => by simpa only [R] using h
  | .any, v, c, l, hc, h => by simpa only [R] using h
  | .own id, v, c, l, hc, h => by
    simp only [R] at h ⊢
    have hn : (Ty.own id).names id = true := by simp [Ty.names]
    cases hg : Γ id with
    | none => rw [hg] at h; exact h.elim
    | some x => rw [hg] at h; rw [hc id x hn hg]; exact h
  | .it id, v, c, l, hc, h => by
    simp only [R] at h ⊢
    obtain ⟨r, hg, rfl⟩ := h
    exact ⟨r, hc id _ (by simp [Ty.names]) hg, rfl⟩
  | .bx id off, v, c, l, hc, h => by
    simp only [R] at h ⊢
    obtain ⟨r, n, hg, rfl⟩ := h
    exact ⟨r, n, hc id _ (by simp [Ty.names]) hg, rfl⟩
  | .ptr id off, v, c, l, hc, h => by
    simp only [R] at h ⊢
    obtain ⟨r, n, len, hg, rfl⟩ := h
    exact ⟨r, n, len, hc id _ (by simp [Ty.names]) hg, rfl⟩
  | .rp t off, v, c, l, hc, h => by
    simp only [R] at h ⊢; obtain ⟨a, rest, h, rfl⟩ := h
    exact ⟨a, rest, R_ext (t := t) (fun j y hj => hc j y hj) h, rfl⟩
end
end Go.TY
