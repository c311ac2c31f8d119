import Derived.Test.YtkoicblnbbncbaaDoorT14
import Derived.Test.YtkoicblnbbncbaaDoorE27
/- Functions of Go's library, typed. -/
set_option linter.unusedVariables false
namespace Go.TY
open Go.EM
def itoa (n : Int) : Option (List UInt8) := if -9223372036854775808 ≤ n ∧ n ≤ 9223372036854775807 then some (Lib.itoa n) else none
end Go.TY

/- strconv.Atoi, typed. -/
set_option linter.unusedVariables false
namespace Go.TY
open Go.EM
end Go.TY

/- strings.Compare, utf8.DecodeRuneInString, typed. -/
set_option linter.unusedVariables false
namespace Go.TY
open Go.EM
end Go.TY

/- slices.Clone, strings.Join, typed. -/
set_option linter.unusedVariables false
namespace Go.TY
open Go.EM
def cloneT {A : Type} (l : List A) : Option (List A) := if l.length < most then some l else none
def cloneT_T (u : Ty) : TFn := { ps := .cons (.sl u) .unit, res := .sl u, fn := fun v => cloneT v.1 }
theorem cloneT_ok {M : Nat} {u : Ty} (hu : u.size = M) (hv : u.isV = true) (hc : u.closed = true) : TOk (cloneF M) (cloneT_T u) := by
  have hk : (Ty.sl u).closed = true := by simp only [Ty.closed, hv, hc, Bool.and_self]
  refine ⟨by simp only [cloneT_T, Ty.closed, hv, hc, Bool.and_self], hk, rfl, fun v r xs hr hps => ?_⟩
  obtain ⟨v, ⟨⟩⟩ := v
  simp only [R, cloneT_T] at hps
  obtain ⟨l1, l2, rfl, hx, rfl⟩ := hps
  simp only [cloneT_T, cloneT] at hr
  split at hr
  · rename_i hlt
    cases hr
    rcases hx with ⟨rfl, rfl⟩ | ⟨f, n, bs, rfl, hn, ha⟩
    · exact ⟨_, rfl, .inr ⟨false, 0, [], rfl, .inl rfl, trivial⟩⟩
    · cases r with
      | nil =>
        match bs, ha with
        | [], _ => exact ⟨.tree false 0 [], rfl, .inr ⟨false, 0, [], rfl, .inl rfl, trivial⟩⟩
      | cons x r =>
        match bs, ha with
        | a :: bs, ha =>
          have hn : n = M := by
            rcases hn with h | h
            · cases h
            · rw [h, hu]
          subst hn
          have hlen := All2_len ha
          have hl2 : bs.length + 1 < most := by simp only [List.length_cons] at hlen hlt; omega
          exact ⟨.tree false n (a :: bs), by simp only [cloneF, List.singleton_append]; rw [if_pos ⟨trivial, hl2⟩], .inr ⟨false, n, a :: bs, rfl, .inr hu.symm, ha⟩⟩
  · cases hr
def joinT (l : List (List UInt8)) (sep : List UInt8) : Option (List UInt8) := if l.length ≤ 140737488355328 ∧ (Lib.join l sep).length ≤ 140737488355328 then some (Lib.join l sep) else none
end Go.TY

/- Loops over lists. -/
set_option linter.unusedVariables false
namespace Go.TY
open Go.EM
section
variable {A R X S : Type}
/-- What a loop over a list comes to. -/
def foldE (step : Nat → X → S → S ⊕ R) (fin : S → R) : Nat → List X → S → R
  | _, [], s => fin s
  | i, x :: l, s => match step i x s with
    | .inl s' => foldE step fin (i + 1) l s'
    | .inr r => r
theorem loop_list {f : A → Option (A ⊕ R)} {l : List X} (enc : Nat → S → A) (step : Nat → X → S → S ⊕ R) (fin : S → R) (inv : Nat → S → Prop)
    (hturn : ∀ (i : Nat) (h : i < l.length) (s : S), inv i s → (∃ s', step i l[i] s = .inl s' ∧ f (enc i s) = some (.inl (enc (i + 1) s')) ∧ inv (i + 1) s') ∨ (∃ r, step i l[i] s = .inr r ∧ f (enc i s) = some (.inr r)))
    (hend : ∀ s, inv l.length s → f (enc l.length s) = some (.inr (fin s))) : ∀ s, inv 0 s → loopT f (enc 0 s) = some (foldE step fin 0 l s) := by
  have key : ∀ (k i : Nat) (s : S), l.length - i ≤ k → i ≤ l.length → inv i s → loopT f (enc i s) = some (foldE step fin i (l.drop i) s) := by
    intro k
    induction k with
    | zero =>
      intro i s hk hi hv
      have : i = l.length := by omega
      subst this
      rw [List.drop_eq_nil_of_le (Nat.le_refl _), loopT_inr (hend s hv)]
      rfl
    | succ k ih =>
      intro i s hk hi hv
      by_cases hlt : i < l.length
      · rw [List.drop_eq_getElem_cons hlt]
        simp only [foldE]
        rcases hturn i hlt s hv with ⟨s', h1, h2, h3⟩ | ⟨r, h1, h2⟩
        · rw [loopT_inl h2, ih (i + 1) s' (by omega) (by omega) h3, h1]
        · rw [loopT_inr h2, h1]
      · have : i = l.length := by omega
        subst this
        rw [List.drop_eq_nil_of_le (Nat.le_refl _), loopT_inr (hend s hv)]
        rfl
  intro s hv
  have := key l.length 0 s (by omega) (by omega) hv
  simpa using this
/-- A loop that looks for an element. -/
theorem loop_all {f : A → Option (A ⊕ R)} {l : List X} (enc : Nat → A) (p : X → Bool) (yes no : R)
    (hturn : ∀ (i : Nat) (h : i < l.length), f (enc i) = some (if p l[i] then .inl (enc (i + 1)) else .inr no)) (hend : f (enc l.length) = some (.inr yes)) : loopT f (enc 0) = some (if l.all p then yes else no) := by
  have := loop_list (S := Unit) (fun i _ => enc i) (fun _ x _ => if p x then .inl () else .inr no) (fun _ => yes) (fun _ _ => True) (l := l) (f := f) (fun i h s _ => by
    by_cases hp : p l[i] = true
    · exact .inl ⟨(), by rw [if_pos hp], by rw [hturn i h, if_pos hp], trivial⟩
    · exact .inr ⟨no, by rw [if_neg hp], by rw [hturn i h, if_neg hp]⟩) (fun s _ => hend) () trivial
  rw [this]
  congr 1
  have gen : ∀ (l : List X) (i : Nat), foldE (S := Unit) (fun _ x _ => if p x then .inl () else .inr no) (fun _ => yes) i l () = if l.all p then yes else no := by
    intro l
    induction l with
    | nil => intro i; rfl
    | cons x l ih =>
      intro i
      have h := ih (i + 1)
      by_cases hp : p x = true
      · simp only [foldE, hp, if_true]
        rw [h]
        simp [hp]
      · simp [foldE, hp]
  exact gen l 0
/-- A loop that makes a list, element by element. -/
theorem loop_map {Y : Type} {f : A → Option (A ⊕ R)} {l : List X} (enc : Nat → List Y → A) (g : X → List Y) (fin : List Y → R) (m : Nat) (hg : ∀ x ∈ l, (g x).length ≤ m)
    (hturn : ∀ (i : Nat) (h : i < l.length) (o : List Y), o.length ≤ i * m → f (enc i o) = some (.inl (enc (i + 1) (o ++ g l[i])))) (hend : ∀ o, o.length ≤ l.length * m → f (enc l.length o) = some (.inr (fin o))) :
    loopT f (enc 0 []) = some (fin (l.flatMap g)) := by
  have := loop_list (S := List Y) enc (fun _ x o => .inl (o ++ g x)) fin (fun i o => o.length ≤ i * m) (l := l) (f := f) (fun i h o ho => .inl ⟨_, rfl, hturn i h o ho, by
    have := hg l[i] (List.getElem_mem h)
    rw [List.length_append, Nat.succ_mul]; omega⟩) hend [] (by simp)
  rw [this]
  congr 1
  have gen : ∀ (l : List X) (i : Nat) (o : List Y), foldE (S := List Y) (R := R) (fun _ x o => .inl (o ++ g x)) fin i l o = fin (o ++ l.flatMap g) := by
    intro l
    induction l with
    | nil => intro i o; simp [foldE]
    | cons x l ih => intro i o; simp only [foldE]; rw [ih]; simp [List.flatMap_cons]
  rw [gen]; rfl
/-- Of two lists of one length: are they alike, element by element? -/
def all2 {Y : Type} (q : X → Y → Bool) : List X → List Y → Bool
  | [], [] => true
  | x :: l, y :: m => q x y && all2 q l m
  | _, _ => false
theorem loop_all2 {Y : Type} {f : A → Option (A ⊕ R)} {l : List X} {m : List Y} (enc : Nat → A) (q : X → Y → Bool) (yes no : R) (hl : l.length = m.length)
    (hturn : ∀ (i : Nat) (h : i < l.length) (h' : i < m.length), f (enc i) = some (if q l[i] m[i] = true then .inl (enc (i + 1)) else .inr no)) (hend : f (enc l.length) = some (.inr yes)) : loopT f (enc 0) = some (if all2 q l m = true then yes else no) := by
  have key : ∀ (k i : Nat), l.length - i ≤ k → i ≤ l.length → loopT f (enc i) = some (if all2 q (l.drop i) (m.drop i) = true then yes else no) := by
    intro k
    induction k with
    | zero =>
      intro i hk hi
      have e : i = l.length := by omega
      subst e
      rw [loopT_inr hend, List.drop_eq_nil_of_le (Nat.le_refl _), List.drop_eq_nil_of_le (by omega)]
      rfl
    | succ k ih =>
      intro i hk hi
      by_cases hlt : i < l.length
      · have h2 : i < m.length := by omega
        rw [List.drop_eq_getElem_cons hlt, List.drop_eq_getElem_cons h2]
        have ht := hturn i hlt h2
        by_cases hq : q l[i] m[i] = true
        · rw [if_pos hq] at ht
          rw [loopT_inl ht, ih (i + 1) (by omega) (by omega)]
          simp only [all2, hq, Bool.true_and]
        · rw [if_neg hq] at ht
          rw [loopT_inr ht]
          simp [all2, hq]
      · have e : i = l.length := by omega
        subst e
        rw [loopT_inr hend, List.drop_eq_nil_of_le (Nat.le_refl _), List.drop_eq_nil_of_le (by omega)]
        rfl
  have := key l.length 0 (by omega) (by omega)
  simpa using this
theorem all2_dec [DecidableEq X] : ∀ {l m : List X}, all2 (fun x y => decide (x = y)) l m = decide (l = m)
  | [], [] => rfl
  | [], _ :: _ => by simp [all2]
  | _ :: _, [] => by simp [all2]
  | x :: l, y :: m => by
    simp only [all2, all2_dec (l := l) (m := m), List.cons.injEq, Bool.decide_and]
theorem all2_refl {q : X → X → Bool} : ∀ {l : List X}, (∀ x ∈ l, q x x = true) → all2 q l l = true
  | [], _ => rfl
  | x :: l, h => by simp only [all2, h x (List.mem_cons_self ..), all2_refl (fun y hy => h y (List.mem_cons_of_mem _ hy)), Bool.and_self]
open Classical in
/-- A loop that asks of each place. -/
theorem loop_allI {f : A → Option (A ⊕ R)} (n : Nat) (enc : Nat → A) (p : Nat → Bool) (yes no : R)
    (hturn : ∀ (i : Nat) (h : i < n), f (enc i) = some (if p i = true then .inl (enc (i + 1)) else .inr no)) (hend : f (enc n) = some (.inr yes)) : loopT f (enc 0) = some (if (∀ i, i < n → p i = true) then yes else no) := by
  have key : ∀ (k i : Nat), n - i ≤ k → i ≤ n → loopT f (enc i) = some (if (∀ j, i ≤ j → j < n → p j = true) then yes else no) := by
    intro k
    induction k with
    | zero =>
      intro i hk hi
      have e : i = n := by omega
      subst e
      rw [loopT_inr hend, if_pos (fun j h1 h2 => by omega)]
    | succ k ih =>
      intro i hk hi
      by_cases hlt : i < n
      · have ht := hturn i hlt
        by_cases hq : p i = true
        · rw [if_pos hq] at ht
          rw [loopT_inl ht, ih (i + 1) (by omega) (by omega)]
          by_cases ha : ∀ j, i + 1 ≤ j → j < n → p j = true
          · rw [if_pos ha, if_pos (fun j h1 h2 => by
              rcases Nat.lt_or_eq_of_le h1 with h | h
              · exact ha j h h2
              · rw [← h]; exact hq)]
          · rw [if_neg ha, if_neg (fun hb => ha (fun j h1 h2 => hb j (by omega) h2))]
        · rw [if_neg hq] at ht
          rw [loopT_inr ht, if_neg (fun hb => hq (hb i (Nat.le_refl _) hlt))]
      · have e : i = n := by omega
        subst e
        rw [loopT_inr hend, if_pos (fun j h1 h2 => by omega)]
  have := key n 0 (by omega) (by omega)
  rw [this]
  congr 1
  by_cases ha : ∀ i, i < n → p i = true
  · rw [if_pos ha, if_pos (fun j _ h2 => ha j h2)]
  · rw [if_neg ha, if_neg (fun hb => ha (fun j h2 => hb j (Nat.zero_le _) h2))]
end
end Go.TY

/- Plain laws: orders by -1, 0, 1; what is unlike in two rising lists. No program in sight. -/
set_option linter.unusedVariables false
set_option linter.unusedSectionVars false
namespace Go.TY
/-- An order, told by a number below 0, 0, or above. -/
structure Cmp {K : Type} (c : K → K → Int) : Prop where
  one : ∀ a b, -1 ≤ c a b ∧ c a b ≤ 1
  neg : ∀ a b, c b a = - c a b
  zero : ∀ a b, c a b = 0 ↔ a = b
  trans : ∀ a b d, c a b < 0 → c b d < 0 → c a d < 0
/-- Lists by their first unlike element. -/
def cmpL {K : Type} (c : K → K → Int) : List K → List K → Int
  | [], [] => 0
  | [], _ :: _ => -1
  | _ :: _, [] => 1
  | x :: a, y :: b => if c x y = 0 then cmpL c a b else c x y
section
variable {K : Type} {c : K → K → Int}
theorem Cmp.list (h : Cmp c) : Cmp (cmpL c) where
  one := by
    intro a
    induction a with
    | nil => intro b; cases b <;> simp [cmpL]
    | cons x a ih =>
      intro b
      cases b with
      | nil => simp [cmpL]
      | cons y b =>
        simp only [cmpL]
        split
        · exact ih b
        · exact h.one x y
  neg := by
    intro a
    induction a with
    | nil => intro b; cases b <;> simp [cmpL]
    | cons x a ih =>
      intro b
      cases b with
      | nil => simp [cmpL]
      | cons y b =>
        simp only [cmpL]
        have := h.neg x y
        by_cases h0 : c x y = 0
        · rw [if_pos h0, if_pos (by omega)]; exact ih b
        · rw [if_neg h0, if_neg (by omega)]; exact this
  zero := by
    intro a
    induction a with
    | nil => intro b; cases b <;> simp [cmpL]
    | cons x a ih =>
      intro b
      cases b with
      | nil => simp [cmpL]
      | cons y b =>
        simp only [cmpL]
        by_cases h0 : c x y = 0
        · rw [if_pos h0, ih b, (h.zero x y).1 h0]; simp
        · rw [if_neg h0]
          constructor
          · intro k; exact absurd k h0
          · intro k; cases k; exact absurd ((h.zero x x).2 rfl) h0
  trans := by
    intro a
    induction a with
    | nil =>
      intro b d h1 h2
      cases b with
      | nil => simp [cmpL] at h1
      | cons y b =>
        cases d with
        | nil => simp [cmpL] at h2
        | cons z d => simp [cmpL]
    | cons x a ih =>
      intro b d h1 h2
      cases b with
      | nil => simp [cmpL] at h1
      | cons y b =>
        cases d with
        | nil => simp [cmpL] at h2
        | cons z d =>
          simp only [cmpL] at h1 h2 ⊢
          by_cases h0 : c x y = 0
          · rw [if_pos h0] at h1
            have e := (h.zero x y).1 h0
            subst e
            by_cases h3 : c x z = 0
            · rw [if_pos h3] at h2 ⊢; exact ih b d h1 h2
            · rw [if_neg h3] at h2 ⊢; exact h2
          · rw [if_neg h0] at h1
            by_cases h3 : c y z = 0
            · have e := (h.zero y z).1 h3
              subst e
              rw [if_neg h0]; exact h1
            · rw [if_neg h3] at h2
              have := h.trans x y z h1 h2
              rw [if_neg (by omega)]; exact this
/-- The first order, then the second. -/
def cmpB {L : Type} (c : K → K → Int) (d : L → L → Int) (a b : K × L) : Int := if c a.1 b.1 = 0 then d a.2 b.2 else c a.1 b.1
theorem Cmp.pair {L : Type} {d : L → L → Int} (h : Cmp c) (k : Cmp d) : Cmp (cmpB c d) where
  one a b := by
    unfold cmpB
    split
    · exact k.one _ _
    · exact h.one _ _
  neg a b := by
    unfold cmpB
    have := h.neg a.1 b.1
    by_cases h0 : c a.1 b.1 = 0
    · rw [if_pos h0, if_pos (by omega)]; exact k.neg _ _
    · rw [if_neg h0, if_neg (by omega)]; exact this
  zero a b := by
    unfold cmpB
    obtain ⟨a1, a2⟩ := a
    obtain ⟨b1, b2⟩ := b
    simp only
    by_cases h0 : c a1 b1 = 0
    · rw [if_pos h0, k.zero, (h.zero _ _).1 h0]; simp
    · rw [if_neg h0]
      constructor
      · intro e; exact absurd e h0
      · intro e; cases e; exact absurd ((h.zero _ _).2 rfl) h0
  trans a b e h1 h2 := by
    unfold cmpB at h1 h2 ⊢
    obtain ⟨a1, a2⟩ := a
    obtain ⟨b1, b2⟩ := b
    obtain ⟨e1, e2⟩ := e
    simp only at h1 h2 ⊢
    by_cases h0 : c a1 b1 = 0
    · rw [if_pos h0] at h1
      have q := (h.zero _ _).1 h0
      subst q
      by_cases h3 : c a1 e1 = 0
      · rw [if_pos h3] at h2 ⊢; exact k.trans _ _ _ h1 h2
      · rw [if_neg h3] at h2 ⊢; exact h2
    · rw [if_neg h0] at h1
      by_cases h3 : c b1 e1 = 0
      · have q := (h.zero _ _).1 h3
        subst q
        rw [if_neg h0]; exact h1
      · rw [if_neg h3] at h2
        have := h.trans _ _ _ h1 h2
        rw [if_neg (by omega)]; exact this
theorem Cmp.irr (h : Cmp c) (a : K) : ¬ c a a < 0 := by have := (h.zero a a).2 rfl; omega
end
/-! ### what is unlike -/
section
variable {X K C : Type} (c : K → K → Int) (key : X → K) (same : X → X → Bool) (G M : X → C) (T : X → X → C) (leaf : C → K)
def diffM : List X → List X → List C
  | [], b => b.map M
  | x :: a, [] => (x :: a).map G
  | x :: a, y :: b => if c (key x) (key y) < 0 then G x :: diffM a (y :: b) else if c (key x) (key y) > 0 then M y :: diffM (x :: a) b else (if same x y then [] else [T x y]) ++ diffM a b
termination_by a b => a.length + b.length
def ins (v : C) : List C → List C
  | [] => [v]
  | e :: l => if c (leaf v) (leaf e) < 0 then v :: e :: l else e :: ins v l
def Rises (a : List X) : Prop := a.Pairwise fun x y => c (key x) (key y) < 0
variable {c key same G M T leaf}
variable (hc : Cmp c) (hG : ∀ x, leaf (G x) = key x) (hM : ∀ x, leaf (M x) = key x) (hT : ∀ x y, leaf (T x y) = key x)
include hc hG hT
include hM
end
end Go.TY

/- slices.Clone, Insert, Delete of one's own rows, typed. -/
set_option linter.unusedVariables false
set_option linter.unusedSimpArgs false
namespace Go.TY
open Go.EM
def cloneN (e : Nat) (u : Ty) : TNew := { ps := .cons (.sl u) .unit, e := e, t := .sl u, fn := fun v => cloneT v.1, row := true }
theorem cloneN_ok {M e : Nat} {u : Ty} (hu : u.size = M) (hv : u.isV = true) (hc : u.closed = true) : TNewOk (cloneS M e) (cloneN e u) := by
  refine ⟨fun _ st v r zs Γ hps hr => ?_, fun h => by cases h⟩
  obtain ⟨v, ⟨⟩⟩ := v
  simp only [R, cloneN] at hps
  obtain ⟨l1, l2, rfl, hx, rfl⟩ := hps
  simp only [cloneN, cloneT] at hr
  split at hr
  · rename_i hlt
    cases hr
    simp only [cloneN, RowNew, List.append_nil]
    rcases hx with ⟨rfl, rfl⟩ | ⟨f, n, bs, rfl, hn, ha⟩
    · exact .inl ⟨rfl, .inl rfl⟩
    · cases r with
      | nil =>
        match bs, ha with
        | [], _ => exact .inl ⟨rfl, .inr ⟨0, rfl⟩⟩
      | cons x r =>
        match bs, ha with
        | a :: bs, ha =>
          have hn : n = M := by
            rcases hn with h | h
            · cases h
            · rw [h, hu]
          subst hn
          have hlen := All2_len ha
          have hl2 : bs.length + 1 < most := by simp only [List.length_cons] at hlen hlt; omega
          refine .inr ⟨a :: bs, ?_, Forall2_imp (p := fun x a => R Γ u x false [a]) (fun x a hx => R_move hc hx) ha⟩
          simp only [cloneS]
          rw [if_pos ⟨trivial, hl2⟩, hu]
  · cases hr
/-- One row alone. -/
theorem row_one {Φ : Frame} {Γ : Ctx} {st : Store} {g : Reg} (hm : MemR Φ Γ [g] st) : RegR Γ st 0 g := hm.reg 0 (by simp)
theorem grow_one {Φ : Frame} {Γ : Ctx} {st st' : Store} {g g' : Reg} {r n l : Nat} (hm : MemR Φ Γ [g] st) (hst : st.length ≤ st'.length) (hr : r < st'.length) (hg : RegR (grown Γ 0 (r, n, l)) st' 0 g') (hΦ : ∀ r' g, Φ r' = some g → st'[r']? = some g) (hd : ∀ g, Φ r ≠ some g) : MemR Φ (grown Γ 0 (r, n, l)) [g'] st' := by
  have none : ∀ i y, i ≠ 0 → Γ i ≠ some y := fun i y hi h => by
    rw [hm.out i (by simp; omega)] at h; cases h
  exact hm.grow (id := 0) (by simp) hst (fun i _ _ _ hi h => absurd h (none i _ hi)) hr (fun i _ _ _ hi h => absurd h (none i _ hi)) hg hΦ hd
def insT {A : Type} (l : List A) (i : Int) (ys : List A) : Option (List A) := if 0 ≤ i ∧ i ≤ l.length ∧ ys ≠ [] ∧ l.length + ys.length < most then some (l.take i.toNat ++ ys ++ l.drop i.toNat) else none
def insR (z : Bool) (e : Nat) (t : Ty) : TRaw := { ps := .cons (.own 0) (.cons (.int .i64) (.cons (.sl t) .unit)), ins := [.row z e t], res := .own 0, outs := [.row z e t], fn := fun v w => (insT w.1 v.2.1 v.2.2.1).map fun l => ((), (l, ())) }
theorem insT_some {A : Type} {l ys r : List A} {i : Int} (h : insT l i ys = some r) : ∃ k : Nat, i = (k : Int) ∧ k ≤ l.length ∧ ys ≠ [] ∧ l.length + ys.length < most ∧ r = l.take k ++ ys ++ l.drop k := by
  unfold insT at h
  split at h
  · rename_i hb
    cases h
    exact ⟨i.toNat, by omega, by omega, hb.2.2.1, hb.2.2.2, rfl⟩
  · cases h
theorem insR_ok {M e : Nat} {z : Bool} {u : Ty} (hu : u.size = M) (hv : u.isV = true) (hc : u.closed = true) (hk : u.okRow = true) (hM : M ≠ 0) : TRawOk (insertS M e) (insR z e u) := by
  refine ⟨fun Φ Γ st pv v zs r w hm hps hr => ?_⟩
  obtain ⟨⟨⟩, i, ys, ⟨⟩⟩ := pv
  obtain ⟨xs, ⟨⟩⟩ := v
  simp only [insR, R] at hps
  obtain ⟨l1, l2, rfl, hown, l3, l4, rfl, rfl, l5, l6, rfl, hys, rfl⟩ := hps
  simp only [insR] at hr hm ⊢
  rw [Option.map_eq_some_iff] at hr
  obtain ⟨out, hr, hr2⟩ := hr
  cases hr2
  obtain ⟨i, rfl, hil, hne, hmost, rfl⟩ := insT_some hr
  · rcases hys with ⟨rfl, _⟩ | ⟨f, n, bs, rfl, hn, hb2⟩
    · exact absurd rfl hne
    · have hbl := All2_len hb2
      match ys, bs, hb2, hbl, hne with
      | y :: ys, b :: bs, hb2, hbl, hne =>
      have hn : n = M := by
        rcases hn with h | h
        · cases h
        · rw [h, hu]
      subst hn
      have hcl : closedL (b :: bs) = true := closedL_all2 (fun x a hx => by rw [← closedL_one]; exact R_closed hc hx) hb2
      have hb3 : All2 (fun x a => R (grown Γ 0 (0, 0, 0)) u x false [a]) (y :: ys) (b :: bs) := Forall2_imp (p := fun x a => R Γ u x false [a]) (fun x a hx => R_move hc hx) hb2
      obtain ⟨k1, k2, k3, k4, k5⟩ := row_one hm
      simp only [leaveM] at hm ⊢
      dsimp only at k5
      rcases k5 with ⟨rfl, bz, k5, kz⟩ | ⟨r, zs, k5, k6, k7, k8⟩
      · rw [k5] at hown
        have h0 : i = 0 := Nat.le_zero.1 hil
        subst h0
        have hF : ∀ a0, (l1 = [a0]) → insertS n e (l1 ++ ([.int .i64 ((0 : Nat) : Int)] ++ ([.tree f n (b :: bs)] ++ []))) st = some (freshRow st e n (b :: bs)) := by
          intro a0 ha
          have hlt : (b :: bs).length < most := by rw [hbl]; exact Nat.lt_of_le_of_lt (Nat.le_add_left _ _) hmost
          rcases hown with h | ⟨_, k, h⟩
          · subst h
            simp only [List.singleton_append, List.append_nil, insertS]
            rw [if_pos ⟨trivial, rfl, hlt⟩]
          · subst h
            simp only [List.singleton_append, List.append_nil, insertS]
            rw [if_pos ⟨trivial, rfl, hlt⟩]
        have hone : ∃ a0, l1 = [a0] := by rcases hown with h | ⟨_, k, h⟩ <;> exact ⟨_, h⟩
        obtain ⟨a0, ha0⟩ := hone
        refine ⟨_, _, grown Γ 0 (st.length, u.size, (y :: ys).length), hF a0 ha0, ?_, ?_, ?_⟩
        · simp only [R, grown, if_true, hbl, hu]
        · rw [show (List.take 0 ([] : List u.V) ++ (y :: ys) ++ List.drop 0 ([] : List u.V)) = y :: ys by simp]
          refine grow_one hm (by simp) (by simp) ⟨hv, hc, hk, k4, .inr ⟨st.length, b :: bs, by simp [grown], by simp [hu], Forall2_imp (p := fun x a => R Γ u x false [a]) (fun x a hx => R_move hc hx) hb2, fun _ h => by cases h⟩⟩ (fun r' g h => by rw [List.getElem?_append_left (hm.oldlt h)]; exact hm.old r' g h) (fun g h => Nat.lt_irrefl _ (hm.oldlt h))
        · intro j y' hj
          match j, hj with
          | 0, hj => cases hj
          | j + 1, hj => cases hj
      · rw [k5] at hown
        subst hown
        have hal := All2_len k7
        have hil : i ≤ xs.length := hil
        have hrlt := hm.lt 0 _ _ _ k5
        have hrow : EM.rowAt st r u.size xs.length = some zs := by simp only [EM.rowAt, k6, hal, and_self, if_true]
        have hF : insertS n e ([.own r u.size xs.length 0 xs.length] ++ ([.int .i64 (i : Int)] ++ ([.tree f n (b :: bs)] ++ []))) st = some (.own r u.size (xs.length + (b :: bs).length) 0 (xs.length + (b :: bs).length), st.set r (.row e u.size (zs.take i ++ (b :: bs) ++ zs.drop i))) := by
          simp only [List.singleton_append, List.append_nil, insertS]
          rw [if_pos ⟨hu, trivial, trivial, trivial, by simp only [EM.rowTy, k6], Int.natCast_nonneg _, Int.ofNat_le.2 hil, by rw [hbl]; exact hmost, hcl⟩, hrow]
          simp
        have hlen : (xs.take i ++ (y :: ys) ++ xs.drop i).length = xs.length + (b :: bs).length := by
          rw [List.length_append, List.length_append, List.length_take, List.length_drop, hbl]; omega
        refine ⟨_, _, grown Γ 0 (r, u.size, xs.length + (b :: bs).length), hF, ?_, ?_, ?_⟩
        · simp only [R, grown, if_true]
        · refine grow_one hm (by simp) (by simpa using hrlt) ⟨hv, hc, hk, k4, .inr ⟨r, zs.take i ++ (b :: bs) ++ zs.drop i, by rw [hlen]; simp [grown], List.getElem?_set_self hrlt, All2_app (All2_app (All2_take i ?_) ?_) (All2_drop i ?_), fun _ h => by simp at h⟩⟩ (fun r' g h => ?_) (fun g h => hm.dis r g 0 _ _ h k5)
          · exact Forall2_imp (p := fun x a => R Γ u x false [a]) (fun x a hx => R_move hc hx) k7
          · exact Forall2_imp (p := fun x a => R Γ u x false [a]) (fun x a hx => R_move hc hx) hb2
          · exact Forall2_imp (p := fun x a => R Γ u x false [a]) (fun x a hx => R_move hc hx) k7
          · rw [List.getElem?_set_ne (fun e' => by subst e'; exact hm.dis _ _ 0 _ _ h k5)]
            exact hm.old r' g h
        · intro j y' hj
          match j, hj with
          | 0, hj => cases hj
          | j + 1, hj => cases hj
def delT {A : Type} (l : List A) (i j : Int) : Option (List A) := if 0 ≤ i ∧ i < j ∧ j ≤ l.length then some (l.take i.toNat ++ l.drop j.toNat) else none
def delR (e : Nat) (t : Ty) : TRaw := { ps := .cons (.own 0) (.cons (.int .i64) (.cons (.int .i64) .unit)), ins := [.row false e t], res := .own 0, outs := [.row false e t], fn := fun v w => (delT w.1 v.2.1 v.2.2.1).map fun l => ((), (l, ())) }
theorem delT_some {A : Type} {l r : List A} {i j : Int} (h : delT l i j = some r) : ∃ a b : Nat, i = (a : Int) ∧ j = (b : Int) ∧ a < b ∧ b ≤ l.length ∧ r = l.take a ++ l.drop b := by
  unfold delT at h
  split at h
  · rename_i hb
    cases h
    exact ⟨i.toNat, j.toNat, by omega, by omega, by omega, by omega, rfl⟩
  · cases h
theorem delR_ok {M e : Nat} {u : Ty} (hu : u.size = M) (hv : u.isV = true) (hc : u.closed = true) (hk : u.okRow = true) (hM : M ≠ 0) : TRawOk (deleteS M e) (delR e u) := by
  refine ⟨fun Φ Γ st pv v zs r w hm hps hr => ?_⟩
  obtain ⟨⟨⟩, i, j, ⟨⟩⟩ := pv
  obtain ⟨xs, ⟨⟩⟩ := v
  simp only [delR, R] at hps
  obtain ⟨l1, l2, rfl, hown, l3, l4, rfl, rfl, l5, l6, rfl, rfl, rfl⟩ := hps
  simp only [delR] at hr hm ⊢
  rw [Option.map_eq_some_iff] at hr
  obtain ⟨out, hr, hr2⟩ := hr
  cases hr2
  obtain ⟨i, j, rfl, rfl, hij, hjl, rfl⟩ := delT_some hr
  · obtain ⟨k1, k2, k3, k4, k5⟩ := row_one hm
    simp only [leaveM] at hm ⊢
    dsimp only at k5
    rcases k5 with ⟨rfl, bz, k5, kz⟩ | ⟨r, zs, k5, k6, k7, k8⟩
    · have : j ≤ 0 := hjl
      omega
    · rw [k5] at hown
      subst hown
      have hal := All2_len k7
      have hjl : j ≤ xs.length := hjl
      have hrlt := hm.lt 0 _ _ _ k5
      have hrow : EM.rowAt st r u.size xs.length = some zs := by simp only [EM.rowAt, k6, hal, and_self, if_true]
      have hF : deleteS M e ([.own r u.size xs.length 0 xs.length] ++ ([.int .i64 (i : Int)] ++ ([.int .i64 (j : Int)] ++ []))) st = some (.own st.length u.size (xs.length - (j - i)) 0 (xs.length - (j - i)), st.set r .dead ++ [.row e u.size (zs.take i ++ zs.drop j)]) := by
        simp only [List.singleton_append, List.append_nil, deleteS]
        rw [if_pos ⟨hu, trivial, trivial, by simp only [EM.rowTy, k6], Int.natCast_nonneg _, Int.ofNat_lt.2 hij, Int.ofNat_le.2 hjl⟩, hrow]
        simp
      have hlen : (xs.take i ++ xs.drop j).length = xs.length - (j - i) := by
        rw [List.length_append, List.length_take, List.length_drop]; omega
      refine ⟨_, _, grown Γ 0 (st.length, u.size, xs.length - (j - i)), hF, ?_, ?_, ?_⟩
      · simp only [R, grown, if_true]
      · refine grow_one hm (by simp) (by simp) ⟨hv, hc, hk, k4, .inr ⟨st.length, zs.take i ++ zs.drop j, by rw [hlen]; simp [grown], by simp, All2_app (All2_take i ?_) (All2_drop j ?_), fun h => by cases h⟩⟩ (fun r' g h => ?_) (fun g h => Nat.lt_irrefl _ (hm.oldlt h))
        · exact Forall2_imp (p := fun x a => R Γ u x false [a]) (fun x a hx => R_move hc hx) k7
        · exact Forall2_imp (p := fun x a => R Γ u x false [a]) (fun x a hx => R_move hc hx) k7
        · rw [List.getElem?_append_left (by simpa using hm.oldlt h), List.getElem?_set_ne (fun e' => by subst e'; exact hm.dis _ _ 0 _ _ h k5)]
          exact hm.old r' g h
      · intro j y' hj
        match j, hj with
        | 0, hj => cases hj
        | j + 1, hj => cases hj
end Go.TY

/- Plain laws: changes done to a rising list, one behind the other. No program in sight. -/
set_option linter.unusedVariables false
set_option linter.unusedSectionVars false
namespace Go.TY
section
variable {X K : Type} (c : K → K → Int) (key : X → K)
def lo (k : K) (l : List X) : List X := l.takeWhile fun x => decide (c (key x) k < 0)
def hi (k : K) (l : List X) : List X := l.dropWhile fun x => decide (c (key x) k < 0)
variable {c key}
theorem lohi {k : K} {l : List X} : lo c key k l ++ hi c key k l = l := List.takeWhile_append_dropWhile
theorem lohi_of {k : K} : ∀ {p q : List X}, (∀ x ∈ p, c (key x) k < 0) → (∀ x ∈ q, ¬ c (key x) k < 0) → lo c key k (p ++ q) = p ∧ hi c key k (p ++ q) = q
  | [], [], _, _ => ⟨rfl, rfl⟩
  | [], y :: q, _, h => by
    have h1 := h y (List.mem_cons_self ..)
    unfold lo hi
    rw [List.nil_append, List.takeWhile_cons, List.dropWhile_cons, decide_eq_false h1]
    exact ⟨rfl, rfl⟩
  | x :: p, q, g, h => by
    have h1 := g x (List.mem_cons_self ..)
    have ih := lohi_of (p := p) (q := q) (fun y hy => g y (List.mem_cons_of_mem _ hy)) h
    unfold lo hi at ih ⊢
    rw [List.cons_append, List.takeWhile_cons, List.dropWhile_cons, decide_eq_true h1]
    simp only [if_true]
    rw [ih.1, ih.2]
    exact ⟨rfl, rfl⟩
theorem lo_below {k : K} : ∀ {l : List X}, ∀ x ∈ lo c key k l, c (key x) k < 0
  | [], x, h => by cases h
  | y :: l, x, h => by
    unfold lo at h
    rw [List.takeWhile_cons] at h
    by_cases hy : c (key y) k < 0
    · rw [decide_eq_true hy] at h
      simp only [if_true] at h
      rcases List.mem_cons.1 h with rfl | h
      · exact hy
      · exact lo_below x h
    · rw [decide_eq_false hy] at h
      cases h
theorem hi_head {k : K} : ∀ {l : List X} {x : X} {q : List X}, hi c key k l = x :: q → ¬ c (key x) k < 0
  | [], x, q, h => by cases h
  | y :: l, x, q, h => by
    unfold hi at h
    rw [List.dropWhile_cons] at h
    by_cases hy : c (key y) k < 0
    · rw [decide_eq_true hy] at h
      exact hi_head (l := l) h
    · rw [decide_eq_false hy] at h
      cases h
      exact hy
/-- In a rising list what is behind the place is above. -/
theorem hi_above (hc : Cmp c) {k : K} {l : List X} (hr : Rises c key l) {x : X} {q : List X} (h : hi c key k l = x :: q) : 0 ≤ c (key x) k ∧ ∀ y ∈ q, 0 < c (key y) k := by
  have h1 := hi_head h
  have e : lo c key k l ++ x :: q = l := by rw [← h]; exact lohi
  rw [← e] at hr
  have h2 := (List.pairwise_append.1 hr).2.1
  have h3 := (List.pairwise_cons.1 h2).1
  refine ⟨by omega, fun y hy => ?_⟩
  have h4 := h3 y hy
  have n1 := hc.neg (key y) k
  by_cases h5 : c (key x) k = 0
  · rw [← (hc.zero _ _).1 h5] at n1 ⊢
    have := hc.neg (key x) (key y)
    omega
  · have n2 := hc.neg (key x) k
    have := hc.trans k (key x) (key y) (by omega) h4
    omega
theorem at_lo {k : K} {l : List X} {h : Nat} (hh : h < l.length) (h2 : h < (lo c key k l).length) : c (key l[h]) k < 0 := by
  have e : l[h] = (lo c key k l ++ hi c key k l)[h]'(by rw [lohi]; exact hh) := by simp only [lohi]
  rw [e, List.getElem_append_left h2]
  exact lo_below _ (List.getElem_mem _)
theorem at_hi (hc : Cmp c) {k : K} {l : List X} (hr : Rises c key l) {h : Nat} (hh : h < l.length) (h2 : (lo c key k l).length ≤ h) : 0 ≤ c (key l[h]) k := by
  have e : l[h] = (lo c key k l ++ hi c key k l)[h]'(by rw [lohi]; exact hh) := by simp only [lohi]
  rw [e, List.getElem_append_right h2]
  have hm : ∀ y ∈ hi c key k l, 0 ≤ c (key y) k := by
    intro y hy
    cases hq : hi c key k l with
    | nil => rw [hq] at hy; cases hy
    | cons x q =>
      rw [hq] at hy
      obtain ⟨a1, a2⟩ := hi_above hc hr hq
      rcases List.mem_cons.1 hy with rfl | hy
      · exact a1
      · have := a2 y hy; omega
  exact hm _ (List.getElem_mem _)
variable [DecidableEq X] (c key)
def leafX (d : Int × X × X × Unit) : X := if d.1 = 1 then d.2.2.1 else d.2.1
def placeM (l : List X) (d : Int × X × X × Unit) (a b : List X) : List X ⊕ Int :=
  if d.1 < 1 ∨ d.1 > 3 then .inr 18
  else if d.1 = 1 then match b with
    | x :: q => if c (key x) (key d.2.2.1) = 0 then .inr 12 else .inl (a ++ d.2.2.1 :: x :: q)
    | [] => .inl (a ++ [d.2.2.1])
  else match b with
    | x :: q => if x = d.2.1 then (if d.1 = 3 then (if c (key d.2.1) (key d.2.2.1) = 0 then .inl (a ++ d.2.2.1 :: q) else .inr 2) else .inl (a ++ q)) else .inr 12
    | [] => .inr 12
/-- One change, done to a rising list: the list, or the error. -/
def stepM (l : List X) (d : Int × X × X × Unit) : List X ⊕ Int := placeM c key l d (lo c key (key (leafX d)) l) (hi c key (key (leafX d)) l)
def applyM : List X → List (Int × X × X × Unit) → List X × Int × Unit
  | l, [] => (l, 0, ())
  | l, d :: ds => match stepM c key l d with
    | .inl l' => applyM l' ds
    | .inr e => ([], e, ())
variable {c key}
theorem above_of (hc : Cmp c) {x y : K} (h : c x y < 0) : ¬ c y x < 0 := by have := hc.neg x y; omega
theorem step_made (hc : Cmp c) {p q : List X} {z y : X} (hp : ∀ x ∈ p, c (key x) (key y) < 0) (hq : ∀ x ∈ q, c (key y) (key x) < 0) : stepM c key (p ++ q) (1, z, y, ()) = .inl (p ++ y :: q) := by
  unfold stepM
  have e : leafX ((1, z, y, ()) : Int × X × X × Unit) = y := if_pos rfl
  have := lohi_of hp (fun x hx => above_of hc (hq x hx))
  rw [e, this.1, this.2]
  unfold placeM
  rw [if_neg (by simp), if_pos rfl]
  cases q with
  | nil => rfl
  | cons x q =>
    have h1 := hq x (List.mem_cons_self ..)
    have h2 := hc.neg (key y) (key x)
    simp only
    rw [if_neg (by omega)]
theorem step_gone (hc : Cmp c) {p q : List X} {z y : X} (hp : ∀ x ∈ p, c (key x) (key y) < 0) (hq : ∀ x ∈ q, c (key y) (key x) < 0) : stepM c key (p ++ y :: q) (2, y, z, ()) = .inl (p ++ q) := by
  unfold stepM
  have e : leafX ((2, y, z, ()) : Int × X × X × Unit) = y := if_neg (by simp)
  have := lohi_of (q := y :: q) hp (fun x hx => by
    rcases List.mem_cons.1 hx with rfl | hx
    · exact hc.irr _
    · exact above_of hc (hq x hx))
  rw [e, this.1, this.2]
  unfold placeM
  rw [if_neg (by simp), if_neg (by simp)]
  simp only
  rw [if_pos trivial, if_neg (by decide)]
theorem step_turn (hc : Cmp c) {p q : List X} {x y : X} (hxy : c (key x) (key y) = 0) (hp : ∀ x' ∈ p, c (key x') (key x) < 0) (hq : ∀ x' ∈ q, c (key x) (key x') < 0) : stepM c key (p ++ x :: q) (3, x, y, ()) = .inl (p ++ y :: q) := by
  unfold stepM
  have e : leafX ((3, x, y, ()) : Int × X × X × Unit) = x := if_neg (by simp)
  have := lohi_of (q := x :: q) hp (fun x' hx => by
    rcases List.mem_cons.1 hx with rfl | hx
    · exact hc.irr _
    · exact above_of hc (hq x' hx))
  rw [e, this.1, this.2]
  unfold placeM
  rw [if_neg (by simp), if_neg (by simp)]
  simp only
  rw [if_pos trivial, if_pos trivial, if_pos hxy]
theorem rises_mid {p q : List X} {y : X} : Rises c key (p ++ y :: q) ↔ Rises c key (p ++ q) ∧ (∀ x ∈ p, c (key x) (key y) < 0) ∧ ∀ x ∈ q, c (key y) (key x) < 0 := by
  unfold Rises
  rw [List.pairwise_append, List.pairwise_append, List.pairwise_cons]
  constructor
  · rintro ⟨h1, ⟨h2, h3⟩, h4⟩
    exact ⟨⟨h1, h3, fun a ha b hb => h4 a ha b (List.mem_cons_of_mem _ hb)⟩, fun x hx => h4 x hx y (List.mem_cons_self ..), h2⟩
  · rintro ⟨⟨h1, h3, h4⟩, h5, h2⟩
    refine ⟨h1, ⟨h2, h3⟩, fun a ha b hb => ?_⟩
    rcases List.mem_cons.1 hb with rfl | hb
    · exact h5 a ha
    · exact h4 a ha b hb
theorem rises_same {p q : List X} {x y : X} (hc : Cmp c) (hxy : c (key x) (key y) = 0) (h : Rises c key (p ++ x :: q)) : Rises c key (p ++ y :: q) := by
  have e := (hc.zero _ _).1 hxy
  rw [rises_mid] at h ⊢
  rw [← e]
  exact h
theorem app_mid {p q : List X} {y : X} : p ++ y :: q = (p ++ [y]) ++ q := by simp
/-- WHAT IS UNLIKE, APPLIED TO THE FIRST, IS THE SECOND. -/
theorem apply_diff (hc : Cmp c) {z : X} : ∀ (n : Nat) (p a b : List X), a.length + b.length ≤ n → Rises c key (p ++ a) → Rises c key (p ++ b) →
    applyM c key (p ++ a) (diffM c key (fun x y => decide (x = y)) (fun x => ((2 : Int), x, z, ())) (fun y => ((1 : Int), z, y, ())) (fun x y => ((3 : Int), x, y, ())) a b) = (p ++ b, 0, ()) := by
  intro n
  have noA : ∀ (b p : List X), Rises c key (p ++ b) → applyM c key p (b.map fun y => ((1 : Int), z, y, ())) = (p ++ b, 0, ()) := by
    intro b
    induction b with
    | nil => intro p _; simp [applyM]
    | cons y b ih =>
      intro p h
      have := (rises_mid.1 h).2
      have s := step_made (z := z) (q := []) hc this.1 (fun x hx => by cases hx)
      rw [List.append_nil] at s
      rw [List.map_cons, applyM, s]
      simp only
      rw [app_mid] at h
      rw [ih _ h]
      simp
  induction n with
  | zero =>
    intro p a b hn
    have e1 : a = [] := List.eq_nil_of_length_eq_zero (by omega)
    have e2 : b = [] := List.eq_nil_of_length_eq_zero (by omega)
    subst e1; subst e2
    intro _ _
    rw [diffM.eq_def]; rfl
  | succ n ih =>
    intro p a b hn ra rb
    match a, b, hn with
    | [], b, hn =>
      rw [diffM.eq_def, List.append_nil]
      exact noA b p rb
    | x :: a, [], hn =>
      have e : diffM c key (fun x y => decide (x = y)) (fun x => ((2 : Int), x, z, ())) (fun y => ((1 : Int), z, y, ())) (fun x y => ((3 : Int), x, y, ())) a ([] : List X) = a.map fun x => ((2 : Int), x, z, ()) := by
        cases a with
        | nil => rw [diffM.eq_def]; rfl
        | cons => rw [diffM.eq_def]
      have := (rises_mid.1 ra).2
      have s := step_gone (z := z) hc this.1 this.2
      rw [diffM.eq_def]
      simp only [List.map_cons]
      rw [applyM, s, ← e]
      exact ih p a [] (by simp only [List.length_cons, List.length_nil] at hn ⊢; omega) (rises_mid.1 ra).1 rb
    | x :: a, y :: b, hn =>
      simp only [List.length_cons] at hn
      have ma := rises_mid.1 ra
      have mb := rises_mid.1 rb
      rw [diffM.eq_def]
      simp only
      split
      · have s := step_gone (z := z) hc ma.2.1 ma.2.2
        rw [applyM, s]
        exact ih p a (y :: b) (by simp only [List.length_cons]; omega) ma.1 rb
      · split
        · rename_i h1 h2
          have hyx : c (key y) (key x) < 0 := by have := hc.neg (key x) (key y); omega
          have s := step_made (z := z) (q := x :: a) hc mb.2.1 (fun w hw => by
            rcases List.mem_cons.1 hw with rfl | hw
            · exact hyx
            · exact hc.trans _ _ _ hyx (ma.2.2 w hw))
          rw [applyM, s]
          have hr : Rises c key ((p ++ [y]) ++ x :: a) := by
            rw [← app_mid]
            exact rises_mid.2 ⟨ra, mb.2.1, fun w hw => by
              rcases List.mem_cons.1 hw with rfl | hw
              · exact hyx
              · exact hc.trans _ _ _ hyx (ma.2.2 w hw)⟩
          rw [app_mid (p := p) (y := y) (q := x :: a), app_mid (p := p) (y := y) (q := b)]
          exact ih (p ++ [y]) (x :: a) b (by simp only [List.length_cons]; omega) hr (by rw [← app_mid]; exact rb)
        · rename_i h1 h2
          have h0 : c (key x) (key y) = 0 := by omega
          have ra2 := rises_same hc h0 ra
          have i := ih (p ++ [y]) a b (by omega) (by rw [← app_mid]; exact ra2) (by rw [← app_mid]; exact rb)
          by_cases hxy : x = y
          · rw [decide_eq_true hxy]
            simp only [if_true, List.nil_append]
            rw [hxy, app_mid, app_mid (q := b)]
            exact i
          · rw [decide_eq_false hxy]
            have s := step_turn hc h0 ma.2.1 ma.2.2
            simp only [if_false, Bool.false_eq_true, List.cons_append, List.nil_append]
            rw [applyM, s]
            simp only
            rw [app_mid, app_mid (q := b)]
            exact i
/-- What is unlike, turned back. -/
def backC (d : Int × X × X × Unit) : Int × X × X × Unit := (if d.1 = 1 then 2 else if d.1 = 2 then 1 else d.1, d.2.2.1, d.2.1, ())
theorem back_diff (hc : Cmp c) {z : X} : ∀ (n : Nat) (a b : List X), a.length + b.length ≤ n →
    (diffM c key (fun x y => decide (x = y)) (fun x => ((2 : Int), x, z, ())) (fun y => ((1 : Int), z, y, ())) (fun x y => ((3 : Int), x, y, ())) a b).map backC = diffM c key (fun x y => decide (x = y)) (fun x => ((2 : Int), x, z, ())) (fun y => ((1 : Int), z, y, ())) (fun x y => ((3 : Int), x, y, ())) b a := by
  intro n
  have b1 : ∀ y : X, backC ((1 : Int), z, y, ()) = (2, y, z, ()) := fun y => rfl
  have b2 : ∀ x : X, backC ((2 : Int), x, z, ()) = (1, z, x, ()) := fun x => rfl
  have b3 : ∀ x y : X, backC ((3 : Int), x, y, ()) = (3, y, x, ()) := fun x y => rfl
  have nA : ∀ b : List X, diffM c key (fun x y => decide (x = y)) (fun x => ((2 : Int), x, z, ())) (fun y => ((1 : Int), z, y, ())) (fun x y => ((3 : Int), x, y, ())) b [] = b.map fun x => ((2 : Int), x, z, ()) := by
    intro b
    cases b with
    | nil => rw [diffM.eq_def]; rfl
    | cons => rw [diffM.eq_def]
  have nB : ∀ b : List X, diffM c key (fun x y => decide (x = y)) (fun x => ((2 : Int), x, z, ())) (fun y => ((1 : Int), z, y, ())) (fun x y => ((3 : Int), x, y, ())) [] b = b.map fun y => ((1 : Int), z, y, ()) := by
    intro b
    rw [diffM.eq_def]
  induction n with
  | zero =>
    intro a b hn
    have e1 : a = [] := List.eq_nil_of_length_eq_zero (by omega)
    have e2 : b = [] := List.eq_nil_of_length_eq_zero (by omega)
    subst e1; subst e2
    rw [nA]; rfl
  | succ n ih =>
    intro a b hn
    match a, b, hn with
    | [], b, hn => rw [nB, nA, List.map_map]; exact List.map_congr_left fun y _ => b1 y
    | x :: a, [], hn => rw [nA, nB, List.map_map]; exact List.map_congr_left fun y _ => b2 y
    | x :: a, y :: b, hn =>
      simp only [List.length_cons] at hn
      have hneg := hc.neg (key x) (key y)
      rw [diffM.eq_def, diffM.eq_def c key _ _ _ _ (y :: b) (x :: a)]
      simp only
      by_cases h1 : c (key x) (key y) < 0
      · rw [if_pos h1, if_neg (show ¬ c (key y) (key x) < 0 by omega), if_pos (show c (key y) (key x) > 0 by omega), List.map_cons, b2, ih a (y :: b) (by simp only [List.length_cons]; omega)]
      · rw [if_neg h1]
        by_cases h2 : c (key x) (key y) > 0
        · rw [if_pos h2, if_pos (show c (key y) (key x) < 0 by omega), List.map_cons, b1, ih (x :: a) b (by simp only [List.length_cons]; omega)]
        · rw [if_neg h2, if_neg (show ¬ c (key y) (key x) < 0 by omega), if_neg (show ¬ c (key y) (key x) > 0 by omega), List.map_append, ih a b (by omega)]
          by_cases hxy : x = y
          · rw [decide_eq_true hxy, decide_eq_true hxy.symm]; rfl
          · rw [decide_eq_false hxy, decide_eq_false (fun e => hxy e.symm)]; rfl
theorem diff_self (hc : Cmp c) {C : Type} {G M : X → C} {T : X → X → C} : ∀ a : List X, diffM c key (fun x y => decide (x = y)) G M T a a = []
  | [] => by rw [diffM.eq_def]; rfl
  | x :: a => by
    rw [diffM.eq_def]
    simp only
    have := (hc.zero (key x) (key x)).2 rfl
    rw [if_neg (by omega), if_neg (by omega)]
    simp only [decide_true, if_true, List.nil_append]
    exact diff_self hc a
theorem diff_nil (hc : Cmp c) {z : X} {a b : List X} (ra : Rises c key a) (rb : Rises c key b) (h : diffM c key (fun x y => decide (x = y)) (fun x => ((2 : Int), x, z, ())) (fun y => ((1 : Int), z, y, ())) (fun x y => ((3 : Int), x, y, ())) a b = []) : a = b := by
  have := apply_diff hc (z := z) _ [] a b (Nat.le_refl _) ra rb
  rw [h] at this
  simp only [List.nil_append, applyM] at this
  exact congrArg Prod.fst this
/-- A change keeps a list rising. -/
theorem step_rises (hc : Cmp c) {l l' : List X} {d : Int × X × X × Unit} (hr : Rises c key l) (h : stepM c key l d = .inl l') : Rises c key l' ∧ l'.length ≤ l.length + 1 ∧ ∀ x ∈ l', x ∈ l ∨ x = d.2.2.1 := by
  obtain ⟨k, x, y, ⟨⟩⟩ := d
  have e : lo c key (key (leafX ((k, x, y, ()) : Int × X × X × Unit))) l ++ hi c key (key (leafX ((k, x, y, ()) : Int × X × X × Unit))) l = l := lohi
  have hb := lo_below (c := c) (key := key) (k := key (leafX ((k, x, y, ()) : Int × X × X × Unit))) (l := l)
  have ha := fun (w : X) (q : List X) => hi_above hc (k := key (leafX ((k, x, y, ()) : Int × X × X × Unit))) hr (x := w) (q := q)
  unfold stepM at h
  generalize lo c key (key (leafX ((k, x, y, ()) : Int × X × X × Unit))) l = p at *
  generalize hi c key (key (leafX ((k, x, y, ()) : Int × X × X × Unit))) l = q at *
  unfold placeM at h
  split at h
  · cases h
  · split at h
    · rename_i h1 h2
      simp only at h2
      rw [show leafX ((k, x, y, ()) : Int × X × X × Unit) = y from if_pos h2] at hb ha
      subst e
      split at h
      · rename_i w q'
        split at h
        · cases h
        · rename_i h3
          simp only at h3
          cases h
          obtain ⟨a1, a2⟩ := ha w q' rfl
          refine ⟨rises_mid.2 ⟨hr, hb, fun v hv => ?_⟩, by simp only [List.length_append, List.length_cons]; omega, fun v hv => ?_⟩
          · show c (key y) (key v) < 0
            have n1 := hc.neg (key v) (key y)
            rcases List.mem_cons.1 hv with rfl | hv
            · omega
            · have := a2 v hv; omega
          · simp only [List.mem_append, List.mem_cons] at hv ⊢
            rcases hv with hv | hv | hv | hv
            · exact .inl (.inl hv)
            · exact .inr hv
            · exact .inl (.inr (.inl hv))
            · exact .inl (.inr (.inr hv))
      · cases h
        refine ⟨rises_mid.2 ⟨hr, hb, fun v hv => by cases hv⟩, by simp only [List.length_append, List.length_cons]; omega, fun v hv => ?_⟩
        simp only [List.mem_append, List.mem_cons] at hv ⊢
        rcases hv with hv | hv | hv
        · exact .inl (.inl hv)
        · exact .inr hv
        · cases hv
    · rename_i h1 h2
      simp only at h2
      subst e
      split at h
      · rename_i w q'
        split at h
        · rename_i hw
          simp only at hw
          subst hw
          split at h
          · split at h
            · rename_i h4
              cases h
              refine ⟨rises_same hc h4 hr, by simp only [List.length_append, List.length_cons]; omega, fun v hv => ?_⟩
              simp only [List.mem_append, List.mem_cons] at hv ⊢
              rcases hv with hv | hv | hv
              · exact .inl (.inl hv)
              · exact .inr hv
              · exact .inl (.inr (.inr hv))
            · cases h
          · cases h
            refine ⟨(rises_mid.1 hr).1, by simp only [List.length_append, List.length_cons]; omega, fun v hv => ?_⟩
            simp only [List.mem_append, List.mem_cons] at hv ⊢
            rcases hv with hv | hv
            · exact .inl (.inl hv)
            · exact .inl (.inr (.inr hv))
        · cases h
      · cases h
end
end Go.TY
