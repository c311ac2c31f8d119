import Derived.Test.YtkoicblnbbncbaaGreatDoorT14
import Derived.Test.YtkoicblnbbncbaaGreatDoorE23
/- Functions of Go's library, typed. -/
set_option linter.unusedVariables false
namespace Go.TY
open Go.EM
def itoa (n : Int) : Option (List UInt8) := if -9223372036854775808 ≤ n ∧ n ≤ 9223372036854775807 then some (Lib.itoa n) else none
def itoa_T : TFn := { ps := .cons (.int .i64) .unit, res := .str, fn := fun v => itoa v.1 }
theorem itoa_ok : TOk itoaF itoa_T := ⟨rfl, rfl, rfl, fun v r xs hr hps => by
  simp only [R, itoa_T] at hps
  obtain ⟨l1, l2, rfl, rfl, rfl⟩ := hps
  simp only [itoa_T, itoa] at hr
  split at hr
  · rename_i hn
    cases hr
    exact ⟨.str (Lib.itoa v.1), if_pos hn, rfl⟩
  · cases hr⟩
end Go.TY

/- strconv.Atoi, typed. -/
set_option linter.unusedVariables false
namespace Go.TY
open Go.EM
def atoi (s : List UInt8) : Option (Int × Bool × Unit) := if s.length ≤ 281474976710656 then some (match Lib.atoiAll s with
  | .ok v => (v, false, ())
  | Lib.NumEnd.syntax => (0, true, ())
  | .range => (Lib.atoiSat s, true, ())) else none
def atoi_T : TFn := { ps := .cons .str .unit, res := .tup (.cons (.int .i64) (.cons .err .unit)), fn := fun v => atoi v.1 }
theorem atoi_ok {te : Nat} : TOk (atoiF te) atoi_T := ⟨rfl, rfl, rfl, fun v r xs hr hps => by
  simp only [R, atoi_T] at hps
  obtain ⟨l1, l2, rfl, rfl, rfl⟩ := hps
  simp only [atoi_T, atoi] at hr
  split at hr
  · rename_i hn
    cases ha : Lib.atoiAll v.1 with
    | ok n =>
      rw [ha] at hr; cases hr
      exact ⟨.tup [.int .i64 n, .niliface], by simp [atoiF, if_pos hn, ha], _, rfl, _, _, rfl, rfl, [.niliface], [], rfl, ⟨_, rfl, .inl ⟨rfl, rfl⟩⟩, rfl⟩
    | range =>
      rw [ha] at hr; cases hr
      exact ⟨.tup [.int .i64 (Lib.atoiSat v.1), .iface te (.rptr [])], by simp [atoiF, if_pos hn, ha], _, rfl, _, _, rfl, rfl, [.iface te (.rptr [])], [], rfl, ⟨_, rfl, .inr ⟨rfl, te, rfl⟩⟩, rfl⟩
    | _ =>
      rw [ha] at hr; cases hr
      exact ⟨.tup [.int .i64 0, .iface te (.rptr [])], by simp [atoiF, if_pos hn, ha], _, rfl, _, _, rfl, rfl, [.iface te (.rptr [])], [], rfl, ⟨_, rfl, .inr ⟨rfl, te, rfl⟩⟩, rfl⟩
  · cases hr⟩
end Go.TY

/- strings.Compare, utf8.DecodeRuneInString, typed. -/
set_option linter.unusedVariables false
namespace Go.TY
open Go.EM
def cmpT (a b : List UInt8) : Option Int := some (Lib.compareBytes a b)
def cmpT_T : TFn := { ps := .cons .str (.cons .str .unit), res := .int .i64, fn := fun v => cmpT v.1 v.2.1 }
theorem cmpT_ok : TOk cmpF cmpT_T := ⟨rfl, rfl, rfl, fun v r xs hr hps => by
  simp only [R, cmpT_T] at hps
  obtain ⟨l1, l2, rfl, rfl, l3, l4, rfl, rfl, rfl⟩ := hps
  cases hr
  exact ⟨_, rfl, rfl⟩⟩
def decodeT (s : List UInt8) : Option (Int × Int × Unit) := some ((Lib.decodeGo ⟨s.toArray⟩).1, (Lib.decodeGo ⟨s.toArray⟩).2, ())
def decodeT_T : TFn := { ps := .cons .str .unit, res := .tup (.cons (.int .i32) (.cons (.int .i64) .unit)), fn := fun v => decodeT v.1 }
theorem decodeT_ok : TOk decodeF decodeT_T := ⟨rfl, rfl, rfl, fun v r xs hr hps => by
  simp only [R, decodeT_T] at hps
  obtain ⟨l1, l2, rfl, rfl, rfl⟩ := hps
  cases hr
  exact ⟨_, rfl, _, rfl, _, _, rfl, rfl, _, [], rfl, rfl, rfl⟩⟩
end Go.TY

/- slices.Clone, strings.Join, typed. -/
set_option linter.unusedVariables false
namespace Go.TY
open Go.EM
def cloneT {A : Type} (l : List A) : Option (List A) := if l.length < most then some l else none
def cloneT_T (u : Ty) : TFn := { ps := .cons (.sl u) .unit, res := .sl u, fn := fun v => cloneT v.1 }
theorem cloneT_ok {M : Nat} {u : Ty} (hu : u.size = M) (hv : u.isV = true) (hc : u.closed = true) : TOk (cloneF M) (cloneT_T u) := by
  have hk : (Ty.sl u).closed = true := by simp only [Ty.closed, hv, hc, Bool.and_self]
  refine ⟨by simp only [cloneT_T, Ty.closed, hv, hc, Bool.and_self], hk, rfl, fun v r xs hr hps => ?_⟩
  obtain ⟨v, ⟨⟩⟩ := v
  simp only [R, cloneT_T] at hps
  obtain ⟨l1, l2, rfl, hx, rfl⟩ := hps
  simp only [cloneT_T, cloneT] at hr
  split at hr
  · rename_i hlt
    cases hr
    rcases hx with ⟨rfl, rfl⟩ | ⟨f, n, bs, rfl, hn, ha⟩
    · exact ⟨_, rfl, .inr ⟨false, 0, [], rfl, .inl rfl, trivial⟩⟩
    · cases r with
      | nil =>
        match bs, ha with
        | [], _ => exact ⟨.tree false 0 [], rfl, .inr ⟨false, 0, [], rfl, .inl rfl, trivial⟩⟩
      | cons x r =>
        match bs, ha with
        | a :: bs, ha =>
          have hn : n = M := by
            rcases hn with h | h
            · cases h
            · rw [h, hu]
          subst hn
          have hlen := All2_len ha
          have hl2 : bs.length + 1 < most := by simp only [List.length_cons] at hlen hlt; omega
          exact ⟨.tree false n (a :: bs), by simp only [cloneF, List.singleton_append]; rw [if_pos ⟨trivial, hl2⟩], .inr ⟨false, n, a :: bs, rfl, .inr hu.symm, ha⟩⟩
  · cases hr
def joinT (l : List (List UInt8)) (sep : List UInt8) : Option (List UInt8) := if l.length ≤ 140737488355328 ∧ (Lib.join l sep).length ≤ 140737488355328 then some (Lib.join l sep) else none
def joinT_T : TFn := { ps := .cons (.sl .str) (.cons .str .unit), res := .str, fn := fun v => joinT v.1 v.2.1 }
theorem strs_R {Γ : Ctx} : ∀ {v : List (List UInt8)} {bs : List AVal}, All2 (fun x a => R Γ .str x false [a]) v bs → strsA bs = some v
  | [], [], _ => rfl
  | x :: v, a :: bs, h => by
    have h1 := R_str h.1
    subst h1
    simp only [strsA, strs_R h.2, Option.map_some]
  | [], _ :: _, h => h.elim
  | _ :: _, [], h => h.elim
theorem joinT_ok : TOk joinF joinT_T := by
  refine ⟨rfl, rfl, rfl, fun v r xs hr hps => ?_⟩
  obtain ⟨v, sep, ⟨⟩⟩ := v
  simp only [R, joinT_T] at hps
  obtain ⟨l1, l2, rfl, hx, l3, l4, rfl, rfl, rfl⟩ := hps
  simp only [joinT_T, joinT] at hr
  split at hr
  · rename_i hb
    cases hr
    rcases hx with ⟨rfl, rfl⟩ | ⟨f, n, bs, rfl, hn, ha⟩
    · exact ⟨_, rfl, rfl⟩
    · cases v with
      | nil =>
        match bs, ha with
        | [], _ => exact ⟨_, rfl, rfl⟩
      | cons x v =>
        match bs, ha with
        | a :: bs, ha =>
          have hn : n = 1 := by
            rcases hn with h | h
            · cases h
            · exact h
          have hs := strs_R (Γ := Γ0) ha
          refine ⟨.str (Lib.join (x :: v) sep), ?_, rfl⟩
          simp only [joinF, List.singleton_append]
          rw [if_pos hn, hs, Option.bind_some, if_pos hb]
  · cases hr
end Go.TY

/- Loops over lists. -/
set_option linter.unusedVariables false
namespace Go.TY
open Go.EM
section
variable {A R X S : Type}
/-- What a loop over a list comes to. -/
def foldE (step : Nat → X → S → S ⊕ R) (fin : S → R) : Nat → List X → S → R
  | _, [], s => fin s
  | i, x :: l, s => match step i x s with
    | .inl s' => foldE step fin (i + 1) l s'
    | .inr r => r
theorem loop_list {f : A → Option (A ⊕ R)} {l : List X} (enc : Nat → S → A) (step : Nat → X → S → S ⊕ R) (fin : S → R) (inv : Nat → S → Prop)
    (hturn : ∀ (i : Nat) (h : i < l.length) (s : S), inv i s → (∃ s', step i l[i] s = .inl s' ∧ f (enc i s) = some (.inl (enc (i + 1) s')) ∧ inv (i + 1) s') ∨ (∃ r, step i l[i] s = .inr r ∧ f (enc i s) = some (.inr r)))
    (hend : ∀ s, inv l.length s → f (enc l.length s) = some (.inr (fin s))) : ∀ s, inv 0 s → loopT f (enc 0 s) = some (foldE step fin 0 l s) := by
  have key : ∀ (k i : Nat) (s : S), l.length - i ≤ k → i ≤ l.length → inv i s → loopT f (enc i s) = some (foldE step fin i (l.drop i) s) := by
    intro k
    induction k with
    | zero =>
      intro i s hk hi hv
      have : i = l.length := by omega
      subst this
      rw [List.drop_eq_nil_of_le (Nat.le_refl _), loopT_inr (hend s hv)]
      rfl
    | succ k ih =>
      intro i s hk hi hv
      by_cases hlt : i < l.length
      · rw [List.drop_eq_getElem_cons hlt]
        simp only [foldE]
        rcases hturn i hlt s hv with ⟨s', h1, h2, h3⟩ | ⟨r, h1, h2⟩
        · rw [loopT_inl h2, ih (i + 1) s' (by omega) (by omega) h3, h1]
        · rw [loopT_inr h2, h1]
      · have : i = l.length := by omega
        subst this
        rw [List.drop_eq_nil_of_le (Nat.le_refl _), loopT_inr (hend s hv)]
        rfl
  intro s hv
  have := key l.length 0 s (by omega) (by omega) hv
  simpa using this
/-- A loop that looks for an element. -/
theorem loop_all {f : A → Option (A ⊕ R)} {l : List X} (enc : Nat → A) (p : X → Bool) (yes no : R)
    (hturn : ∀ (i : Nat) (h : i < l.length), f (enc i) = some (if p l[i] then .inl (enc (i + 1)) else .inr no)) (hend : f (enc l.length) = some (.inr yes)) : loopT f (enc 0) = some (if l.all p then yes else no) := by
  have := loop_list (S := Unit) (fun i _ => enc i) (fun _ x _ => if p x then .inl () else .inr no) (fun _ => yes) (fun _ _ => True) (l := l) (f := f) (fun i h s _ => by
    by_cases hp : p l[i] = true
    · exact .inl ⟨(), by rw [if_pos hp], by rw [hturn i h, if_pos hp], trivial⟩
    · exact .inr ⟨no, by rw [if_neg hp], by rw [hturn i h, if_neg hp]⟩) (fun s _ => hend) () trivial
  rw [this]
  congr 1
  have gen : ∀ (l : List X) (i : Nat), foldE (S := Unit) (fun _ x _ => if p x then .inl () else .inr no) (fun _ => yes) i l () = if l.all p then yes else no := by
    intro l
    induction l with
    | nil => intro i; rfl
    | cons x l ih =>
      intro i
      have h := ih (i + 1)
      by_cases hp : p x = true
      · simp only [foldE, hp, if_true]
        rw [h]
        simp [hp]
      · simp [foldE, hp]
  exact gen l 0
/-- A loop that makes a list, element by element. -/
theorem loop_map {Y : Type} {f : A → Option (A ⊕ R)} {l : List X} (enc : Nat → List Y → A) (g : X → List Y) (fin : List Y → R) (m : Nat) (hg : ∀ x ∈ l, (g x).length ≤ m)
    (hturn : ∀ (i : Nat) (h : i < l.length) (o : List Y), o.length ≤ i * m → f (enc i o) = some (.inl (enc (i + 1) (o ++ g l[i])))) (hend : ∀ o, o.length ≤ l.length * m → f (enc l.length o) = some (.inr (fin o))) :
    loopT f (enc 0 []) = some (fin (l.flatMap g)) := by
  have := loop_list (S := List Y) enc (fun _ x o => .inl (o ++ g x)) fin (fun i o => o.length ≤ i * m) (l := l) (f := f) (fun i h o ho => .inl ⟨_, rfl, hturn i h o ho, by
    have := hg l[i] (List.getElem_mem h)
    rw [List.length_append, Nat.succ_mul]; omega⟩) hend [] (by simp)
  rw [this]
  congr 1
  have gen : ∀ (l : List X) (i : Nat) (o : List Y), foldE (S := List Y) (R := R) (fun _ x o => .inl (o ++ g x)) fin i l o = fin (o ++ l.flatMap g) := by
    intro l
    induction l with
    | nil => intro i o; simp [foldE]
    | cons x l ih => intro i o; simp only [foldE]; rw [ih]; simp [List.flatMap_cons]
  rw [gen]; rfl
/-- Of two lists of one length: are they alike, element by element? -/
def all2 {Y : Type} (q : X → Y → Bool) : List X → List Y → Bool
  | [], [] => true
  | x :: l, y :: m => q x y && all2 q l m
  | _, _ => false
theorem loop_all2 {Y : Type} {f : A → Option (A ⊕ R)} {l : List X} {m : List Y} (enc : Nat → A) (q : X → Y → Bool) (yes no : R) (hl : l.length = m.length)
    (hturn : ∀ (i : Nat) (h : i < l.length) (h' : i < m.length), f (enc i) = some (if q l[i] m[i] = true then .inl (enc (i + 1)) else .inr no)) (hend : f (enc l.length) = some (.inr yes)) : loopT f (enc 0) = some (if all2 q l m = true then yes else no) := by
  have key : ∀ (k i : Nat), l.length - i ≤ k → i ≤ l.length → loopT f (enc i) = some (if all2 q (l.drop i) (m.drop i) = true then yes else no) := by
    intro k
    induction k with
    | zero =>
      intro i hk hi
      have e : i = l.length := by omega
      subst e
      rw [loopT_inr hend, List.drop_eq_nil_of_le (Nat.le_refl _), List.drop_eq_nil_of_le (by omega)]
      rfl
    | succ k ih =>
      intro i hk hi
      by_cases hlt : i < l.length
      · have h2 : i < m.length := by omega
        rw [List.drop_eq_getElem_cons hlt, List.drop_eq_getElem_cons h2]
        have ht := hturn i hlt h2
        by_cases hq : q l[i] m[i] = true
        · rw [if_pos hq] at ht
          rw [loopT_inl ht, ih (i + 1) (by omega) (by omega)]
          simp only [all2, hq, Bool.true_and]
        · rw [if_neg hq] at ht
          rw [loopT_inr ht]
          simp [all2, hq]
      · have e : i = l.length := by omega
        subst e
        rw [loopT_inr hend, List.drop_eq_nil_of_le (Nat.le_refl _), List.drop_eq_nil_of_le (by omega)]
        rfl
  have := key l.length 0 (by omega) (by omega)
  simpa using this
theorem all2_len {Y : Type} {q : X → Y → Bool} : ∀ {l : List X} {m : List Y}, l.length ≠ m.length → all2 q l m = false
  | [], [], h => absurd rfl h
  | [], _ :: _, _ => rfl
  | _ :: _, [], _ => rfl
  | x :: l, y :: m, h => by
    simp only [all2, all2_len (q := q) (l := l) (m := m) (by simpa using h), Bool.and_false]
theorem all2_dec [DecidableEq X] : ∀ {l m : List X}, all2 (fun x y => decide (x = y)) l m = decide (l = m)
  | [], [] => rfl
  | [], _ :: _ => by simp [all2]
  | _ :: _, [] => by simp [all2]
  | x :: l, y :: m => by
    simp only [all2, all2_dec (l := l) (m := m), List.cons.injEq, Bool.decide_and]
theorem all2_refl {q : X → X → Bool} : ∀ {l : List X}, (∀ x ∈ l, q x x = true) → all2 q l l = true
  | [], _ => rfl
  | x :: l, h => by simp only [all2, h x (List.mem_cons_self ..), all2_refl (fun y hy => h y (List.mem_cons_of_mem _ hy)), Bool.and_self]
open Classical in
/-- A loop that asks of each place. -/
theorem loop_allI {f : A → Option (A ⊕ R)} (n : Nat) (enc : Nat → A) (p : Nat → Bool) (yes no : R)
    (hturn : ∀ (i : Nat) (h : i < n), f (enc i) = some (if p i = true then .inl (enc (i + 1)) else .inr no)) (hend : f (enc n) = some (.inr yes)) : loopT f (enc 0) = some (if (∀ i, i < n → p i = true) then yes else no) := by
  have key : ∀ (k i : Nat), n - i ≤ k → i ≤ n → loopT f (enc i) = some (if (∀ j, i ≤ j → j < n → p j = true) then yes else no) := by
    intro k
    induction k with
    | zero =>
      intro i hk hi
      have e : i = n := by omega
      subst e
      rw [loopT_inr hend, if_pos (fun j h1 h2 => by omega)]
    | succ k ih =>
      intro i hk hi
      by_cases hlt : i < n
      · have ht := hturn i hlt
        by_cases hq : p i = true
        · rw [if_pos hq] at ht
          rw [loopT_inl ht, ih (i + 1) (by omega) (by omega)]
          by_cases ha : ∀ j, i + 1 ≤ j → j < n → p j = true
          · rw [if_pos ha, if_pos (fun j h1 h2 => by
              rcases Nat.lt_or_eq_of_le h1 with h | h
              · exact ha j h h2
              · rw [← h]; exact hq)]
          · rw [if_neg ha, if_neg (fun hb => ha (fun j h1 h2 => hb j (by omega) h2))]
        · rw [if_neg hq] at ht
          rw [loopT_inr ht, if_neg (fun hb => hq (hb i (Nat.le_refl _) hlt))]
      · have e : i = n := by omega
        subst e
        rw [loopT_inr hend, if_pos (fun j h1 h2 => by omega)]
  have := key n 0 (by omega) (by omega)
  rw [this]
  congr 1
  by_cases ha : ∀ i, i < n → p i = true
  · rw [if_pos ha, if_pos (fun j _ h2 => ha j h2)]
  · rw [if_neg ha, if_neg (fun hb => ha (fun j h2 => hb j (Nat.zero_le _) h2))]
end
end Go.TY

/- Plain laws: orders by -1, 0, 1; what is unlike in two rising lists. No program in sight. -/
set_option linter.unusedVariables false
set_option linter.unusedSectionVars false
namespace Go.TY
/-- An order, told by a number below 0, 0, or above. -/
structure Cmp {K : Type} (c : K → K → Int) : Prop where
  one : ∀ a b, -1 ≤ c a b ∧ c a b ≤ 1
  neg : ∀ a b, c b a = - c a b
  zero : ∀ a b, c a b = 0 ↔ a = b
  trans : ∀ a b d, c a b < 0 → c b d < 0 → c a d < 0
/-- Lists by their first unlike element. -/
def cmpL {K : Type} (c : K → K → Int) : List K → List K → Int
  | [], [] => 0
  | [], _ :: _ => -1
  | _ :: _, [] => 1
  | x :: a, y :: b => if c x y = 0 then cmpL c a b else c x y
section
variable {K : Type} {c : K → K → Int}
theorem Cmp.list (h : Cmp c) : Cmp (cmpL c) where
  one := by
    intro a
    induction a with
    | nil => intro b; cases b <;> simp [cmpL]
    | cons x a ih =>
      intro b
      cases b with
      | nil => simp [cmpL]
      | cons y b =>
        simp only [cmpL]
        split
        · exact ih b
        · exact h.one x y
  neg := by
    intro a
    induction a with
    | nil => intro b; cases b <;> simp [cmpL]
    | cons x a ih =>
      intro b
      cases b with
      | nil => simp [cmpL]
      | cons y b =>
        simp only [cmpL]
        have := h.neg x y
        by_cases h0 : c x y = 0
        · rw [if_pos h0, if_pos (by omega)]; exact ih b
        · rw [if_neg h0, if_neg (by omega)]; exact this
  zero := by
    intro a
    induction a with
    | nil => intro b; cases b <;> simp [cmpL]
    | cons x a ih =>
      intro b
      cases b with
      | nil => simp [cmpL]
      | cons y b =>
        simp only [cmpL]
        by_cases h0 : c x y = 0
        · rw [if_pos h0, ih b, (h.zero x y).1 h0]; simp
        · rw [if_neg h0]
          constructor
          · intro k; exact absurd k h0
          · intro k; cases k; exact absurd ((h.zero x x).2 rfl) h0
  trans := by
    intro a
    induction a with
    | nil =>
      intro b d h1 h2
      cases b with
      | nil => simp [cmpL] at h1
      | cons y b =>
        cases d with
        | nil => simp [cmpL] at h2
        | cons z d => simp [cmpL]
    | cons x a ih =>
      intro b d h1 h2
      cases b with
      | nil => simp [cmpL] at h1
      | cons y b =>
        cases d with
        | nil => simp [cmpL] at h2
        | cons z d =>
          simp only [cmpL] at h1 h2 ⊢
          by_cases h0 : c x y = 0
          · rw [if_pos h0] at h1
            have e := (h.zero x y).1 h0
            subst e
            by_cases h3 : c x z = 0
            · rw [if_pos h3] at h2 ⊢; exact ih b d h1 h2
            · rw [if_neg h3] at h2 ⊢; exact h2
          · rw [if_neg h0] at h1
            by_cases h3 : c y z = 0
            · have e := (h.zero y z).1 h3
              subst e
              rw [if_neg h0]; exact h1
            · rw [if_neg h3] at h2
              have := h.trans x y z h1 h2
              rw [if_neg (by omega)]; exact this
/-- The first order, then the second. -/
def cmpB {L : Type} (c : K → K → Int) (d : L → L → Int) (a b : K × L) : Int := if c a.1 b.1 = 0 then d a.2 b.2 else c a.1 b.1
theorem Cmp.pair {L : Type} {d : L → L → Int} (h : Cmp c) (k : Cmp d) : Cmp (cmpB c d) where
  one a b := by
    unfold cmpB
    split
    · exact k.one _ _
    · exact h.one _ _
  neg a b := by
    unfold cmpB
    have := h.neg a.1 b.1
    by_cases h0 : c a.1 b.1 = 0
    · rw [if_pos h0, if_pos (by omega)]; exact k.neg _ _
    · rw [if_neg h0, if_neg (by omega)]; exact this
  zero a b := by
    unfold cmpB
    obtain ⟨a1, a2⟩ := a
    obtain ⟨b1, b2⟩ := b
    simp only
    by_cases h0 : c a1 b1 = 0
    · rw [if_pos h0, k.zero, (h.zero _ _).1 h0]; simp
    · rw [if_neg h0]
      constructor
      · intro e; exact absurd e h0
      · intro e; cases e; exact absurd ((h.zero _ _).2 rfl) h0
  trans a b e h1 h2 := by
    unfold cmpB at h1 h2 ⊢
    obtain ⟨a1, a2⟩ := a
    obtain ⟨b1, b2⟩ := b
    obtain ⟨e1, e2⟩ := e
    simp only at h1 h2 ⊢
    by_cases h0 : c a1 b1 = 0
    · rw [if_pos h0] at h1
      have q := (h.zero _ _).1 h0
      subst q
      by_cases h3 : c a1 e1 = 0
      · rw [if_pos h3] at h2 ⊢; exact k.trans _ _ _ h1 h2
      · rw [if_neg h3] at h2 ⊢; exact h2
    · rw [if_neg h0] at h1
      by_cases h3 : c b1 e1 = 0
      · have q := (h.zero _ _).1 h3
        subst q
        rw [if_neg h0]; exact h1
      · rw [if_neg h3] at h2
        have := h.trans _ _ _ h1 h2
        rw [if_neg (by omega)]; exact this
theorem Cmp.irr (h : Cmp c) (a : K) : ¬ c a a < 0 := by have := (h.zero a a).2 rfl; omega
end
theorem fm_congr {A B : Type} {f g : A → List B} : ∀ {l : List A}, (∀ x ∈ l, f x = g x) → l.flatMap f = l.flatMap g
  | [], _ => rfl
  | x :: l, h => by rw [List.flatMap_cons, List.flatMap_cons, h x (List.mem_cons_self ..), fm_congr (fun y hy => h y (List.mem_cons_of_mem _ hy))]
/-! ### what is unlike -/
section
variable {X K C : Type} (c : K → K → Int) (key : X → K) (same : X → X → Bool) (G M : X → C) (T : X → X → C) (leaf : C → K)
def diffM : List X → List X → List C
  | [], b => b.map M
  | x :: a, [] => (x :: a).map G
  | x :: a, y :: b => if c (key x) (key y) < 0 then G x :: diffM a (y :: b) else if c (key x) (key y) > 0 then M y :: diffM (x :: a) b else (if same x y then [] else [T x y]) ++ diffM a b
termination_by a b => a.length + b.length
def ins (v : C) : List C → List C
  | [] => [v]
  | e :: l => if c (leaf v) (leaf e) < 0 then v :: e :: l else e :: ins v l
def oneA (b : List X) (x : X) : List C :=
  match b.find? (fun y => decide (c (key y) (key x) = 0)) with
  | none => [G x]
  | some y => if same x y then [] else [T x y]
def diffA (a b : List X) : List C := a.flatMap (oneA c key same G T b)
def insB (a : List X) (o : List C) (y : X) : List C := if (a.find? (fun x => decide (c (key x) (key y) = 0))).isNone then ins c leaf (M y) o else o
def insA (b : List X) (o : List C) (x : X) : List C := (oneA c key same G T b x).foldl (fun o v => ins c leaf v o) o
def diffR (a b : List X) : List C := b.foldl (insB c key M leaf a) (a.foldl (insA c key same G T leaf b) [])
def Rises (a : List X) : Prop := a.Pairwise fun x y => c (key x) (key y) < 0
variable {c key same G M T leaf}
theorem ins_end (hc : Cmp c) {v : C} : ∀ {l : List C}, (∀ e ∈ l, c (leaf e) (leaf v) < 0) → ins c leaf v l = l ++ [v]
  | [], _ => rfl
  | e :: l, h => by
    have h1 := h e (List.mem_cons_self ..)
    have h2 := hc.neg (leaf e) (leaf v)
    simp only [ins]
    rw [if_neg (by omega), ins_end hc (fun x hx => h x (List.mem_cons_of_mem _ hx))]; rfl
variable (hc : Cmp c) (hG : ∀ x, leaf (G x) = key x) (hM : ∀ x, leaf (M x) = key x) (hT : ∀ x y, leaf (T x y) = key x)
include hc hG hT
theorem oneA_leaf {b : List X} {x : X} : ∀ e ∈ oneA c key same G T b x, leaf e = key x := by
  intro e he
  unfold oneA at he
  split at he
  · simp at he; subst he; exact hG x
  · split at he
    · cases he
    · simp at he; subst he; exact hT _ _
theorem insA_end {b : List X} {x : X} {o : List C} (h : ∀ e ∈ o, c (leaf e) (key x) < 0) : insA c key same G T leaf b o x = o ++ oneA c key same G T b x := by
  unfold insA
  have hl := oneA_leaf (same := same) hc hG hT (b := b) (x := x)
  unfold oneA at hl ⊢
  split
  · rename_i hf
    simp only [hf] at hl
    simp only [List.foldl_cons, List.foldl_nil]
    exact ins_end hc (fun e he => by rw [hG]; exact h e he)
  · rename_i y hf
    simp only [hf] at hl
    split
    · simp
    · rename_i hs
      simp only [List.foldl_cons, List.foldl_nil]
      exact ins_end hc (fun e he => by rw [hT]; exact h e he)
theorem foldA {b : List X} : ∀ {a : List X} {o : List C}, Rises c key a → (∀ e ∈ o, ∀ x ∈ a, c (leaf e) (key x) < 0) → a.foldl (insA c key same G T leaf b) o = o ++ diffA c key same G T a b
  | [], o, _, _ => by simp [diffA]
  | x :: a, o, hr, ho => by
    have hr' := List.pairwise_cons.1 hr
    rw [List.foldl_cons, insA_end hc hG hT (fun e he => ho e he x (List.mem_cons_self ..)), foldA hr'.2 ?_]
    · simp [diffA, List.flatMap_cons]
    · intro e he y hy
      rcases List.mem_append.1 he with he | he
      · exact ho e he y (List.mem_cons_of_mem _ hy)
      · rw [oneA_leaf hc hG hT e he]; exact hr'.1 y hy
omit hG hT in
theorem find_none {b : List X} {k : K} (h : ∀ y ∈ b, c (key y) k ≠ 0) : b.find? (fun y => decide (c (key y) k = 0)) = none := by
  rw [List.find?_eq_none]
  intro y hy
  simpa using h y hy
include hM
theorem diff_eq : ∀ (n : Nat) (a b : List X), a.length + b.length ≤ n → Rises c key a → Rises c key b → b.foldl (insB c key M leaf a) (diffA c key same G T a b) = diffM c key same G M T a b := by
  have pass : ∀ (h : C) (a : List X) (b : List X) (o : List C), (∀ y ∈ b, c (leaf h) (key y) < 0) → b.foldl (insB c key M leaf a) (h :: o) = h :: b.foldl (insB c key M leaf a) o := by
    intro h a b
    induction b with
    | nil => intro o _; rfl
    | cons y b ih =>
      intro o hb
      have h1 := hb y (List.mem_cons_self ..)
      have h2 := hc.neg (leaf h) (key y)
      have e : insB c key M leaf a (h :: o) y = h :: insB c key M leaf a o y := by
        unfold insB
        split
        · simp only [ins]
          rw [hM, if_neg (by omega)]
        · rfl
      rw [List.foldl_cons, List.foldl_cons, e]
      exact ih _ (fun z hz => hb z (List.mem_cons_of_mem _ hz))
  have mono : ∀ (x : X) (a b : List X) (o : List C), (∀ y ∈ b, c (key x) (key y) ≠ 0) → b.foldl (insB c key M leaf (x :: a)) o = b.foldl (insB c key M leaf a) o := by
    intro x a b
    induction b with
    | nil => intro o _; rfl
    | cons y b ih =>
      intro o hb
      have h1 := hb y (List.mem_cons_self ..)
      have e : insB c key M leaf (x :: a) o y = insB c key M leaf a o y := by
        unfold insB
        rw [List.find?_cons]
        have : decide (c (key x) (key y) = 0) = false := by simpa using h1
        rw [this]
      rw [List.foldl_cons, List.foldl_cons, e]
      exact ih _ (fun z hz => hb z (List.mem_cons_of_mem _ hz))
  have monoA : ∀ (y : X) (a b : List X), (∀ x ∈ a, c (key y) (key x) ≠ 0) → diffA c key same G T a (y :: b) = diffA c key same G T a b := by
    intro y a b h
    unfold diffA
    refine fm_congr fun x hx => ?_
    unfold oneA
    rw [List.find?_cons]
    have : decide (c (key y) (key x) = 0) = false := by simpa using h x hx
    rw [this]
  intro n
  induction n with
  | zero =>
    intro a b hn ha hb
    have : a = [] := List.eq_nil_of_length_eq_zero (by omega)
    subst this
    have : b = [] := List.eq_nil_of_length_eq_zero (by simpa using hn)
    subst this
    simp [diffA, diffM]
  | succ n ih =>
    intro a b hn ha hb
    match a, b, hn, ha, hb with
    | [], b, hn, ha, hb =>
      have gen : ∀ (b : List X) (o : List C), Rises c key b → (∀ e ∈ o, ∀ y ∈ b, c (leaf e) (key y) < 0) → b.foldl (insB c key M leaf []) o = o ++ b.map M := by
        intro b
        induction b with
        | nil => intro o _ _; simp
        | cons y b ihb =>
          intro o hr ho
          have hr' := List.pairwise_cons.1 hr
          have e : insB c key M leaf [] o y = o ++ [M y] := by
            unfold insB
            simp only [List.find?_nil, Option.isNone_none, if_true]
            exact ins_end hc (fun e he => by rw [hM]; exact ho e he y (List.mem_cons_self ..))
          rw [List.foldl_cons, e, ihb _ hr'.2 ?_]
          · simp
          · intro e he z hz
            rcases List.mem_append.1 he with he | he
            · exact ho e he z (List.mem_cons_of_mem _ hz)
            · simp at he; subst he; rw [hM]; exact hr'.1 z hz
      have := gen b [] hb (fun e he => by cases he)
      simpa [diffA, diffM] using this
    | x :: a, [], hn, ha, hb =>
      have : ∀ a : List X, diffA c key same G T a [] = a.map G := by
        intro a
        unfold diffA
        induction a with
        | nil => rfl
        | cons x a iha => rw [List.flatMap_cons, iha]; rfl
      rw [this]; simp [diffM]
    | x :: a, y :: b, hn, ha, hb =>
      have ha' := List.pairwise_cons.1 ha
      have hb' := List.pairwise_cons.1 hb
      simp only [List.length_cons] at hn
      have hneg := hc.neg (key x) (key y)
      by_cases h1 : c (key x) (key y) < 0
      · have far : ∀ z ∈ y :: b, c (key x) (key z) < 0 := by
          intro z hz
          rcases List.mem_cons.1 hz with rfl | hz
          · exact h1
          · exact hc.trans _ _ _ h1 (hb'.1 z hz)
        have e : diffA c key same G T (x :: a) (y :: b) = G x :: diffA c key same G T a (y :: b) := by
          unfold diffA
          rw [List.flatMap_cons]
          have : oneA c key same G T (y :: b) x = [G x] := by
            unfold oneA
            rw [find_none hc (fun z hz => by have := far z hz; have := hc.neg (key x) (key z); omega)]
          rw [this]; rfl
        rw [e, pass _ _ _ _ (fun z hz => by rw [hG]; exact far z hz), mono _ _ _ _ (fun z hz => by have := far z hz; omega), ih a (y :: b) (by simp only [List.length_cons]; omega) ha'.2 hb]
        rw [diffM.eq_def c key same G M T (x :: a) (y :: b)]
        simp only
        rw [if_pos h1]
      · by_cases h2 : c (key x) (key y) > 0
        · have near : ∀ z ∈ x :: a, c (key y) (key z) < 0 := by
            intro z hz
            rcases List.mem_cons.1 hz with rfl | hz
            · omega
            · exact hc.trans _ _ _ (by omega) (ha'.1 z hz)
          have e0 : diffA c key same G T (x :: a) (y :: b) = diffA c key same G T (x :: a) b := monoA y (x :: a) b (fun z hz => by have := near z hz; omega)
          have e1 : insB c key M leaf (x :: a) (diffA c key same G T (x :: a) b) y = M y :: diffA c key same G T (x :: a) b := by
            unfold insB
            rw [find_none hc (fun z hz => by have := near z hz; have := hc.neg (key y) (key z); omega)]
            simp only [Option.isNone_none, if_true]
            cases hd : diffA c key same G T (x :: a) b with
            | nil => rfl
            | cons e l =>
              have he : e ∈ diffA c key same G T (x :: a) b := by rw [hd]; exact List.mem_cons_self ..
              unfold diffA at he
              rw [List.mem_flatMap] at he
              obtain ⟨z, hz, he⟩ := he
              have := oneA_leaf hc hG hT e he
              simp only [ins]
              rw [hM, this, if_pos (near z hz)]
          rw [List.foldl_cons, e0, e1, pass _ _ _ _ (fun z hz => by rw [hM]; exact hb'.1 z hz), ih (x :: a) b (by simp only [List.length_cons]; omega) ha hb'.2]
          rw [diffM.eq_def c key same G M T (x :: a) (y :: b)]
          simp only
          rw [if_neg h1, if_pos h2]
        · have h0 : c (key x) (key y) = 0 := by omega
          have hk : key x = key y := (hc.zero _ _).1 h0
          have farb : ∀ z ∈ b, c (key x) (key z) < 0 := fun z hz => by rw [hk]; exact hb'.1 z hz
          have fara : ∀ z ∈ a, c (key y) (key z) < 0 := fun z hz => by rw [← hk]; exact ha'.1 z hz
          have e0 : diffA c key same G T (x :: a) (y :: b) = (if same x y then [] else [T x y]) ++ diffA c key same G T a b := by
            have : diffA c key same G T (x :: a) (y :: b) = oneA c key same G T (y :: b) x ++ diffA c key same G T a (y :: b) := by unfold diffA; rw [List.flatMap_cons]
            rw [this, monoA y a b (fun z hz => by have := fara z hz; omega)]
            congr 1
            unfold oneA
            rw [List.find?_cons]
            have : decide (c (key y) (key x) = 0) = true := by simp; omega
            rw [this]
          have e1 : ∀ o, insB c key M leaf (x :: a) o y = o := by
            intro o
            unfold insB
            rw [List.find?_cons]
            have : decide (c (key x) (key y) = 0) = true := by simpa using h0
            rw [this]
            simp
          rw [List.foldl_cons, e1, e0]
          have fin : b.foldl (insB c key M leaf (x :: a)) (diffA c key same G T a b) = diffM c key same G M T a b := by
            rw [mono _ _ _ _ (fun z hz => by have := farb z hz; omega)]
            exact ih a b (by omega) ha'.2 hb'.2
          rw [diffM.eq_def c key same G M T (x :: a) (y :: b)]
          simp only
          rw [if_neg h1, if_neg h2]
          cases same x y with
          | true => simpa using fin
          | false =>
            simp only [Bool.false_eq_true, if_false, List.cons_append, List.nil_append]
            rw [pass _ _ _ _ (fun z hz => by rw [hT]; exact farb z hz), fin]
theorem diffR_eq {a b : List X} (ha : Rises c key a) (hb : Rises c key b) : diffR c key same G M T leaf a b = diffM c key same G M T a b := by
  unfold diffR
  rw [foldA hc hG hT ha (fun e he => by cases he), List.nil_append]
  exact diff_eq hc hG hM hT _ a b (Nat.le_refl _) ha hb
end
end Go.TY
