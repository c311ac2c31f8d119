import Derived.Test.YtcnhiodbnmploaaW
import Derived.Test.YtcnhiodbnmploaaT14
import Derived.Test.YtcnhiodbnmploaaT27
set_option linter.unusedVariables false
set_option linter.unusedSimpArgs false
set_option maxRecDepth 100000
namespace Go.Proofs.Ytcnhiodbnmploaa.Q
open Go.EM Go.TY Go.Proofs Go.Proofs.Ytcnhiodbnmploaa.Y
/-- A character of a text, and how many bytes it has; none: 0. -/
def charM : List UInt8 → Int × Nat
  | [] => (0, 0)
  | a :: t =>
    if a.toNat < 128 then (a.toNat, 1)
    else if 194 ≤ a.toNat ∧ a.toNat < 224 then (match t with
      | b :: _ => if 128 ≤ b.toNat ∧ b.toNat ≤ 191 then (64 * ((a.toNat : Int) - 192) + b.toNat - 128, 2) else (0, 0)
      | _ => (0, 0))
    else if 224 ≤ a.toNat ∧ a.toNat < 240 then (match t with
      | b :: c :: _ => if (128 ≤ b.toNat ∧ b.toNat ≤ 191) ∧ (128 ≤ c.toNat ∧ c.toNat ≤ 191) then
          let r : Int := 64 * (64 * ((a.toNat : Int) - 224) + b.toNat - 128) + c.toNat - 128
          if r < 2048 ∨ (55296 ≤ r ∧ r ≤ 57343) then (0, 0) else (r, 3)
        else (0, 0)
      | _ => (0, 0))
    else if 240 ≤ a.toNat ∧ a.toNat < 245 then (match t with
      | b :: c :: d :: _ => if (128 ≤ b.toNat ∧ b.toNat ≤ 191) ∧ (128 ≤ c.toNat ∧ c.toNat ≤ 191) ∧ (128 ≤ d.toNat ∧ d.toNat ≤ 191) then
          let r : Int := 64 * (64 * (64 * ((a.toNat : Int) - 240) + b.toNat - 128) + c.toNat - 128) + d.toNat - 128
          if r < 65536 ∨ 1114111 < r then (0, 0) else (r, 4)
        else (0, 0)
      | _ => (0, 0))
    else (0, 0)
/-- One turn of Char. -/
theorem turn17 {s : List UInt8} {q : Int × Int × Int × Unit} {x : Int} {i : Nat} {b : UInt8} (hi : (i : Int) < q.2.1) (hi4 : i ≤ 4) (h : s[i]? = some b) (hx : 0 ≤ x) (hx2 : x ≤ 100000000) :
    ref03_Char_l17 s q (x, (i : Int), ()) = if 128 ≤ b.toNat ∧ b.toNat ≤ 191 then some (.inl (64 * x + b.toNat - 128, ((i + 1 : Nat) : Int), ())) else some (.inr (.inr (0, 0, ()))) := by
  have hb : b.toNat < 256 := b.toNat_lt
  simp only [ref03_Char_l17, atI_nat, h, Option.bind_some, cond_dec, if_pos hi]
  rw [wrap64 (n := 64 * x) (by omega) (by omega), wrap64 (n := (b.toNat : Int)) (by omega) (by omega), wrap64 (n := 64 * x + b.toNat) (by omega) (by omega), wrap64 (n := 64 * x + b.toNat - 128) (by omega) (by omega), wrap64 (n := (i : Int) + 1) (by omega) (by omega)]
  by_cases h1 : b.toNat < 128
  · rw [if_pos (by omega), if_neg (by omega)]
  · rw [if_neg (by omega)]
    by_cases h2 : b.toNat > 191
    · rw [if_pos (by omega), if_neg (by omega)]
    · rw [if_neg (by omega), if_pos (by omega)]; rfl
theorem stop17 {s : List UInt8} {q : Int × Int × Int × Unit} {x : Int} {i : Nat} (hi : ¬ (i : Int) < q.2.1) : ref03_Char_l17 s q (x, (i : Int), ()) = some (.inr (.inl (x, ()))) := by
  simp only [ref03_Char_l17, cond_dec, if_neg hi]
theorem loop17_2 {a b : UInt8} {t : List UInt8} {l : Int} {c x : Int} (hx : 0 ≤ x) (hx2 : x ≤ 1000) :
    loopT (ref03_Char_l17 (a :: b :: t) (c, 2, l, ())) (x, 1, ()) = if 128 ≤ b.toNat ∧ b.toNat ≤ 191 then some (.inl (64 * x + b.toNat - 128, ())) else some (.inr (0, 0, ())) := by
  have h := turn17 (s := a :: b :: t) (q := (c, 2, l, ())) (i := 1) (b := b) (x := x) (by simp) (by omega) rfl hx (by omega)
  by_cases hb : 128 ≤ b.toNat ∧ b.toNat ≤ 191
  · rw [if_pos hb] at h ⊢
    exact (loopT_inl h).trans (loopT_inr (stop17 (by simp)))
  · rw [if_neg hb] at h ⊢
    exact loopT_inr h
theorem loop17_3 {a b d : UInt8} {t : List UInt8} {l : Int} {c x : Int} (hx : 0 ≤ x) (hx2 : x ≤ 1000) :
    loopT (ref03_Char_l17 (a :: b :: d :: t) (c, 3, l, ())) (x, 1, ()) = if (128 ≤ b.toNat ∧ b.toNat ≤ 191) ∧ (128 ≤ d.toNat ∧ d.toNat ≤ 191) then some (.inl (64 * (64 * x + b.toNat - 128) + d.toNat - 128, ())) else some (.inr (0, 0, ())) := by
  have hb' := b.toNat_lt
  have h := turn17 (s := a :: b :: d :: t) (q := (c, 3, l, ())) (i := 1) (b := b) (x := x) (by simp) (by omega) rfl hx (by omega)
  by_cases hb : 128 ≤ b.toNat ∧ b.toNat ≤ 191
  · rw [if_pos hb] at h
    have h2 := turn17 (s := a :: b :: d :: t) (q := (c, 3, l, ())) (i := 2) (b := d) (x := 64 * x + b.toNat - 128) (by simp) (by omega) rfl (by omega) (by omega)
    by_cases hd : 128 ≤ d.toNat ∧ d.toNat ≤ 191
    · rw [if_pos hd] at h2
      rw [if_pos ⟨hb, hd⟩]
      exact ((loopT_inl h).trans (loopT_inl h2)).trans (loopT_inr (stop17 (by simp)))
    · rw [if_neg hd] at h2
      rw [if_neg (fun e => hd e.2)]
      exact (loopT_inl h).trans (loopT_inr h2)
  · rw [if_neg hb] at h
    rw [if_neg (fun e => hb e.1)]
    exact loopT_inr h
theorem loop17_4 {a b d e : UInt8} {t : List UInt8} {l : Int} {c x : Int} (hx : 0 ≤ x) (hx2 : x ≤ 1000) :
    loopT (ref03_Char_l17 (a :: b :: d :: e :: t) (c, 4, l, ())) (x, 1, ()) = if (128 ≤ b.toNat ∧ b.toNat ≤ 191) ∧ (128 ≤ d.toNat ∧ d.toNat ≤ 191) ∧ (128 ≤ e.toNat ∧ e.toNat ≤ 191) then some (.inl (64 * (64 * (64 * x + b.toNat - 128) + d.toNat - 128) + e.toNat - 128, ())) else some (.inr (0, 0, ())) := by
  have hb' := b.toNat_lt
  have hd' := d.toNat_lt
  have h := turn17 (s := a :: b :: d :: e :: t) (q := (c, 4, l, ())) (i := 1) (b := b) (x := x) (by simp) (by omega) rfl hx (by omega)
  by_cases hb : 128 ≤ b.toNat ∧ b.toNat ≤ 191
  · rw [if_pos hb] at h
    have h2 := turn17 (s := a :: b :: d :: e :: t) (q := (c, 4, l, ())) (i := 2) (b := d) (x := 64 * x + b.toNat - 128) (by simp) (by omega) rfl (by omega) (by omega)
    by_cases hd : 128 ≤ d.toNat ∧ d.toNat ≤ 191
    · rw [if_pos hd] at h2
      have h3 := turn17 (s := a :: b :: d :: e :: t) (q := (c, 4, l, ())) (i := 3) (b := e) (x := 64 * (64 * x + b.toNat - 128) + d.toNat - 128) (by simp) (by omega) rfl (by omega) (by omega)
      by_cases he : 128 ≤ e.toNat ∧ e.toNat ≤ 191
      · rw [if_pos he] at h3
        rw [if_pos ⟨hb, hd, he⟩]
        exact (((loopT_inl h).trans (loopT_inl h2)).trans (loopT_inl h3)).trans (loopT_inr (stop17 (by simp)))
      · rw [if_neg he] at h3
        rw [if_neg (fun q => he q.2.2)]
        exact ((loopT_inl h).trans (loopT_inl h2)).trans (loopT_inr h3)
    · rw [if_neg hd] at h2
      rw [if_neg (fun q => hd q.2.1)]
      exact (loopT_inl h).trans (loopT_inr h2)
  · rw [if_neg hb] at h
    rw [if_neg (fun q => hb q.1)]
    exact loopT_inr h
theorem char_t (s : List UInt8) : ref03_Char s = some ((charM s).1, ((charM s).2 : Int), ()) := by
  cases s with
  | nil => simp [ref03_Char, charM]
  | cons a t =>
    have ha : a.toNat < 256 := a.toNat_lt
    have h0 : ¬ (((a :: t).length : Int) = 0) := by simp only [List.length_cons]; omega
    have hi : atI (a :: t) 0 = some a := by simp [atI]
    unfold ref03_Char
    simp only [cond_dec, if_neg h0, hi, Option.bind_some, and_join, ite_and2, ite_or2]
    rw [wrap64 (n := (a.toNat : Int)) (by omega) (by omega)]
    by_cases c1 : a.toNat < 128
    · rw [if_pos (by omega)]
      simp only [bind_join_inr, charM, if_pos c1]; rfl
    rw [if_neg (by omega)]
    by_cases c2 : 194 ≤ a.toNat ∧ a.toNat < 224
    · rw [if_pos (by omega), wrap64 (by omega) (by omega)]
      simp only [bind_join_inl]
      match t with
      | [] => simp [charM, c1, c2]
      | b :: t =>
        rw [if_neg (by simp only [List.length_cons]; omega), loop17_2 (by omega) (by omega)]
        by_cases hb : 128 ≤ b.toNat ∧ b.toNat ≤ 191
        · rw [if_pos hb]
          simp only [bind_join_inl]
          rw [guard_join, if_neg (by omega)]
          simp only [charM, c1, c2, hb, if_true, if_false, and_self]; rfl
        · rw [if_neg hb]
          simp only [bind_join_inr]
          simp [charM, c1, c2, hb]
    rw [if_neg (by omega)]
    by_cases c3 : 224 ≤ a.toNat ∧ a.toNat < 240
    · rw [if_pos (by omega), wrap64 (by omega) (by omega)]
      simp only [bind_join_inl]
      match t with
      | [] => simp [charM, c1, c2, c3]
      | [b] => simp [charM, c1, c2, c3]
      | b :: c :: t =>
        have hb := b.toNat_lt
        have hc := c.toNat_lt
        rw [if_neg (by simp only [List.length_cons]; omega), loop17_3 (by omega) (by omega)]
        by_cases hb' : (128 ≤ b.toNat ∧ b.toNat ≤ 191) ∧ (128 ≤ c.toNat ∧ c.toNat ≤ 191)
        · rw [if_pos hb']
          simp only [bind_join_inl]
          rw [guard_join]
          simp only [charM, c1, c2, c3, hb', if_true, if_false, and_self]
          by_cases hr : 64 * (64 * ((a.toNat : Int) - 224) + b.toNat - 128) + c.toNat - 128 < 2048 ∨ (55296 ≤ 64 * (64 * ((a.toNat : Int) - 224) + b.toNat - 128) + c.toNat - 128 ∧ 64 * (64 * ((a.toNat : Int) - 224) + b.toNat - 128) + c.toNat - 128 ≤ 57343)
          · rw [if_pos (by omega), if_pos hr]; rfl
          · rw [if_neg (by omega), if_neg hr]; rfl
        · rw [if_neg hb']
          simp only [bind_join_inr]
          simp [charM, c1, c2, c3, hb']
    rw [if_neg (by omega)]
    by_cases c4 : 240 ≤ a.toNat ∧ a.toNat < 245
    · rw [if_pos (by omega), wrap64 (by omega) (by omega)]
      simp only [bind_join_inl]
      match t with
      | [] => simp [charM, c1, c2, c3, c4]
      | [b] => simp [charM, c1, c2, c3, c4]
      | [b, c] => simp [charM, c1, c2, c3, c4]
      | b :: c :: d :: t =>
        have hb := b.toNat_lt
        have hc := c.toNat_lt
        have hd := d.toNat_lt
        rw [if_neg (by simp only [List.length_cons]; omega), loop17_4 (by omega) (by omega)]
        by_cases hb' : (128 ≤ b.toNat ∧ b.toNat ≤ 191) ∧ (128 ≤ c.toNat ∧ c.toNat ≤ 191) ∧ (128 ≤ d.toNat ∧ d.toNat ≤ 191)
        · rw [if_pos hb']
          simp only [bind_join_inl]
          rw [guard_join]
          simp only [charM, c1, c2, c3, c4, hb', if_true, if_false, and_self]
          by_cases hr : 64 * (64 * (64 * ((a.toNat : Int) - 240) + b.toNat - 128) + c.toNat - 128) + d.toNat - 128 < 65536 ∨ 1114111 < 64 * (64 * (64 * ((a.toNat : Int) - 240) + b.toNat - 128) + c.toNat - 128) + d.toNat - 128
          · rw [if_pos (by omega), if_pos hr]; rfl
          · rw [if_neg (by omega), if_neg hr]; rfl
        · rw [if_neg hb']
          simp only [bind_join_inr]
          simp [charM, c1, c2, c3, c4, hb']
    rw [if_neg (by omega)]
    simp only [bind_join_inr]
    simp [charM, c1, c2, c3, c4]
theorem charM_le (s : List UInt8) : (charM s).2 ≤ s.length := by
  unfold charM
  repeat' split
  all_goals (try simp only [])
  all_goals (try split)
  all_goals (try simp only [List.length_cons])
  all_goals omega
/-- The characters of a text; none: some bytes are none's. -/
def runesM (s : List UInt8) : Option (List Int) :=
  if h : s = [] then some []
  else if h0 : (charM s).2 = 0 then none
  else (runesM (s.drop (charM s).2)).map fun l => (charM s).1 :: l
termination_by s.length
decreasing_by
  have : s.length ≠ 0 := fun e => h (List.eq_nil_of_length_eq_zero e)
  simp only [List.length_drop]; omega
theorem runesM_nil : runesM [] = some [] := by rw [runesM, dif_pos rfl]
theorem runesM_none {s : List UInt8} (h : s ≠ []) (h0 : (charM s).2 = 0) : runesM s = none := by rw [runesM, dif_neg h, dif_pos h0]
theorem runesM_step {s : List UInt8} (h : s ≠ []) (h0 : (charM s).2 ≠ 0) : runesM s = (runesM (s.drop (charM s).2)).map fun l => (charM s).1 :: l := by rw [runesM, dif_neg h, dif_neg h0]
def runesR (s : List UInt8) (out : List Int) : List Int × Bool × Unit :=
  match runesM s with
  | some m => (out ++ m, true, ())
  | none => ([], false, ())
theorem runes_loop {s : List UInt8} (hs : s.length < 4294967296) : ∀ (k i : Nat) (l : List Int), s.length - i ≤ k → i ≤ s.length → l.length ≤ i → loopT (ref03_Runes_l3 s) ((i : Int), l, ()) = some (runesR (s.drop i) l) := by
  intro k
  have fin : ∀ (i : Nat) (l : List Int), ¬ i < s.length → loopT (ref03_Runes_l3 s) ((i : Int), l, ()) = some (runesR (s.drop i) l) := by
    intro i l hi
    rw [List.drop_eq_nil_of_le (by omega), loopT_inr (x := (l, true, ())) (by simp only [ref03_Runes_l3, cond_dec]; rw [if_neg (by omega)])]
    simp [runesR, runesM_nil]
  induction k with
  | zero => intro i l hk hi hl; exact fin i l (by omega)
  | succ k ih =>
    intro i l hk hi hl
    by_cases hlt : i < s.length
    · have hne : s.drop i ≠ [] := fun e => by have := congrArg List.length e; simp at this; omega
      have hle := charM_le (s.drop i)
      simp only [List.length_drop] at hle
      by_cases h0 : (charM (s.drop i)).2 = 0
      · rw [loopT_inr (x := ([], false, ()))]
        · simp only [runesR, runesM_none hne h0]
        · simp only [ref03_Runes_l3, cond_dec]
          rw [if_pos (by omega), subI_from (by omega)]
          simp only [Option.bind_some, char_t]
          rw [if_pos (by omega)]
      · rw [loopT_inl (b := (((i + (charM (s.drop i)).2 : Nat) : Int), l ++ [(charM (s.drop i)).1], ()))]
        · rw [ih _ _ (by omega) (by omega) (by simp; omega)]
          simp only [runesR, runesM_step hne h0, List.drop_drop]
          cases runesM (s.drop (i + (charM (s.drop i)).2)) <;> simp
        · simp only [ref03_Runes_l3, cond_dec]
          rw [if_pos (by omega), subI_from (by omega)]
          simp only [Option.bind_some, char_t]
          rw [if_neg (by omega), roomT_lt (by simp; omega)]
          simp only [Option.bind_some]
          rw [wrap64 (by omega) (by omega)]
          simp
    · exact fin i l hlt
theorem runes_t {s : List UInt8} (hs : s.length < 4294967296) : ref03_Runes s = some (runesR s []) := by
  have := runes_loop hs s.length 0 [] (by omega) (by omega) (by simp)
  simpa [ref03_Runes] using this
def cmpI (a b : Int) : Int := if a < b then -1 else if a > b then 1 else 0
theorem compare_t (a b : Int) : cmp_Compare_int a b = some (cmpI a b) := by
  unfold cmp_Compare_int cmp_isNaN_int cmpI
  simp only [Option.bind_some, decide_true, Bool.not_true, cond_false, cond_dec]
  by_cases h1 : a < b
  · simp [h1]
  · by_cases h2 : a > b <;> simp [h1, h2]
def orI (a b : Int) : Int := if a = 0 then b else a
theorem or_t (a b : Int) : cmp_Or_int [a, b] = some (orI a b) := by
  unfold cmp_Or_int orI
  by_cases h1 : a = 0
  · rw [if_pos h1]
    have t0 : cmp_Or_int_l3 [a, b] (0, ()) = some (.inl (1, ())) := by
      unfold cmp_Or_int_l3
      simp only [cond_dec, List.length_cons, List.length_nil]
      rw [if_pos (by decide)]
      simp [atI, h1, wrap64]
    rw [loopT_inl t0]
    by_cases h2 : b = 0
    · have t1 : cmp_Or_int_l3 [a, b] (1, ()) = some (.inl (2, ())) := by
        unfold cmp_Or_int_l3
        simp only [cond_dec, List.length_cons, List.length_nil]
        rw [if_pos (by decide)]
        simp [atI, h2, wrap64]
      rw [loopT_inl t1, h2]
      refine loopT_inr ?_
      unfold cmp_Or_int_l3
      simp only [cond_dec, List.length_cons, List.length_nil]
      rw [if_neg (by decide)]
    · refine loopT_inr ?_
      unfold cmp_Or_int_l3
      simp only [cond_dec, List.length_cons, List.length_nil]
      rw [if_pos (by decide)]
      simp [atI, h2]
  · rw [if_neg h1]
    refine loopT_inr ?_
    unfold cmp_Or_int_l3
    simp only [cond_dec, List.length_cons, List.length_nil]
    rw [if_pos (by decide)]
    simp [atI, h1]
def cmpD (a b : Int × Int × Unit) : Int := orI (cmpI a.1 b.1) (cmpI a.2.1 b.2.1)
/-! ### a text that is built -/
/-! ### numbers as bytes -/
/-! ### dots -/
def rightM (d : Int × Int × Unit) : Bool := decide (0 ≤ d.1 ∧ d.1 ≤ 15 ∧ 1 ≤ d.2.1 ∧ d.2.1 ≤ 1048576)
/-! ### numerals, read -/
/-! ### numbers, read -/
/-! ### one behind the other -/
/-- A character that is some text's. -/
def Good (c : Int) : Prop := ∃ s, (charM s).2 ≠ 0 ∧ (charM s).1 = c
/-! ### quoted by the program -/
abbrev Val := Int × Int × List UInt8 × Unit
/-! ### the first of some that is not 0 -/
theorem or_turn {l : List Int} {i : Nat} {x : Int} (h : l[i]? = some x) (hl : l.length < 1000000) : cmp_Or_int_l3 l ((i : Int), ()) = if x = 0 then some (.inl (((i + 1 : Nat) : Int), ())) else some (.inr x) := by
  have hi : i < l.length := by
    rcases Nat.lt_or_ge i l.length with h' | h'
    · exact h'
    · rw [List.getElem?_eq_none h'] at h; cases h
  unfold cmp_Or_int_l3
  simp only [cond_dec]
  rw [if_pos (by omega), atI_nat, h]
  simp only [Option.bind_some]
  by_cases hx : x = 0
  · rw [if_pos hx]
    simp only [hx, decide_true, Bool.not_true, cond_false]
    rw [wrap64 (by omega) (by omega)]; rfl
  · rw [if_neg hx]
    simp only [hx, decide_false, Bool.not_false, cond_true]
theorem or3_t (a b c : Int) : cmp_Or_int [a, b, c] = some (orI a (orI b c)) := by
  unfold cmp_Or_int
  have t0 := or_turn (l := [a, b, c]) (i := 0) (x := a) rfl (by simp)
  have t1 := or_turn (l := [a, b, c]) (i := 1) (x := b) rfl (by simp)
  have t2 := or_turn (l := [a, b, c]) (i := 2) (x := c) rfl (by simp)
  have t3 : cmp_Or_int_l3 [a, b, c] (((3 : Nat) : Int), ()) = some (.inr 0) := by
    unfold cmp_Or_int_l3
    simp only [cond_dec, List.length_cons, List.length_nil]
    rw [if_neg (by decide)]
  unfold orI
  by_cases h0 : a = 0
  · rw [if_pos h0] at t0 ⊢
    rw [show ((0 : Int), ()) = (((0 : Nat) : Int), ()) from rfl, loopT_inl t0]
    by_cases h1 : b = 0
    · rw [if_pos h1] at t1 ⊢
      rw [loopT_inl t1]
      by_cases h2 : c = 0
      · rw [if_pos h2] at t2
        rw [loopT_inl t2, loopT_inr t3, h2]
      · rw [if_neg h2] at t2
        rw [loopT_inr t2]
    · rw [if_neg h1] at t1 ⊢
      rw [loopT_inr t1]
  · rw [if_neg h0] at t0 ⊢
    exact loopT_inr t0
/-! ### bytes in a row -/
theorem cb_neg : ∀ a b : List UInt8, Lib.compareBytes b a = - Lib.compareBytes a b
  | [], [] => rfl
  | [], _ :: _ => rfl
  | _ :: _, [] => rfl
  | x :: a, y :: b => by
    simp only [Lib.compareBytes, UInt8.lt_iff_toNat_lt]
    by_cases h1 : x.toNat < y.toNat
    · have h2 : ¬ y.toNat < x.toNat := by omega
      simp only [if_pos h1, if_neg h2]
      rfl
    · by_cases h2 : y.toNat < x.toNat
      · simp only [if_pos h2, if_neg h1]
      · simp only [if_neg h2, if_neg h1]; exact cb_neg a b
theorem cb_zero : ∀ a b : List UInt8, Lib.compareBytes a b = 0 ↔ a = b
  | [], [] => by simp [Lib.compareBytes]
  | [], _ :: _ => by simp [Lib.compareBytes]
  | _ :: _, [] => by simp [Lib.compareBytes]
  | x :: a, y :: b => by
    simp only [Lib.compareBytes, UInt8.lt_iff_toNat_lt]
    by_cases h1 : x.toNat < y.toNat
    · rw [if_pos h1]
      constructor
      · intro h; cases h
      · intro h; cases h; omega
    · rw [if_neg h1]
      by_cases h2 : y.toNat < x.toNat
      · rw [if_pos h2]
        constructor
        · intro h; cases h
        · intro h; cases h; omega
      · rw [if_neg h2, cb_zero a b]
        have : x = y := UInt8.toNat_inj.1 (by omega)
        subst this
        simp
theorem cb_one : ∀ a b : List UInt8, Lib.compareBytes a b = -1 ∨ Lib.compareBytes a b = 0 ∨ Lib.compareBytes a b = 1
  | [], [] => .inr (.inl rfl)
  | [], _ :: _ => .inl rfl
  | _ :: _, [] => .inr (.inr rfl)
  | x :: a, y :: b => by
    simp only [Lib.compareBytes]
    split
    · exact .inl rfl
    · split
      · exact .inr (.inr rfl)
      · exact cb_one a b
theorem cb_trans : ∀ a b c : List UInt8, Lib.compareBytes a b ≤ 0 → Lib.compareBytes b c ≤ 0 → Lib.compareBytes a c ≤ 0
  | [], b, [], _, _ => by simp [Lib.compareBytes]
  | [], b, _ :: _, _, _ => by simp [Lib.compareBytes]
  | _ :: _, [], _, h, _ => by simp [Lib.compareBytes] at h
  | x :: a, y :: b, [], _, h => by simp [Lib.compareBytes] at h
  | x :: a, y :: b, z :: c, h, k => by
    simp only [Lib.compareBytes, UInt8.lt_iff_toNat_lt] at h k ⊢
    by_cases h1 : x.toNat < y.toNat
    · by_cases k1 : y.toNat < z.toNat
      · rw [if_pos (by omega)]; omega
      · rw [if_neg k1] at k
        by_cases k2 : z.toNat < y.toNat
        · rw [if_pos k2] at k; omega
        · rw [if_pos (by omega)]; omega
    · rw [if_neg h1] at h
      by_cases h2 : y.toNat < x.toNat
      · rw [if_pos h2] at h; omega
      · rw [if_neg h2] at h
        by_cases k1 : y.toNat < z.toNat
        · rw [if_pos (by omega)]; omega
        · rw [if_neg k1] at k
          by_cases k2 : z.toNat < y.toNat
          · rw [if_pos k2] at k; omega
          · rw [if_neg k2] at k
            rw [if_neg (by omega), if_neg (by omega)]
            exact cb_trans a b c h k
/-! ### values in a row -/
def cmpV (a b : Val) : Int := orI (cmpI a.1 b.1) (orI (cmpI a.2.1 b.2.1) (Lib.compareBytes a.2.2.1 b.2.2.1))
theorem eqVal (a b : Val) : eqV (.agg (.cons (.int .i64) (.cons (.int .i64) (.cons .str .unit)))) a b = decide (a = b) := by
  obtain ⟨k, n, s, ⟨⟩⟩ := a
  obtain ⟨k', n', s', ⟨⟩⟩ := b
  simp only [eqV, Bool.and_true]
  rw [Bool.eq_iff_iff]
  simp
/-! ### the reference's row -/
theorem ints9_t (a b : Int) : ref09_ints a b = some (cmpI a b) := by
  unfold ref09_ints cmpI
  simp only [cond_dec]
  by_cases h1 : a < b
  · simp [h1]
  · by_cases h2 : a > b <;> simp [h1, h2]
theorem dropC {A : Type} {s : List A} {i : Nat} (h : i < s.length) : s.drop i = s[i] :: s.drop (i + 1) := List.drop_eq_getElem_cons h
theorem texts_loop {a b : List UInt8} (ha : a.length < 1000000) : ∀ (k i : Nat), a.length - i ≤ k → i ≤ a.length → i ≤ b.length →
    ((loopT (ref09_Texts_l2 a b) ((i : Int), ()) : Option (Unit ⊕ Int)).bind (joinS fun _ => some (cmpI (a.length : Int) (b.length : Int)))) = some (Lib.compareBytes (a.drop i) (b.drop i)) := by
  intro k
  have fin : ∀ i : Nat, i ≤ a.length → i ≤ b.length → ¬ (i < a.length ∧ i < b.length) → ((loopT (ref09_Texts_l2 a b) ((i : Int), ()) : Option (Unit ⊕ Int)).bind (joinS fun _ => some (cmpI (a.length : Int) (b.length : Int)))) = some (Lib.compareBytes (a.drop i) (b.drop i)) := by
    intro i h1 h2 h3
    have hl : loopT (ref09_Texts_l2 a b) ((i : Int), ()) = some (.inl ()) := by
      refine loopT_inr ?_
      unfold ref09_Texts_l2
      simp only [cond_dec]
      by_cases h4 : (i : Int) < (a.length : Int)
      · rw [if_pos h4, if_neg (by omega)]
      · rw [if_neg h4]
    rw [hl, bind_join_inl]
    congr 1
    unfold cmpI
    by_cases h4 : i < a.length
    · have e : b.drop i = [] := List.drop_eq_nil_of_le (by omega)
      rw [e, dropC h4]
      simp only [Lib.compareBytes]
      rw [if_neg (by omega), if_pos (by omega)]
    · have e : a.drop i = [] := List.drop_eq_nil_of_le (by omega)
      rw [e]
      by_cases h5 : i < b.length
      · rw [dropC h5]
        simp only [Lib.compareBytes]
        rw [if_pos (by omega)]
      · have e : b.drop i = [] := List.drop_eq_nil_of_le (by omega)
        rw [e]
        simp only [Lib.compareBytes]
        rw [if_neg (by omega), if_neg (by omega)]
  induction k with
  | zero => intro i hk h1 h2; exact fin i h1 h2 (by omega)
  | succ k ih =>
    intro i hk h1 h2
    by_cases h3 : i < a.length ∧ i < b.length
    · obtain ⟨h3, h4⟩ := h3
      rw [dropC h3, dropC h4]
      simp only [Lib.compareBytes, UInt8.lt_iff_toNat_lt]
      by_cases he : a[i].toNat = b[i].toNat
      · rw [if_neg (by omega), if_neg (by omega), ← ih (i + 1) (by omega) (by omega) (by omega)]
        rw [loopT_inl (b := (((i + 1 : Nat) : Int), ()))]
        unfold ref09_Texts_l2
        simp only [cond_dec]
        rw [if_pos (by omega), if_pos (by omega), atI_lt h3, atI_lt h4]
        simp only [Option.bind_some]
        rw [decide_eq_true (by omega)]
        simp only [Bool.not_true, cond_false]
        rw [wrap64 (by omega) (by omega)]; rfl
      · have ba := a[i].toNat_lt
        have bb := b[i].toNat_lt
        have hl : loopT (ref09_Texts_l2 a b) ((i : Int), ()) = some (.inr (cmpI (a[i].toNat : Int) (b[i].toNat : Int))) := by
          refine loopT_inr ?_
          unfold ref09_Texts_l2
          simp only [cond_dec]
          rw [if_pos (by omega), if_pos (by omega), atI_lt h3, atI_lt h4]
          simp only [Option.bind_some]
          rw [decide_eq_false (by omega)]
          simp only [Bool.not_false, cond_true, ints9_t, Option.bind_some]
          rw [wrap64 (by omega) (by omega), wrap64 (by omega) (by omega)]
        rw [hl, bind_join_inr]
        congr 1
        unfold cmpI
        by_cases h5 : a[i].toNat < b[i].toNat
        · rw [if_pos (by omega), if_pos h5]
        · rw [if_neg (by omega), if_neg h5, if_pos (by omega), if_pos (by omega)]
    · exact fin i h1 h2 h3
theorem texts_t {a b : List UInt8} (ha : a.length < 1000000) : ref09_Texts a b = some (Lib.compareBytes a b) := by
  have := texts_loop (b := b) ha a.length 0 (by omega) (by omega) (by omega)
  simp only [List.drop_zero] at this
  unfold ref09_Texts
  simp only [ints9_t, Option.bind_some]
  exact this
/-! ### characters -/
theorem runesR_ok {s : List UInt8} : (runesR s []).2.1 = (runesM s).isSome := by
  unfold runesR; cases runesM s <;> rfl
/-! ### right values -/
def rightV (v : Val) : Bool := decide ((v.1 = 1 ∧ v.2.2.1 = [] ∧ -2147483647 ≤ v.2.1 ∧ v.2.1 ≤ 2147483647) ∨ (v.1 = 2 ∧ v.2.1 = 0 ∧ (runesM v.2.2.1).isSome = true ∧ v.2.2.1.length ≤ 64) ∨ (v.1 = 3 ∧ v.2.2.1 = [] ∧ 0 ≤ v.2.1 ∧ v.2.1 ≤ 1))
theorem refRight9_t {v : Val} (hv : v.2.2.1.length < 4294967296) : ref09_Right v = some (rightV v) := by
  unfold ref09_Right rightV
  simp only [runes_t (s := v.2.2.1) (by omega), Option.bind_some, runesR_ok, cond_dec]
  by_cases h1 : v.1 = 1
  · rw [if_pos h1]
    by_cases h2 : v.2.2.1 = []
    · by_cases h3 : v.2.1 ≥ -2147483647
      · simp only [h1, h2, h3]; simp <;> omega
      · simp only [h1, h2]; simp [h3] <;> omega
    · simp [h1, h2]
  rw [if_neg h1]
  by_cases h2 : v.1 = 2
  · rw [if_pos h2]
    cases hr : (runesM v.2.2.1).isSome with
    | true =>
      by_cases h3 : v.2.1 = 0
      · simp only [h2, h3]; simp <;> omega
      · simp [h2, h3]
    | false => by_cases h3 : v.2.1 = 0 <;> simp [h2, h3]
  rw [if_neg h2]
  by_cases h3 : v.1 = 3
  · rw [if_pos h3]
    by_cases h4 : v.2.2.1 = []
    · by_cases h5 : v.2.1 ≥ 0
      · simp only [h3, h4]; simp [h5] <;> omega
      · simp only [h3, h4]; simp [h5] <;> omega
    · simp [h3, h4]
  rw [if_neg h3]
  simp [h1, h2, h3]
/-! ### texts in quotes -/
theorem rightV_cases {v : Val} (h : rightV v = true) : (∃ n : Int, v = (1, n, [], ()) ∧ -2147483647 ≤ n ∧ n ≤ 2147483647) ∨ (∃ s l, v = (2, 0, s, ()) ∧ runesM s = some l ∧ s.length ≤ 64) ∨ v = (3, 0, [], ()) ∨ v = (3, 1, [], ()) := by
  obtain ⟨k, n, s, ⟨⟩⟩ := v
  unfold rightV at h
  simp only [decide_eq_true_eq] at h
  rcases h with ⟨rfl, rfl, h1, h2⟩ | ⟨rfl, rfl, h1, h2⟩ | ⟨rfl, rfl, h1, h2⟩
  · exact .inl ⟨n, rfl, h1, h2⟩
  · cases hr : runesM s with
    | none => rw [hr] at h1; cases h1
    | some l => exact .inr (.inl ⟨s, l, rfl, hr, h2⟩)
  · have : n = 0 ∨ n = 1 := by omega
    rcases this with rfl | rfl
    · exact .inr (.inr (.inl rfl))
    · exact .inr (.inr (.inr rfl))
/-! ### a right value's bytes -/
theorem code_parts {v : Val} (h : rightV v = true) : -2147483648 ≤ v.2.1 ∧ v.2.1 ≤ 2147483647 ∧ 1 ≤ v.1 ∧ v.1 ≤ 3 ∧ v.2.2.1.length ≤ 64 := by
  rcases rightV_cases h with ⟨n, rfl, h1, h2⟩ | ⟨s, l, rfl, h1, h2⟩ | rfl | rfl
  · simp; omega
  · simp; omega
  · simp
  · simp
abbrev Path := List (List UInt8)
/-! ### orders -/
theorem cb_cmp : Cmp Lib.compareBytes where
  one a b := by have := cb_one a b; omega
  neg a b := cb_neg a b
  zero a b := cb_zero a b
  trans a b d h1 h2 := by
    have h3 := cb_trans a b d (by omega) (by omega)
    rcases Int.lt_or_eq_of_le h3 with h | h
    · exact h
    · have e := (cb_zero a d).1 h
      subst e
      have := cb_neg a b
      omega
theorem ci_cmp : Cmp cmpI where
  one a b := by
    unfold cmpI
    split
    · omega
    · split <;> omega
  neg a b := by
    unfold cmpI
    by_cases h1 : a < b
    · rw [if_neg (by omega), if_pos (by omega), if_pos h1]; rfl
    · by_cases h2 : a > b
      · rw [if_pos (by omega), if_neg h1, if_pos h2]
      · rw [if_neg (by omega), if_neg (by omega), if_neg h1, if_neg h2]; rfl
  zero a b := by
    unfold cmpI
    by_cases h1 : a < b
    · rw [if_pos h1]; constructor <;> intro h <;> omega
    · by_cases h2 : a > b
      · rw [if_neg h1, if_pos h2]; constructor <;> intro h <;> omega
      · rw [if_neg h1, if_neg h2]; constructor <;> intro h <;> omega
  trans a b d h1 h2 := by
    unfold cmpI at h1 h2 ⊢
    have e1 : a < b := by
      by_cases h : a < b
      · exact h
      · rw [if_neg h] at h1; split at h1 <;> omega
    have e2 : b < d := by
      by_cases h : b < d
      · exact h
      · rw [if_neg h] at h2; split at h2 <;> omega
    rw [if_pos (by omega)]; omega
/-! ### names -/
def mayM (c : Int) : Bool := decide (32 ≤ c ∧ (c < 127 ∨ 159 < c) ∧ c ≠ 65533)
def nameM (s : List UInt8) : Bool := match runesM s with
  | some l => decide (1 ≤ l.length ∧ l.length ≤ 24) && l.all mayM
  | none => false
/-! ### paths -/
def checkM (p : Path) : Int := if p.length = 0 then 8 else if p.length > 8 then 9 else if p.all nameM = true then 0 else 8
/-! ### alike -/
instance decE1 : DecidableEq (List Val × Int × Unit) := fun a b => @instDecidableEqProd (List Val) (Int × Unit) inferInstance inferInstance a b
instance decE2 : DecidableEq (Int × List Val × Int × Unit) := fun a b => @instDecidableEqProd Int (List Val × Int × Unit) inferInstance decE1 a b
theorem ite_bool {b : Bool} : (if b = true then true else false) = b := by cases b <;> rfl
theorem strsEq_t {a b : Path} (ha : a.length < 1000000) : slices_Equal_Sl_string_string a b = some (decide (a = b)) := by
  unfold slices_Equal_Sl_string_string
  by_cases hl : a.length = b.length
  · rw [decide_eq_true (by omega)]
    simp only [Bool.not_true, cond_false]
    have := loop_all2 (f := slices_Equal_Sl_string_string_l4 a b) (l := a) (m := b) (fun i => ((i : Int), ())) (fun x y => decide (x = y)) true false hl (fun i h h' => by
      unfold slices_Equal_Sl_string_string_l4
      simp only [cond_dec]
      rw [if_pos (by omega), atI_lt h, atI_lt h']
      simp only [Option.bind_some]
      cases decide (a[i] = b[i]) with
      | true => simp only [Bool.not_true, cond_false, if_true]; rw [wrap64 (by omega) (by omega)]; rfl
      | false => rfl) (by
      unfold slices_Equal_Sl_string_string_l4
      simp only [cond_dec]
      rw [if_neg (by omega)])
    rw [all2_dec, ite_bool] at this
    exact this
  · rw [decide_eq_false (by omega)]
    have : a ≠ b := fun e => hl (by rw [e])
    rw [decide_eq_false this]; rfl
theorem refValsEq_t {a b : List Val} (ha : a.length < 1000000) : ref09_Same a b = some (decide (a = b)) := by
  unfold ref09_Same
  by_cases hl : a.length = b.length
  · rw [decide_eq_true (by omega)]
    simp only [Bool.not_true, cond_false]
    have := loop_all2 (f := ref09_Same_l4 a b) (l := a) (m := b) (fun i => ((i : Int), ())) (fun x y => decide (x = y)) true false hl (fun i h h' => by
      unfold ref09_Same_l4
      simp only [cond_dec]
      rw [if_pos (by omega), atI_lt h, atI_lt h']
      simp only [Option.bind_some, eqVal]
      cases decide (a[i] = b[i]) with
      | true => simp only [Bool.not_true, cond_false, if_true]; rw [wrap64 (by omega) (by omega)]; rfl
      | false => rfl) (by
      unfold ref09_Same_l4
      simp only [cond_dec]
      rw [if_neg (by omega)])
    rw [all2_dec, ite_bool] at this
    exact this
  · rw [decide_eq_false (by omega)]
    have : a ≠ b := fun e => hl (by rw [e])
    rw [decide_eq_false this]; rfl
theorem pathSame_t {a b : Path} (ha : a.length < 1000000) : path_Same a b = some (decide (a = b)) := by
  unfold path_Same
  rw [strsEq_t ha]; rfl
theorem foldE_inl {R X S : Type} {g : S → X → S} {fin : S → R} : ∀ (l : List X) (i : Nat) (s : S), foldE (fun _ x s => .inl (g s x)) fin i l s = fin (l.foldl g s)
  | [], _, s => rfl
  | x :: l, i, s => by simp only [foldE, List.foldl_cons]; exact foldE_inl l (i + 1) (g s x)
/-! ### texts -/
theorem sum_mem {A : Type} {f : A → Nat} : ∀ {l : List A} {x : A}, x ∈ l → f x ≤ (l.map f).sum
  | y :: l, x, h => by
    simp only [List.map_cons, List.sum_cons]
    rcases List.mem_cons.1 h with rfl | h
    · omega
    · have := sum_mem (f := f) h
      omega
abbrev tyVal : Ty := .agg (.cons (.int .i64) (.cons (.int .i64) (.cons .str .unit)))
theorem half_t {n : Nat} (h : n < 9000000) : shrT .u64 (IntKind.wrap .u64 (IntKind.wrap .i64 (n : Int))) 1 = some ((n / 2 : Nat) : Int) := by
  rw [wrap64 (by omega) (by omega)]
  have w : IntKind.wrap .u64 (n : Int) = (n : Int) := by simp [IntKind.wrap, IntKind.bits, IntKind.signed]; omega
  rw [w]
  unfold shrT
  rw [if_neg (by omega)]
  have e : (2 : Int) ^ min (Int.toNat 1) (IntKind.bits .u64) = 2 := by decide
  rw [e, Int.fdiv_eq_ediv_of_nonneg _ (by omega)]
  congr 1
theorem valueCompare_t (a b : Val) : value_Compare a b = some (cmpV a b) := by
  unfold value_Compare cmpV strings_Compare cmpT
  simp only [compare_t, or3_t, Option.bind_some]
theorem refCompare9_t {a b : Val} (ha : a.2.2.1.length < 1000000) : ref09_Compare a b = some (cmpV a b) := by
  unfold ref09_Compare cmpV orI
  simp only [ints9_t, texts_t ha, Option.bind_some]
  unfold cmpI
  by_cases h1 : a.1 = b.1
  · simp only [h1, decide_true, Bool.not_true, cond_false]
    by_cases h2 : a.2.1 = b.2.1
    · simp [h2]
    · simp only [h2, decide_false, Bool.not_false, cond_true]
      by_cases h3 : a.2.1 < b.2.1
      · simp [h3]
      · have h4 : b.2.1 < a.2.1 := by omega
        simp [h3, h4]
  · simp only [h1, decide_false, Bool.not_false, cond_true]
    by_cases h3 : a.1 < b.1
    · simp [h3]
    · have h4 : b.1 < a.1 := by omega
      simp [h3, h4]
end Go.Proofs.Ytcnhiodbnmploaa.Q

/- Plain laws: dots, references, transactions that may be, counts. -/
set_option linter.unusedVariables false
set_option linter.unusedSimpArgs false
set_option maxRecDepth 100000
namespace Go.Proofs.Ytcnhiodbnmploaa.Q
open Go.EM Go.TY Go.Proofs Go.Proofs.Ytcnhiodbnmploaa.Y
abbrev Dot1 := Int × Int × Unit
abbrev Ref1 := Dot1 × Int × Unit
abbrev Op1 := Int × Path × Val × Int × List Ref1 × Unit
abbrev Txn1 := Dot1 × Int × Int × Bool × List Op1 × Unit
abbrev Item1 := Ref1 × Op1 × Int × Unit
abbrev tyRef : Ty := .agg (.cons (.agg (.cons (.int .i64) (.cons (.int .i64) .unit))) (.cons (.int .i64) .unit))
/-! ### orders -/
theorem Cmp_map {K L : Type} {c : K → K → Int} (h : Cmp c) (f : L → K) (hf : ∀ a b, f a = f b → a = b) : Cmp fun a b => c (f a) (f b) where
  one a b := h.one _ _
  neg a b := h.neg _ _
  zero a b := ⟨fun e => hf _ _ ((h.zero _ _).1 e), fun e => (h.zero _ _).2 (by rw [e])⟩
  trans a b d := h.trans _ _ _
theorem cd_cmp : Cmp cmpD := by
  have : cmpD = fun a b => cmpB cmpI cmpI ((fun x : Dot1 => (x.1, x.2.1)) a) ((fun x : Dot1 => (x.1, x.2.1)) b) := rfl
  rw [this]
  exact Cmp_map (ci_cmp.pair ci_cmp) _ fun a b h => by
    obtain ⟨a1, a2, ⟨⟩⟩ := a; obtain ⟨b1, b2, ⟨⟩⟩ := b
    simp only [Prod.mk.injEq] at h
    rw [h.1, h.2]
def cmpR (a b : Ref1) : Int := orI (cmpD a.1 b.1) (cmpI a.2.1 b.2.1)
theorem cv_cmp : Cmp cmpV := by
  have : cmpV = fun a b => cmpB cmpI (cmpB cmpI Lib.compareBytes) ((fun x : Val => (x.1, x.2.1, x.2.2.1)) a) ((fun x : Val => (x.1, x.2.1, x.2.2.1)) b) := rfl
  rw [this]
  exact Cmp_map (ci_cmp.pair (ci_cmp.pair cb_cmp)) _ fun a b h => by
    obtain ⟨a1, a2, a3, ⟨⟩⟩ := a; obtain ⟨b1, b2, b3, ⟨⟩⟩ := b
    simp only [Prod.mk.injEq] at h
    rw [h.1, h.2.1, h.2.2]
theorem dotC_t (a b : Dot1) : dot_Compare a b = some (cmpD a b) := by
  unfold dot_Compare
  simp only [compare_t, or_t, Option.bind_some]
  rfl
/-! ### lists that rise, told neighbour by neighbour -/
/-! ### operations -/
theorem eqRef (a b : Ref1) : eqV tyRef a b = decide (a = b) := by
  obtain ⟨⟨a1, a2, ⟨⟩⟩, a3, ⟨⟩⟩ := a
  obtain ⟨⟨b1, b2, ⟨⟩⟩, b3, ⟨⟩⟩ := b
  simp only [eqV, Prod.mk.injEq, and_true]
  by_cases h1 : a1 = b1 <;> by_cases h2 : a2 = b2 <;> by_cases h3 : a3 = b3 <;> simp [h1, h2, h3]
def refOk (x : Ref1) : Bool := rightM x.1 && decide (0 ≤ x.2.1 ∧ x.2.1 ≤ 15)
def refsAt (l : List Ref1) (i : Nat) : Bool :=
  match l[i]? with
  | some x => refOk x && (decide (i = 0) || match l[i - 1]? with
    | some y => decide (cmpR y x = -1)
    | none => false)
  | none => false
open Classical in
noncomputable def refsM (l : List Ref1) : Bool := if (∀ i, i < l.length → refsAt l i = true) then true else false
def zeroV : Val := (0, 0, [], ())
/-- May an operation be? -/
noncomputable def opM (o : Op1) : Int :=
  if o.1 < 1 ∨ 5 < o.1 then 18 else if checkM o.2.1 ≠ 0 then checkM o.2.1
  else if (o.1 = 3 ∨ o.1 = 5) ∧ o.2.2.1 ≠ zeroV then 2
  else if ¬ (o.1 = 3 ∨ o.1 = 5) ∧ rightV o.2.2.1 = false then 2
  else if o.1 ≠ 3 ∧ o.2.2.2.1 ≠ 0 then 2
  else if o.1 = 3 ∧ (o.2.2.2.1 = 0 ∨ o.2.2.2.1 > 2147483647 ∨ o.2.2.2.1 < -2147483647) then 2
  else if (o.1 = 2 ∨ o.1 = 3) ∧ 0 < o.2.2.2.2.1.length then 2
  else if 256 < o.2.2.2.2.1.length then 7
  else if refsM o.2.2.2.2.1 = true then 0 else 2
/-- Few parts, of few bytes? -/
def shortO (o : Op1) : Prop := o.2.1.length ≤ 12 ∧ (∀ x ∈ o.2.1, x.length ≤ 120) ∧ o.2.2.1.2.2.1.length ≤ 200 ∧ o.2.2.2.2.1.length ≤ 300
/-- The zero one? -/
def goneM (o : Op1) : Bool := decide (o.1 = 0 ∧ o.2.1 = [] ∧ o.2.2.1 = zeroV ∧ o.2.2.2.1 = 0 ∧ o.2.2.2.2.1 = [])
end Go.Proofs.Ytcnhiodbnmploaa.Q

/- Plain laws: transactions that may be, counts, what counts. -/
set_option linter.unusedVariables false
set_option linter.unusedSimpArgs false
set_option maxRecDepth 100000
namespace Go.Proofs.Ytcnhiodbnmploaa.Q
open Go.EM Go.TY Go.Proofs Go.Proofs.Ytcnhiodbnmploaa.Y
/-! ### short, and right -/
/-! ### those of which statements ask -/
def oneM (x : Ref1) : Bool := rightM x.1 && decide (1 ≤ x.2.1 ∧ x.2.1 ≤ 64)
abbrev riseU (u : List Ref1) : Prop := Rises cmpD (·.1) u
structure CountsOk (u : List Ref1) : Prop where
  len : u.length ≤ 100
  rise : riseU u
  one : ∀ x ∈ u, oneM x = true
/-- A transaction of which statements ask. -/
structure TxnOk (t : Txn1) : Prop where
  len : t.2.2.2.2.1.length ≤ 16
  pos : 0 < t.2.2.2.2.1.length
  ops : ∀ o ∈ t.2.2.2.2.1, shortO o ∧ (opM o = 0 ∨ t.2.2.2.1 = true ∧ goneM o = true)
  dot : rightM t.1 = true
  user : 0 ≤ t.2.1 ∧ t.2.1 ≤ 7
  time : 1 ≤ t.2.2.1 ∧ t.2.2.1 ≤ 1099511627776
abbrev riseT (l : List Txn1) : Prop := Rises cmpD (·.1) l
structure TxnsOk (l : List Txn1) (n : Nat) : Prop where
  len : l.length ≤ n
  rise : riseT l
  all : ∀ t ∈ l, TxnOk t
end Go.Proofs.Ytcnhiodbnmploaa.Q

/- Plain laws: counts, and what counts. -/
set_option linter.unusedVariables false
set_option linter.unusedSimpArgs false
set_option maxRecDepth 100000
namespace Go.Proofs.Ytcnhiodbnmploaa.Q
open Go.EM Go.TY Go.Proofs Go.Proofs.Ytcnhiodbnmploaa.Y
/-! ### counts -/
def getM (u : List Ref1) (d : Dot1) : Int := match u with
  | [] => 0
  | x :: u => if x.1 = d then x.2.1 else getM u d
abbrev loU (d : Dot1) (u : List Ref1) : List Ref1 := lo cmpD (·.1) d u
abbrev hiU (d : Dot1) (u : List Ref1) : List Ref1 := hi cmpD (·.1) d u
theorem getM_none {d : Dot1} : ∀ {u : List Ref1}, (∀ x ∈ u, x.1 ≠ d) → getM u d = 0
  | [], _ => rfl
  | x :: u, h => by
    unfold getM
    rw [if_neg (h x (List.mem_cons_self ..))]
    exact getM_none fun y hy => h y (List.mem_cons_of_mem _ hy)
theorem getM_app {d : Dot1} : ∀ {p q : List Ref1}, (∀ x ∈ p, x.1 ≠ d) → getM (p ++ q) d = getM q d
  | [], _, _ => rfl
  | x :: p, q, h => by
    rw [List.cons_append]
    conv => lhs; unfold getM
    rw [if_neg (h x (List.mem_cons_self ..))]
    exact getM_app fun y hy => h y (List.mem_cons_of_mem _ hy)
theorem tallyC_t (a b : Ref1) : tally_compare a b = some (cmpD a.1 b.1) := by
  unfold tally_compare
  rw [dotC_t]; rfl
theorem tsearch_loop {u : List Ref1} {d : Ref1} (hl : u.length < 1000000) (hr : riseU u) : ∀ (k i j : Nat), j - i ≤ k → i ≤ (loU d.1 u).length → (loU d.1 u).length ≤ j → j ≤ u.length →
    loopT (slices_BinarySearchFunc_Sl_api_Undo_api_Undo_api_Undo__tally_compare_l3 u d) ((i : Int), (j : Int), ()) = some (.inl (((loU d.1 u).length : Int), ())) := by
  intro k
  induction k with
  | zero =>
    intro i j hk h1 h2 h3
    refine loopT_inr ?_
    unfold slices_BinarySearchFunc_Sl_api_Undo_api_Undo_api_Undo__tally_compare_l3
    simp only [cond_dec]
    rw [if_neg (by omega), show (loU d.1 u).length = i by omega]
  | succ k ih =>
    intro i j hk h1 h2 h3
    by_cases hij : i < j
    · have hh : (i + j) / 2 < u.length := by omega
      have turn : slices_BinarySearchFunc_Sl_api_Undo_api_Undo_api_Undo__tally_compare_l3 u d ((i : Int), (j : Int), ()) = if cmpD u[(i + j) / 2].1 d.1 < 0 then some (.inl ((((i + j) / 2 + 1 : Nat) : Int), (j : Int), ())) else some (.inl ((i : Int), (((i + j) / 2 : Nat) : Int), ())) := by
        unfold slices_BinarySearchFunc_Sl_api_Undo_api_Undo_api_Undo__tally_compare_l3
        simp only [cond_dec]
        rw [if_pos (by omega), show (i : Int) + (j : Int) = ((i + j : Nat) : Int) by omega, half_t (by omega)]
        simp only [Option.bind_some]
        rw [wrap64 (n := (((i + j) / 2 : Nat) : Int)) (by omega) (by omega), atI_lt hh]
        simp only [Option.bind_some, tallyC_t]
        rw [wrap64 (by omega) (by omega)]; rfl
      by_cases hn : (i + j) / 2 < (loU d.1 u).length
      · rw [if_pos (at_lo hh hn)] at turn
        rw [loopT_inl turn]
        exact ih _ _ (by omega) (by omega) h2 h3
      · have := at_hi cd_cmp hr hh (k := d.1) (Nat.le_of_not_lt hn)
        rw [if_neg (by omega)] at turn
        rw [loopT_inl turn]
        exact ih _ _ (by omega) h1 (by omega) (by omega)
    · refine loopT_inr ?_
      unfold slices_BinarySearchFunc_Sl_api_Undo_api_Undo_api_Undo__tally_compare_l3
      simp only [cond_dec]
      rw [if_neg (by omega), show (loU d.1 u).length = i by omega]
theorem cmpD_ne {a b : Dot1} (h : cmpD a b ≠ 0) : a ≠ b := fun e => h ((cd_cmp.zero _ _).2 e)
def hereU (q : List Ref1) (d : Dot1) : Bool := match q with
  | [] => false
  | x :: _ => decide (cmpD x.1 d = 0)
theorem tsearch_t {u : List Ref1} {d : Ref1} (hl : u.length < 1000000) (hr : riseU u) :
    slices_BinarySearchFunc_Sl_api_Undo_api_Undo_api_Undo__tally_compare u d () = some (((loU d.1 u).length : Int), hereU (hiU d.1 u) d.1, ()) := by
  have e2 : loU d.1 u ++ hiU d.1 u = u := lohi
  have hlen : (loU d.1 u).length + (hiU d.1 u).length = u.length := by rw [← List.length_append, e2]
  unfold slices_BinarySearchFunc_Sl_api_Undo_api_Undo_api_Undo__tally_compare
  have := tsearch_loop (d := d) hl hr u.length 0 u.length (by omega) (by omega) (by omega) (by omega)
  rw [show ((0 : Int), (u.length : Int), ()) = (((0 : Nat) : Int), (u.length : Int), ()) from rfl, this, bind_join_inl]
  simp only [cond_dec]
  cases hq : hiU d.1 u with
  | nil =>
    rw [hq] at hlen
    simp only [List.length_nil] at hlen
    rw [if_neg (by omega)]; rfl
  | cons x q =>
    rw [hq] at hlen e2
    simp only [List.length_cons] at hlen
    rw [if_pos (by omega), atI_nat]
    have e3 : u[(loU d.1 u).length]? = some x := by
      have : (loU d.1 u ++ x :: q)[(loU d.1 u).length]? = some x := by simp
      rw [e2] at this
      exact this
    rw [e3]
    simp only [Option.bind_some, tallyC_t]
    rfl
theorem lo_neU {u : List Ref1} {d : Dot1} {x : Ref1} (hx : x ∈ loU d u) : x.1 ≠ d := by
  have h := lo_below (c := cmpD) (key := fun y : Ref1 => y.1) (k := d) (l := u) x hx
  exact cmpD_ne (fun e => by rw [e] at h; omega)
theorem tallyGet_t {u : List Ref1} {d : Dot1} (hl : u.length < 1000000) (hr : riseU u) : tally_Get u d = some (getM u d) := by
  have e2 : loU d u ++ hiU d u = u := lohi
  have hlo : ∀ x ∈ loU d u, x.1 ≠ d := fun x hx => lo_neU hx
  unfold tally_Get tally_at
  rw [tsearch_t (d := (d, 0, ())) hl hr]
  simp only [Option.bind_some]
  have hg : getM u d = getM (hiU d u) d := by
    conv => lhs; rw [← e2]
    exact getM_app hlo
  rw [hg]
  cases hq : hiU d u with
  | nil => rfl
  | cons x q =>
    have hab := hi_above cd_cmp hr hq
    unfold hereU
    simp only [cond_dec]
    by_cases h0 : cmpD x.1 d = 0
    · rw [if_pos h0, atI_nat]
      have e3 : u[(loU d u).length]? = some x := by
        have : (loU d u ++ x :: q)[(loU d u).length]? = some x := by simp
        rw [← hq, e2] at this
        exact this
      rw [e3]
      simp only [Option.bind_some]
      unfold getM
      rw [if_pos ((cd_cmp.zero _ _).1 h0)]
    · rw [if_neg h0, getM_none]
      intro y hy
      rcases List.mem_cons.1 hy with e | hy
      · subst e; exact cmpD_ne h0
      · exact cmpD_ne (by have := hab.2 y hy; omega)
def seenM (u : List Ref1) (d : Dot1) : Bool := match remT (getM u d) 2 with
  | some x => decide (x = 0)
  | none => false
theorem rem2 (a : Int) : ∃ x, remT a 2 = some x := ⟨_, by unfold remT; rw [if_neg (by omega)]⟩
theorem tallySeen_t {u : List Ref1} {d : Dot1} (hl : u.length < 1000000) (hr : riseU u) : tally_Seen u d = some (seenM u d) := by
  unfold tally_Seen seenM
  rw [tallyGet_t hl hr]
  obtain ⟨x, hx⟩ := rem2 (getM u d)
  simp only [Option.bind_some, hx]
/-! ### maps of references -/
theorem find_put {x y : Ref1} {v : Bool} : ∀ {m : List (Ref1 × Bool)}, findK tyRef x (putK tyRef y v m) = if x = y then some v else findK tyRef x m
  | [] => by
    unfold putK findK
    rw [eqRef, cond_dec]
    unfold findK
    rfl
  | e :: m => by
    unfold putK
    rw [eqRef]
    by_cases hy : y = e.1
    · rw [decide_eq_true hy, cond_true]
      conv => lhs; unfold findK
      conv => rhs; rhs; unfold findK
      rw [eqRef, eqRef, cond_dec, cond_dec, ← hy]
      by_cases hx : x = y
      · rw [if_pos hx, if_pos hx]
      · rw [if_neg hx, if_neg hx, if_neg hx]
    · rw [decide_eq_false hy, cond_false]
      conv => lhs; unfold findK
      conv => rhs; rhs; unfold findK
      rw [eqRef, cond_dec, cond_dec, find_put]
      by_cases hx : x = e.1
      · rw [if_pos hx, if_neg (fun e' => hy (by rw [← e', hx])), if_pos hx]
      · rw [if_neg hx, if_neg hx]
def hasK (x : Ref1) (m : List (Ref1 × Bool)) : Bool := (getK tyRef false x m).1
theorem has_put {x y : Ref1} {m : List (Ref1 × Bool)} : hasK x (putK tyRef y true m) = (decide (x = y) || hasK x m) := by
  unfold hasK getK
  rw [find_put]
  by_cases h : x = y
  · rw [if_pos h, decide_eq_true h]; rfl
  · rw [if_neg h, decide_eq_false h, Bool.false_or]
def putAll (m : List (Ref1 × Bool)) (l : List Ref1) : List (Ref1 × Bool) := l.foldl (fun m x => putK tyRef x true m) m
theorem has_all {x : Ref1} : ∀ {l : List Ref1} {m : List (Ref1 × Bool)}, hasK x (putAll m l) = (l.any (fun y => decide (x = y)) || hasK x m)
  | [], m => rfl
  | y :: l, m => by
    have := has_all (x := x) (l := l) (m := putK tyRef y true m)
    unfold putAll at this ⊢
    rw [List.foldl_cons, this, has_put, List.any_cons]
    cases decide (x = y) <;> cases l.any (fun y => decide (x = y)) <;> rfl
def coverO (o : Op1) (x : Ref1) : Bool := o.2.2.2.2.1.any fun y => decide (x = y)
def covT (m : List (Ref1 × Bool)) (l : List Op1) : List (Ref1 × Bool) := l.foldl (fun m o => putAll m o.2.2.2.2.1) m
theorem has_covT {x : Ref1} : ∀ {l : List Op1} {m : List (Ref1 × Bool)}, hasK x (covT m l) = (l.any (fun o => coverO o x) || hasK x m)
  | [], m => rfl
  | o :: l, m => by
    have := has_covT (x := x) (l := l) (m := putAll m o.2.2.2.2.1)
    unfold covT at this ⊢
    rw [List.foldl_cons, this, has_all, List.any_cons]
    unfold coverO
    cases o.2.2.2.2.1.any (fun y => decide (x = y)) <;> cases l.any (fun o => o.2.2.2.2.1.any fun y => decide (x = y)) <;> rfl
def covL (u : List Ref1) (m : List (Ref1 × Bool)) (l : List Txn1) : List (Ref1 × Bool) := l.foldl (fun m t => if seenM u t.1 = true then covT m t.2.2.2.2.1 else m) m
/-- Does a transaction that counts cover an operation? -/
def covM (l : List Txn1) (u : List Ref1) (x : Ref1) : Bool := l.any fun t => seenM u t.1 && t.2.2.2.2.1.any fun o => coverO o x
theorem has_covL {x : Ref1} {u : List Ref1} : ∀ {l : List Txn1} {m : List (Ref1 × Bool)}, hasK x (covL u m l) = (covM l u x || hasK x m)
  | [], m => rfl
  | t :: l, m => by
    have := has_covL (x := x) (u := u) (l := l) (m := if seenM u t.1 = true then covT m t.2.2.2.2.1 else m)
    unfold covL at this ⊢
    rw [List.foldl_cons, this]
    unfold covM
    rw [List.any_cons]
    by_cases hs : seenM u t.1 = true
    · rw [if_pos hs, has_covT, hs, Bool.true_and]
      cases t.2.2.2.2.1.any (fun o => coverO o x) <;> cases l.any (fun t => seenM u t.1 && t.2.2.2.2.1.any fun o => coverO o x) <;> rfl
    · rw [if_neg hs, eq_false_of_ne_true hs, Bool.false_and, Bool.false_or]
/-- Bounds. -/
structure Low (l : List Txn1) : Prop where
  len : l.length ≤ 1000
  ops : ∀ t ∈ l, t.2.2.2.2.1.length ≤ 1000
  seen : ∀ t ∈ l, ∀ o ∈ t.2.2.2.2.1, o.2.2.2.2.1.length < 1000000
structure LowU (u : List Ref1) : Prop where
  len : u.length < 1000000
  rise : riseU u
theorem covered_t {l : List Txn1} {u : List Ref1} (hl : Low l) (hu : LowU u) : live_covered l u = some (covL u [] l) := by
  have outer := loop_list (S := List (Ref1 × Bool)) (f := live_covered_l3 l u) (l := l) (fun i m => ((i : Int), m, ())) (fun _ t m => .inl (if seenM u t.1 = true then covT m t.2.2.2.2.1 else m)) (fun m => m) (fun _ _ => True) (fun i h m _ => by
    refine .inl ⟨_, rfl, ?_, trivial⟩
    have hi := hl.len
    unfold live_covered_l3
    simp only [cond_dec]
    rw [if_pos (by omega), atI_lt h]
    simp only [Option.bind_some, tallySeen_t hu.len hu.rise]
    have hops := hl.ops _ (List.getElem_mem h)
    by_cases hs : seenM u l[i].1 = true
    · rw [hs, Bool.not_true, cond_false, if_pos rfl]
      have mid := loop_list (S := List (Ref1 × Bool)) (f := live_covered_l7 ((i : Int), m, ()) l[i]) (l := l[i].2.2.2.2.1) (fun k m => ((k : Int), m, ())) (fun _ o m => .inl (putAll m o.2.2.2.2.1)) (fun m' => (.inl (((i + 1 : Nat) : Int), m', ()) : (Int × List (Ref1 × Bool) × Unit) ⊕ List (Ref1 × Bool))) (fun _ _ => True) (fun k hk m' _ => by
        refine .inl ⟨_, rfl, ?_, trivial⟩
        have hseen := hl.seen _ (List.getElem_mem h) _ (List.getElem_mem hk)
        unfold live_covered_l7
        simp only [cond_dec]
        rw [if_pos (by omega), atI_lt hk]
        simp only [Option.bind_some]
        have inner := loop_list (S := List (Ref1 × Bool)) (f := live_covered_l10 ((k : Int), m', ()) l[i].2.2.2.2.1[k]) (l := l[i].2.2.2.2.1[k].2.2.2.2.1) (fun j m => ((j : Int), m, ())) (fun _ x m => .inl (putK tyRef x true m)) (fun m'' => (.inl (((k + 1 : Nat) : Int), m'', ()) : (Int × List (Ref1 × Bool) × Unit) ⊕ ((Int × List (Ref1 × Bool) × Unit) ⊕ List (Ref1 × Bool)))) (fun _ _ => True) (fun j hj m'' _ => by
          refine .inl ⟨_, rfl, ?_, trivial⟩
          unfold live_covered_l10
          simp only [cond_dec]
          rw [if_pos (by omega), atI_lt hj]
          simp only [Option.bind_some]
          rw [wrap64 (by omega) (by omega)]; rfl) (fun m'' _ => by
          unfold live_covered_l10
          simp only [cond_dec]
          rw [if_neg (by omega), wrap64 (by omega) (by omega)]; rfl) m' trivial
        rw [show ((0 : Int), m', ()) = (((0 : Nat) : Int), m', ()) from rfl, inner, foldE_inl]
        rfl) (fun m' _ => by
        unfold live_covered_l7
        simp only [cond_dec]
        rw [if_neg (by omega), wrap64 (by omega) (by omega)]; rfl) m trivial
      rw [show ((0 : Int), m, ()) = (((0 : Nat) : Int), m, ()) from rfl, mid, foldE_inl]
      rfl
    · rw [if_neg hs, eq_false_of_ne_true hs, Bool.not_false, cond_true, wrap64 (by omega) (by omega)]; rfl) (fun m _ => by
    unfold live_covered_l3
    simp only [cond_dec]
    rw [if_neg (by omega)]) [] trivial
  unfold live_covered
  rw [show ((0 : Int), ([] : List (Ref1 × Bool)), ()) = (((0 : Nat) : Int), [], ()) from rfl, outer, foldE_inl]
  rfl
/-! ### what counts -/
def putKind (k : Int) : Bool := decide (1 ≤ k ∧ k ≤ 3)
def itemAt (p : Ref1 → Bool) (t : Txn1) (k : Nat) (o : Op1) : List Item1 := if putKind o.1 = true ∧ p (t.1, (k : Int), ()) = false then [((t.1, (k : Int), ()), o, t.2.2.1, ())] else []
def itemsM (p : Ref1 → Bool) (t : Txn1) : Nat → List Op1 → List Item1
  | _, [] => []
  | k, o :: l => itemAt p t k o ++ itemsM p t (k + 1) l
def allM (l : List Txn1) (u : List Ref1) : List Item1 := l.flatMap fun t => if seenM u t.1 = true then itemsM (covM l u) t 0 t.2.2.2.2.1 else []
theorem itemAt_len {p : Ref1 → Bool} {t : Txn1} {k : Nat} {o : Op1} : (itemAt p t k o).length ≤ 1 := by
  unfold itemAt; split <;> simp
theorem items_len {p : Ref1 → Bool} {t : Txn1} : ∀ {l : List Op1} {k : Nat}, (itemsM p t k l).length ≤ l.length
  | [], _ => Nat.le_refl _
  | o :: l, k => by
    have := items_len (p := p) (t := t) (l := l) (k := k + 1)
    have := itemAt_len (p := p) (t := t) (k := k) (o := o)
    unfold itemsM
    rw [List.length_append, List.length_cons]; omega
theorem items_fold {R : Type} {p : Ref1 → Bool} {t : Txn1} {fin : List Item1 → R} : ∀ (l : List Op1) (k : Nat) (o : List Item1), foldE (fun k x o => .inl (o ++ itemAt p t k x)) fin k l o = fin (o ++ itemsM p t k l)
  | [], k, o => by simp [foldE, itemsM]
  | x :: l, k, o => by
    unfold foldE itemsM
    simp only
    rw [items_fold l (k + 1), List.append_assoc]
theorem flat_fold {A B R : Type} {g : A → List B} {fin : List B → R} : ∀ (l : List A) (i : Nat) (o : List B), foldE (fun _ x o => .inl (o ++ g x)) fin i l o = fin (o ++ l.flatMap g)
  | [], i, o => by simp [foldE]
  | x :: l, i, o => by
    unfold foldE
    simp only
    rw [flat_fold l (i + 1), List.flatMap_cons, List.append_assoc]
theorem all_t {l : List Txn1} {u : List Ref1} (hl : Low l) (hu : LowU u) : live_All l u = some (allM l u) := by
  unfold live_All
  rw [covered_t hl hu, Option.bind_some]
  have hp : (fun x => hasK x (covL u [] l)) = covM l u := by
    funext x
    rw [has_covL]
    exact Bool.or_false _
  generalize hm : covL u [] l = m at hp ⊢
  have outer := loop_list (S := List Item1) (f := live_All_l4 l u) (l := l) (fun i o => ((i : Int), m, o, ())) (fun _ t o => .inl (o ++ if seenM u t.1 = true then itemsM (covM l u) t 0 t.2.2.2.2.1 else [])) (fun o => o) (fun i o => o.length ≤ i * 1000) (fun i h o ho => by
    have hi := hl.len
    have hops := hl.ops _ (List.getElem_mem h)
    refine .inl ⟨_, rfl, ?_, ?_⟩
    · unfold live_All_l4
      simp only [cond_dec]
      rw [if_pos (by omega), atI_lt h]
      simp only [Option.bind_some, tallySeen_t hu.len hu.rise]
      by_cases hs : seenM u l[i].1 = true
      · rw [hs, Bool.not_true, cond_false, if_pos rfl]
        have inner := loop_list (S := List Item1) (f := live_All_l8 ((i : Int), m, o, ()) l[i]) (l := l[i].2.2.2.2.1) (fun k o => ((k : Int), m, o, l[i], ())) (fun k x o => .inl (o ++ itemAt (covM l u) l[i] k x)) (fun o' => (.inl (((i + 1 : Nat) : Int), m, o', ()) : (Int × List (Ref1 × Bool) × List Item1 × Unit) ⊕ List Item1)) (fun k o' => o'.length ≤ i * 1000 + k) (fun k hk o' ho' => by
          refine .inl ⟨_, rfl, ?_, ?_⟩
          · have hget : (getK tyRef false (l[i].1, (k : Int), ()) m).1 = covM l u (l[i].1, (k : Int), ()) := by rw [← hp]; rfl
            unfold live_All_l8 itemAt
            simp only [cond_dec]
            rw [if_pos (by omega), atI_lt hk]
            simp only [Option.bind_some]
            have hget : (getK (.agg (.cons (.agg (.cons (.int .i64) (.cons (.int .i64) .unit))) (.cons (.int .i64) .unit))) false (l[i].1, (k : Int), ()) m).1 = covM l u (l[i].1, (k : Int), ()) := hget
            rw [hget, wrap64 (by omega) (by omega), roomT_lt (by simp; omega)]
            simp only [Option.bind_some]
            have hk' : putKind l[i].2.2.2.2.1[k].1 = true ↔ (l[i].2.2.2.2.1[k].1 = 1 ∨ l[i].2.2.2.2.1[k].1 = 2 ∨ l[i].2.2.2.2.1[k].1 = 3) := by unfold putKind; simp only [decide_eq_true_eq]; omega
            by_cases hc : covM l u (l[i].1, (k : Int), ()) = true
            · rw [hc]
              simp only [Bool.not_true, cond_false, Bool.true_eq_false, and_false, if_false, List.append_nil]
              split
              · rfl
              · split
                · rfl
                · split <;> rfl
            · rw [eq_false_of_ne_true hc]
              simp only [Bool.not_false, cond_true, and_true]
              by_cases h1 : l[i].2.2.2.2.1[k].1 = 1
              · rw [if_pos h1, if_pos (hk'.2 (.inl h1))]; rfl
              · by_cases h2 : l[i].2.2.2.2.1[k].1 = 2
                · rw [if_neg h1, if_pos h2, if_pos (hk'.2 (.inr (.inl h2)))]; rfl
                · by_cases h3 : l[i].2.2.2.2.1[k].1 = 3
                  · rw [if_neg h1, if_neg h2, if_pos h3, if_pos (hk'.2 (.inr (.inr h3)))]; rfl
                  · rw [if_neg h1, if_neg h2, if_neg h3, if_neg (fun e => by rcases hk'.1 e with e | e | e; exact h1 e; exact h2 e; exact h3 e), List.append_nil]; rfl
          · have := itemAt_len (p := covM l u) (t := l[i]) (k := k) (o := l[i].2.2.2.2.1[k])
            rw [List.length_append]; omega) (fun o' ho' => by
          unfold live_All_l8
          simp only [cond_dec]
          rw [if_neg (by omega), wrap64 (by omega) (by omega)]; rfl) o (by omega)
        rw [show ((0 : Int), m, o, l[i], ()) = (((0 : Nat) : Int), m, o, l[i], ()) from rfl, inner, items_fold]
      · rw [if_neg hs, eq_false_of_ne_true hs, Bool.not_false, cond_true, wrap64 (by omega) (by omega), List.append_nil]; rfl
    · have := items_len (p := covM l u) (t := l[i]) (l := l[i].2.2.2.2.1) (k := 0)
      rw [List.length_append, Nat.succ_mul]
      split
      · omega
      · simp; omega) (fun o _ => by
    unfold live_All_l4
    simp only [cond_dec]
    rw [if_neg (by omega)]) [] (by simp)
  rw [show ((0 : Int), m, ([] : List Item1), ()) = (((0 : Nat) : Int), m, [], ()) from rfl, outer, flat_fold]
  rfl
end Go.Proofs.Ytcnhiodbnmploaa.Q

/- Plain laws: what slices.Compact leaves. No program in sight. -/
set_option linter.unusedVariables false
set_option linter.unusedSimpArgs false
namespace Go.Proofs.Ytcnhiodbnmploaa.Q
open Go.EM Go.TY
section
variable {A : Type} [DecidableEq A]
def sqzS (o : List A) (x : A) : List A := if o.getLast? = some x then o else o ++ [x]
/-- Each once of those that stand side by side. -/
def sqz (l : List A) : List A := l.foldl sqzS []
theorem sqz_app {l : List A} {x : A} : sqz (l ++ [x]) = sqzS (sqz l) x := by unfold sqz; rw [List.foldl_append]; rfl
theorem sqz_last : ∀ {l : List A}, (sqz l).getLast? = l.getLast? := by
  intro l
  rcases List.eq_nil_or_concat l with rfl | ⟨l, x, rfl⟩
  · rfl
  · rw [List.concat_eq_append, sqz_app]
    unfold sqzS
    by_cases h : (sqz l).getLast? = some x
    · rw [if_pos h, h]; simp
    · rw [if_neg h]; simp
theorem sqz_mem {x : A} : ∀ (n : Nat) (l : List A), l.length = n → (x ∈ sqz l ↔ x ∈ l) := by
  intro n
  induction n with
  | zero => intro l h; rw [List.length_eq_zero_iff.1 h]; exact Iff.rfl
  | succ n ih =>
    intro l h
    rcases List.eq_nil_or_concat l with rfl | ⟨l, y, rfl⟩
    · cases h
    · rw [List.concat_eq_append] at h ⊢
      rw [List.length_append] at h
      have := ih l (by simpa using h)
      rw [sqz_app]
      unfold sqzS
      split
      · rename_i hl
        rw [this, List.mem_append, List.mem_singleton]
        constructor
        · exact .inl
        · rintro (h1 | h1)
          · exact h1
          · subst h1; rw [← this]; exact List.mem_of_getLast? hl
      · rw [List.mem_append, List.mem_append, this]
variable {K : Type} {c : K → K → Int} {key : A → K}
theorem sqz_rises (hc : Cmp c) (hk : ∀ a b, c (key a) (key b) = 0 → a = b) : ∀ (n : Nat) (l : List A), l.length = n → (l.Pairwise fun x y => c (key x) (key y) ≤ 0) → Rises c key (sqz l) := by
  intro n
  induction n with
  | zero => intro l h _; rw [List.length_eq_zero_iff.1 h]; exact List.Pairwise.nil
  | succ n ih =>
    intro l h hp
    rcases List.eq_nil_or_concat l with rfl | ⟨l, y, rfl⟩
    · cases h
    · rw [List.concat_eq_append] at h hp ⊢
      rw [List.length_append] at h
      have hp' := List.pairwise_append.1 hp
      have hr := ih l (by simpa using h) hp'.1
      rw [sqz_app]
      unfold sqzS
      split
      · exact hr
      · rename_i hl
        refine List.pairwise_append.2 ⟨hr, List.pairwise_singleton .., fun a ha b hb => ?_⟩
        rw [List.mem_singleton] at hb
        subst hb
        have ha' := (sqz_mem _ l rfl).1 ha
        have hab := hp'.2.2 a ha' b (List.mem_singleton.2 rfl)
        rcases Int.lt_or_eq_of_le hab with h1 | h1
        · exact h1
        · have e := hk _ _ h1
          subst e
          rcases List.eq_nil_or_concat (sqz l) with e0 | ⟨q, z, e0⟩
          · rw [e0] at ha; cases ha
          · rw [List.concat_eq_append] at e0
            rw [e0] at hl ha hr
            have hz : z ∈ l := by rw [← sqz_mem _ l rfl, e0]; simp
            have hza := hp'.2.2 z hz a (List.mem_singleton.2 rfl)
            rw [List.getLast?_append] at hl
            simp only [List.getLast?_singleton, Option.some_or, Option.some.injEq] at hl
            rcases List.mem_append.1 ha with hq | hq
            · have := (List.pairwise_append.1 hr).2.2 a hq z (List.mem_singleton.2 rfl)
              have hn := hc.neg (key a) (key z)
              omega
            · exact absurd (List.mem_singleton.1 hq).symm hl
end
end Go.Proofs.Ytcnhiodbnmploaa.Q

/- Plain laws: the document's rows of what counts; those at a path; registers. -/
set_option linter.unusedVariables false
set_option linter.unusedSimpArgs false
set_option maxRecDepth 100000
namespace Go.Proofs.Ytcnhiodbnmploaa.Q
open Go.EM Go.TY Go.Proofs Go.Proofs.Ytcnhiodbnmploaa.Y
/-! ### those at a path -/
def leafM (k : Int) : Int := if k = 1 then 1 else if k = 2 ∨ k = 4 then 2 else if k = 3 then 3 else 0
theorem opLeaf_t (k : Int) : op_Leaf k = some (leafM k) := by
  unfold op_Leaf leafM
  simp only [cond_dec]
  by_cases h1 : k = 1
  · rw [if_pos h1, if_pos h1]
  · by_cases h2 : k = 2
    · subst h2; rfl
    · by_cases h4 : k = 4
      · subst h4; rfl
      · by_cases h3 : k = 3
        · subst h3; rfl
        · simp [h1, h2, h3, h4]
def isAt (p : Path) (leaf : Int) (x : Item1) : Bool := decide (leafM x.2.1.1 = leaf) && decide (x.2.1.2.1 = p)
def atM (l : List Item1) (p : Path) (leaf : Int) : List Item1 := l.filter (isAt p leaf)
theorem flatMap_if {A : Type} {q : A → Bool} : ∀ {l : List A}, (l.flatMap fun x => if q x = true then [x] else []) = l.filter q
  | [] => rfl
  | x :: l => by
    rw [List.flatMap_cons, flatMap_if, List.filter_cons]
    split <;> rfl
/-- Bounds of items. -/
structure LowI (l : List Item1) : Prop where
  len : l.length < 1000000
  path : ∀ x ∈ l, x.2.1.2.1.length < 1000000 ∧ ∀ s ∈ x.2.1.2.1, s.length < 1000000
theorem at_t {l : List Item1} {p : Path} {leaf : Int} (hl : LowI l) : live_At l p leaf = some (atM l p leaf) := by
  have hlen := hl.len
  have := loop_map (f := live_At_l3 l p leaf) (l := l) (fun i o => ((i : Int), o, ())) (fun x => if isAt p leaf x = true then [x] else []) (fun o => o) 1 (fun x _ => by split <;> simp) (fun i h o ho => by
    have hp := (hl.path _ (List.getElem_mem h)).1
    unfold live_At_l3 isAt
    simp only [cond_dec]
    rw [if_pos (by omega), atI_lt h]
    simp only [Option.bind_some, opLeaf_t, pathSame_t hp]
    rw [wrap64 (by omega) (by omega), roomT_lt (by simp; omega)]
    simp only [Option.bind_some, cond_dec]
    by_cases h1 : leafM l[i].2.1.1 = leaf
    · rw [if_pos h1, decide_eq_true h1, Bool.true_and]
      by_cases h2 : l[i].2.1.2.1 = p
      · rw [if_pos h2, decide_eq_true h2]; rfl
      · rw [if_neg h2, decide_eq_false h2]; simp
    · rw [if_neg h1, decide_eq_false h1]; simp) (fun o _ => by
    unfold live_At_l3
    simp only [cond_dec]
    rw [if_neg (by omega)])
  unfold live_At atM
  rw [show ((0 : Int), ([] : List Item1), ()) = (((0 : Nat) : Int), [], ()) from rfl, this, flatMap_if]
theorem atM_low {l : List Item1} {p : Path} {leaf : Int} (hl : LowI l) : LowI (atM l p leaf) := ⟨Nat.lt_of_le_of_lt (List.length_filter_le ..) hl.len, fun x hx => hl.path x (List.mem_filter.1 hx).1⟩
/-! ### what was put last -/
theorem dotRefs_t (a b : Ref1) : dot_Refs a b = some (cmpR a b) := by
  unfold dot_Refs
  simp only [dotC_t, compare_t, or_t, Option.bind_some]
  rfl
def cmpT1 (a b : Item1) : Int := orI (cmpI a.2.2.1 b.2.2.1) (cmpR a.1 b.1)
theorem lastC_t (a b : Item1) : reg_Latest_1 a b = some (cmpT1 a b) := by
  unfold reg_Latest_1
  simp only [dotRefs_t, compare_t, or_t, Option.bind_some]
  rfl
def maxM (x : Item1) (l : List Item1) : Item1 := l.foldl (fun m y => if cmpT1 y m > 0 then y else m) x
def latestM (l : List Item1) : Val × Bool × Unit := match l with
  | [] => (zeroV, false, ())
  | x :: l => ((maxM x l).2.1.2.2.1, true, ())
theorem latest_t {l : List Item1} {p : Path} (hl : LowI l) : reg_Latest l p = some (latestM (atM l p 1)) := by
  unfold reg_Latest
  rw [at_t hl]
  have hlow := atM_low (p := p) (leaf := 1) hl
  generalize atM l p 1 = q at hlow
  simp only [Option.bind_some, cond_dec]
  cases q with
  | nil => rfl
  | cons x q =>
    rw [if_neg (by simp only [List.length_cons]; omega)]
    have hlen := hlow.len
    rw [List.length_cons] at hlen
    unfold slices_MaxFunc_Sl_live_Item_live_Item__reg_Latest_1
    simp only [cond_dec]
    rw [if_neg (by simp only [List.length_cons]; omega), show (0 : Int) = ((0 : Nat) : Int) from rfl, atI_lt (by simp)]
    simp only [Option.bind_some, List.getElem_cons_zero]
    have loop := loop_list (S := Item1) (f := slices_MaxFunc_Sl_live_Item_live_Item__reg_Latest_1_l5 (x :: q)) (l := q) (fun i m => (((i + 1 : Nat) : Int), (((0, 0, ()), 0, ()), (0, (), (0, 0, [], ()), 0, (), ()), 0, ()), m, ())) (fun _ y m => .inl (if cmpT1 y m > 0 then y else m)) (fun m => m) (fun _ _ => True) (fun i h m _ => by
      refine .inl ⟨_, rfl, ?_, trivial⟩
      unfold slices_MaxFunc_Sl_live_Item_live_Item__reg_Latest_1_l5
      simp only [cond_dec]
      rw [if_pos (by simp only [List.length_cons]; omega), atI_lt (show i + 1 < (x :: q).length by simpa using h)]
      simp only [Option.bind_some, lastC_t, List.getElem_cons_succ]
      rw [wrap64 (by omega) (by omega)]
      split <;> rfl) (fun m _ => by
      unfold slices_MaxFunc_Sl_live_Item_live_Item__reg_Latest_1_l5
      simp only [cond_dec]
      rw [if_neg (by simp only [List.length_cons]; omega)]) x trivial
    rw [foldE_inl] at loop
    have e1 : (((0 + 1 : Nat)) : Int) = 1 := rfl
    rw [e1] at loop
    rw [show ((0 : Nat) : Int) = 0 from rfl, loop]
    rfl
end Go.Proofs.Ytcnhiodbnmploaa.Q

/- Plain laws: slices.Compact of one's own row; a register's values. -/
set_option linter.unusedVariables false
set_option linter.unusedSimpArgs false
set_option maxRecDepth 100000
namespace Go.Proofs.Ytcnhiodbnmploaa.Q
open Go.EM Go.TY Go.Proofs Go.Proofs.Ytcnhiodbnmploaa.Y
/-! ### slices.Compact -/
theorem emp_false {A : Type} {w : List A} (h : 0 < w.length) : w.isEmpty = false := by cases w with
  | nil => cases h
  | cons _ _ => rfl
theorem viewI_nat {n a b : Nat} (h1 : a ≤ b) (h2 : b ≤ n) : viewI n (a : Int) (b : Int) = some (a, b - a) := by
  unfold viewI
  rw [if_pos ⟨by omega, by omega, by omega⟩]; simp
theorem sqzS_take {l : List Val} {i : Nat} (hi : i < l.length) (h0 : 0 < i) : sqz (l.take (i + 1)) = if l[i - 1]'(by omega) = l[i] then sqz (l.take i) else sqz (l.take i) ++ [l[i]] := by
  rw [List.take_add_one, List.getElem?_eq_getElem hi, Option.toList_some, sqz_app]
  unfold sqzS
  have e : (sqz (l.take i)).getLast? = some (l[i - 1]'(by omega)) := by
    rw [sqz_last, List.getLast?_eq_getElem?, List.length_take, show min i l.length - 1 = i - 1 by omega, List.getElem?_take_of_lt (by omega), List.getElem?_eq_getElem (by omega)]
  rw [e]
  by_cases h : l[i - 1]'(by omega) = l[i]
  · rw [if_pos (by rw [h]), if_pos h]
  · rw [if_neg (fun e => h (Option.some.inj e)), if_neg h]
/-- Where compacting stands. -/
structure Mid (l w : List Val) (i0 k i : Nat) : Prop where
  len : w.length = l.length
  head : w.take i = sqz (l.take (i0 + k))
  rest : ∀ j, i0 + k - 1 ≤ j → w[j]? = l[j]?
  low : i ≤ i0 + k - 1
theorem compact_inner {l : List Val} {i0 : Nat} (hl : l.length < 1000000) (h0 : 0 < i0) (hi0 : i0 < l.length) : ∀ (n k i : Nat) (w : List Val), l.length - i0 - k ≤ n → 1 ≤ k → k ≤ l.length - i0 → Mid l w i0 k i →
    ∃ w' i', Mid l w' i0 (l.length - i0) i' ∧ loopT slices_Compact_Sl_api_Value_api_Value_l9 ((i : Int), (i0, l.length - i0), (k : Int), w, ()) = some (.inl ((i' : Int), w', ())) := by
  intro n
  induction n with
  | zero =>
    intro k i w hn hk1 hk hm
    have e : k = l.length - i0 := by omega
    subst e
    refine ⟨w, i, hm, loopT_inr ?_⟩
    unfold slices_Compact_Sl_api_Value_api_Value_l9
    simp only [cond_dec]
    rw [if_neg (by omega)]
  | succ n ih =>
    intro k i w hn hk1 hk hm
    by_cases hlt : k < l.length - i0
    · have hwl := hm.len
      have hw : 0 < w.length := by omega
      have hk0 : i0 + k < l.length := by omega
      have ea : w[i0 + k]? = some (l[i0 + k]) := by rw [hm.rest _ (by omega), List.getElem?_eq_getElem hk0]
      have eb : w[i0 + (k - 1)]? = some (l[i0 + k - 1]'(by omega)) := by rw [show i0 + (k - 1) = i0 + k - 1 by omega, hm.rest _ (by omega), List.getElem?_eq_getElem (by omega)]
      have hlow := hm.low
      have hiw : i < w.length := by omega
      have turn : slices_Compact_Sl_api_Value_api_Value_l9 ((i : Int), (i0, l.length - i0), (k : Int), w, ()) = if l[i0 + k - 1]'(by omega) = l[i0 + k] then some (.inl ((i : Int), (i0, l.length - i0), ((k + 1 : Nat) : Int), w, ())) else some (.inl (((i + 1 : Nat) : Int), (i0, l.length - i0), ((k + 1 : Nat) : Int), w.set i l[i0 + k], ())) := by
        unfold slices_Compact_Sl_api_Value_api_Value_l9
        simp only [cond_dec]
        rw [if_pos (by omega), emp_false hw]
        simp only [cond_false]
        rw [inI_nat hlt, wrap64 (n := (k : Int) - 1) (by omega) (by omega), show (k : Int) - 1 = ((k - 1 : Nat) : Int) by omega, inI_nat (show k - 1 < l.length - i0 by omega)]
        simp only [Option.bind_some]
        rw [ea, eb]
        simp only [Option.bind_some, eqVal]
        rw [wrap64 (by omega) (by omega), wrap64 (by omega) (by omega)]
        by_cases hx : l[i0 + k] = l[i0 + k - 1]'(by omega)
        · rw [if_pos hx.symm, decide_eq_true hx]; rfl
        · rw [if_neg (fun e => hx e.symm), decide_eq_false hx, inI_nat hiw]
          simp only [Bool.not_false, cond_true, Option.bind_some]
          rw [List.getElem?_eq_getElem hiw]
          rfl
      have hsq := sqzS_take (l := l) (i := i0 + k) hk0 (by omega)
      by_cases hx : l[i0 + k - 1]'(by omega) = l[i0 + k]
      · rw [if_pos hx] at turn hsq
        rw [loopT_inl turn]
        exact ih (k + 1) i w (by omega) (by omega) (by omega) ⟨hwl, by rw [hm.head, show i0 + (k + 1) = i0 + k + 1 by omega, hsq], fun j hj => hm.rest j (by omega), by omega⟩
      · rw [if_neg hx] at turn hsq
        rw [loopT_inl turn]
        refine ih (k + 1) (i + 1) _ (by omega) (by omega) (by omega) ⟨by rw [List.length_set]; exact hwl, ?_, fun j hj => ?_, by omega⟩
        · rw [show i0 + (k + 1) = i0 + k + 1 by omega, hsq, ← hm.head, List.take_add_one, List.take_set_of_le (by omega), List.getElem?_set_self hiw]; rfl
        · rw [List.getElem?_set_ne (by omega)]
          exact hm.rest j (by omega)
    · have e : k = l.length - i0 := by omega
      subst e
      refine ⟨w, i, hm, loopT_inr ?_⟩
      unfold slices_Compact_Sl_api_Value_api_Value_l9
      simp only [cond_dec]
      rw [if_neg (by omega)]
theorem compact_outer {l : List Val} (hl : l.length < 1000000) : ∀ (n i : Nat), l.length - i ≤ n → 1 ≤ i → i ≤ l.length → sqz (l.take i) = l.take i →
    loopT slices_Compact_Sl_api_Value_api_Value_l4 ((i : Int), l, ()) = some (sqz l) := by
  intro n
  induction n with
  | zero =>
    intro i hn h1 hi hs
    have e : i = l.length := by omega
    subst e
    rw [List.take_of_length_le (Nat.le_refl _)] at hs
    refine loopT_inr ?_
    unfold slices_Compact_Sl_api_Value_api_Value_l4
    simp only [cond_dec]
    rw [if_neg (by omega), hs]
  | succ n ih =>
    intro i hn h1 hi hs
    by_cases hlt : i < l.length
    · have hsq := sqzS_take (l := l) (i := i) hlt (by omega)
      have he : l.isEmpty = false := emp_false (by omega)
      by_cases hx : l[i - 1]'(by omega) = l[i]
      · refine loopT_inr ?_
        unfold slices_Compact_Sl_api_Value_api_Value_l4
        simp only [cond_dec]
        rw [if_pos (by omega), inI_nat hlt, wrap64 (by omega) (by omega), show (i : Int) - 1 = ((i - 1 : Nat) : Int) by omega, inI_nat (show i - 1 < l.length by omega)]
        simp only [Option.bind_some, List.getElem?_eq_getElem hlt, List.getElem?_eq_getElem (show i - 1 < l.length by omega), eqVal]
        rw [decide_eq_true hx.symm, cond_true, he, cond_false, viewI_nat (by omega) (Nat.le_refl _)]
        simp only [Option.bind_some]
        rw [if_pos hx] at hsq
        obtain ⟨w', i', hm, hrun⟩ := compact_inner hl (by omega) hlt (l.length - i) 1 i l (by omega) (Nat.le_refl _) (by omega) ⟨rfl, by rw [hsq, hs], fun j _ => rfl, by omega⟩
        rw [show ((1 : Int)) = ((1 : Nat) : Int) from rfl, hrun, bind_join_inl]
        have hwl := hm.len
        have hlow := hm.low
        have hle : i' ≤ w'.length := by omega
        have hw : 0 < w'.length := by omega
        have e2 : i + (l.length - i) = l.length := by omega
        have hhead : w'.take i' = sqz l := by rw [hm.head, e2, List.take_of_length_le (Nat.le_refl _)]
        simp only
        rw [emp_false hw, cond_false, viewI_nat hle (Nat.le_refl _)]
        simp only [Option.bind_some, cond_false]
        rw [if_pos (by omega)]
        simp only [Option.bind_some]
        have hlen2 : (List.take i' w' ++ List.replicate (w'.length - i') ((0, 0, [], ()) : Val) ++ List.drop (i' + (w'.length - i')) w').length = w'.length := by
          rw [List.length_append, List.length_append, List.length_take, List.length_replicate, List.length_drop]; omega
        rw [emp_false (by rw [hlen2]; exact hw), cond_false, hlen2, show ((0 : Int)) = ((0 : Nat) : Int) from rfl, viewI_nat (Nat.zero_le _) hle]
        simp only [Option.bind_some, cond_false]
        rw [if_pos (by omega)]
        simp only [Option.map_some, List.drop_zero, Nat.sub_zero]
        rw [List.append_assoc, List.take_append_of_le_length (by rw [List.length_take]; omega), List.take_take, Nat.min_self, hhead]
      · have turn : slices_Compact_Sl_api_Value_api_Value_l4 ((i : Int), l, ()) = some (.inl (((i + 1 : Nat) : Int), l, ())) := by
          unfold slices_Compact_Sl_api_Value_api_Value_l4
          simp only [cond_dec]
          rw [if_pos (by omega), inI_nat hlt, wrap64 (by omega) (by omega), show (i : Int) - 1 = ((i - 1 : Nat) : Int) by omega, inI_nat (show i - 1 < l.length by omega)]
          simp only [Option.bind_some, List.getElem?_eq_getElem hlt, List.getElem?_eq_getElem (show i - 1 < l.length by omega), eqVal]
          rw [decide_eq_false (fun e => hx e.symm), cond_false, wrap64 (by omega) (by omega)]; rfl
        rw [loopT_inl turn]
        rw [if_neg hx, hs] at hsq
        refine ih (i + 1) (by omega) (by omega) (by omega) ?_
        rw [hsq, List.take_add_one, List.getElem?_eq_getElem hlt]; rfl
    · have e : i = l.length := by omega
      subst e
      rw [List.take_of_length_le (Nat.le_refl _)] at hs
      refine loopT_inr ?_
      unfold slices_Compact_Sl_api_Value_api_Value_l4
      simp only [cond_dec]
      rw [if_neg (by omega), hs]
theorem compact_t {l : List Val} (hl : l.length < 1000000) : slices_Compact_Sl_api_Value_api_Value l = some (sqz l, ()) := by
  unfold slices_Compact_Sl_api_Value_api_Value slices_Compact_Sl_api_Value_api_Value_g
  simp only [cond_dec]
  match l, hl with
  | [], _ => rfl
  | [x], _ => rfl
  | x :: y :: l, hl =>
    rw [if_neg (by simp only [List.length_cons]; omega)]
    have := compact_outer hl (x :: y :: l).length 1 (by omega) (Nat.le_refl _) (by simp) rfl
    rw [show ((1 : Int)) = ((1 : Nat) : Int) from rfl, this]
    rfl
/-! ### values that rise -/
def insV (o : List Val) (v : Val) : List Val := match o with
  | [] => [v]
  | x :: l => if cmpV v x = 0 then x :: l else if cmpV v x < 0 then v :: x :: l else x :: insV l v
abbrev riseV (o : List Val) : Prop := Rises cmpV (fun v => v) o
theorem insV_mem {v x : Val} : ∀ {o : List Val}, x ∈ insV o v ↔ x = v ∨ x ∈ o
  | [] => by simp [insV]
  | y :: l => by
    unfold insV
    split
    · rename_i h
      have e := (cv_cmp.zero _ _).1 h
      subst e
      simp
    · split
      · simp
      · rw [List.mem_cons, insV_mem, List.mem_cons]
        constructor
        · rintro (h | h | h)
          · exact .inr (.inl h)
          · exact .inl h
          · exact .inr (.inr h)
        · rintro (h | h | h)
          · exact .inr (.inl h)
          · exact .inl h
          · exact .inr (.inr h)
theorem insV_rises {v : Val} : ∀ {o : List Val}, riseV o → riseV (insV o v)
  | [], _ => List.pairwise_singleton ..
  | y :: l, h => by
    have h' := List.pairwise_cons.1 h
    unfold insV
    split
    · exact h
    · rename_i h0
      split
      · rename_i h1
        refine List.pairwise_cons.2 ⟨fun z hz => ?_, h⟩
        rcases List.mem_cons.1 hz with e | hz
        · subst e; exact h1
        · exact cv_cmp.trans _ _ _ h1 (h'.1 z hz)
      · rename_i h1
        refine List.pairwise_cons.2 ⟨fun z hz => ?_, insV_rises h'.2⟩
        rcases insV_mem.1 hz with e | hz
        · subst e
          have h2 := cv_cmp.neg z y
          show cmpV y z < 0
          omega
        · exact h'.1 z hz
def valsM (l : List Val) : List Val := l.foldl insV []
theorem valsM_law : ∀ (l o : List Val), riseV o → riseV (l.foldl insV o) ∧ ∀ x, x ∈ l.foldl insV o ↔ x ∈ o ∨ x ∈ l
  | [], o, h => ⟨h, fun x => by simp⟩
  | v :: l, o, h => by
    obtain ⟨h1, h2⟩ := valsM_law l (insV o v) (insV_rises h)
    refine ⟨h1, fun x => ?_⟩
    rw [List.foldl_cons, h2, insV_mem, List.mem_cons]
    constructor
    · rintro ((h | h) | h)
      · exact .inr (.inl h)
      · exact .inl h
      · exact .inr (.inr h)
    · rintro (h | h | h)
      · exact .inl (.inr h)
      · exact .inl (.inl h)
      · exact .inr h
theorem valsM_rises (l : List Val) : riseV (valsM l) := (valsM_law l [] List.Pairwise.nil).1
theorem valsM_mem (l : List Val) (x : Val) : x ∈ valsM l ↔ x ∈ l := by
  have := (valsM_law l [] List.Pairwise.nil).2 x
  simpa [valsM] using this
theorem insV_len {v : Val} : ∀ {o : List Val}, (insV o v).length ≤ o.length + 1
  | [] => Nat.le_refl _
  | y :: l => by
    unfold insV
    split
    · omega
    · split
      · simp
      · have := insV_len (v := v) (o := l)
        simp only [List.length_cons]; omega
theorem valsM_len : ∀ (l o : List Val), (l.foldl insV o).length ≤ o.length + l.length
  | [], o => Nat.le_refl _
  | v :: l, o => by
    have := valsM_len l (insV o v)
    have := insV_len (v := v) (o := o)
    rw [List.foldl_cons, List.length_cons]; omega
/-- What sorting and compacting leaves is what is laid in place, one by one. -/
theorem sort_compact {l : List Val} (hl : l.length < 1000000) : ∃ s, slices_SortFunc_Sl_api_Value_api_Value__value_Compare l = some ((), s, ()) ∧ slices_Compact_Sl_api_Value_api_Value s = some (valsM l, ()) := by
  obtain ⟨s, h1, h2, h3⟩ := sortT_law (c := cmpV) (key := fun v : Val => v) (cmp := fun x y => value_Compare x y) (xs := l) cv_cmp (fun x _ y _ => valueCompare_t x y) (by omega)
  refine ⟨s, by unfold slices_SortFunc_Sl_api_Value_api_Value__value_Compare; rw [h1]; rfl, ?_⟩
  rw [compact_t (by rw [h2.length_eq]; exact hl)]
  have : sqz s = valsM l := by
    refine rises_unique cv_cmp (key := fun v : Val => v) (sqz_rises cv_cmp (fun a b => (cv_cmp.zero a b).1) _ s rfl h3) (valsM_rises l) fun x => ?_
    rw [sqz_mem _ s rfl, valsM_mem]
    exact h2.mem_iff
  rw [this]
def valsAt (l : List Item1) (p : Path) : List Val := (atM l p 1).map fun x => x.2.1.2.2.1
theorem regValues_t {l : List Item1} {p : Path} (hl : LowI l) : reg_Values l p = some (valsM (valsAt l p)) := by
  unfold reg_Values valsAt
  rw [at_t hl]
  have hlow := (atM_low (p := p) (leaf := 1) hl).len
  generalize atM l p 1 = q at hlow
  simp only [Option.bind_some]
  have := loop_map (f := reg_Values_l3 q) (l := q) (fun i o => ((i : Int), o, ())) (fun x => [x.2.1.2.2.1]) (fun o => (.inl (o, ()) : (List Val × Unit) ⊕ List Val)) 1 (fun x _ => Nat.le_refl _) (fun i h o ho => by
    unfold reg_Values_l3
    simp only [cond_dec]
    rw [if_pos (by omega), atI_lt h]
    simp only [Option.bind_some]
    rw [wrap64 (by omega) (by omega), roomT_lt (by simp; omega)]; rfl) (fun o _ => by
    unfold reg_Values_l3
    simp only [cond_dec]
    rw [if_neg (by omega)])
  rw [show ((0 : Int), ([] : List Val), ()) = (((0 : Nat) : Int), [], ()) from rfl, this, bind_join_inl]
  have e : (q.flatMap fun x => [x.2.1.2.2.1]) = q.map fun x => x.2.1.2.2.1 := by
    clear this hlow
    induction q with
    | nil => rfl
    | cons x q ih => rw [List.flatMap_cons, List.map_cons, ih]; rfl
  obtain ⟨s, h1, h2⟩ := sort_compact (l := q.map fun x => x.2.1.2.2.1) (by rw [List.length_map]; exact hlow)
  simp only [e]
  rw [h1]
  simp only [Option.bind_some, h2]
theorem regConflict_t {l : List Item1} {p : Path} (hl : LowI l) : reg_Conflict l p = some (decide (1 < (valsM (valsAt l p)).length)) := by
  unfold reg_Conflict
  rw [regValues_t hl]
  simp only [Option.bind_some]
  congr 1
  by_cases h : 1 < (valsM (valsAt l p)).length
  · rw [decide_eq_true h, decide_eq_true (by omega)]
  · rw [decide_eq_false h, decide_eq_false (by omega)]
end Go.Proofs.Ytcnhiodbnmploaa.Q

/- The laws of chapter 14: RegTells. -/
set_option linter.unusedVariables false
set_option linter.unusedSimpArgs false
set_option maxRecDepth 100000
namespace Go.Proofs.Ytcnhiodbnmploaa.Q
open Go.EM Go.TY Go.Proofs Go.Proofs.Ytcnhiodbnmploaa.Y
/-- Bounds of what operations hold. -/
structure LowP (l : List Txn1) : Prop where
  low : Low l
  ops : ∀ t ∈ l, ∀ o ∈ t.2.2.2.2.1, (o.2.1.length < 1000000 ∧ ∀ s ∈ o.2.1, s.length < 1000000) ∧ o.2.2.1.2.2.1.length < 1000000
theorem items_mem {p : Ref1 → Bool} {t : Txn1} : ∀ {l : List Op1} {k : Nat} {x : Item1}, x ∈ itemsM p t k l → ∃ (j : Nat) (o : Op1), o ∈ l ∧ putKind o.1 = true ∧ p (t.1, (j : Int), ()) = false ∧ x = ((t.1, (j : Int), ()), o, t.2.2.1, ())
  | [], _, x, h => by cases h
  | o :: l, k, x, h => by
    unfold itemsM at h
    rcases List.mem_append.1 h with h | h
    · unfold itemAt at h
      split at h
      · rename_i hc
        rw [List.mem_singleton] at h
        exact ⟨k, o, List.mem_cons_self .., hc.1, hc.2, h⟩
      · cases h
    · obtain ⟨j, o', h1, h2⟩ := items_mem h
      exact ⟨j, o', List.mem_cons_of_mem _ h1, h2⟩
theorem allM_mem {l : List Txn1} {u : List Ref1} {x : Item1} (h : x ∈ allM l u) : ∃ t ∈ l, ∃ (j : Nat) (o : Op1), o ∈ t.2.2.2.2.1 ∧ putKind o.1 = true ∧ seenM u t.1 = true ∧ covM l u (t.1, (j : Int), ()) = false ∧ x = ((t.1, (j : Int), ()), o, t.2.2.1, ()) := by
  unfold allM at h
  obtain ⟨t, ht, hx⟩ := List.mem_flatMap.1 h
  split at hx
  · rename_i hs
    obtain ⟨j, o, h1, h2, h3, h4⟩ := items_mem hx
    exact ⟨t, ht, j, o, h1, h2, hs, h3, h4⟩
  · cases hx
theorem flat_len {A B : Type} {g : A → List B} {n : Nat} : ∀ {l : List A}, (∀ x ∈ l, (g x).length ≤ n) → (l.flatMap g).length ≤ l.length * n
  | [], _ => Nat.zero_le _
  | x :: l, h => by
    have := flat_len (l := l) fun y hy => h y (List.mem_cons_of_mem _ hy)
    have := h x (List.mem_cons_self ..)
    rw [List.flatMap_cons, List.length_append, List.length_cons, Nat.succ_mul]; omega
theorem allM_len {l : List Txn1} {u : List Ref1} (h : Low l) : (allM l u).length ≤ l.length * 1000 := by
  unfold allM
  refine flat_len fun t ht => ?_
  split
  · exact Nat.le_trans items_len (h.ops t ht)
  · simp
theorem allM_low {l : List Txn1} {u : List Ref1} (h : LowP l) (hl : l.length < 1000) : LowI (allM l u) := by
  refine ⟨?_, fun x hx => ?_⟩
  · have := allM_len (u := u) h.low; omega
  · obtain ⟨t, ht, j, o, ho, _, _, _, rfl⟩ := allM_mem hx
    exact (h.ops t ht o ho).1
theorem nil_low : LowU [] := ⟨by decide, List.Pairwise.nil⟩
theorem refAtOp_low {l : List Item1} (hl : LowI l) (p : Path) : (valsAt l p).length < 1000000 := by
  unfold valsAt
  rw [List.length_map]
  exact (atM_low hl).len
theorem valsM_low {l : List Item1} (hl : LowI l) (p : Path) : (valsM (valsAt l p)).length < 1000000 := by
  have := valsM_len (valsAt l p) []
  have := refAtOp_low hl p
  unfold valsM
  simp only [List.length_nil, Nat.zero_add] at *
  omega
/-! ### the example -/
def exT (r n : Int) : Txn1 := ((r, 1, ()), 0, 1, false, [(1, [[97]], (1, n, [], ()), 0, [], ())], ())
theorem ex_low : LowP [exT 0 2, exT 1 1] := by
  refine ⟨⟨by decide, ?_, ?_⟩, ?_⟩
  · intro t ht
    simp only [List.mem_cons, List.mem_nil_iff, or_false] at ht
    rcases ht with rfl | rfl <;> decide
  · intro t ht o ho
    simp only [List.mem_cons, List.mem_nil_iff, or_false] at ht
    rcases ht with rfl | rfl <;> (simp only [exT, List.mem_cons, List.mem_nil_iff, or_false] at ho; subst ho; decide)
  · intro t ht o ho
    simp only [List.mem_cons, List.mem_nil_iff, or_false] at ht
    rcases ht with rfl | rfl <;> (simp only [exT, List.mem_cons, List.mem_nil_iff, or_false] at ho; subst ho; exact ⟨⟨by decide, by decide⟩, by decide⟩)
theorem put_t (d : Dot1) (t : Int) (p : Path) (v : Val) (s : List Ref1) : law14_put d t p v s = some (d, 0, t, false, [(1, p, v, 0, s, ())], ()) := rfl
theorem awake14 : law14_awake = some true := by
  unfold law14_awake
  have e : ∀ n : Int, law14_num n = some (1, n, [], ()) := fun n => rfl
  simp only [e, put_t, Option.bind_some]
  have ha := all_t (l := [exT 0 2, exT 1 1]) (u := []) ex_low.low nil_low
  have hi := allM_low (u := []) ex_low (by decide)
  unfold exT at ha hi
  rw [ha]
  simp only [Option.bind_some, latest_t hi, regValues_t hi, regConflict_t hi, refValsEq_t (valsM_low hi _)]
  rfl
end Go.Proofs.Ytcnhiodbnmploaa.Q

/- The laws of chapter 14: RegBoth. -/
set_option linter.unusedVariables false
set_option linter.unusedSimpArgs false
set_option maxRecDepth 100000
namespace Go.Proofs.Ytcnhiodbnmploaa.Q
open Go.EM Go.TY Go.Proofs Go.Proofs.Ytcnhiodbnmploaa.Y
def bT (i : Nat) (v : Val) : Txn1 := (((i : Int), 1, ()), 0, 1, false, [(1, [[97]], v, 0, [], ())], ())
def bTs : Nat → List Val → List Txn1
  | _, [] => []
  | i, v :: l => bT i v :: bTs (i + 1) l
theorem bTs_len : ∀ {l : List Val} {i : Nat}, (bTs i l).length = l.length
  | [], _ => rfl
  | v :: l, i => by unfold bTs; rw [List.length_cons, List.length_cons, bTs_len]
theorem bTs_mem : ∀ {l : List Val} {i : Nat} {t : Txn1}, t ∈ bTs i l → ∃ j v, v ∈ l ∧ t = bT j v
  | [], _, t, h => by cases h
  | v :: l, i, t, h => by
    unfold bTs at h
    rcases List.mem_cons.1 h with e | h
    · exact ⟨i, v, List.mem_cons_self .., e⟩
    · obtain ⟨j, w, h1, h2⟩ := bTs_mem h
      exact ⟨j, w, List.mem_cons_of_mem _ h1, h2⟩
theorem bTs_low {l : List Val} {i : Nat} (hl : l.length ≤ 12) (hv : ∀ v ∈ l, v.2.2.1.length < 1000000) : LowP (bTs i l) := by
  refine ⟨⟨by rw [bTs_len]; omega, fun t ht => ?_, fun t ht o ho => ?_⟩, fun t ht o ho => ?_⟩
  · obtain ⟨j, v, _, rfl⟩ := bTs_mem ht; simp [bT]
  · obtain ⟨j, v, _, rfl⟩ := bTs_mem ht
    simp only [bT, List.mem_singleton] at ho
    subst ho; simp
  · obtain ⟨j, v, h, rfl⟩ := bTs_mem ht
    simp only [bT, List.mem_singleton] at ho
    subst ho
    exact ⟨⟨by simp, by simp⟩, hv v h⟩
theorem seen_nil (d : Dot1) : seenM [] d = true := rfl
theorem bTs_cov {l : List Val} {i : Nat} {x : Ref1} : covM (bTs i l) [] x = false := by
  unfold covM
  rw [List.any_eq_false]
  intro t ht
  obtain ⟨j, v, _, rfl⟩ := bTs_mem ht
  simp [bT, coverO]
theorem bTs_vals {p : Ref1 → Bool} (hp : ∀ x, p x = false) : ∀ (l : List Val) (i : Nat), ((((bTs i l).flatMap fun t => if seenM [] t.1 = true then itemsM p t 0 t.2.2.2.2.1 else []).filter (isAt [[97]] 1)).map fun x => x.2.1.2.2.1) = l
  | [], _ => rfl
  | v :: l, i => by
    unfold bTs
    rw [List.flatMap_cons, List.filter_append, List.map_append, bTs_vals hp l (i + 1), if_pos (seen_nil _)]
    have e : itemsM p (bT i v) 0 (bT i v).2.2.2.2.1 = [(((bT i v).1, ((0 : Nat) : Int), ()), (1, [[97]], v, 0, [], ()), 1, ())] := by
      unfold bT
      simp only [itemsM, itemAt, hp, List.append_nil]
      rw [if_pos ⟨by decide, trivial⟩]
    rw [e]
    rfl
theorem both_vals (l : List Val) : valsAt (allM (bTs 0 l) []) [[97]] = l := bTs_vals (fun x => bTs_cov) l 0
theorem both_loop {l : List Val} (hl : l.length ≤ 12) (hv : ∀ v ∈ l, v.2.2.1.length < 4294967296) : loopT (law14_RegBoth_l6 l) (0, [], ()) = some (if l.all rightV = true then .inl (bTs 0 l, ()) else .inr true) := by
  have loop := loop_list (S := List Txn1) (f := law14_RegBoth_l6 l) (l := l) (fun i s => ((i : Int), s, ())) (fun i v s => if rightV v = true then .inl (s ++ [bT i v]) else .inr (.inr true)) (fun s => (.inl (s, ()) : (List Txn1 × Unit) ⊕ Bool)) (fun i s => s.length ≤ i) (fun i h s hs => by
    have turn : law14_RegBoth_l6 l ((i : Int), s, ()) = if rightV l[i] = true then some (.inl (((i + 1 : Nat) : Int), s ++ [bT i l[i]], ())) else some (.inr (.inr true)) := by
      unfold law14_RegBoth_l6
      simp only [cond_dec]
      rw [if_pos (by omega), atI_lt h]
      simp only [Option.bind_some, refRight9_t (hv _ (List.getElem_mem h)), awake14, put_t]
      rw [wrap64 (by omega) (by omega), roomT_lt (by simp; omega)]
      cases rightV l[i] with
      | true => rfl
      | false => rfl
    by_cases hr : rightV l[i] = true
    · exact .inl ⟨_, by rw [if_pos hr], by rw [turn, if_pos hr], by rw [List.length_append, List.length_singleton]; omega⟩
    · exact .inr ⟨_, by rw [if_neg hr], by rw [turn, if_neg hr]⟩) (fun s _ => by
    unfold law14_RegBoth_l6
    simp only [cond_dec]
    rw [if_neg (by omega)]) [] (by simp)
  have gen : ∀ (l : List Val) (i : Nat) (s : List Txn1), foldE (S := List Txn1) (R := (List Txn1 × Unit) ⊕ Bool) (fun i v s => if rightV v = true then .inl (s ++ [bT i v]) else .inr (.inr true)) (fun s => .inl (s, ())) i l s = if l.all rightV = true then .inl (s ++ bTs i l, ()) else .inr true := by
    intro l
    induction l with
    | nil => intro i s; simp [foldE, bTs]
    | cons v l ih =>
      intro i s
      unfold foldE
      by_cases hr : rightV v = true
      · rw [if_pos hr]
        simp only
        rw [ih, List.all_cons, hr, Bool.true_and, show bTs i (v :: l) = bT i v :: bTs (i + 1) l from rfl, List.append_assoc]; rfl
      · rw [if_neg hr, List.all_cons, eq_false_of_ne_true hr, Bool.false_and, if_neg (by simp)]
  rw [gen] at loop
  rw [List.nil_append] at loop
  exact loop
def cntV (v : Val) (n : Int) (l : List Val) : Int := l.foldl (fun n x => if x = v then n + 1 else n) n
theorem cnt_none {v : Val} : ∀ {l : List Val} {n : Int}, v ∉ l → cntV v n l = n
  | [], _, _ => rfl
  | x :: l, n, h => by
    unfold cntV
    rw [List.foldl_cons, if_neg (fun e => h (by rw [e]; exact List.mem_cons_self ..))]
    exact cnt_none fun hm => h (List.mem_cons_of_mem _ hm)
theorem cnt_one {v : Val} : ∀ {l : List Val} {n : Int}, riseV l → v ∈ l → cntV v n l = n + 1
  | x :: l, n, hr, h => by
    have hr' := List.pairwise_cons.1 hr
    unfold cntV
    rw [List.foldl_cons]
    by_cases e : x = v
    · rw [if_pos e]
      refine cnt_none fun hm => ?_
      have := hr'.1 v hm
      rw [e] at this
      exact cv_cmp.irr _ this
    · rw [if_neg e]
      rcases List.mem_cons.1 h with h | h
      · exact absurd h.symm e
      · exact cnt_one hr'.2 h
theorem count_inner {a g : List Val} {i : Nat} {v : Val} (hg : g.length < 1000000) (hi : i < 1000) (hv : a[i]? = some v) : loopT (law14_RegBoth_l17 ((i : Int), ()) a g) (0, 0, ()) = some (if cntV v 0 g = 1 then .inl (((i + 1 : Nat) : Int), ()) else .inr (.inr false)) := by
  have loop := loop_list (S := Int) (f := law14_RegBoth_l17 ((i : Int), ()) a g) (l := g) (fun k n => (n, (k : Int), ())) (fun _ x n => .inl (if x = v then n + 1 else n)) (fun n => (if n = 1 then .inl (((i + 1 : Nat) : Int), ()) else .inr (.inr false) : (Int × Unit) ⊕ (Unit ⊕ Bool))) (fun k n => 0 ≤ n ∧ n ≤ k) (fun k h n hn => by
    refine .inl ⟨_, rfl, ?_, by split <;> omega⟩
    unfold law14_RegBoth_l17
    simp only [cond_dec]
    rw [if_pos (by omega), atI_lt h, atI_nat, hv]
    simp only [Option.bind_some, eqVal, cond_dec]
    rw [wrap64 (n := (k : Int) + 1) (by omega) (by omega), wrap64 (by omega) (by omega)]
    by_cases hx : g[k] = v
    · rw [if_pos hx, if_pos hx]; rfl
    · rw [if_neg hx, if_neg hx]; rfl) (fun n hn => by
    unfold law14_RegBoth_l17
    simp only [cond_dec, cond_ndec]
    rw [if_neg (by omega), wrap64 (by omega) (by omega)]
    by_cases h1 : n = 1
    · rw [if_pos h1, if_pos h1]; rfl
    · rw [if_neg h1, if_neg h1]; rfl) 0 (by omega)
  rw [foldE_inl] at loop
  exact loop
theorem regBoth_t {l : List Val} (hv : ∀ v ∈ l, v.2.2.1.length < 4294967296) : law14_RegBoth l = some true := by
  unfold law14_RegBoth
  simp only [cond_dec, awake14, Option.bind_some]
  by_cases h12 : (l.length : Int) > 12
  · rw [if_pos h12]
  rw [if_neg h12, both_loop (by omega) hv]
  by_cases hr : l.all rightV = true
  · rw [if_pos hr, bind_join_inl]
    have hs : ∀ v ∈ l, v.2.2.1.length < 1000000 := fun v h => by
      have := (code_parts (List.all_eq_true.1 hr v h)).2.2.2.2; omega
    have hp := bTs_low (i := 0) (show l.length ≤ 12 by omega) hs
    have hi := allM_low (u := []) hp (by rw [bTs_len]; omega)
    simp only [all_t hp.low nil_low, Option.bind_some, regValues_t hi, both_vals]
    have hrise := valsM_rises l
    have hmem := valsM_mem l
    have hlen : (valsM l).length ≤ l.length := by
      have := valsM_len l []
      simp only [List.length_nil, Nat.zero_add] at this
      exact this
    generalize valsM l = g at hrise hmem hlen
    have l13 := loop_all (f := law14_RegBoth_l13 l g) (l := l) (fun i => ((i : Int), ())) (fun _ => true) (.inl () : Unit ⊕ Bool) (.inr false) (fun i h => by
      unfold law14_RegBoth_l13
      simp only [cond_dec]
      rw [if_pos (by omega), count_inner (v := l[i]) (by omega) (by omega) (List.getElem?_eq_getElem h), if_pos (show cntV l[i] 0 g = 1 from cnt_one hrise ((hmem _).2 (List.getElem_mem h))), if_pos trivial]) (by
      unfold law14_RegBoth_l13
      simp only [cond_dec]
      rw [if_neg (by omega)])
    have l24 := loop_allI (f := law14_RegBoth_l24 g) (g.length - 1) (fun i => (((i + 1 : Nat) : Int), ())) (fun _ => true) (.inl () : Unit ⊕ Bool) (.inr false) (fun i h => by
      have hc : cmpV g[i] g[i + 1] < 0 := (List.pairwise_iff_getElem.1 hrise) i (i + 1) (by omega) (by omega) (by omega)
      have h1 := (cv_cmp.one g[i] g[i + 1]).1
      unfold law14_RegBoth_l24
      simp only [cond_dec, cond_ndec]
      rw [if_pos (by omega), wrap64 (by omega) (by omega), show ((i + 1 : Nat) : Int) - 1 = (i : Int) by omega, atI_lt (show i < g.length by omega), atI_lt (show i + 1 < g.length by omega)]
      simp only [Option.bind_some, refCompare9_t (hs _ ((hmem _).1 (List.getElem_mem (show i < g.length by omega))))]
      rw [if_pos (by omega), wrap64 (by omega) (by omega), if_pos trivial]; rfl) (by
      unfold law14_RegBoth_l24
      simp only [cond_dec]
      rw [if_neg (by omega)])
    rw [if_pos (by simp)] at l13
    rw [if_pos (fun _ _ => rfl)] at l24
    rw [show ((0 : Int), ()) = (((0 : Nat) : Int), ()) from rfl, l13, bind_join_inl]
    rw [show ((1 : Int), ()) = (((0 + 1 : Nat) : Int), ()) from rfl, l24, bind_join_inl, if_pos (by omega)]
  · rw [if_neg hr, bind_join_inr]
theorem regBoth_law : ∀ v : law14_RegBoth_T.ps.V, okV law14_RegBoth_T.ps v → lenV law14_RegBoth_T.ps v ≤ 1048576 → law14_RegBoth_T.fn v = some true := fun v _ hl => by
  obtain ⟨l, ⟨⟩⟩ := v
  refine regBoth_t (l := l) fun x hx => ?_
  have h1 : lenV tyVal x ≤ (l.map (lenV tyVal)).sum := sum_mem hx
  have h2 : (l.length + (l.map (lenV tyVal)).sum) + 0 ≤ 1048576 := hl
  have h3 : lenV tyVal x = 0 + (0 + (x.2.2.1.length + 0)) := rfl
  omega
end Go.Proofs.Ytcnhiodbnmploaa.Q
