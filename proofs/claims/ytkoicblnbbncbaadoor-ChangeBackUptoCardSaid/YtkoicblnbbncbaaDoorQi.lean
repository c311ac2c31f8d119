import Derived.Test.YtkoicblnbbncbaaDoorL
import Derived.Test.YtkoicblnbbncbaaDoorT14
import Derived.Test.YtkoicblnbbncbaaDoorT24
import Derived.Lib.AtoiAllCases
set_option linter.unusedVariables false
set_option linter.unusedSimpArgs false
set_option maxRecDepth 100000
namespace Go.Proofs.YtkoicblnbbncbaaDoor.Q
open Go.EM Go.TY Go.Proofs Go.Proofs.YtkoicblnbbncbaaDoor.Y Go.Proofs.YtkoicblnbbncbaaDoor.K Go.Proofs.YtkoicblnbbncbaaDoor.L
/-- A character of a text, and how many bytes it has; none: 0. -/
def charM : List UInt8 → Int × Nat
  | [] => (0, 0)
  | a :: t =>
    if a.toNat < 128 then (a.toNat, 1)
    else if 194 ≤ a.toNat ∧ a.toNat < 224 then (match t with
      | b :: _ => if 128 ≤ b.toNat ∧ b.toNat ≤ 191 then (64 * ((a.toNat : Int) - 192) + b.toNat - 128, 2) else (0, 0)
      | _ => (0, 0))
    else if 224 ≤ a.toNat ∧ a.toNat < 240 then (match t with
      | b :: c :: _ => if (128 ≤ b.toNat ∧ b.toNat ≤ 191) ∧ (128 ≤ c.toNat ∧ c.toNat ≤ 191) then
          let r : Int := 64 * (64 * ((a.toNat : Int) - 224) + b.toNat - 128) + c.toNat - 128
          if r < 2048 ∨ (55296 ≤ r ∧ r ≤ 57343) then (0, 0) else (r, 3)
        else (0, 0)
      | _ => (0, 0))
    else if 240 ≤ a.toNat ∧ a.toNat < 245 then (match t with
      | b :: c :: d :: _ => if (128 ≤ b.toNat ∧ b.toNat ≤ 191) ∧ (128 ≤ c.toNat ∧ c.toNat ≤ 191) ∧ (128 ≤ d.toNat ∧ d.toNat ≤ 191) then
          let r : Int := 64 * (64 * (64 * ((a.toNat : Int) - 240) + b.toNat - 128) + c.toNat - 128) + d.toNat - 128
          if r < 65536 ∨ 1114111 < r then (0, 0) else (r, 4)
        else (0, 0)
      | _ => (0, 0))
    else (0, 0)
/-- One turn of Char. -/
theorem turn17 {s : List UInt8} {q : Int × Int × Int × Unit} {x : Int} {i : Nat} {b : UInt8} (hi : (i : Int) < q.2.1) (hi4 : i ≤ 4) (h : s[i]? = some b) (hx : 0 ≤ x) (hx2 : x ≤ 100000000) :
    ref03_Char_l17 s q (x, (i : Int), ()) = if 128 ≤ b.toNat ∧ b.toNat ≤ 191 then some (.inl (64 * x + b.toNat - 128, ((i + 1 : Nat) : Int), ())) else some (.inr (.inr (0, 0, ()))) := by
  have hb : b.toNat < 256 := b.toNat_lt
  simp only [ref03_Char_l17, atI_nat, h, Option.bind_some, cond_dec, if_pos hi]
  rw [wrap64 (n := 64 * x) (by omega) (by omega), wrap64 (n := (b.toNat : Int)) (by omega) (by omega), wrap64 (n := 64 * x + b.toNat) (by omega) (by omega), wrap64 (n := 64 * x + b.toNat - 128) (by omega) (by omega), wrap64 (n := (i : Int) + 1) (by omega) (by omega)]
  by_cases h1 : b.toNat < 128
  · rw [if_pos (by omega), if_neg (by omega)]
  · rw [if_neg (by omega)]
    by_cases h2 : b.toNat > 191
    · rw [if_pos (by omega), if_neg (by omega)]
    · rw [if_neg (by omega), if_pos (by omega)]; rfl
theorem stop17 {s : List UInt8} {q : Int × Int × Int × Unit} {x : Int} {i : Nat} (hi : ¬ (i : Int) < q.2.1) : ref03_Char_l17 s q (x, (i : Int), ()) = some (.inr (.inl (x, ()))) := by
  simp only [ref03_Char_l17, cond_dec, if_neg hi]
theorem loop17_2 {a b : UInt8} {t : List UInt8} {l : Int} {c x : Int} (hx : 0 ≤ x) (hx2 : x ≤ 1000) :
    loopT (ref03_Char_l17 (a :: b :: t) (c, 2, l, ())) (x, 1, ()) = if 128 ≤ b.toNat ∧ b.toNat ≤ 191 then some (.inl (64 * x + b.toNat - 128, ())) else some (.inr (0, 0, ())) := by
  have h := turn17 (s := a :: b :: t) (q := (c, 2, l, ())) (i := 1) (b := b) (x := x) (by simp) (by omega) rfl hx (by omega)
  by_cases hb : 128 ≤ b.toNat ∧ b.toNat ≤ 191
  · rw [if_pos hb] at h ⊢
    exact (loopT_inl h).trans (loopT_inr (stop17 (by simp)))
  · rw [if_neg hb] at h ⊢
    exact loopT_inr h
theorem loop17_3 {a b d : UInt8} {t : List UInt8} {l : Int} {c x : Int} (hx : 0 ≤ x) (hx2 : x ≤ 1000) :
    loopT (ref03_Char_l17 (a :: b :: d :: t) (c, 3, l, ())) (x, 1, ()) = if (128 ≤ b.toNat ∧ b.toNat ≤ 191) ∧ (128 ≤ d.toNat ∧ d.toNat ≤ 191) then some (.inl (64 * (64 * x + b.toNat - 128) + d.toNat - 128, ())) else some (.inr (0, 0, ())) := by
  have hb' := b.toNat_lt
  have h := turn17 (s := a :: b :: d :: t) (q := (c, 3, l, ())) (i := 1) (b := b) (x := x) (by simp) (by omega) rfl hx (by omega)
  by_cases hb : 128 ≤ b.toNat ∧ b.toNat ≤ 191
  · rw [if_pos hb] at h
    have h2 := turn17 (s := a :: b :: d :: t) (q := (c, 3, l, ())) (i := 2) (b := d) (x := 64 * x + b.toNat - 128) (by simp) (by omega) rfl (by omega) (by omega)
    by_cases hd : 128 ≤ d.toNat ∧ d.toNat ≤ 191
    · rw [if_pos hd] at h2
      rw [if_pos ⟨hb, hd⟩]
      exact ((loopT_inl h).trans (loopT_inl h2)).trans (loopT_inr (stop17 (by simp)))
    · rw [if_neg hd] at h2
      rw [if_neg (fun e => hd e.2)]
      exact (loopT_inl h).trans (loopT_inr h2)
  · rw [if_neg hb] at h
    rw [if_neg (fun e => hb e.1)]
    exact loopT_inr h
theorem loop17_4 {a b d e : UInt8} {t : List UInt8} {l : Int} {c x : Int} (hx : 0 ≤ x) (hx2 : x ≤ 1000) :
    loopT (ref03_Char_l17 (a :: b :: d :: e :: t) (c, 4, l, ())) (x, 1, ()) = if (128 ≤ b.toNat ∧ b.toNat ≤ 191) ∧ (128 ≤ d.toNat ∧ d.toNat ≤ 191) ∧ (128 ≤ e.toNat ∧ e.toNat ≤ 191) then some (.inl (64 * (64 * (64 * x + b.toNat - 128) + d.toNat - 128) + e.toNat - 128, ())) else some (.inr (0, 0, ())) := by
  have hb' := b.toNat_lt
  have hd' := d.toNat_lt
  have h := turn17 (s := a :: b :: d :: e :: t) (q := (c, 4, l, ())) (i := 1) (b := b) (x := x) (by simp) (by omega) rfl hx (by omega)
  by_cases hb : 128 ≤ b.toNat ∧ b.toNat ≤ 191
  · rw [if_pos hb] at h
    have h2 := turn17 (s := a :: b :: d :: e :: t) (q := (c, 4, l, ())) (i := 2) (b := d) (x := 64 * x + b.toNat - 128) (by simp) (by omega) rfl (by omega) (by omega)
    by_cases hd : 128 ≤ d.toNat ∧ d.toNat ≤ 191
    · rw [if_pos hd] at h2
      have h3 := turn17 (s := a :: b :: d :: e :: t) (q := (c, 4, l, ())) (i := 3) (b := e) (x := 64 * (64 * x + b.toNat - 128) + d.toNat - 128) (by simp) (by omega) rfl (by omega) (by omega)
      by_cases he : 128 ≤ e.toNat ∧ e.toNat ≤ 191
      · rw [if_pos he] at h3
        rw [if_pos ⟨hb, hd, he⟩]
        exact (((loopT_inl h).trans (loopT_inl h2)).trans (loopT_inl h3)).trans (loopT_inr (stop17 (by simp)))
      · rw [if_neg he] at h3
        rw [if_neg (fun q => he q.2.2)]
        exact ((loopT_inl h).trans (loopT_inl h2)).trans (loopT_inr h3)
    · rw [if_neg hd] at h2
      rw [if_neg (fun q => hd q.2.1)]
      exact (loopT_inl h).trans (loopT_inr h2)
  · rw [if_neg hb] at h
    rw [if_neg (fun q => hb q.1)]
    exact loopT_inr h
theorem char_t (s : List UInt8) : ref03_Char s = some ((charM s).1, ((charM s).2 : Int), ()) := by
  cases s with
  | nil => simp [ref03_Char, charM]
  | cons a t =>
    have ha : a.toNat < 256 := a.toNat_lt
    have h0 : ¬ (((a :: t).length : Int) = 0) := by simp only [List.length_cons]; omega
    have hi : atI (a :: t) 0 = some a := by simp [atI]
    unfold ref03_Char
    simp only [cond_dec, if_neg h0, hi, Option.bind_some, and_join, ite_and2, ite_or2]
    rw [wrap64 (n := (a.toNat : Int)) (by omega) (by omega)]
    by_cases c1 : a.toNat < 128
    · rw [if_pos (by omega)]
      simp only [bind_join_inr, charM, if_pos c1]; rfl
    rw [if_neg (by omega)]
    by_cases c2 : 194 ≤ a.toNat ∧ a.toNat < 224
    · rw [if_pos (by omega), wrap64 (by omega) (by omega)]
      simp only [bind_join_inl]
      match t with
      | [] => simp [charM, c1, c2]
      | b :: t =>
        rw [if_neg (by simp only [List.length_cons]; omega), loop17_2 (by omega) (by omega)]
        by_cases hb : 128 ≤ b.toNat ∧ b.toNat ≤ 191
        · rw [if_pos hb]
          simp only [bind_join_inl]
          rw [guard_join, if_neg (by omega)]
          simp only [charM, c1, c2, hb, if_true, if_false, and_self]; rfl
        · rw [if_neg hb]
          simp only [bind_join_inr]
          simp [charM, c1, c2, hb]
    rw [if_neg (by omega)]
    by_cases c3 : 224 ≤ a.toNat ∧ a.toNat < 240
    · rw [if_pos (by omega), wrap64 (by omega) (by omega)]
      simp only [bind_join_inl]
      match t with
      | [] => simp [charM, c1, c2, c3]
      | [b] => simp [charM, c1, c2, c3]
      | b :: c :: t =>
        have hb := b.toNat_lt
        have hc := c.toNat_lt
        rw [if_neg (by simp only [List.length_cons]; omega), loop17_3 (by omega) (by omega)]
        by_cases hb' : (128 ≤ b.toNat ∧ b.toNat ≤ 191) ∧ (128 ≤ c.toNat ∧ c.toNat ≤ 191)
        · rw [if_pos hb']
          simp only [bind_join_inl]
          rw [guard_join]
          simp only [charM, c1, c2, c3, hb', if_true, if_false, and_self]
          by_cases hr : 64 * (64 * ((a.toNat : Int) - 224) + b.toNat - 128) + c.toNat - 128 < 2048 ∨ (55296 ≤ 64 * (64 * ((a.toNat : Int) - 224) + b.toNat - 128) + c.toNat - 128 ∧ 64 * (64 * ((a.toNat : Int) - 224) + b.toNat - 128) + c.toNat - 128 ≤ 57343)
          · rw [if_pos (by omega), if_pos hr]; rfl
          · rw [if_neg (by omega), if_neg hr]; rfl
        · rw [if_neg hb']
          simp only [bind_join_inr]
          simp [charM, c1, c2, c3, hb']
    rw [if_neg (by omega)]
    by_cases c4 : 240 ≤ a.toNat ∧ a.toNat < 245
    · rw [if_pos (by omega), wrap64 (by omega) (by omega)]
      simp only [bind_join_inl]
      match t with
      | [] => simp [charM, c1, c2, c3, c4]
      | [b] => simp [charM, c1, c2, c3, c4]
      | [b, c] => simp [charM, c1, c2, c3, c4]
      | b :: c :: d :: t =>
        have hb := b.toNat_lt
        have hc := c.toNat_lt
        have hd := d.toNat_lt
        rw [if_neg (by simp only [List.length_cons]; omega), loop17_4 (by omega) (by omega)]
        by_cases hb' : (128 ≤ b.toNat ∧ b.toNat ≤ 191) ∧ (128 ≤ c.toNat ∧ c.toNat ≤ 191) ∧ (128 ≤ d.toNat ∧ d.toNat ≤ 191)
        · rw [if_pos hb']
          simp only [bind_join_inl]
          rw [guard_join]
          simp only [charM, c1, c2, c3, c4, hb', if_true, if_false, and_self]
          by_cases hr : 64 * (64 * (64 * ((a.toNat : Int) - 240) + b.toNat - 128) + c.toNat - 128) + d.toNat - 128 < 65536 ∨ 1114111 < 64 * (64 * (64 * ((a.toNat : Int) - 240) + b.toNat - 128) + c.toNat - 128) + d.toNat - 128
          · rw [if_pos (by omega), if_pos hr]; rfl
          · rw [if_neg (by omega), if_neg hr]; rfl
        · rw [if_neg hb']
          simp only [bind_join_inr]
          simp [charM, c1, c2, c3, c4, hb']
    rw [if_neg (by omega)]
    simp only [bind_join_inr]
    simp [charM, c1, c2, c3, c4]
theorem charM_le (s : List UInt8) : (charM s).2 ≤ s.length := by
  unfold charM
  repeat' split
  all_goals (try simp only [])
  all_goals (try split)
  all_goals (try simp only [List.length_cons])
  all_goals omega
/-- The characters of a text; none: some bytes are none's. -/
def runesM (s : List UInt8) : Option (List Int) :=
  if h : s = [] then some []
  else if h0 : (charM s).2 = 0 then none
  else (runesM (s.drop (charM s).2)).map fun l => (charM s).1 :: l
termination_by s.length
decreasing_by
  have : s.length ≠ 0 := fun e => h (List.eq_nil_of_length_eq_zero e)
  simp only [List.length_drop]; omega
theorem runesM_nil : runesM [] = some [] := by rw [runesM, dif_pos rfl]
theorem runesM_none {s : List UInt8} (h : s ≠ []) (h0 : (charM s).2 = 0) : runesM s = none := by rw [runesM, dif_neg h, dif_pos h0]
theorem runesM_step {s : List UInt8} (h : s ≠ []) (h0 : (charM s).2 ≠ 0) : runesM s = (runesM (s.drop (charM s).2)).map fun l => (charM s).1 :: l := by rw [runesM, dif_neg h, dif_neg h0]
def runesR (s : List UInt8) (out : List Int) : List Int × Bool × Unit :=
  match runesM s with
  | some m => (out ++ m, true, ())
  | none => ([], false, ())
theorem runes_loop {s : List UInt8} (hs : s.length < 4294967296) : ∀ (k i : Nat) (l : List Int), s.length - i ≤ k → i ≤ s.length → l.length ≤ i → loopT (ref03_Runes_l3 s) ((i : Int), l, ()) = some (runesR (s.drop i) l) := by
  intro k
  have fin : ∀ (i : Nat) (l : List Int), ¬ i < s.length → loopT (ref03_Runes_l3 s) ((i : Int), l, ()) = some (runesR (s.drop i) l) := by
    intro i l hi
    rw [List.drop_eq_nil_of_le (by omega), loopT_inr (x := (l, true, ())) (by simp only [ref03_Runes_l3, cond_dec]; rw [if_neg (by omega)])]
    simp [runesR, runesM_nil]
  induction k with
  | zero => intro i l hk hi hl; exact fin i l (by omega)
  | succ k ih =>
    intro i l hk hi hl
    by_cases hlt : i < s.length
    · have hne : s.drop i ≠ [] := fun e => by have := congrArg List.length e; simp at this; omega
      have hle := charM_le (s.drop i)
      simp only [List.length_drop] at hle
      by_cases h0 : (charM (s.drop i)).2 = 0
      · rw [loopT_inr (x := ([], false, ()))]
        · simp only [runesR, runesM_none hne h0]
        · simp only [ref03_Runes_l3, cond_dec]
          rw [if_pos (by omega), subI_from (by omega)]
          simp only [Option.bind_some, char_t]
          rw [if_pos (by omega)]
      · rw [loopT_inl (b := (((i + (charM (s.drop i)).2 : Nat) : Int), l ++ [(charM (s.drop i)).1], ()))]
        · rw [ih _ _ (by omega) (by omega) (by simp; omega)]
          simp only [runesR, runesM_step hne h0, List.drop_drop]
          cases runesM (s.drop (i + (charM (s.drop i)).2)) <;> simp
        · simp only [ref03_Runes_l3, cond_dec]
          rw [if_pos (by omega), subI_from (by omega)]
          simp only [Option.bind_some, char_t]
          rw [if_neg (by omega), roomT_lt (by simp; omega)]
          simp only [Option.bind_some]
          rw [wrap64 (by omega) (by omega)]
          simp
    · exact fin i l hlt
theorem runes_t {s : List UInt8} (hs : s.length < 4294967296) : ref03_Runes s = some (runesR s []) := by
  have := runes_loop hs s.length 0 [] (by omega) (by omega) (by simp)
  simpa [ref03_Runes] using this
def cmpI (a b : Int) : Int := if a < b then -1 else if a > b then 1 else 0
theorem compare_t (a b : Int) : cmp_Compare_int a b = some (cmpI a b) := by
  unfold cmp_Compare_int cmp_isNaN_int cmpI
  simp only [Option.bind_some, decide_true, Bool.not_true, cond_false, cond_dec]
  by_cases h1 : a < b
  · simp [h1]
  · by_cases h2 : a > b <;> simp [h1, h2]
def orI (a b : Int) : Int := if a = 0 then b else a
theorem or_t (a b : Int) : cmp_Or_int [a, b] = some (orI a b) := by
  unfold cmp_Or_int orI
  by_cases h1 : a = 0
  · rw [if_pos h1]
    have t0 : cmp_Or_int_l3 [a, b] (0, ()) = some (.inl (1, ())) := by
      unfold cmp_Or_int_l3
      simp only [cond_dec, List.length_cons, List.length_nil]
      rw [if_pos (by decide)]
      simp [atI, h1, wrap64]
    rw [loopT_inl t0]
    by_cases h2 : b = 0
    · have t1 : cmp_Or_int_l3 [a, b] (1, ()) = some (.inl (2, ())) := by
        unfold cmp_Or_int_l3
        simp only [cond_dec, List.length_cons, List.length_nil]
        rw [if_pos (by decide)]
        simp [atI, h2, wrap64]
      rw [loopT_inl t1, h2]
      refine loopT_inr ?_
      unfold cmp_Or_int_l3
      simp only [cond_dec, List.length_cons, List.length_nil]
      rw [if_neg (by decide)]
    · refine loopT_inr ?_
      unfold cmp_Or_int_l3
      simp only [cond_dec, List.length_cons, List.length_nil]
      rw [if_pos (by decide)]
      simp [atI, h2]
  · rw [if_neg h1]
    refine loopT_inr ?_
    unfold cmp_Or_int_l3
    simp only [cond_dec, List.length_cons, List.length_nil]
    rw [if_pos (by decide)]
    simp [atI, h1]
/-! ### a text that is built -/
/-! ### numbers as bytes -/
/-! ### numerals -/
/-! ### dots -/
def inR (n : Int) : Prop := -9223372036854775808 ≤ n ∧ n ≤ 9223372036854775807
/-! ### numerals, read -/
/-! ### cut at a point -/
/-! ### numbers, read -/
/-! ### one behind the other -/
/-! ### characters written -/
/-- A character that is some text's. -/
def Good (c : Int) : Prop := ∃ s, (charM s).2 ≠ 0 ∧ (charM s).1 = c
/-! ### quoted by the program -/
abbrev Val := Int × Int × List UInt8 × Unit
/-! ### the first of some that is not 0 -/
/-! ### bytes in a row -/
theorem cb_neg : ∀ a b : List UInt8, Lib.compareBytes b a = - Lib.compareBytes a b
  | [], [] => rfl
  | [], _ :: _ => rfl
  | _ :: _, [] => rfl
  | x :: a, y :: b => by
    simp only [Lib.compareBytes, UInt8.lt_iff_toNat_lt]
    by_cases h1 : x.toNat < y.toNat
    · have h2 : ¬ y.toNat < x.toNat := by omega
      simp only [if_pos h1, if_neg h2]
      rfl
    · by_cases h2 : y.toNat < x.toNat
      · simp only [if_pos h2, if_neg h1]
      · simp only [if_neg h2, if_neg h1]; exact cb_neg a b
theorem cb_zero : ∀ a b : List UInt8, Lib.compareBytes a b = 0 ↔ a = b
  | [], [] => by simp [Lib.compareBytes]
  | [], _ :: _ => by simp [Lib.compareBytes]
  | _ :: _, [] => by simp [Lib.compareBytes]
  | x :: a, y :: b => by
    simp only [Lib.compareBytes, UInt8.lt_iff_toNat_lt]
    by_cases h1 : x.toNat < y.toNat
    · rw [if_pos h1]
      constructor
      · intro h; cases h
      · intro h; cases h; omega
    · rw [if_neg h1]
      by_cases h2 : y.toNat < x.toNat
      · rw [if_pos h2]
        constructor
        · intro h; cases h
        · intro h; cases h; omega
      · rw [if_neg h2, cb_zero a b]
        have : x = y := UInt8.toNat_inj.1 (by omega)
        subst this
        simp
theorem cb_one : ∀ a b : List UInt8, Lib.compareBytes a b = -1 ∨ Lib.compareBytes a b = 0 ∨ Lib.compareBytes a b = 1
  | [], [] => .inr (.inl rfl)
  | [], _ :: _ => .inl rfl
  | _ :: _, [] => .inr (.inr rfl)
  | x :: a, y :: b => by
    simp only [Lib.compareBytes]
    split
    · exact .inl rfl
    · split
      · exact .inr (.inr rfl)
      · exact cb_one a b
theorem cb_trans : ∀ a b c : List UInt8, Lib.compareBytes a b ≤ 0 → Lib.compareBytes b c ≤ 0 → Lib.compareBytes a c ≤ 0
  | [], b, [], _, _ => by simp [Lib.compareBytes]
  | [], b, _ :: _, _, _ => by simp [Lib.compareBytes]
  | _ :: _, [], _, h, _ => by simp [Lib.compareBytes] at h
  | x :: a, y :: b, [], _, h => by simp [Lib.compareBytes] at h
  | x :: a, y :: b, z :: c, h, k => by
    simp only [Lib.compareBytes, UInt8.lt_iff_toNat_lt] at h k ⊢
    by_cases h1 : x.toNat < y.toNat
    · by_cases k1 : y.toNat < z.toNat
      · rw [if_pos (by omega)]; omega
      · rw [if_neg k1] at k
        by_cases k2 : z.toNat < y.toNat
        · rw [if_pos k2] at k; omega
        · rw [if_pos (by omega)]; omega
    · rw [if_neg h1] at h
      by_cases h2 : y.toNat < x.toNat
      · rw [if_pos h2] at h; omega
      · rw [if_neg h2] at h
        by_cases k1 : y.toNat < z.toNat
        · rw [if_pos (by omega)]; omega
        · rw [if_neg k1] at k
          by_cases k2 : z.toNat < y.toNat
          · rw [if_pos k2] at k; omega
          · rw [if_neg k2] at k
            rw [if_neg (by omega), if_neg (by omega)]
            exact cb_trans a b c h k
/-! ### values in a row -/
theorem eqVal (a b : Val) : eqV (.agg (.cons (.int .i64) (.cons (.int .i64) (.cons .str .unit)))) a b = decide (a = b) := by
  obtain ⟨k, n, s, ⟨⟩⟩ := a
  obtain ⟨k', n', s', ⟨⟩⟩ := b
  simp only [eqV, Bool.and_true]
  rw [Bool.eq_iff_iff]
  simp
/-! ### the reference's row -/
theorem ints9_t (a b : Int) : ref09_ints a b = some (cmpI a b) := by
  unfold ref09_ints cmpI
  simp only [cond_dec]
  by_cases h1 : a < b
  · simp [h1]
  · by_cases h2 : a > b <;> simp [h1, h2]
theorem dropC {A : Type} {s : List A} {i : Nat} (h : i < s.length) : s.drop i = s[i] :: s.drop (i + 1) := List.drop_eq_getElem_cons h
theorem texts_loop {a b : List UInt8} (ha : a.length < 1000000) : ∀ (k i : Nat), a.length - i ≤ k → i ≤ a.length → i ≤ b.length →
    ((loopT (ref09_Texts_l2 a b) ((i : Int), ()) : Option (Unit ⊕ Int)).bind (joinS fun _ => some (cmpI (a.length : Int) (b.length : Int)))) = some (Lib.compareBytes (a.drop i) (b.drop i)) := by
  intro k
  have fin : ∀ i : Nat, i ≤ a.length → i ≤ b.length → ¬ (i < a.length ∧ i < b.length) → ((loopT (ref09_Texts_l2 a b) ((i : Int), ()) : Option (Unit ⊕ Int)).bind (joinS fun _ => some (cmpI (a.length : Int) (b.length : Int)))) = some (Lib.compareBytes (a.drop i) (b.drop i)) := by
    intro i h1 h2 h3
    have hl : loopT (ref09_Texts_l2 a b) ((i : Int), ()) = some (.inl ()) := by
      refine loopT_inr ?_
      unfold ref09_Texts_l2
      simp only [cond_dec]
      by_cases h4 : (i : Int) < (a.length : Int)
      · rw [if_pos h4, if_neg (by omega)]
      · rw [if_neg h4]
    rw [hl, bind_join_inl]
    congr 1
    unfold cmpI
    by_cases h4 : i < a.length
    · have e : b.drop i = [] := List.drop_eq_nil_of_le (by omega)
      rw [e, dropC h4]
      simp only [Lib.compareBytes]
      rw [if_neg (by omega), if_pos (by omega)]
    · have e : a.drop i = [] := List.drop_eq_nil_of_le (by omega)
      rw [e]
      by_cases h5 : i < b.length
      · rw [dropC h5]
        simp only [Lib.compareBytes]
        rw [if_pos (by omega)]
      · have e : b.drop i = [] := List.drop_eq_nil_of_le (by omega)
        rw [e]
        simp only [Lib.compareBytes]
        rw [if_neg (by omega), if_neg (by omega)]
  induction k with
  | zero => intro i hk h1 h2; exact fin i h1 h2 (by omega)
  | succ k ih =>
    intro i hk h1 h2
    by_cases h3 : i < a.length ∧ i < b.length
    · obtain ⟨h3, h4⟩ := h3
      rw [dropC h3, dropC h4]
      simp only [Lib.compareBytes, UInt8.lt_iff_toNat_lt]
      by_cases he : a[i].toNat = b[i].toNat
      · rw [if_neg (by omega), if_neg (by omega), ← ih (i + 1) (by omega) (by omega) (by omega)]
        rw [loopT_inl (b := (((i + 1 : Nat) : Int), ()))]
        unfold ref09_Texts_l2
        simp only [cond_dec]
        rw [if_pos (by omega), if_pos (by omega), atI_lt h3, atI_lt h4]
        simp only [Option.bind_some]
        rw [decide_eq_true (by omega)]
        simp only [Bool.not_true, cond_false]
        rw [wrap64 (by omega) (by omega)]; rfl
      · have ba := a[i].toNat_lt
        have bb := b[i].toNat_lt
        have hl : loopT (ref09_Texts_l2 a b) ((i : Int), ()) = some (.inr (cmpI (a[i].toNat : Int) (b[i].toNat : Int))) := by
          refine loopT_inr ?_
          unfold ref09_Texts_l2
          simp only [cond_dec]
          rw [if_pos (by omega), if_pos (by omega), atI_lt h3, atI_lt h4]
          simp only [Option.bind_some]
          rw [decide_eq_false (by omega)]
          simp only [Bool.not_false, cond_true, ints9_t, Option.bind_some]
          rw [wrap64 (by omega) (by omega), wrap64 (by omega) (by omega)]
        rw [hl, bind_join_inr]
        congr 1
        unfold cmpI
        by_cases h5 : a[i].toNat < b[i].toNat
        · rw [if_pos (by omega), if_pos h5]
        · rw [if_neg (by omega), if_neg h5, if_pos (by omega), if_pos (by omega)]
    · exact fin i h1 h2 h3
theorem texts_t {a b : List UInt8} (ha : a.length < 1000000) : ref09_Texts a b = some (Lib.compareBytes a b) := by
  have := texts_loop (b := b) ha a.length 0 (by omega) (by omega) (by omega)
  simp only [List.drop_zero] at this
  unfold ref09_Texts
  simp only [ints9_t, Option.bind_some]
  exact this
/-! ### characters -/
theorem runesR_ok {s : List UInt8} : (runesR s []).2.1 = (runesM s).isSome := by
  unfold runesR; cases runesM s <;> rfl
/-! ### right values -/
def rightV (v : Val) : Bool := decide ((v.1 = 1 ∧ v.2.2.1 = [] ∧ -2147483647 ≤ v.2.1 ∧ v.2.1 ≤ 2147483647) ∨ (v.1 = 2 ∧ v.2.1 = 0 ∧ (runesM v.2.2.1).isSome = true ∧ v.2.2.1.length ≤ 64) ∨ (v.1 = 3 ∧ v.2.2.1 = [] ∧ 0 ≤ v.2.1 ∧ v.2.1 ≤ 1))
theorem refRight9_t {v : Val} (hv : v.2.2.1.length < 4294967296) : ref09_Right v = some (rightV v) := by
  unfold ref09_Right rightV
  simp only [runes_t (s := v.2.2.1) (by omega), Option.bind_some, runesR_ok, cond_dec]
  by_cases h1 : v.1 = 1
  · rw [if_pos h1]
    by_cases h2 : v.2.2.1 = []
    · by_cases h3 : v.2.1 ≥ -2147483647
      · simp only [h1, h2, h3]; simp <;> omega
      · simp only [h1, h2]; simp [h3] <;> omega
    · simp [h1, h2]
  rw [if_neg h1]
  by_cases h2 : v.1 = 2
  · rw [if_pos h2]
    cases hr : (runesM v.2.2.1).isSome with
    | true =>
      by_cases h3 : v.2.1 = 0
      · simp only [h2, h3]; simp <;> omega
      · simp [h2, h3]
    | false => by_cases h3 : v.2.1 = 0 <;> simp [h2, h3]
  rw [if_neg h2]
  by_cases h3 : v.1 = 3
  · rw [if_pos h3]
    by_cases h4 : v.2.2.1 = []
    · by_cases h5 : v.2.1 ≥ 0
      · simp only [h3, h4]; simp [h5] <;> omega
      · simp only [h3, h4]; simp [h5] <;> omega
    · simp [h3, h4]
  rw [if_neg h3]
  simp [h1, h2, h3]
/-! ### texts in quotes -/
/-! ### a right value's text -/
/-! ### a right value's bytes -/
abbrev Path := List (List UInt8)
abbrev Ent := Path × Int × List Val × Int × Unit
abbrev Chg := Int × Ent × Ent × Unit
/-! ### orders -/
theorem cb_cmp : Cmp Lib.compareBytes where
  one a b := by have := cb_one a b; omega
  neg a b := cb_neg a b
  zero a b := cb_zero a b
  trans a b d h1 h2 := by
    have h3 := cb_trans a b d (by omega) (by omega)
    rcases Int.lt_or_eq_of_le h3 with h | h
    · exact h
    · have e := (cb_zero a d).1 h
      subst e
      have := cb_neg a b
      omega
theorem ci_cmp : Cmp cmpI where
  one a b := by
    unfold cmpI
    split
    · omega
    · split <;> omega
  neg a b := by
    unfold cmpI
    by_cases h1 : a < b
    · rw [if_neg (by omega), if_pos (by omega), if_pos h1]; rfl
    · by_cases h2 : a > b
      · rw [if_pos (by omega), if_neg h1, if_pos h2]
      · rw [if_neg (by omega), if_neg (by omega), if_neg h1, if_neg h2]; rfl
  zero a b := by
    unfold cmpI
    by_cases h1 : a < b
    · rw [if_pos h1]; constructor <;> intro h <;> omega
    · by_cases h2 : a > b
      · rw [if_neg h1, if_pos h2]; constructor <;> intro h <;> omega
      · rw [if_neg h1, if_neg h2]; constructor <;> intro h <;> omega
  trans a b d h1 h2 := by
    unfold cmpI at h1 h2 ⊢
    have e1 : a < b := by
      by_cases h : a < b
      · exact h
      · rw [if_neg h] at h1; split at h1 <;> omega
    have e2 : b < d := by
      by_cases h : b < d
      · exact h
      · rw [if_neg h] at h2; split at h2 <;> omega
    rw [if_pos (by omega)]; omega
theorem less_cb : ∀ a b : List UInt8, Op.bytesLess a b = decide (Lib.compareBytes a b < 0)
  | [], [] => rfl
  | _ :: _, [] => rfl
  | [], _ :: _ => rfl
  | x :: a, y :: b => by
    simp only [Op.bytesLess, Lib.compareBytes]
    by_cases h1 : x < y
    · simp [h1]
    · by_cases h2 : y < x
      · have h3 : x ≠ y := fun e => by subst e; exact h1 h2
        simp [h1, h2, h3]
      · have h3 : x = y := UInt8.toNat_inj.1 (by rw [UInt8.lt_iff_toNat_lt] at h1 h2; omega)
        subst h3
        simp [h1, less_cb a b]
theorem strCompare_t (a b : List UInt8) : cmp_Compare_string a b = some (Lib.compareBytes a b) := by
  unfold cmp_Compare_string cmp_isNaN_string
  simp only [decide_true, Bool.not_true, Option.bind_some, cond_false, less_cb]
  have h1 := cb_one a b
  have h0 := cb_zero a b
  by_cases h2 : Lib.compareBytes a b < 0
  · rw [decide_eq_true h2]
    simp only [cond_true]
    congr 1; omega
  · rw [decide_eq_false h2]
    simp only [cond_false, Bool.false_or]
    by_cases h3 : a = b
    · rw [decide_eq_true h3]
      simp only [Bool.not_true, cond_false]
      rw [h0.2 h3]
    · rw [decide_eq_false h3]
      simp only [Bool.not_false, cond_true]
      congr 1
      have : Lib.compareBytes a b ≠ 0 := fun e => h3 (h0.1 e)
      omega
def cmpP : Path → Path → Int := cmpL Lib.compareBytes
theorem cmpP_cons {x y : List UInt8} {a b : Path} : cmpP (x :: a) (y :: b) = if Lib.compareBytes x y = 0 then cmpP a b else Lib.compareBytes x y := by unfold cmpP; rw [cmpL]
theorem pathCmp_loop {a b : Path} (ha : a.length < 1000000) : ∀ (k i : Nat), a.length - i ≤ k → i ≤ a.length → i ≤ b.length →
    ((loopT (slices_Compare_Sl_string_string_l2 a b) ((i : Int), ()) : Option (Unit ⊕ Int)).bind (joinS fun _ => cond (decide ((a.length : Int) < (b.length : Int))) (some (-1)) (some 0))) = some (cmpP (a.drop i) (b.drop i)) := by
  intro k
  have fin : ∀ i : Nat, i = a.length → i ≤ b.length → ((loopT (slices_Compare_Sl_string_string_l2 a b) ((i : Int), ()) : Option (Unit ⊕ Int)).bind (joinS fun _ => cond (decide ((a.length : Int) < (b.length : Int))) (some (-1)) (some 0))) = some (cmpP (a.drop i) (b.drop i)) := by
    intro i hi h2
    have hl : loopT (slices_Compare_Sl_string_string_l2 a b) ((i : Int), ()) = some (.inl ()) := by
      refine loopT_inr ?_
      unfold slices_Compare_Sl_string_string_l2
      simp only [cond_dec]
      rw [if_neg (by omega)]
    rw [hl, bind_join_inl, List.drop_eq_nil_of_le (by omega : a.length ≤ i)]
    rw [cond_dec]
    by_cases h5 : i < b.length
    · rw [List.drop_eq_getElem_cons h5, if_pos (by omega)]; rfl
    · rw [List.drop_eq_nil_of_le (by omega), if_neg (by omega)]; rfl
  induction k with
  | zero => intro i hk h1 h2; exact fin i (by omega) h2
  | succ k ih =>
    intro i hk h1 h2
    by_cases h3 : i < a.length
    · rw [List.drop_eq_getElem_cons h3]
      by_cases h4 : i < b.length
      · rw [List.drop_eq_getElem_cons h4, cmpP_cons]
        have turn : slices_Compare_Sl_string_string_l2 a b ((i : Int), ()) = if Lib.compareBytes a[i] b[i] = 0 then some (.inl (((i + 1 : Nat) : Int), ())) else some (.inr (.inr (Lib.compareBytes a[i] b[i]))) := by
          unfold slices_Compare_Sl_string_string_l2
          simp only [cond_dec]
          rw [if_pos (by omega), atI_lt h3]
          simp only [Option.bind_some]
          rw [if_neg (by omega), atI_lt h4]
          simp only [Option.bind_some, strCompare_t]
          by_cases hz : Lib.compareBytes a[i] b[i] = 0
          · rw [decide_eq_true hz, if_pos hz]
            simp only [Bool.not_true, cond_false]
            rw [wrap64 (by omega) (by omega)]; rfl
          · rw [decide_eq_false hz, if_neg hz]
            simp only [Bool.not_false, cond_true]
        by_cases hz : Lib.compareBytes a[i] b[i] = 0
        · rw [if_pos hz] at turn ⊢
          rw [loopT_inl turn]
          exact ih (i + 1) (by omega) (by omega) (by omega)
        · rw [if_neg hz] at turn ⊢
          rw [loopT_inr turn, bind_join_inr]
      · have hl : loopT (slices_Compare_Sl_string_string_l2 a b) ((i : Int), ()) = some (.inr 1) := by
          refine loopT_inr ?_
          unfold slices_Compare_Sl_string_string_l2
          simp only [cond_dec]
          rw [if_pos (by omega), atI_lt h3]
          simp only [Option.bind_some]
          rw [if_pos (by omega)]
        rw [hl, bind_join_inr, List.drop_eq_nil_of_le (by omega : b.length ≤ i)]; rfl
    · exact fin i (by omega) h2
theorem pathCompare_t {a b : Path} (ha : a.length < 1000000) : path_Compare a b = some (cmpP a b) := by
  have := pathCmp_loop (b := b) ha a.length 0 (by omega) (by omega) (by omega)
  simp only [List.drop_zero] at this
  rw [show (((0 : Nat) : Int)) = 0 from rfl] at this
  unfold path_Compare slices_Compare_Sl_string_string
  rw [this]; rfl
theorem refCmp_loop {a b : Path} (ha : a.length < 1000000) (hs : ∀ x ∈ a, x.length < 1000000) : ∀ (k i : Nat), a.length - i ≤ k → i ≤ a.length → i ≤ b.length →
    ((loopT (ref10_Compare_l2 a b) ((i : Int), ()) : Option (Unit ⊕ Int)).bind (joinS fun _ => cond (decide ((a.length : Int) < (b.length : Int))) (some (-1)) (cond (decide ((a.length : Int) > (b.length : Int))) (some 1) (some 0)))) = some (cmpP (a.drop i) (b.drop i)) := by
  intro k
  have fin : ∀ i : Nat, i ≤ a.length → i ≤ b.length → ¬ (i < a.length ∧ i < b.length) → ((loopT (ref10_Compare_l2 a b) ((i : Int), ()) : Option (Unit ⊕ Int)).bind (joinS fun _ => cond (decide ((a.length : Int) < (b.length : Int))) (some (-1)) (cond (decide ((a.length : Int) > (b.length : Int))) (some 1) (some 0)))) = some (cmpP (a.drop i) (b.drop i)) := by
    intro i h1 h2 h3
    have hl : loopT (ref10_Compare_l2 a b) ((i : Int), ()) = some (.inl ()) := by
      refine loopT_inr ?_
      unfold ref10_Compare_l2
      simp only [cond_dec]
      by_cases h4 : (i : Int) < (a.length : Int)
      · rw [if_pos h4, if_neg (by omega)]
      · rw [if_neg h4]
    rw [hl, bind_join_inl]
    simp only [cond_dec]
    by_cases h4 : i < a.length
    · rw [List.drop_eq_nil_of_le (by omega : b.length ≤ i), List.drop_eq_getElem_cons h4, if_neg (by omega), if_pos (by omega)]; rfl
    · rw [List.drop_eq_nil_of_le (by omega : a.length ≤ i)]
      by_cases h5 : i < b.length
      · rw [List.drop_eq_getElem_cons h5, if_pos (by omega)]; rfl
      · rw [List.drop_eq_nil_of_le (by omega), if_neg (by omega), if_neg (by omega)]; rfl
  induction k with
  | zero => intro i hk h1 h2; exact fin i h1 h2 (by omega)
  | succ k ih =>
    intro i hk h1 h2
    by_cases h3 : i < a.length ∧ i < b.length
    · obtain ⟨h3, h4⟩ := h3
      rw [List.drop_eq_getElem_cons h3, List.drop_eq_getElem_cons h4, cmpP_cons]
      have turn : ref10_Compare_l2 a b ((i : Int), ()) = if Lib.compareBytes a[i] b[i] = 0 then some (.inl (((i + 1 : Nat) : Int), ())) else some (.inr (.inr (Lib.compareBytes a[i] b[i]))) := by
        unfold ref10_Compare_l2
        simp only [cond_dec]
        rw [if_pos (by omega), if_pos (by omega), atI_lt h3, atI_lt h4]
        simp only [Option.bind_some, texts_t (hs _ (List.getElem_mem h3))]
        by_cases hz : Lib.compareBytes a[i] b[i] = 0
        · rw [decide_eq_true hz, if_pos hz]
          simp only [Bool.not_true, cond_false]
          rw [wrap64 (by omega) (by omega)]; rfl
        · rw [decide_eq_false hz, if_neg hz]
          simp only [Bool.not_false, cond_true]
      by_cases hz : Lib.compareBytes a[i] b[i] = 0
      · rw [if_pos hz] at turn ⊢
        rw [loopT_inl turn]
        exact ih (i + 1) (by omega) (by omega) (by omega)
      · rw [if_neg hz] at turn ⊢
        rw [loopT_inr turn, bind_join_inr]
    · exact fin i h1 h2 h3
theorem refPathCompare_t {a b : Path} (ha : a.length < 1000000) (hs : ∀ x ∈ a, x.length < 1000000) : ref10_Compare a b = some (cmpP a b) := by
  have := refCmp_loop (b := b) ha hs a.length 0 (by omega) (by omega) (by omega)
  simp only [List.drop_zero] at this
  rw [show (((0 : Nat) : Int)) = 0 from rfl] at this
  unfold ref10_Compare
  exact this
/-- Where an entry stands. -/
def keyE (e : Ent) : Path × Int := (e.1, e.2.1)
def cmpK : Path × Int → Path × Int → Int := cmpB cmpP cmpI
theorem ck_cmp : Cmp cmpK := (Cmp.list cb_cmp).pair ci_cmp
theorem changeCompare_t {a b : Ent} (ha : a.1.length < 1000000) : change_compare a b = some (cmpK (keyE a) (keyE b)) := by
  unfold change_compare
  simp only [pathCompare_t ha, compare_t, or_t, Option.bind_some]
  rfl
theorem refCompare39_t {a b : Ent} (ha : a.1.length < 1000000) (hs : ∀ x ∈ a.1, x.length < 1000000) : ref39_compare a b = some (cmpK (keyE a) (keyE b)) := by
  unfold ref39_compare cmpK cmpB keyE
  simp only [refPathCompare_t ha hs, Option.bind_some, cond_dec]
  by_cases h0 : cmpP a.1 b.1 = 0
  · rw [decide_eq_true h0, if_pos h0]
    simp only [Bool.not_true, cond_false]
    unfold cmpI
    by_cases h1 : a.2.1 < b.2.1
    · rw [if_pos h1, if_pos h1]
    · by_cases h2 : a.2.1 > b.2.1
      · rw [if_neg h1, if_pos h2, if_neg h1, if_pos h2]
      · rw [if_neg h1, if_neg h2, if_neg h1, if_neg h2]
  · rw [decide_eq_false h0, if_neg h0]
    simp only [Bool.not_false, cond_true]
/-! ### names -/
def mayM (c : Int) : Bool := decide (32 ≤ c ∧ (c < 127 ∨ 159 < c) ∧ c ≠ 65533)
theorem refMay_t (c : Int) : ref03_may c = some (mayM c) := by
  unfold ref03_may mayM
  simp only [cond_dec]
  by_cases h1 : c ≥ 32
  · rw [if_pos h1]
    by_cases h2 : c < 127
    · rw [if_pos h2, decide_eq_false (by omega : ¬ c = 65533), decide_eq_true (by omega)]; rfl
    · rw [if_neg h2]
      by_cases h3 : c > 159
      · rw [if_pos h3]
        by_cases h4 : c = 65533
        · rw [decide_eq_true h4, decide_eq_false (by omega)]; rfl
        · rw [decide_eq_false h4, decide_eq_true (by omega)]; rfl
      · rw [if_neg h3, decide_eq_false (by omega)]
  · rw [if_neg h1, decide_eq_false (by omega)]
theorem runes_len : ∀ {s : List UInt8} {l : List Int}, runesM s = some l → l.length ≤ s.length := by
  have key : ∀ (n : Nat) (s : List UInt8) (l : List Int), s.length ≤ n → runesM s = some l → l.length ≤ s.length := by
    intro n
    induction n with
    | zero =>
      intro s l hn h
      have : s = [] := List.eq_nil_of_length_eq_zero (by omega)
      subst this
      rw [runesM_nil] at h; cases h; simp
    | succ n ih =>
      intro s l hn h
      by_cases hs : s = []
      · subst hs
        rw [runesM_nil] at h; cases h; simp
      · have hl : s.length ≠ 0 := fun e => hs (List.eq_nil_of_length_eq_zero e)
        by_cases h0 : (charM s).2 = 0
        · rw [runesM_none hs h0] at h; cases h
        · rw [runesM_step hs h0, Option.map_eq_some_iff] at h
          obtain ⟨l', hl', rfl⟩ := h
          have := ih _ l' (by rw [List.length_drop]; omega) hl'
          rw [List.length_drop] at this
          simp only [List.length_cons]; omega
  intro s l h
  exact key s.length s l (Nat.le_refl _) h
def nameM (s : List UInt8) : Bool := match runesM s with
  | some l => decide (1 ≤ l.length ∧ l.length ≤ 24) && l.all mayM
  | none => false
theorem refNameRight_t {s : List UInt8} (hs : s.length < 1000000) : ref03_Right s = some (nameM s) := by
  unfold ref03_Right nameM
  rw [runes_t (by omega)]
  simp only [Option.bind_some]
  have gen : ∀ (l : List Int) (ok : Bool), l.length < 1000000 → loopT (ref03_Right_l3 (l, ok, ())) ((0 : Int), ()) = some (if l.all mayM = true then .inl () else .inr false) := by
    intro l ok hl
    have := loop_all (f := ref03_Right_l3 (l, ok, ())) (l := l) (fun i => ((i : Int), ())) mayM (.inl ()) (.inr false) (fun i h => by
      unfold ref03_Right_l3
      simp only [cond_dec]
      rw [if_pos (by omega), atI_lt h]
      simp only [Option.bind_some, refMay_t]
      cases mayM l[i] with
      | true => simp only [Bool.not_true, cond_false, if_true]; rw [wrap64 (by omega) (by omega)]; rfl
      | false => rfl) (by
      unfold ref03_Right_l3
      simp only [cond_dec]
      rw [if_neg (by omega)])
    exact this
  cases hr : runesM s with
  | none =>
    have e : runesR s [] = ([], false, ()) := by unfold runesR; rw [hr]
    rw [e, gen [] false (by simp)]
    rfl
  | some l =>
    have e : runesR s [] = (l, true, ()) := by unfold runesR; rw [hr]; rfl
    have hl : l.length ≤ s.length := runes_len hr
    rw [e, gen l true (by omega)]
    cases hm : l.all mayM with
    | false =>
      simp only [Bool.false_eq_true, if_false, bind_join_inr, hm, Bool.and_false]
    | true =>
      simp only [if_true, bind_join_inl, cond_true, hm, Bool.and_true, cond_dec]
      by_cases h1 : (l.length : Int) ≥ 1
      · rw [if_pos h1]
        congr 1
        rw [decide_eq_decide]; omega
      · rw [if_neg h1, decide_eq_false (by omega)]
/-! ### paths -/
def checkM (p : Path) : Int := if p.length = 0 then 8 else if p.length > 8 then 9 else if p.all nameM = true then 0 else 8
theorem refCheck_t {p : Path} (hs : ∀ x ∈ p, x.length < 1000000) : ref10_Check p = some (checkM p) := by
  unfold ref10_Check checkM
  simp only [cond_dec]
  by_cases h1 : (p.length : Int) = 0
  · rw [if_pos h1, if_pos (show p.length = 0 by omega)]
  rw [if_neg h1, if_neg (show ¬ p.length = 0 by omega)]
  by_cases h2 : (p.length : Int) > 8
  · rw [if_pos h2, if_pos (show p.length > 8 by omega)]
  rw [if_neg h2, if_neg (show ¬ p.length > 8 by omega)]
  have := loop_all (f := ref10_Check_l6 p) (l := p) (fun i => ((i : Int), ())) nameM (0 : Int) 8 (fun i h => by
    unfold ref10_Check_l6
    simp only [cond_dec]
    rw [if_pos (by omega), atI_lt h]
    simp only [Option.bind_some, refNameRight_t (hs _ (List.getElem_mem h))]
    cases nameM p[i] with
    | true => simp only [Bool.not_true, cond_false, if_true]; rw [wrap64 (by omega) (by omega)]; rfl
    | false => rfl) (by
    unfold ref10_Check_l6
    simp only [cond_dec]
    rw [if_neg (by omega)])
  exact this
/-! ### alike -/
instance decE1 : DecidableEq (List Val × Int × Unit) := fun a b => @instDecidableEqProd (List Val) (Int × Unit) inferInstance inferInstance a b
instance decE2 : DecidableEq (Int × List Val × Int × Unit) := fun a b => @instDecidableEqProd Int (List Val × Int × Unit) inferInstance decE1 a b
instance decE : DecidableEq Ent := fun a b => @instDecidableEqProd Path (Int × List Val × Int × Unit) inferInstance decE2 a b
instance decC1 : DecidableEq (Ent × Unit) := fun a b => @instDecidableEqProd Ent Unit decE inferInstance a b
instance decC2 : DecidableEq (Ent × Ent × Unit) := fun a b => @instDecidableEqProd Ent (Ent × Unit) decE decC1 a b
instance decC : DecidableEq Chg := fun a b => @instDecidableEqProd Int (Ent × Ent × Unit) inferInstance decC2 a b
theorem ite_bool {b : Bool} : (if b = true then true else false) = b := by cases b <;> rfl
theorem strsEq_t {a b : Path} (ha : a.length < 1000000) : slices_Equal_Sl_string_string a b = some (decide (a = b)) := by
  unfold slices_Equal_Sl_string_string
  by_cases hl : a.length = b.length
  · rw [decide_eq_true (by omega)]
    simp only [Bool.not_true, cond_false]
    have := loop_all2 (f := slices_Equal_Sl_string_string_l4 a b) (l := a) (m := b) (fun i => ((i : Int), ())) (fun x y => decide (x = y)) true false hl (fun i h h' => by
      unfold slices_Equal_Sl_string_string_l4
      simp only [cond_dec]
      rw [if_pos (by omega), atI_lt h, atI_lt h']
      simp only [Option.bind_some]
      cases decide (a[i] = b[i]) with
      | true => simp only [Bool.not_true, cond_false, if_true]; rw [wrap64 (by omega) (by omega)]; rfl
      | false => rfl) (by
      unfold slices_Equal_Sl_string_string_l4
      simp only [cond_dec]
      rw [if_neg (by omega)])
    rw [all2_dec, ite_bool] at this
    exact this
  · rw [decide_eq_false (by omega)]
    have : a ≠ b := fun e => hl (by rw [e])
    rw [decide_eq_false this]; rfl
theorem refStrsEq_t {a b : Path} (ha : a.length < 1000000) : ref03_Same a b = some (decide (a = b)) := by
  unfold ref03_Same
  by_cases hl : a.length = b.length
  · rw [decide_eq_true (by omega)]
    simp only [Bool.not_true, cond_false]
    have := loop_all2 (f := ref03_Same_l4 a b) (l := a) (m := b) (fun i => ((i : Int), ())) (fun x y => decide (x = y)) true false hl (fun i h h' => by
      unfold ref03_Same_l4
      simp only [cond_dec]
      rw [if_pos (by omega), atI_lt h, atI_lt h']
      simp only [Option.bind_some]
      cases decide (a[i] = b[i]) with
      | true => simp only [Bool.not_true, cond_false, if_true]; rw [wrap64 (by omega) (by omega)]; rfl
      | false => rfl) (by
      unfold ref03_Same_l4
      simp only [cond_dec]
      rw [if_neg (by omega)])
    rw [all2_dec, ite_bool] at this
    exact this
  · rw [decide_eq_false (by omega)]
    have : a ≠ b := fun e => hl (by rw [e])
    rw [decide_eq_false this]; rfl
theorem valsEq_t {a b : List Val} (ha : a.length < 1000000) : slices_Equal_Sl_api_Value_api_Value a b = some (decide (a = b)) := by
  unfold slices_Equal_Sl_api_Value_api_Value
  by_cases hl : a.length = b.length
  · rw [decide_eq_true (by omega)]
    simp only [Bool.not_true, cond_false]
    have := loop_all2 (f := slices_Equal_Sl_api_Value_api_Value_l4 a b) (l := a) (m := b) (fun i => ((i : Int), ())) (fun x y => decide (x = y)) true false hl (fun i h h' => by
      unfold slices_Equal_Sl_api_Value_api_Value_l4
      simp only [cond_dec]
      rw [if_pos (by omega), atI_lt h, atI_lt h']
      simp only [Option.bind_some, eqVal]
      cases decide (a[i] = b[i]) with
      | true => simp only [Bool.not_true, cond_false, if_true]; rw [wrap64 (by omega) (by omega)]; rfl
      | false => rfl) (by
      unfold slices_Equal_Sl_api_Value_api_Value_l4
      simp only [cond_dec]
      rw [if_neg (by omega)])
    rw [all2_dec, ite_bool] at this
    exact this
  · rw [decide_eq_false (by omega)]
    have : a ≠ b := fun e => hl (by rw [e])
    rw [decide_eq_false this]; rfl
theorem refValsEq_t {a b : List Val} (ha : a.length < 1000000) : ref09_Same a b = some (decide (a = b)) := by
  unfold ref09_Same
  by_cases hl : a.length = b.length
  · rw [decide_eq_true (by omega)]
    simp only [Bool.not_true, cond_false]
    have := loop_all2 (f := ref09_Same_l4 a b) (l := a) (m := b) (fun i => ((i : Int), ())) (fun x y => decide (x = y)) true false hl (fun i h h' => by
      unfold ref09_Same_l4
      simp only [cond_dec]
      rw [if_pos (by omega), atI_lt h, atI_lt h']
      simp only [Option.bind_some, eqVal]
      cases decide (a[i] = b[i]) with
      | true => simp only [Bool.not_true, cond_false, if_true]; rw [wrap64 (by omega) (by omega)]; rfl
      | false => rfl) (by
      unfold ref09_Same_l4
      simp only [cond_dec]
      rw [if_neg (by omega)])
    rw [all2_dec, ite_bool] at this
    exact this
  · rw [decide_eq_false (by omega)]
    have : a ≠ b := fun e => hl (by rw [e])
    rw [decide_eq_false this]; rfl
/-- An entry whose lists are short. -/
def lowE (e : Ent) : Prop := e.1.length < 1000000 ∧ e.2.2.1.length < 1000000
theorem pathSame_t {a b : Path} (ha : a.length < 1000000) : path_Same a b = some (decide (a = b)) := by
  unfold path_Same
  rw [strsEq_t ha]; rfl
theorem viewSame_t {a b : Ent} (ha : lowE a) : view_same a b = some (decide (a = b)) := by
  obtain ⟨p, k, l, n, ⟨⟩⟩ := a
  obtain ⟨p', k', l', n', ⟨⟩⟩ := b
  unfold view_same
  simp only [pathSame_t ha.1, valsEq_t ha.2, Option.bind_some, cond_dec]
  by_cases h1 : k = k'
  · rw [if_pos h1]
    simp only [Option.bind_some]
    by_cases h2 : n = n'
    · by_cases h3 : p = p'
      · by_cases h4 : l = l'
        · simp [h1, h2, h3, h4]
        · simp [h1, h2, h3, h4]
      · simp [h1, h2, h3]
    · simp [h1, h2]
  · rw [if_neg h1]
    simp [h1]
theorem changeSame_t {a b : Ent} (ha : lowE a) : change_same a b = some (decide (a = b)) := by
  unfold change_same view_Same slices_EqualFunc_Sl_view_Entry_Sl_view_Entry_view_Entry_view_Entry__view_same
  simp only [List.length_cons, List.length_nil, decide_true, Bool.not_true, cond_false]
  have := loop_all2 (f := slices_EqualFunc_Sl_view_Entry_Sl_view_Entry_view_Entry_view_Entry__view_same_l4 [a] [b]) (l := [a]) (m := [b]) (fun i => ((i : Int), ())) (fun x y => decide (x = y)) true false rfl (fun i h h' => by
    have hi : i = 0 := by simpa using h
    subst hi
    unfold slices_EqualFunc_Sl_view_Entry_Sl_view_Entry_view_Entry_view_Entry__view_same_l4
    simp only [cond_dec]
    rw [if_pos (by simp), atI_lt h, atI_lt h']
    simp only [Option.bind_some, List.getElem_cons_zero, viewSame_t ha]
    by_cases hab : a = b
    · simp only [decide_eq_true hab, Bool.not_true, cond_false, if_true]; rw [wrap64 (by omega) (by omega)]; rfl
    · simp only [decide_eq_false hab, Bool.not_false, cond_true, Bool.false_eq_true, if_false]) (by
    unfold slices_EqualFunc_Sl_view_Entry_Sl_view_Entry_view_Entry_view_Entry__view_same_l4
    simp only [cond_dec]
    rw [if_neg (by simp)])
  rw [all2_dec, ite_bool] at this
  rw [show (0 : Int) = ((0 : Nat) : Int) from rfl, this]
  simp
theorem ref18Same_t {l m : List Ent} (hl : l.length < 1000000) (hs : ∀ e ∈ l, lowE e) : ref18_Same l m = some (decide (l = m)) := by
  unfold ref18_Same
  by_cases hlen : l.length = m.length
  · rw [decide_eq_true (by omega)]
    simp only [Bool.not_true, cond_false]
    have := loop_all2 (f := ref18_Same_l4 l m) (l := l) (m := m) (fun i => ((i : Int), ())) (fun x y => decide (x = y)) true false hlen (fun i h h' => by
      unfold ref18_Same_l4
      simp only [cond_dec]
      rw [if_pos (by omega), atI_lt h, atI_lt h']
      have hlo := hs _ (List.getElem_mem h)
      simp only [Option.bind_some, refStrsEq_t hlo.1, refValsEq_t hlo.2]
      have w1 : IntKind.wrap .i64 ((i : Int) + 1) = ((i + 1 : Nat) : Int) := by rw [wrap64 (by omega) (by omega)]; rfl
      rw [w1]
      generalize l[i] = x at *
      generalize m[i] = y at *
      obtain ⟨p, k, v, n, ⟨⟩⟩ := x
      obtain ⟨p', k', v', n', ⟨⟩⟩ := y
      simp only
      by_cases h1 : k = k'
      · by_cases h2 : n = n'
        · by_cases h3 : p = p'
          · by_cases h4 : v = v'
            · simp [h1, h2, h3, h4]
            · simp [h1, h2, h3, h4]
          · simp [h1, h2, h3]
        · simp [h1, h2]
      · simp [h1]) (by
      unfold ref18_Same_l4
      simp only [cond_dec]
      rw [if_neg (by omega)])
    rw [all2_dec, ite_bool] at this
    exact this
  · rw [decide_eq_false (by omega)]
    have : l ≠ m := fun e => hlen (by rw [e])
    rw [decide_eq_false this]; rfl
def lowC (c : Chg) : Prop := lowE c.2.1 ∧ lowE c.2.2.1
theorem lawSame_t {l : List Chg} (hl : l.length < 1000000) (hs : ∀ c ∈ l, lowC c) : law39_same l l = some true := by
  unfold law39_same
  simp only [decide_true, Bool.not_true, cond_false]
  have := loop_all2 (f := law39_same_l4 l l) (l := l) (m := l) (fun i => ((i : Int), ())) (fun x y => decide (x = y)) true false rfl (fun i h h' => by
    unfold law39_same_l4
    simp only [cond_dec]
    have hlo := hs _ (List.getElem_mem h)
    rw [if_pos (by omega), atI_lt h]
    simp only [Option.bind_some, decide_true, Bool.not_true, cond_false]
    rw [ref18Same_t (by simp) (fun e he => by
      rcases List.mem_cons.1 he with rfl | he
      · exact hlo.1
      · simp at he; subst he; exact hlo.2)]
    simp only [Option.bind_some, decide_true, Bool.not_true, cond_false, if_true]
    rw [wrap64 (by omega) (by omega)]; rfl) (by
    unfold law39_same_l4
    simp only [cond_dec]
    rw [if_neg (by omega)])
  rw [all2_refl (fun x _ => by simp), if_pos rfl] at this
  exact this
/-! ### copies -/
theorem cloneE_t {e : Ent} (h : lowE e) : change_clone e = some e := by
  unfold change_clone slices_Clone_Sl_string_string slices_Clone_Sl_api_Value_api_Value cloneT
  have h1 : e.1.length < most := by unfold most; have := h.1; omega
  have h2 : e.2.2.1.length < most := by unfold most; have := h.2; omega
  rw [if_pos h1, if_pos h2]
  rfl
theorem theirs_t {l : List Ent} (hl : l.length < 1000000) : law39_Theirs l = some l := by
  have := loop_map (f := law39_Theirs_l3 l) (l := l) (fun i o => ((i : Int), o, ())) (fun x => [x]) (fun o => o) 1 (fun x _ => by simp) (fun i h o ho => by
    unfold law39_Theirs_l3
    simp only [cond_dec]
    rw [if_pos (by omega), atI_lt h]
    simp only [Option.bind_some]
    rw [roomT_lt (by simp; omega), wrap64 (by omega) (by omega)]
    rfl) (fun o ho => by
    unfold law39_Theirs_l3
    simp only [cond_dec]
    rw [if_neg (by omega)])
  unfold law39_Theirs
  rw [List.flatMap_singleton'] at this
  exact this
theorem changes_t {l : List Chg} (hl : l.length < 1000000) : law39_changes l = some l := by
  have := loop_map (f := law39_changes_l3 l) (l := l) (fun i o => ((i : Int), o, ())) (fun x => [x]) (fun o => o) 1 (fun x _ => by simp) (fun i h o ho => by
    unfold law39_changes_l3
    simp only [cond_dec]
    rw [if_pos (by omega), atI_lt h]
    simp only [Option.bind_some]
    rw [theirs_t (by simp)]
    simp only [Option.bind_some]
    rw [show (0 : Int) = ((0 : Nat) : Int) from rfl, show (1 : Int) = ((1 : Nat) : Int) from rfl, atI_nat, atI_nat]
    simp only [List.getElem?_cons_zero, List.getElem?_cons_succ, Option.bind_some]
    rw [roomT_lt (by simp; omega), wrap64 (by omega) (by omega)]
    rfl) (fun o ho => by
    unfold law39_changes_l3
    simp only [cond_dec]
    rw [if_neg (by omega)])
  unfold law39_changes
  rw [List.flatMap_singleton'] at this
  exact this
/-! ### few, and short -/
def smallE (e : Ent) : Prop := e.1.length ≤ 12 ∧ (∀ x ∈ e.1, x.length ≤ 120) ∧ e.2.2.1.length ≤ 30 ∧ ∀ v ∈ e.2.2.1, rightV v = true
theorem small_low {e : Ent} (h : smallE e) : lowE e := ⟨by have := h.1; omega, by have := h.2.2.1; omega⟩
theorem shortP_t {p : Path} : ref10_Short p = some (decide (p.length ≤ 12) && p.all fun x => decide (x.length ≤ 120)) := by
  unfold ref10_Short
  simp only [cond_dec]
  by_cases h1 : (p.length : Int) > 12
  · rw [if_pos h1, decide_eq_false (by omega)]; rfl
  rw [if_neg h1, decide_eq_true (by omega), Bool.true_and]
  have := loop_all (f := ref10_Short_l4 p) (l := p) (fun i => ((i : Int), ())) (fun x => decide (x.length ≤ 120)) true false (fun i h => by
    unfold ref10_Short_l4
    simp only [cond_dec]
    rw [if_pos (by omega), atI_lt h]
    simp only [Option.bind_some]
    by_cases h2 : (p[i].length : Int) > 120
    · rw [if_pos h2, if_neg (by simp; omega)]
    · rw [if_neg h2, if_pos (by simp; omega), wrap64 (by omega) (by omega)]; rfl) (by
    unfold ref10_Short_l4
    simp only [cond_dec]
    rw [if_neg (by omega)])
  rw [ite_bool] at this
  exact this
def shortE (e : Ent) : Bool := decide (e.1.length ≤ 12) && (e.1.all fun x => decide (x.length ≤ 120)) && decide (e.2.2.1.length ≤ 30) && e.2.2.1.all rightV
theorem shortE_small {e : Ent} (h : shortE e = true) : smallE e := by
  unfold shortE at h
  simp only [Bool.and_eq_true, decide_eq_true_eq, List.all_eq_true] at h
  exact ⟨h.1.1.1, h.1.1.2, h.1.2, h.2⟩
theorem short_t {l : List Ent} (hb : ∀ e ∈ l, ∀ v ∈ e.2.2.1, v.2.2.1.length < 4294967296) : law39_short l = some (decide (l.length ≤ 30) && l.all shortE) := by
  unfold law39_short
  simp only [cond_dec]
  by_cases h1 : (l.length : Int) > 30
  · rw [if_pos h1, decide_eq_false (by omega)]; rfl
  rw [if_neg h1, decide_eq_true (by omega), Bool.true_and]
  have := loop_all (f := law39_short_l4 l) (l := l) (fun i => ((i : Int), ())) shortE true false (fun i h => by
    unfold law39_short_l4
    simp only [cond_dec]
    rw [if_pos (by omega), atI_lt h]
    simp only [Option.bind_some, shortP_t]
    unfold shortE
    cases hp : (decide (l[i].1.length ≤ 12) && l[i].1.all fun x => decide (x.length ≤ 120)) with
    | false => simp
    | true =>
      simp only [Bool.not_true, cond_false, Bool.true_and]
      by_cases h2 : (l[i].2.2.1.length : Int) > 30
      · rw [if_pos h2, decide_eq_false (by omega)]; rfl
      rw [if_neg h2, decide_eq_true (by omega), Bool.true_and]
      have hv := hb _ (List.getElem_mem h)
      have inner := loop_all (f := law39_short_l9 ((i : Int), ()) l) (l := l[i].2.2.1) (fun k => ((k : Int), ())) rightV (.inl (((i + 1 : Nat) : Int), ())) (.inr false : (Int × Unit) ⊕ Bool) (fun k hk => by
        unfold law39_short_l9
        simp only [atI_lt h, Option.bind_some, cond_dec]
        rw [if_pos (by omega), atI_lt hk]
        simp only [Option.bind_some, refRight9_t (hv _ (List.getElem_mem hk))]
        cases rightV l[i].2.2.1[k] with
        | true => simp only [Bool.not_true, cond_false, if_true]; rw [wrap64 (by omega) (by omega)]; rfl
        | false => rfl) (by
        unfold law39_short_l9
        simp only [atI_lt h, Option.bind_some, cond_dec]
        rw [if_neg (by omega), wrap64 (by omega) (by omega)]; rfl)
      rw [show ((0 : Int), ()) = (((0 : Nat) : Int), ()) from rfl, inner]) (by
    unfold law39_short_l4
    simp only [cond_dec]
    rw [if_neg (by omega)])
  rw [ite_bool] at this
  exact this
/-! ### do entries rise -/
def okE (e : Ent) : Bool := decide (1 ≤ e.2.1 ∧ e.2.1 ≤ 3 ∧ checkM e.1 = 0)
def risesAt (l : List Ent) (i : Nat) : Bool :=
  match l[i]? with
  | some e => okE e && (match i with
    | 0 => true
    | j + 1 => match l[j]? with
      | some d => decide (cmpK (keyE d) (keyE e) < 0)
      | none => false)
  | none => false
theorem small_len {e : Ent} (h : smallE e) : ∀ x ∈ e.1, x.length < 1000000 := fun x hx => by have := h.2.1 x hx; omega
open Classical in
theorem refRight39_t {l : List Ent} (hl : l.length < 1000000) (hs : ∀ e ∈ l, smallE e) : ref39_Right l = some (if (∀ i, i < l.length → risesAt l i = true) then true else false) := by
  have := loop_allI (f := ref39_Right_l2 l) l.length (fun i => ((i : Int), ())) (risesAt l) true false (fun i h => by
    unfold ref39_Right_l2
    simp only [cond_dec]
    rw [if_pos (by omega), atI_lt h]
    have hse := hs _ (List.getElem_mem h)
    unfold risesAt
    rw [List.getElem?_eq_getElem h]
    simp only [Option.bind_some, refCheck_t (small_len hse)]
    have w1 : IntKind.wrap .i64 ((i : Int) + 1) = ((i + 1 : Nat) : Int) := by rw [wrap64 (by omega) (by omega)]; rfl
    by_cases hk1 : l[i].2.1 < 1
    · rw [if_pos hk1]
      have : okE l[i] = false := by unfold okE; rw [decide_eq_false]; omega
      simp only [this, Bool.false_and, Bool.false_eq_true, if_false]
    rw [if_neg hk1]
    by_cases hk2 : l[i].2.1 > 3
    · rw [if_pos hk2]
      have : okE l[i] = false := by unfold okE; rw [decide_eq_false]; omega
      simp only [this, Bool.false_and, Bool.false_eq_true, if_false]
    rw [if_neg hk2]
    by_cases hc : checkM l[i].1 = 0
    · rw [decide_eq_true hc]
      have hok : okE l[i] = true := by unfold okE; rw [decide_eq_true]; omega
      simp only [Bool.not_true, cond_false, hok, Bool.true_and]
      cases i with
      | zero =>
        rw [if_neg (by omega), w1]
        rfl
      | succ j =>
        rw [if_pos (by omega)]
        have w2 : IntKind.wrap .i64 (((j + 1 : Nat) : Int) - 1) = (j : Int) := by rw [wrap64 (by omega) (by omega)]; omega
        have hj : j < l.length := by omega
        have hsj := hs _ (List.getElem_mem hj)
        rw [w2, atI_lt hj]
        simp only [List.getElem?_eq_getElem hj, Option.bind_some, refCompare39_t (small_low hsj).1 (small_len hsj)]
        have ho := ck_cmp.one (keyE l[j]) (keyE l[j + 1])
        by_cases hcmp : cmpK (keyE l[j]) (keyE l[j + 1]) < 0
        · have : cmpK (keyE l[j]) (keyE l[j + 1]) = -1 := by omega
          rw [decide_eq_true this, if_pos (by simpa using hcmp), w1]; rfl
        · have : ¬ cmpK (keyE l[j]) (keyE l[j + 1]) = -1 := by omega
          rw [decide_eq_false this, if_neg (by simpa using hcmp)]; rfl
    · rw [decide_eq_false hc]
      have hok : okE l[i] = false := by unfold okE; rw [decide_eq_false]; omega
      simp only [Bool.not_false, cond_true, hok, Bool.false_and, Bool.false_eq_true, if_false]) (by
    unfold ref39_Right_l2
    simp only [cond_dec]
    rw [if_neg (by omega)])
  exact this
theorem rises_of : ∀ {l : List Ent}, (∀ i, (h : i + 1 < l.length) → cmpK (keyE l[i]) (keyE l[i + 1]) < 0) → Rises cmpK keyE l
  | [], _ => List.Pairwise.nil
  | [x], _ => List.pairwise_singleton ..
  | x :: y :: l, h => by
    have ih := rises_of (l := y :: l) (fun i hi => by
      have := h (i + 1) (by simpa using hi)
      simpa using this)
    have h0 := h 0 (by simp)
    simp only [List.getElem_cons_zero, List.getElem_cons_succ, Nat.zero_add] at h0
    refine List.pairwise_cons.2 ⟨fun z hz => ?_, ih⟩
    rcases List.mem_cons.1 hz with rfl | hz
    · exact h0
    · exact ck_cmp.trans _ _ _ h0 ((List.pairwise_cons.1 ih).1 z hz)
theorem rises_at {l : List Ent} (h : ∀ i, i < l.length → risesAt l i = true) : Rises cmpK keyE l ∧ ∀ e ∈ l, okE e = true := by
  refine ⟨rises_of fun i hi => ?_, fun e he => ?_⟩
  · have := h (i + 1) hi
    unfold risesAt at this
    rw [List.getElem?_eq_getElem hi] at this
    simp only [Bool.and_eq_true, List.getElem?_eq_getElem (show i < l.length by omega)] at this
    simpa using this.2
  · obtain ⟨i, hi, rfl⟩ := List.getElem_of_mem he
    have := h i hi
    unfold risesAt at this
    rw [List.getElem?_eq_getElem hi] at this
    simp only [Bool.and_eq_true] at this
    exact this.1
/-! ### what is unlike -/
def zeroE : Ent := ([], 0, [], 0, ())
def sameE (x y : Ent) : Bool := decide (x = y)
def goneC (x : Ent) : Chg := (2, x, zeroE, ())
def madeC (y : Ent) : Chg := (1, zeroE, y, ())
def turnC (x y : Ent) : Chg := (3, x, y, ())
def dM : List Ent → List Ent → List Chg := diffM cmpK keyE sameE goneC madeC turnC
theorem dM_len : ∀ (n : Nat) (a b : List Ent), a.length + b.length ≤ n → (dM a b).length ≤ a.length + b.length := by
  intro n
  induction n with
  | zero =>
    intro a b h
    have e1 : a = [] := List.eq_nil_of_length_eq_zero (by omega)
    have e2 : b = [] := List.eq_nil_of_length_eq_zero (by omega)
    subst e1; subst e2
    simp [dM, diffM]
  | succ n ih =>
    intro a b h
    match a, b, h with
    | [], b, h => simp [dM, diffM]
    | x :: a, [], h => simp [dM, diffM]
    | x :: a, y :: b, h =>
      simp only [List.length_cons] at h
      have i1 := ih a (y :: b) (by simp only [List.length_cons]; omega)
      have i2 := ih (x :: a) b (by simp only [List.length_cons]; omega)
      have i3 := ih a b (by omega)
      simp only [List.length_cons] at i1 i2
      unfold dM at i1 i2 i3 ⊢
      rw [diffM.eq_def]
      simp only
      split
      · simp only [List.length_cons]; omega
      · split
        · simp only [List.length_cons]; omega
        · rw [List.length_append]
          have : (if sameE x y = true then [] else [turnC x y]).length ≤ 1 := by split <;> simp
          simp only [List.length_cons]; omega
theorem sub1 {A : Type} {x : A} {l : List A} : subI (x :: l) 1 ((x :: l).length : Int) = some l := by
  have := subI_from (l := x :: l) (i := 1) (by simp)
  simpa using this
theorem at0 {A : Type} {x : A} {l : List A} : atI (x :: l) 0 = some x := by
  have := atI_nat (l := x :: l) (i := 0)
  simpa using this
theorem diff_loop : ∀ (n : Nat) (a b : List Ent) (o : List Chg), a.length + b.length ≤ n → a.length + b.length + o.length < 1000000 → (∀ e ∈ a, lowE e) → (∀ e ∈ b, lowE e) → loopT change_Diff_l2 (a, b, o, ()) = some (o ++ dM a b) := by
  intro n
  induction n with
  | zero =>
    intro a b o h _ _ _
    have e1 : a = [] := List.eq_nil_of_length_eq_zero (by omega)
    have e2 : b = [] := List.eq_nil_of_length_eq_zero (by omega)
    subst e1; subst e2
    refine loopT_inr ?_
    unfold change_Diff_l2
    simp [dM, diffM]
  | succ n ih =>
    intro a b o h hb la lb
    match a, b, h, hb, la, lb with
    | [], [], h, hb, la, lb =>
      refine loopT_inr ?_
      unfold change_Diff_l2
      simp [dM, diffM]
    | [], y :: b, h, hb, la, lb =>
      simp only [List.length_cons, List.length_nil] at h hb
      rw [loopT_inl (b := ([], b, o ++ [madeC y], ())), ih [] b _ (by simp <;> omega) (by simp <;> omega) (fun e he => by cases he) (fun e he => lb e (List.mem_cons_of_mem _ he))]
      · simp [dM, diffM]
      · unfold change_Diff_l2
        simp only [cond_dec]
        rw [if_neg (by simp), if_pos (by simp <;> omega), bind_join_inl]
        simp only []
        rw [if_neg (by simp <;> omega), if_neg (by simp), bind_join_inl]
        simp only []
        rw [if_neg (by omega), if_pos (by omega), at0]
        simp only [Option.bind_some, cloneE_t (lb y (List.mem_cons_self ..))]
        rw [roomT_lt (by simp <;> omega)]
        simp only [Option.bind_some]
        rw [sub1]
        rfl
    | x :: a, [], h, hb, la, lb =>
      simp only [List.length_cons, List.length_nil] at h hb
      rw [loopT_inl (b := (a, [], o ++ [goneC x], ())), ih a [] _ (by simp <;> omega) (by simp <;> omega) (fun e he => la e (List.mem_cons_of_mem _ he)) (fun e he => by cases he)]
      · cases a <;> simp [dM, diffM]
      · unfold change_Diff_l2
        simp only [cond_dec]
        rw [if_pos (by simp <;> omega), bind_join_inl]
        simp only []
        rw [if_pos (by simp), bind_join_inl]
        simp only []
        rw [if_pos (by omega), at0]
        simp only [Option.bind_some, cloneE_t (la x (List.mem_cons_self ..))]
        rw [roomT_lt (by simp <;> omega)]
        simp only [Option.bind_some]
        rw [sub1]
        rfl
    | x :: a, y :: b, h, hb, la, lb =>
      simp only [List.length_cons] at h hb
      have lx := la x (List.mem_cons_self ..)
      have ly := lb y (List.mem_cons_self ..)
      have la' : ∀ e ∈ a, lowE e := fun e he => la e (List.mem_cons_of_mem _ he)
      have lb' : ∀ e ∈ b, lowE e := fun e he => lb e (List.mem_cons_of_mem _ he)
      have hd : dM (x :: a) (y :: b) = if cmpK (keyE x) (keyE y) < 0 then goneC x :: dM a (y :: b) else if cmpK (keyE x) (keyE y) > 0 then madeC y :: dM (x :: a) b else (if sameE x y then [] else [turnC x y]) ++ dM a b := by
        unfold dM
        rw [diffM.eq_def]
      rw [hd]
      by_cases h1 : cmpK (keyE x) (keyE y) < 0
      · rw [if_pos h1, loopT_inl (b := (a, y :: b, o ++ [goneC x], ())), ih a (y :: b) _ (by simp only [List.length_cons]; omega) (by simp <;> omega) la' lb]
        · simp
        · unfold change_Diff_l2
          simp only [cond_dec]
          rw [if_pos (by simp <;> omega), bind_join_inl]
          simp only []
          rw [if_neg (by simp <;> omega), if_pos (by simp <;> omega), at0, at0]
          simp only [Option.bind_some, changeCompare_t lx.1, joinS]
          rw [if_pos h1]
          simp only [Option.bind_some, cloneE_t lx]
          rw [roomT_lt (by simp <;> omega)]
          simp only [Option.bind_some]
          rw [sub1]
          rfl
      · rw [if_neg h1]
        by_cases h2 : cmpK (keyE x) (keyE y) > 0
        · rw [if_pos h2, loopT_inl (b := (x :: a, b, o ++ [madeC y], ())), ih (x :: a) b _ (by simp only [List.length_cons]; omega) (by simp <;> omega) la lb']
          · simp
          · unfold change_Diff_l2
            simp only [cond_dec]
            rw [if_pos (by simp <;> omega), bind_join_inl]
            simp only []
            rw [if_neg (by simp <;> omega), if_pos (by simp <;> omega), at0, at0]
            simp only [Option.bind_some, changeCompare_t lx.1, joinS]
            rw [if_neg h1, if_pos h2]
            simp only [Option.bind_some, cloneE_t ly]
            rw [roomT_lt (by simp <;> omega)]
            simp only [Option.bind_some]
            rw [sub1]
            rfl
        · rw [if_neg h2, loopT_inl (b := (a, b, o ++ (if sameE x y then [] else [turnC x y]), ())), ih a b _ (by omega) (by
            rw [List.length_append]
            have : (if sameE x y = true then [] else [turnC x y]).length ≤ 1 := by split <;> simp
            omega) la' lb']
          · simp
          · unfold change_Diff_l2
            simp only [cond_dec]
            rw [if_pos (by simp <;> omega), bind_join_inl]
            simp only []
            rw [if_neg (by simp <;> omega), if_pos (by simp <;> omega), at0, at0]
            simp only [Option.bind_some, changeCompare_t lx.1, joinS]
            rw [if_neg h1, if_neg h2]
            simp only [Option.bind_some, changeSame_t lx, cloneE_t lx, cloneE_t ly]
            unfold sameE
            by_cases hxy : x = y
            · simp only [decide_eq_true hxy, Bool.not_true, cond_false, if_true, List.append_nil]
              rw [bind_join_inl, sub1, sub1]
              rfl
            · simp only [decide_eq_false hxy, Bool.not_false, cond_true, Bool.false_eq_true, if_false]
              rw [roomT_lt (by simp <;> omega)]
              simp only [Option.bind_some, joinS]
              rw [sub1, sub1]
              rfl
theorem diff_t {a b : List Ent} (h : a.length + b.length < 1000000) (la : ∀ e ∈ a, lowE e) (lb : ∀ e ∈ b, lowE e) : change_Diff a b = some (dM a b) := by
  have := diff_loop _ a b [] (Nat.le_refl _) (by simpa using h) la lb
  simpa [change_Diff] using this
/-- An entry that the reference can compare. -/
def easyE (e : Ent) : Prop := lowE e ∧ ∀ x ∈ e.1, x.length < 1000000
theorem zero_easy : easyE zeroE := ⟨⟨by decide, by decide⟩, fun x hx => by cases hx⟩
/-! ### texts -/
/-! ### the law -/
theorem dM_mem : ∀ (n : Nat) (a b : List Ent), a.length + b.length ≤ n → ∀ c ∈ dM a b, (c.2.1 ∈ a ∨ c.2.1 = zeroE) ∧ (c.2.2.1 ∈ b ∨ c.2.2.1 = zeroE) := by
  intro n
  have nilB : ∀ b : List Ent, ∀ c ∈ dM [] b, (c.2.1 ∈ ([] : List Ent) ∨ c.2.1 = zeroE) ∧ (c.2.2.1 ∈ b ∨ c.2.2.1 = zeroE) := by
    intro b c hc
    unfold dM at hc
    rw [diffM.eq_def] at hc
    simp only [List.mem_map] at hc
    obtain ⟨y, hy, rfl⟩ := hc
    exact ⟨.inr rfl, .inl hy⟩
  induction n with
  | zero =>
    intro a b h
    have e1 : a = [] := List.eq_nil_of_length_eq_zero (by omega)
    subst e1
    exact nilB b
  | succ n ih =>
    intro a b h
    match a, b, h with
    | [], b, h => exact nilB b
    | x :: a, [], h =>
      intro c hc
      unfold dM at hc
      rw [diffM.eq_def] at hc
      simp only [List.mem_map] at hc
      obtain ⟨y, hy, rfl⟩ := hc
      exact ⟨.inl hy, .inr rfl⟩
    | x :: a, y :: b, h =>
      simp only [List.length_cons] at h
      intro c hc
      have i1 := ih a (y :: b) (by simp only [List.length_cons]; omega)
      have i2 := ih (x :: a) b (by simp only [List.length_cons]; omega)
      have i3 := ih a b (by omega)
      unfold dM at hc i1 i2 i3
      rw [diffM.eq_def] at hc
      simp only at hc
      split at hc
      · rcases List.mem_cons.1 hc with rfl | hc
        · exact ⟨.inl (List.mem_cons_self ..), .inr rfl⟩
        · have := i1 c hc
          exact ⟨this.1.imp_left (List.mem_cons_of_mem _), this.2⟩
      · split at hc
        · rcases List.mem_cons.1 hc with rfl | hc
          · exact ⟨.inr rfl, .inl (List.mem_cons_self ..)⟩
          · have := i2 c hc
            exact ⟨this.1, this.2.imp_left (List.mem_cons_of_mem _)⟩
        · rcases List.mem_append.1 hc with hc | hc
          · split at hc
            · cases hc
            · simp at hc
              subst hc
              exact ⟨.inl (List.mem_cons_self ..), .inl (List.mem_cons_self ..)⟩
          · have := i3 c hc
            exact ⟨this.1.imp_left (List.mem_cons_of_mem _), this.2.imp_left (List.mem_cons_of_mem _)⟩
open Classical in
theorem good_t {l : List Ent} (hb : ∀ e ∈ l, ∀ v ∈ e.2.2.1, v.2.2.1.length < 4294967296) : ∃ g, law39_Good l = some g ∧ (g = true → l.length ≤ 30 ∧ (∀ e ∈ l, smallE e) ∧ Rises cmpK keyE l ∧ ∀ e ∈ l, okE e = true) := by
  unfold law39_Good
  rw [short_t hb]
  simp only [Option.bind_some]
  cases hs : (decide (l.length ≤ 30) && l.all shortE) with
  | false => exact ⟨false, rfl, fun h => by cases h⟩
  | true =>
    simp only [Bool.and_eq_true, decide_eq_true_eq, List.all_eq_true] at hs
    have hsm : ∀ e ∈ l, smallE e := fun e he => shortE_small (hs.2 e he)
    simp only [cond_true]
    rw [theirs_t (by omega)]
    simp only [Option.bind_some]
    rw [refRight39_t (by omega) hsm]
    refine ⟨_, rfl, fun h => ?_⟩
    split at h
    · rename_i hr
      exact ⟨hs.1, hsm, rises_at hr⟩
    · cases h
theorem sum_mem {A : Type} {f : A → Nat} : ∀ {l : List A} {x : A}, x ∈ l → f x ≤ (l.map f).sum
  | y :: l, x, h => by
    simp only [List.map_cons, List.sum_cons]
    rcases List.mem_cons.1 h with rfl | h
    · omega
    · have := sum_mem (f := f) h
      omega
abbrev tyVal : Ty := .agg (.cons (.int .i64) (.cons (.int .i64) (.cons .str .unit)))
abbrev tyEnt : Ty := .agg (.cons (.sl .str) (.cons (.int .i64) (.cons (.sl tyVal) (.cons (.int .i64) .unit))))
theorem ents_ok {l : List Ent} (ho : okV (.sl tyEnt) l) (hl : lenV (.sl tyEnt) l ≤ 1048576) : ∀ e ∈ l, (∀ v ∈ e.2.2.1, v.2.2.1.length < 4294967296) ∧ inR e.2.2.2.1 := by
  intro e he
  have h1 := ho.2 e he
  have h2 : lenV tyEnt e ≤ (l.map (lenV tyEnt)).sum := sum_mem he
  have h3 : lenV (.sl tyEnt) l = l.length + (l.map (lenV tyEnt)).sum := rfl
  refine ⟨fun v hv => ?_, ?_⟩
  · have h4 : lenV tyVal v ≤ (e.2.2.1.map (lenV tyVal)).sum := sum_mem hv
    have h5 : lenV tyEnt e = lenV (.sl .str) e.1 + (0 + ((e.2.2.1.length + (e.2.2.1.map (lenV tyVal)).sum) + (0 + 0))) := rfl
    have h6 : lenV tyVal v = 0 + (0 + (v.2.2.1.length + 0)) := rfl
    omega
  · have h7 := h1.2.2.2.1
    exact h7
end Go.Proofs.YtkoicblnbbncbaaDoor.Q

set_option linter.unusedVariables false
set_option linter.unusedSimpArgs false
set_option maxRecDepth 100000
namespace Go.Proofs.YtkoicblnbbncbaaDoor.Q
open Go.EM Go.TY Go.Proofs Go.Proofs.YtkoicblnbbncbaaDoor.Y Go.Proofs.YtkoicblnbbncbaaDoor.K Go.Proofs.YtkoicblnbbncbaaDoor.L
/-! ### the search -/
abbrev loE : Path × Int → List Ent → List Ent := lo cmpK keyE
abbrev hiE : Path × Int → List Ent → List Ent := hi cmpK keyE
abbrev stepE : List Ent → Chg → List Ent ⊕ Int := stepM cmpK keyE
abbrev applyE : List Ent → List Chg → List Ent × Int × Unit := applyM cmpK keyE
abbrev riseE : List Ent → Prop := Rises cmpK keyE
theorem half_t {n : Nat} (h : n < 9000000) : shrT .u64 (IntKind.wrap .u64 (IntKind.wrap .i64 (n : Int))) 1 = some ((n / 2 : Nat) : Int) := by
  rw [wrap64 (by omega) (by omega)]
  have w : IntKind.wrap .u64 (n : Int) = (n : Int) := by simp [IntKind.wrap, IntKind.bits, IntKind.signed]; omega
  rw [w]
  unfold shrT
  rw [if_neg (by omega)]
  have e : (2 : Int) ^ min (Int.toNat 1) (IntKind.bits .u64) = 2 := by decide
  rw [e, Int.fdiv_eq_ediv_of_nonneg _ (by omega)]
  congr 1
def seen (q : List Ent) (k : Path × Int) : Bool := match q with
  | x :: _ => decide (cmpK (keyE x) k = 0)
  | [] => false
theorem search_loop {l : List Ent} {e : Ent} (hl : l.length < 1000000) (hr : riseE l) (hs : ∀ x ∈ l, lowE x) : ∀ (k i j : Nat), j - i ≤ k → i ≤ (loE (keyE e) l).length → (loE (keyE e) l).length ≤ j → j ≤ l.length →
    loopT (slices_BinarySearchFunc_Sl_view_Entry_view_Entry_view_Entry__change_compare_l3 l e) ((i : Int), (j : Int), ()) = some (.inl (((loE (keyE e) l).length : Int), ())) := by
  intro k
  induction k with
  | zero =>
    intro i j hk h1 h2 h3
    refine loopT_inr ?_
    unfold slices_BinarySearchFunc_Sl_view_Entry_view_Entry_view_Entry__change_compare_l3
    simp only [cond_dec]
    rw [if_neg (by omega), show (loE (keyE e) l).length = i by omega]
  | succ k ih =>
    intro i j hk h1 h2 h3
    by_cases hij : i < j
    · have hh : (i + j) / 2 < l.length := by omega
      have turn : slices_BinarySearchFunc_Sl_view_Entry_view_Entry_view_Entry__change_compare_l3 l e ((i : Int), (j : Int), ()) = if cmpK (keyE l[(i + j) / 2]) (keyE e) < 0 then some (.inl ((((i + j) / 2 + 1 : Nat) : Int), (j : Int), ())) else some (.inl ((i : Int), (((i + j) / 2 : Nat) : Int), ())) := by
        unfold slices_BinarySearchFunc_Sl_view_Entry_view_Entry_view_Entry__change_compare_l3
        simp only [cond_dec]
        rw [if_pos (by omega), show (i : Int) + (j : Int) = ((i + j : Nat) : Int) by omega, half_t (by omega)]
        simp only [Option.bind_some]
        rw [wrap64 (n := (((i + j) / 2 : Nat) : Int)) (by omega) (by omega), atI_lt hh]
        simp only [Option.bind_some, changeCompare_t (hs _ (List.getElem_mem hh)).1]
        rw [wrap64 (by omega) (by omega)]; rfl
      by_cases hn : (i + j) / 2 < (loE (keyE e) l).length
      · rw [if_pos (at_lo hh hn)] at turn
        rw [loopT_inl turn]
        exact ih _ _ (by omega) (by omega) h2 h3
      · have := at_hi ck_cmp hr hh (k := keyE e) (Nat.le_of_not_lt hn)
        rw [if_neg (by omega)] at turn
        rw [loopT_inl turn]
        exact ih _ _ (by omega) h1 (by omega) (by omega)
    · refine loopT_inr ?_
      unfold slices_BinarySearchFunc_Sl_view_Entry_view_Entry_view_Entry__change_compare_l3
      simp only [cond_dec]
      rw [if_neg (by omega), show (loE (keyE e) l).length = i by omega]
theorem search_t {l : List Ent} {e : Ent} (hl : l.length < 1000000) (hr : riseE l) (hs : ∀ x ∈ l, lowE x) :
    slices_BinarySearchFunc_Sl_view_Entry_view_Entry_view_Entry__change_compare l e () = some (((loE (keyE e) l).length : Int), seen (hiE (keyE e) l) (keyE e), ()) := by
  have e2 : loE (keyE e) l ++ hiE (keyE e) l = l := lohi
  have hlen : (loE (keyE e) l).length + (hiE (keyE e) l).length = l.length := by rw [← List.length_append, e2]
  unfold slices_BinarySearchFunc_Sl_view_Entry_view_Entry_view_Entry__change_compare
  have := search_loop (e := e) hl hr hs l.length 0 l.length (by omega) (by omega) (by omega) (by omega)
  rw [show ((0 : Int), (l.length : Int), ()) = (((0 : Nat) : Int), (l.length : Int), ()) from rfl, this, bind_join_inl]
  simp only [cond_dec]
  cases hq : hiE (keyE e) l with
  | nil =>
    rw [hq] at hlen
    simp only [List.length_nil] at hlen
    rw [if_neg (by omega)]; rfl
  | cons x q =>
    rw [hq] at hlen e2
    simp only [List.length_cons] at hlen
    rw [if_pos (by omega), atI_nat]
    have e3 : l[(loE (keyE e) l).length]? = some x := by
      have : (loE (keyE e) l ++ x :: q)[(loE (keyE e) l).length]? = some x := by simp
      rw [e2] at this
      exact this
    rw [e3]
    have hx : lowE x := hs x (by rw [← e2]; simp)
    simp only [Option.bind_some, changeCompare_t hx.1]
    rfl
theorem leafC_t (c : Chg) : change_Change_leaf c = some (leafX c) := by
  unfold change_Change_leaf leafX
  simp only [cond_dec]
  by_cases h : c.1 = 1
  · rw [if_pos h, if_pos h]
  · rw [if_neg h, if_neg h]
/-! ### one's own row -/
theorem ins_at {p q : List Ent} {y : Ent} (h : (p ++ q).length < 1000000) : insT (p ++ q) (p.length : Int) [y] = some (p ++ y :: q) := by
  simp only [List.length_append] at h
  unfold insT
  rw [if_pos ⟨by omega, by simp only [List.length_append]; omega, by simp, by simp only [List.length_append, List.length_cons, List.length_nil]; unfold most; omega⟩]
  simp
theorem del_at {p q : List Ent} {x : Ent} (h : (p ++ x :: q).length < 1000000) : delT (p ++ x :: q) (p.length : Int) (IntKind.wrap .i64 ((p.length : Int) + 1)) = some (p ++ q) := by
  simp only [List.length_append, List.length_cons] at h
  rw [wrap64 (by omega) (by omega)]
  unfold delT
  rw [if_pos ⟨by omega, by omega, by simp only [List.length_append, List.length_cons]; omega⟩]
  have : ((p.length : Int) + 1).toNat = p.length + 1 := by omega
  rw [this]
  simp
theorem mid_at {p q : List Ent} {x : Ent} : inI (p ++ x :: q).length (p.length : Int) = some p.length ∧ (p ++ x :: q)[p.length]? = some x := by
  refine ⟨inI_nat (by simp), by simp⟩
def endE {A : Type} (f : List Ent → A) : List Ent ⊕ Int → A ⊕ (List Ent × Int × Unit)
  | .inl l => .inl (f l)
  | .inr e => .inr ([], e, ())
theorem prog_step {cs : List Chg} {i : Nat} {l : List Ent} (hi : i < cs.length) (hcs : cs.length < 1000000) (hl : l.length < 1000000) (hs : ∀ x ∈ l, lowE x) (hr : riseE l) (hd : lowC cs[i]) :
    change_Apply_l3 cs ((i : Int), l, ()) = some (endE (fun l' => (((i + 1 : Nat) : Int), l', ())) (stepE l cs[i])) := by
  have w1 : IntKind.wrap .i64 ((i : Int) + 1) = ((i + 1 : Nat) : Int) := by rw [wrap64 (by omega) (by omega)]; rfl
  unfold change_Apply_l3
  simp only [cond_dec]
  rw [if_pos (by omega), atI_lt hi]
  simp only [Option.bind_some, leafC_t, search_t hl hr hs, w1]
  generalize cs[i] = d at *
  unfold stepE stepM
  have e : loE (keyE (leafX d)) l ++ hiE (keyE (leafX d)) l = l := lohi
  generalize hk : keyE (leafX d) = k at *
  show _ = some (endE _ (placeM cmpK keyE l d (loE k l) (hiE k l)))
  generalize loE k l = p at *
  generalize hiE k l = q at *
  subst e
  obtain ⟨n, w, y, ⟨⟩⟩ := d
  simp only
  have hw : lowE w := hd.1
  have hy : lowE y := hd.2
  unfold placeM
  dsimp only
  by_cases h1 : n < 1
  · rw [if_pos h1, if_pos (.inl h1)]; rfl
  rw [if_neg h1]
  by_cases h3 : n > 3
  · rw [if_pos h3, if_pos (.inr h3)]; rfl
  rw [if_neg h3, if_neg (show ¬ (n < 1 ∨ n > 3) by omega)]
  by_cases hn : n = 1
  · subst hn
    rw [show leafX ((1, w, y, ()) : Chg) = y from rfl] at hk
    subst hk
    cases q with
    | nil =>
      simp only [seen, decide_true, Bool.not_true, beq_self_eq_true, cond_false, if_true]
      rw [if_neg (by decide)]
      simp only [bind_join_inl, joinS_inl, if_true, cloneE_t hy, Option.bind_some, slices_Insert_Sl_view_Entry_view_Entry]
      rw [ins_at hl]; rfl
    | cons x q =>
      simp only [seen]
      by_cases h0 : cmpK (keyE x) (keyE y) = 0
      · simp [h0, endE]
      · simp only [h0, decide_false, decide_true, Bool.not_true, beq_self_eq_true, cond_false, if_true]
        rw [if_neg (by decide)]
        simp only [bind_join_inl, joinS_inl, if_true, cloneE_t hy, Option.bind_some, slices_Insert_Sl_view_Entry_view_Entry]
        rw [ins_at hl]; rfl
  · rw [show leafX ((n, w, y, ()) : Chg) = w from if_neg hn] at hk
    subst hk
    rw [if_neg hn]
    cases q with
    | nil =>
      simp only [seen, decide_eq_false hn]
      rfl
    | cons x q =>
      have hx : lowE x := hs x (by simp)
      simp only [seen, decide_eq_false hn, Bool.not_false]
      by_cases h0 : cmpK (keyE x) (keyE w) = 0
      · rw [decide_eq_true h0]
        simp only [beq_self_eq_true, Bool.not_true, cond_false, cond_true, mid_at.1, mid_at.2, Option.bind_some, changeSame_t hx, cond_ndec]
        by_cases hxw : x = w
        · rw [if_pos hxw, if_pos hxw]
          by_cases h3 : n = 3
          · rw [if_pos h3, if_pos h3, changeCompare_t hw.1]
            simp only [Option.bind_some, cond_ndec]
            by_cases h4 : cmpK (keyE w) (keyE y) = 0
            · rw [if_pos h4, if_pos h4]
              simp only [Option.bind_some, joinS_inl]
              rw [if_neg hn, if_neg (by omega), cloneE_t hy]
              simp only [Option.bind_some, mid_at.1, mid_at.2]
              simp [endE]
            · rw [if_neg h4, if_neg h4]; rfl
          · rw [if_neg h3, if_neg h3]
            simp only [Option.bind_some, joinS_inl]
            rw [if_neg hn, if_pos (by omega)]
            simp only [slices_Delete_Sl_view_Entry_view_Entry]
            rw [del_at hl]; rfl
        · rw [if_neg hxw, if_neg hxw]; rfl
      · have hxw : x ≠ w := fun e => h0 (by rw [e]; exact (ck_cmp.zero _ _).2 rfl)
        rw [decide_eq_false h0, if_neg hxw]
        rfl
theorem apply_fold : ∀ (cs : List Chg) (i : Nat) (l : List Ent), foldE (fun _ d l => endE (fun l => l) (stepE l d)) (fun l => (l, 0, ())) i cs l = applyE l cs
  | [], _, l => rfl
  | d :: cs, i, l => by
    unfold applyE
    rw [applyM]
    simp only [foldE]
    have e : stepM cmpK keyE l d = stepE l d := rfl
    rw [e]
    cases h : stepE l d with
    | inl l' => exact apply_fold cs (i + 1) l'
    | inr e => rfl
theorem apply_loop {A : Type} {f : A → Option (A ⊕ (List Ent × Int × Unit))} {enc : Nat → List Ent → A} {cs : List Chg} {l : List Ent} {P : Ent → Prop} (hs : ∀ x ∈ l, P x) (hr : riseE l) (hd : ∀ d ∈ cs, P d.2.2.1)
    (hturn : ∀ (i : Nat) (h : i < cs.length) (s : List Ent), s.length ≤ l.length + i → (∀ x ∈ s, P x) → riseE s → f (enc i s) = some (endE (fun l' => enc (i + 1) l') (stepE s cs[i])))
    (hend : ∀ s, f (enc cs.length s) = some (.inr (s, 0, ()))) : loopT f (enc 0 l) = some (applyE l cs) := by
  have := loop_list (f := f) (l := cs) (S := List Ent) enc (fun _ d l => endE (fun l => l) (stepE l d)) (fun l => (l, 0, ())) (fun i s => s.length ≤ l.length + i ∧ (∀ x ∈ s, P x) ∧ riseE s) (fun i hi s ⟨h1, h2, h3⟩ => by
    have hc := hd _ (List.getElem_mem hi)
    have t := hturn i hi s h1 h2 h3
    cases h : stepE s cs[i] with
    | inl l' =>
      rw [h] at t
      have k := step_rises ck_cmp h3 h
      exact .inl ⟨l', rfl, t, by omega, fun x hx => by
        rcases k.2.2 x hx with h | rfl
        · exact h2 x h
        · exact hc, k.1⟩
    | inr e =>
      rw [h] at t
      exact .inr ⟨_, rfl, t⟩) (fun s _ => hend s) l ⟨by omega, hs, hr⟩
  rw [apply_fold] at this
  exact this
theorem apply_t {cs : List Chg} {l : List Ent} (hcs : cs.length < 1000) (hl : l.length < 1000) (hs : ∀ x ∈ l, lowE x) (hr : riseE l) (hd : ∀ d ∈ cs, lowC d) : change_Apply l cs = some (applyE l cs) := by
  have := apply_loop (f := change_Apply_l3 cs) (enc := fun i l => ((i : Int), l, ())) hs hr (fun d h => (hd d h).2) (fun i hi s h1 h2 h3 => prog_step hi (by omega) (by omega) h2 h3 (hd _ (List.getElem_mem hi))) (fun s => by
    unfold change_Apply_l3
    simp only [cond_dec]
    rw [if_neg (by omega)])
  unfold change_Apply slices_Clone_Sl_view_Entry_view_Entry cloneT
  rw [if_pos (by unfold most; omega)]
  exact this
/-! ### the document's -/
end Go.Proofs.YtkoicblnbbncbaaDoor.Q

set_option linter.unusedVariables false
set_option linter.unusedSimpArgs false
set_option maxRecDepth 100000
namespace Go.Proofs.YtkoicblnbbncbaaDoor.Q
open Go.EM Go.TY Go.Proofs Go.Proofs.YtkoicblnbbncbaaDoor.Y Go.Proofs.YtkoicblnbbncbaaDoor.K Go.Proofs.YtkoicblnbbncbaaDoor.L
theorem viewSameAll_t {l m : List Ent} (hl : l.length < 1000000) (hs : ∀ e ∈ l, lowE e) : view_Same l m = some (decide (l = m)) := by
  unfold view_Same slices_EqualFunc_Sl_view_Entry_Sl_view_Entry_view_Entry_view_Entry__view_same
  by_cases hlen : l.length = m.length
  · rw [decide_eq_true (by omega)]
    simp only [Bool.not_true, cond_false]
    have := loop_all2 (f := slices_EqualFunc_Sl_view_Entry_Sl_view_Entry_view_Entry_view_Entry__view_same_l4 l m) (l := l) (m := m) (fun i => ((i : Int), ())) (fun x y => decide (x = y)) true false hlen (fun i h h' => by
      unfold slices_EqualFunc_Sl_view_Entry_Sl_view_Entry_view_Entry_view_Entry__view_same_l4
      simp only [cond_dec]
      rw [if_pos (by omega), atI_lt h, atI_lt h']
      simp only [Option.bind_some, viewSame_t (hs _ (List.getElem_mem h)), cond_ndec]
      rw [wrap64 (by omega) (by omega)]
      by_cases e : l[i] = m[i]
      · rw [if_pos e, if_pos (decide_eq_true e)]; rfl
      · rw [if_neg e, if_neg (by simpa using e)]) (by
      unfold slices_EqualFunc_Sl_view_Entry_Sl_view_Entry_view_Entry_view_Entry__view_same_l4
      simp only [cond_dec]
      rw [if_neg (by omega)])
    rw [all2_dec, ite_bool] at this
    rw [show ((0 : Int), ()) = (((0 : Nat) : Int), ()) from rfl, this]; rfl
  · rw [decide_eq_false (by omega)]
    have : l ≠ m := fun e => hlen (by rw [e])
    rw [decide_eq_false this]; rfl
theorem back_t {l : List Chg} (hl : l.length < 1000000) : change_Back l = some (l.map backC) := by
  have := loop_map (f := change_Back_l3 l) (l := l) (fun i o => ((i : Int), o, ())) (fun x => [backC x]) (fun o => o) 1 (fun x _ => by simp) (fun i h o ho => by
    unfold change_Back_l3
    simp only [cond_dec]
    rw [if_pos (by omega), atI_lt h]
    simp only [Option.bind_some]
    have w1 : IntKind.wrap .i64 ((i : Int) + 1) = ((i + 1 : Nat) : Int) := by rw [wrap64 (by omega) (by omega)]; rfl
    rw [w1]
    generalize l[i] = d
    obtain ⟨k, x, y, ⟨⟩⟩ := d
    unfold backC
    simp only
    by_cases h1 : k = 1
    · rw [if_pos h1, if_pos h1]
      simp only [Option.bind_some, joinS_inl]
      rw [roomT_lt (by simp; omega)]; rfl
    · rw [if_neg h1, if_neg h1]
      by_cases h2 : k = 2
      · rw [if_pos h2, if_pos h2]
        simp only [Option.bind_some, joinS_inl]
        rw [roomT_lt (by simp; omega)]; rfl
      · rw [if_neg h2, if_neg h2]
        simp only [Option.bind_some, joinS_inl]
        rw [roomT_lt (by simp; omega)]; rfl) (fun o ho => by
    unfold change_Back_l3
    simp only [cond_dec]
    rw [if_neg (by omega)])
  unfold change_Back
  have e : ∀ l : List Chg, l.flatMap (fun x => [backC x]) = l.map backC := by
    intro l
    induction l with
    | nil => rfl
    | cons x l ih => simp [List.flatMap_cons, ih]
  rw [e] at this
  exact this
theorem dM_low {a b : List Ent} (sa : ∀ e ∈ a, lowE e) (sb : ∀ e ∈ b, lowE e) : ∀ c ∈ dM a b, lowC c := fun c hc => by
  obtain ⟨h1, h2⟩ := dM_mem _ a b (Nat.le_refl _) c hc
  refine ⟨?_, ?_⟩
  · rcases h1 with h1 | h1
    · exact sa _ h1
    · rw [h1]; exact zero_easy.1
  · rcases h2 with h2 | h2
    · exact sb _ h2
    · rw [h2]; exact zero_easy.1
theorem applied {a b : List Ent} (la : a.length < 400) (lb : b.length < 400) (sa : ∀ e ∈ a, lowE e) (sb : ∀ e ∈ b, lowE e) (ra : riseE a) (rb : riseE b) : change_Apply a (dM a b) = some (b, 0, ()) := by
  have hlen := dM_len _ a b (Nat.le_refl _)
  rw [apply_t (by omega) (by omega) sa ra (dM_low sa sb)]
  exact congrArg some (apply_diff ck_cmp (z := zeroE) _ [] a b (Nat.le_refl _) ra rb)
theorem back_dM (a b : List Ent) : (dM a b).map backC = dM b a := back_diff ck_cmp (z := zeroE) _ a b (Nat.le_refl _)
theorem dM_nil {a b : List Ent} (ra : riseE a) (rb : riseE b) : dM a b = [] ↔ a = b := by
  constructor
  · exact diff_nil ck_cmp (z := zeroE) ra rb
  · rintro rfl
    exact diff_self ck_cmp a
/-! ### the laws -/
theorem back_law {a b : List Ent} (ha : ∀ e ∈ a, ∀ v ∈ e.2.2.1, v.2.2.1.length < 4294967296) (hb : ∀ e ∈ b, ∀ v ∈ e.2.2.1, v.2.2.1.length < 4294967296) : law39_ChangeBack a b = some true := by
  unfold law39_ChangeBack
  obtain ⟨g1, e1, k1⟩ := good_t ha
  obtain ⟨g2, e2, k2⟩ := good_t hb
  simp only [law39_awake, e1, e2, Option.bind_some]
  cases g1 with
  | false => rfl
  | true =>
    cases g2 with
    | false => rfl
    | true =>
      obtain ⟨la, sa, ra, _⟩ := k1 rfl
      obtain ⟨lb, sb, rb, _⟩ := k2 rfl
      have sa : ∀ e ∈ a, lowE e := fun e he => small_low (sa e he)
      have sb : ∀ e ∈ b, lowE e := fun e he => small_low (sb e he)
      have hlen := dM_len _ a b (Nat.le_refl _)
      have hlen2 := dM_len _ b a (Nat.le_refl _)
      simp only [Bool.not_true, cond_false]
      rw [diff_t (by omega) sa sb]
      simp only [Option.bind_some]
      rw [back_t (by omega), applied (by omega) (by omega) sa sb ra rb]
      simp only [Option.bind_some]
      rw [back_dM, applied (by omega) (by omega) sb sa rb ra]
      simp only [Option.bind_some, decide_true, cond_true, viewSameAll_t (show b.length < 1000000 by omega) sb, viewSameAll_t (show a.length < 1000000 by omega) sa]
      rw [back_t (by omega), back_dM]
      simp only [Option.bind_some]
      rw [changes_t (by omega)]
      simp only [Option.bind_some]
      rw [lawSame_t (by omega) (dM_low sa sb)]
      have h : decide (((dM a b).length : Int) = 0) = decide (a = b) := by
        refine decide_eq_decide.2 (Iff.trans ?_ (dM_nil ra rb))
        rw [← List.length_eq_zero_iff]
        omega
      rw [h, beq_self_eq_true]
      rfl
theorem changeBack_law : ∀ v : law39_ChangeBack_T.ps.V, okV law39_ChangeBack_T.ps v → lenV law39_ChangeBack_T.ps v ≤ 1048576 → law39_ChangeBack_T.fn v = some true := fun v ho hl => by
  obtain ⟨a, b, ⟨⟩⟩ := v
  have h1 : okV (.sl tyEnt) a ∧ okV (.sl tyEnt) b ∧ True := ho
  have h2 : lenV (.sl tyEnt) a + (lenV (.sl tyEnt) b + 0) ≤ 1048576 := hl
  have h3 : lenV (.sl tyEnt) a ≤ 1048576 := by omega
  have h4 : lenV (.sl tyEnt) b ≤ 1048576 := by omega
  exact back_law (fun e he => (ents_ok h1.1 h3 e he).1) (fun e he => (ents_ok h1.2.1 h4 e he).1)
end Go.Proofs.YtkoicblnbbncbaaDoor.Q
