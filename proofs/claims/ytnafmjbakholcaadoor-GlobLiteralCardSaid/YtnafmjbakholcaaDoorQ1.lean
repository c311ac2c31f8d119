import Derived.Test.YtnafmjbakholcaaDoorW
set_option linter.unusedVariables false
set_option linter.unusedSimpArgs false
set_option maxRecDepth 100000
namespace Go.Proofs.YtnafmjbakholcaaDoor.Q
open Go.EM Go.TY Go.Proofs Go.Proofs.YtnafmjbakholcaaDoor.Y
/-- A character of a text, and how many bytes it has; none: 0. -/
def charM : List UInt8 → Int × Nat
  | [] => (0, 0)
  | a :: t =>
    if a.toNat < 128 then (a.toNat, 1)
    else if 194 ≤ a.toNat ∧ a.toNat < 224 then (match t with
      | b :: _ => if 128 ≤ b.toNat ∧ b.toNat ≤ 191 then (64 * ((a.toNat : Int) - 192) + b.toNat - 128, 2) else (0, 0)
      | _ => (0, 0))
    else if 224 ≤ a.toNat ∧ a.toNat < 240 then (match t with
      | b :: c :: _ => if (128 ≤ b.toNat ∧ b.toNat ≤ 191) ∧ (128 ≤ c.toNat ∧ c.toNat ≤ 191) then
          let r : Int := 64 * (64 * ((a.toNat : Int) - 224) + b.toNat - 128) + c.toNat - 128
          if r < 2048 ∨ (55296 ≤ r ∧ r ≤ 57343) then (0, 0) else (r, 3)
        else (0, 0)
      | _ => (0, 0))
    else if 240 ≤ a.toNat ∧ a.toNat < 245 then (match t with
      | b :: c :: d :: _ => if (128 ≤ b.toNat ∧ b.toNat ≤ 191) ∧ (128 ≤ c.toNat ∧ c.toNat ≤ 191) ∧ (128 ≤ d.toNat ∧ d.toNat ≤ 191) then
          let r : Int := 64 * (64 * (64 * ((a.toNat : Int) - 240) + b.toNat - 128) + c.toNat - 128) + d.toNat - 128
          if r < 65536 ∨ 1114111 < r then (0, 0) else (r, 4)
        else (0, 0)
      | _ => (0, 0))
    else (0, 0)
/-- One turn of Char. -/
theorem turn17 {s : List UInt8} {q : Int × Int × Int × Unit} {x : Int} {i : Nat} {b : UInt8} (hi : (i : Int) < q.2.1) (hi4 : i ≤ 4) (h : s[i]? = some b) (hx : 0 ≤ x) (hx2 : x ≤ 100000000) :
    ref03_Char_l17 s q (x, (i : Int), ()) = if 128 ≤ b.toNat ∧ b.toNat ≤ 191 then some (.inl (64 * x + b.toNat - 128, ((i + 1 : Nat) : Int), ())) else some (.inr (.inr (0, 0, ()))) := by
  have hb : b.toNat < 256 := b.toNat_lt
  simp only [ref03_Char_l17, atI_nat, h, Option.bind_some, cond_dec, if_pos hi]
  rw [wrap64 (n := 64 * x) (by omega) (by omega), wrap64 (n := (b.toNat : Int)) (by omega) (by omega), wrap64 (n := 64 * x + b.toNat) (by omega) (by omega), wrap64 (n := 64 * x + b.toNat - 128) (by omega) (by omega), wrap64 (n := (i : Int) + 1) (by omega) (by omega)]
  by_cases h1 : b.toNat < 128
  · rw [if_pos (by omega), if_neg (by omega)]
  · rw [if_neg (by omega)]
    by_cases h2 : b.toNat > 191
    · rw [if_pos (by omega), if_neg (by omega)]
    · rw [if_neg (by omega), if_pos (by omega)]; rfl
theorem stop17 {s : List UInt8} {q : Int × Int × Int × Unit} {x : Int} {i : Nat} (hi : ¬ (i : Int) < q.2.1) : ref03_Char_l17 s q (x, (i : Int), ()) = some (.inr (.inl (x, ()))) := by
  simp only [ref03_Char_l17, cond_dec, if_neg hi]
theorem loop17_2 {a b : UInt8} {t : List UInt8} {l : Int} {c x : Int} (hx : 0 ≤ x) (hx2 : x ≤ 1000) :
    loopT (ref03_Char_l17 (a :: b :: t) (c, 2, l, ())) (x, 1, ()) = if 128 ≤ b.toNat ∧ b.toNat ≤ 191 then some (.inl (64 * x + b.toNat - 128, ())) else some (.inr (0, 0, ())) := by
  have h := turn17 (s := a :: b :: t) (q := (c, 2, l, ())) (i := 1) (b := b) (x := x) (by simp) (by omega) rfl hx (by omega)
  by_cases hb : 128 ≤ b.toNat ∧ b.toNat ≤ 191
  · rw [if_pos hb] at h ⊢
    exact (loopT_inl h).trans (loopT_inr (stop17 (by simp)))
  · rw [if_neg hb] at h ⊢
    exact loopT_inr h
theorem loop17_3 {a b d : UInt8} {t : List UInt8} {l : Int} {c x : Int} (hx : 0 ≤ x) (hx2 : x ≤ 1000) :
    loopT (ref03_Char_l17 (a :: b :: d :: t) (c, 3, l, ())) (x, 1, ()) = if (128 ≤ b.toNat ∧ b.toNat ≤ 191) ∧ (128 ≤ d.toNat ∧ d.toNat ≤ 191) then some (.inl (64 * (64 * x + b.toNat - 128) + d.toNat - 128, ())) else some (.inr (0, 0, ())) := by
  have hb' := b.toNat_lt
  have h := turn17 (s := a :: b :: d :: t) (q := (c, 3, l, ())) (i := 1) (b := b) (x := x) (by simp) (by omega) rfl hx (by omega)
  by_cases hb : 128 ≤ b.toNat ∧ b.toNat ≤ 191
  · rw [if_pos hb] at h
    have h2 := turn17 (s := a :: b :: d :: t) (q := (c, 3, l, ())) (i := 2) (b := d) (x := 64 * x + b.toNat - 128) (by simp) (by omega) rfl (by omega) (by omega)
    by_cases hd : 128 ≤ d.toNat ∧ d.toNat ≤ 191
    · rw [if_pos hd] at h2
      rw [if_pos ⟨hb, hd⟩]
      exact ((loopT_inl h).trans (loopT_inl h2)).trans (loopT_inr (stop17 (by simp)))
    · rw [if_neg hd] at h2
      rw [if_neg (fun e => hd e.2)]
      exact (loopT_inl h).trans (loopT_inr h2)
  · rw [if_neg hb] at h
    rw [if_neg (fun e => hb e.1)]
    exact loopT_inr h
theorem loop17_4 {a b d e : UInt8} {t : List UInt8} {l : Int} {c x : Int} (hx : 0 ≤ x) (hx2 : x ≤ 1000) :
    loopT (ref03_Char_l17 (a :: b :: d :: e :: t) (c, 4, l, ())) (x, 1, ()) = if (128 ≤ b.toNat ∧ b.toNat ≤ 191) ∧ (128 ≤ d.toNat ∧ d.toNat ≤ 191) ∧ (128 ≤ e.toNat ∧ e.toNat ≤ 191) then some (.inl (64 * (64 * (64 * x + b.toNat - 128) + d.toNat - 128) + e.toNat - 128, ())) else some (.inr (0, 0, ())) := by
  have hb' := b.toNat_lt
  have hd' := d.toNat_lt
  have h := turn17 (s := a :: b :: d :: e :: t) (q := (c, 4, l, ())) (i := 1) (b := b) (x := x) (by simp) (by omega) rfl hx (by omega)
  by_cases hb : 128 ≤ b.toNat ∧ b.toNat ≤ 191
  · rw [if_pos hb] at h
    have h2 := turn17 (s := a :: b :: d :: e :: t) (q := (c, 4, l, ())) (i := 2) (b := d) (x := 64 * x + b.toNat - 128) (by simp) (by omega) rfl (by omega) (by omega)
    by_cases hd : 128 ≤ d.toNat ∧ d.toNat ≤ 191
    · rw [if_pos hd] at h2
      have h3 := turn17 (s := a :: b :: d :: e :: t) (q := (c, 4, l, ())) (i := 3) (b := e) (x := 64 * (64 * x + b.toNat - 128) + d.toNat - 128) (by simp) (by omega) rfl (by omega) (by omega)
      by_cases he : 128 ≤ e.toNat ∧ e.toNat ≤ 191
      · rw [if_pos he] at h3
        rw [if_pos ⟨hb, hd, he⟩]
        exact (((loopT_inl h).trans (loopT_inl h2)).trans (loopT_inl h3)).trans (loopT_inr (stop17 (by simp)))
      · rw [if_neg he] at h3
        rw [if_neg (fun q => he q.2.2)]
        exact ((loopT_inl h).trans (loopT_inl h2)).trans (loopT_inr h3)
    · rw [if_neg hd] at h2
      rw [if_neg (fun q => hd q.2.1)]
      exact (loopT_inl h).trans (loopT_inr h2)
  · rw [if_neg hb] at h
    rw [if_neg (fun q => hb q.1)]
    exact loopT_inr h
theorem char_t (s : List UInt8) : ref03_Char s = some ((charM s).1, ((charM s).2 : Int), ()) := by
  cases s with
  | nil => simp [ref03_Char, charM]
  | cons a t =>
    have ha : a.toNat < 256 := a.toNat_lt
    have h0 : ¬ (((a :: t).length : Int) = 0) := by simp only [List.length_cons]; omega
    have hi : atI (a :: t) 0 = some a := by simp [atI]
    unfold ref03_Char
    simp only [cond_dec, if_neg h0, hi, Option.bind_some, and_join, ite_and2, ite_or2]
    rw [wrap64 (n := (a.toNat : Int)) (by omega) (by omega)]
    by_cases c1 : a.toNat < 128
    · rw [if_pos (by omega)]
      simp only [bind_join_inr, charM, if_pos c1]; rfl
    rw [if_neg (by omega)]
    by_cases c2 : 194 ≤ a.toNat ∧ a.toNat < 224
    · rw [if_pos (by omega), wrap64 (by omega) (by omega)]
      simp only [bind_join_inl]
      match t with
      | [] => simp [charM, c1, c2]
      | b :: t =>
        rw [if_neg (by simp only [List.length_cons]; omega), loop17_2 (by omega) (by omega)]
        by_cases hb : 128 ≤ b.toNat ∧ b.toNat ≤ 191
        · rw [if_pos hb]
          simp only [bind_join_inl]
          rw [guard_join, if_neg (by omega)]
          simp only [charM, c1, c2, hb, if_true, if_false, and_self]; rfl
        · rw [if_neg hb]
          simp only [bind_join_inr]
          simp [charM, c1, c2, hb]
    rw [if_neg (by omega)]
    by_cases c3 : 224 ≤ a.toNat ∧ a.toNat < 240
    · rw [if_pos (by omega), wrap64 (by omega) (by omega)]
      simp only [bind_join_inl]
      match t with
      | [] => simp [charM, c1, c2, c3]
      | [b] => simp [charM, c1, c2, c3]
      | b :: c :: t =>
        have hb := b.toNat_lt
        have hc := c.toNat_lt
        rw [if_neg (by simp only [List.length_cons]; omega), loop17_3 (by omega) (by omega)]
        by_cases hb' : (128 ≤ b.toNat ∧ b.toNat ≤ 191) ∧ (128 ≤ c.toNat ∧ c.toNat ≤ 191)
        · rw [if_pos hb']
          simp only [bind_join_inl]
          rw [guard_join]
          simp only [charM, c1, c2, c3, hb', if_true, if_false, and_self]
          by_cases hr : 64 * (64 * ((a.toNat : Int) - 224) + b.toNat - 128) + c.toNat - 128 < 2048 ∨ (55296 ≤ 64 * (64 * ((a.toNat : Int) - 224) + b.toNat - 128) + c.toNat - 128 ∧ 64 * (64 * ((a.toNat : Int) - 224) + b.toNat - 128) + c.toNat - 128 ≤ 57343)
          · rw [if_pos (by omega), if_pos hr]; rfl
          · rw [if_neg (by omega), if_neg hr]; rfl
        · rw [if_neg hb']
          simp only [bind_join_inr]
          simp [charM, c1, c2, c3, hb']
    rw [if_neg (by omega)]
    by_cases c4 : 240 ≤ a.toNat ∧ a.toNat < 245
    · rw [if_pos (by omega), wrap64 (by omega) (by omega)]
      simp only [bind_join_inl]
      match t with
      | [] => simp [charM, c1, c2, c3, c4]
      | [b] => simp [charM, c1, c2, c3, c4]
      | [b, c] => simp [charM, c1, c2, c3, c4]
      | b :: c :: d :: t =>
        have hb := b.toNat_lt
        have hc := c.toNat_lt
        have hd := d.toNat_lt
        rw [if_neg (by simp only [List.length_cons]; omega), loop17_4 (by omega) (by omega)]
        by_cases hb' : (128 ≤ b.toNat ∧ b.toNat ≤ 191) ∧ (128 ≤ c.toNat ∧ c.toNat ≤ 191) ∧ (128 ≤ d.toNat ∧ d.toNat ≤ 191)
        · rw [if_pos hb']
          simp only [bind_join_inl]
          rw [guard_join]
          simp only [charM, c1, c2, c3, c4, hb', if_true, if_false, and_self]
          by_cases hr : 64 * (64 * (64 * ((a.toNat : Int) - 240) + b.toNat - 128) + c.toNat - 128) + d.toNat - 128 < 65536 ∨ 1114111 < 64 * (64 * (64 * ((a.toNat : Int) - 240) + b.toNat - 128) + c.toNat - 128) + d.toNat - 128
          · rw [if_pos (by omega), if_pos hr]; rfl
          · rw [if_neg (by omega), if_neg hr]; rfl
        · rw [if_neg hb']
          simp only [bind_join_inr]
          simp [charM, c1, c2, c3, c4, hb']
    rw [if_neg (by omega)]
    simp only [bind_join_inr]
    simp [charM, c1, c2, c3, c4]
theorem charM_le (s : List UInt8) : (charM s).2 ≤ s.length := by
  unfold charM
  repeat' split
  all_goals (try simp only [])
  all_goals (try split)
  all_goals (try simp only [List.length_cons])
  all_goals omega
theorem charM_four {s : List UInt8} : (charM s).2 ≤ 4 := by
  unfold charM
  repeat' split
  all_goals (try simp only [])
  all_goals (try split)
  all_goals omega
theorem charM_int (s : List UInt8) : 0 ≤ (charM s).1 ∧ (charM s).1 ≤ 1114111 := by
  unfold charM
  repeat' split
  all_goals (try simp only [])
  all_goals (try split)
  all_goals (try simp only [])
  all_goals omega
/-- The characters of a text; none: some bytes are none's. -/
def runesM (s : List UInt8) : Option (List Int) :=
  if h : s = [] then some []
  else if h0 : (charM s).2 = 0 then none
  else (runesM (s.drop (charM s).2)).map fun l => (charM s).1 :: l
termination_by s.length
decreasing_by
  have : s.length ≠ 0 := fun e => h (List.eq_nil_of_length_eq_zero e)
  simp only [List.length_drop]; omega
theorem runesM_nil : runesM [] = some [] := by rw [runesM, dif_pos rfl]
theorem runesM_none {s : List UInt8} (h : s ≠ []) (h0 : (charM s).2 = 0) : runesM s = none := by rw [runesM, dif_neg h, dif_pos h0]
theorem runesM_step {s : List UInt8} (h : s ≠ []) (h0 : (charM s).2 ≠ 0) : runesM s = (runesM (s.drop (charM s).2)).map fun l => (charM s).1 :: l := by rw [runesM, dif_neg h, dif_neg h0]
def runesR (s : List UInt8) (out : List Int) : List Int × Bool × Unit :=
  match runesM s with
  | some m => (out ++ m, true, ())
  | none => ([], false, ())
theorem runes_loop {s : List UInt8} (hs : s.length < 4294967296) : ∀ (k i : Nat) (l : List Int), s.length - i ≤ k → i ≤ s.length → l.length ≤ i → loopT (ref03_Runes_l3 s) ((i : Int), l, ()) = some (runesR (s.drop i) l) := by
  intro k
  have fin : ∀ (i : Nat) (l : List Int), ¬ i < s.length → loopT (ref03_Runes_l3 s) ((i : Int), l, ()) = some (runesR (s.drop i) l) := by
    intro i l hi
    rw [List.drop_eq_nil_of_le (by omega), loopT_inr (x := (l, true, ())) (by simp only [ref03_Runes_l3, cond_dec]; rw [if_neg (by omega)])]
    simp [runesR, runesM_nil]
  induction k with
  | zero => intro i l hk hi hl; exact fin i l (by omega)
  | succ k ih =>
    intro i l hk hi hl
    by_cases hlt : i < s.length
    · have hne : s.drop i ≠ [] := fun e => by have := congrArg List.length e; simp at this; omega
      have hle := charM_le (s.drop i)
      simp only [List.length_drop] at hle
      by_cases h0 : (charM (s.drop i)).2 = 0
      · rw [loopT_inr (x := ([], false, ()))]
        · simp only [runesR, runesM_none hne h0]
        · simp only [ref03_Runes_l3, cond_dec]
          rw [if_pos (by omega), subI_from (by omega)]
          simp only [Option.bind_some, char_t]
          rw [if_pos (by omega)]
      · rw [loopT_inl (b := (((i + (charM (s.drop i)).2 : Nat) : Int), l ++ [(charM (s.drop i)).1], ()))]
        · rw [ih _ _ (by omega) (by omega) (by simp; omega)]
          simp only [runesR, runesM_step hne h0, List.drop_drop]
          cases runesM (s.drop (i + (charM (s.drop i)).2)) <;> simp
        · simp only [ref03_Runes_l3, cond_dec]
          rw [if_pos (by omega), subI_from (by omega)]
          simp only [Option.bind_some, char_t]
          rw [if_neg (by omega), roomT_lt (by simp; omega)]
          simp only [Option.bind_some]
          rw [wrap64 (by omega) (by omega)]
          simp
    · exact fin i l hlt
theorem runes_t {s : List UInt8} (hs : s.length < 4294967296) : ref03_Runes s = some (runesR s []) := by
  have := runes_loop hs s.length 0 [] (by omega) (by omega) (by simp)
  simpa [ref03_Runes] using this
end Go.Proofs.YtnafmjbakholcaaDoor.Q
