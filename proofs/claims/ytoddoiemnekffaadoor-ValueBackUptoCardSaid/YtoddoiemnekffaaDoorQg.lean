import Derived.Test.YtoddoiemnekffaaDoorL
import Derived.Test.YtoddoiemnekffaaDoorT14
import Derived.Lib.AtoiAllCases
set_option linter.unusedVariables false
set_option linter.unusedSimpArgs false
set_option maxRecDepth 100000
namespace Go.Proofs.YtoddoiemnekffaaDoor.Q
open Go.EM Go.TY Go.Proofs Go.Proofs.YtoddoiemnekffaaDoor.Y Go.Proofs.YtoddoiemnekffaaDoor.K Go.Proofs.YtoddoiemnekffaaDoor.L
/-- A character of a text, and how many bytes it has; none: 0. -/
def charM : List UInt8 → Int × Nat
  | [] => (0, 0)
  | a :: t =>
    if a.toNat < 128 then (a.toNat, 1)
    else if 194 ≤ a.toNat ∧ a.toNat < 224 then (match t with
      | b :: _ => if 128 ≤ b.toNat ∧ b.toNat ≤ 191 then (64 * ((a.toNat : Int) - 192) + b.toNat - 128, 2) else (0, 0)
      | _ => (0, 0))
    else if 224 ≤ a.toNat ∧ a.toNat < 240 then (match t with
      | b :: c :: _ => if (128 ≤ b.toNat ∧ b.toNat ≤ 191) ∧ (128 ≤ c.toNat ∧ c.toNat ≤ 191) then
          let r : Int := 64 * (64 * ((a.toNat : Int) - 224) + b.toNat - 128) + c.toNat - 128
          if r < 2048 ∨ (55296 ≤ r ∧ r ≤ 57343) then (0, 0) else (r, 3)
        else (0, 0)
      | _ => (0, 0))
    else if 240 ≤ a.toNat ∧ a.toNat < 245 then (match t with
      | b :: c :: d :: _ => if (128 ≤ b.toNat ∧ b.toNat ≤ 191) ∧ (128 ≤ c.toNat ∧ c.toNat ≤ 191) ∧ (128 ≤ d.toNat ∧ d.toNat ≤ 191) then
          let r : Int := 64 * (64 * (64 * ((a.toNat : Int) - 240) + b.toNat - 128) + c.toNat - 128) + d.toNat - 128
          if r < 65536 ∨ 1114111 < r then (0, 0) else (r, 4)
        else (0, 0)
      | _ => (0, 0))
    else (0, 0)
/-- One turn of Char. -/
theorem turn17 {s : List UInt8} {q : Int × Int × Int × Unit} {x : Int} {i : Nat} {b : UInt8} (hi : (i : Int) < q.2.1) (hi4 : i ≤ 4) (h : s[i]? = some b) (hx : 0 ≤ x) (hx2 : x ≤ 100000000) :
    ref03_Char_l17 s q (x, (i : Int), ()) = if 128 ≤ b.toNat ∧ b.toNat ≤ 191 then some (.inl (64 * x + b.toNat - 128, ((i + 1 : Nat) : Int), ())) else some (.inr (.inr (0, 0, ()))) := by
  have hb : b.toNat < 256 := b.toNat_lt
  simp only [ref03_Char_l17, atI_nat, h, Option.bind_some, cond_dec, if_pos hi]
  rw [wrap64 (n := 64 * x) (by omega) (by omega), wrap64 (n := (b.toNat : Int)) (by omega) (by omega), wrap64 (n := 64 * x + b.toNat) (by omega) (by omega), wrap64 (n := 64 * x + b.toNat - 128) (by omega) (by omega), wrap64 (n := (i : Int) + 1) (by omega) (by omega)]
  by_cases h1 : b.toNat < 128
  · rw [if_pos (by omega), if_neg (by omega)]
  · rw [if_neg (by omega)]
    by_cases h2 : b.toNat > 191
    · rw [if_pos (by omega), if_neg (by omega)]
    · rw [if_neg (by omega), if_pos (by omega)]; rfl
theorem stop17 {s : List UInt8} {q : Int × Int × Int × Unit} {x : Int} {i : Nat} (hi : ¬ (i : Int) < q.2.1) : ref03_Char_l17 s q (x, (i : Int), ()) = some (.inr (.inl (x, ()))) := by
  simp only [ref03_Char_l17, cond_dec, if_neg hi]
theorem loop17_2 {a b : UInt8} {t : List UInt8} {l : Int} {c x : Int} (hx : 0 ≤ x) (hx2 : x ≤ 1000) :
    loopT (ref03_Char_l17 (a :: b :: t) (c, 2, l, ())) (x, 1, ()) = if 128 ≤ b.toNat ∧ b.toNat ≤ 191 then some (.inl (64 * x + b.toNat - 128, ())) else some (.inr (0, 0, ())) := by
  have h := turn17 (s := a :: b :: t) (q := (c, 2, l, ())) (i := 1) (b := b) (x := x) (by simp) (by omega) rfl hx (by omega)
  by_cases hb : 128 ≤ b.toNat ∧ b.toNat ≤ 191
  · rw [if_pos hb] at h ⊢
    exact (loopT_inl h).trans (loopT_inr (stop17 (by simp)))
  · rw [if_neg hb] at h ⊢
    exact loopT_inr h
theorem loop17_3 {a b d : UInt8} {t : List UInt8} {l : Int} {c x : Int} (hx : 0 ≤ x) (hx2 : x ≤ 1000) :
    loopT (ref03_Char_l17 (a :: b :: d :: t) (c, 3, l, ())) (x, 1, ()) = if (128 ≤ b.toNat ∧ b.toNat ≤ 191) ∧ (128 ≤ d.toNat ∧ d.toNat ≤ 191) then some (.inl (64 * (64 * x + b.toNat - 128) + d.toNat - 128, ())) else some (.inr (0, 0, ())) := by
  have hb' := b.toNat_lt
  have h := turn17 (s := a :: b :: d :: t) (q := (c, 3, l, ())) (i := 1) (b := b) (x := x) (by simp) (by omega) rfl hx (by omega)
  by_cases hb : 128 ≤ b.toNat ∧ b.toNat ≤ 191
  · rw [if_pos hb] at h
    have h2 := turn17 (s := a :: b :: d :: t) (q := (c, 3, l, ())) (i := 2) (b := d) (x := 64 * x + b.toNat - 128) (by simp) (by omega) rfl (by omega) (by omega)
    by_cases hd : 128 ≤ d.toNat ∧ d.toNat ≤ 191
    · rw [if_pos hd] at h2
      rw [if_pos ⟨hb, hd⟩]
      exact ((loopT_inl h).trans (loopT_inl h2)).trans (loopT_inr (stop17 (by simp)))
    · rw [if_neg hd] at h2
      rw [if_neg (fun e => hd e.2)]
      exact (loopT_inl h).trans (loopT_inr h2)
  · rw [if_neg hb] at h
    rw [if_neg (fun e => hb e.1)]
    exact loopT_inr h
theorem loop17_4 {a b d e : UInt8} {t : List UInt8} {l : Int} {c x : Int} (hx : 0 ≤ x) (hx2 : x ≤ 1000) :
    loopT (ref03_Char_l17 (a :: b :: d :: e :: t) (c, 4, l, ())) (x, 1, ()) = if (128 ≤ b.toNat ∧ b.toNat ≤ 191) ∧ (128 ≤ d.toNat ∧ d.toNat ≤ 191) ∧ (128 ≤ e.toNat ∧ e.toNat ≤ 191) then some (.inl (64 * (64 * (64 * x + b.toNat - 128) + d.toNat - 128) + e.toNat - 128, ())) else some (.inr (0, 0, ())) := by
  have hb' := b.toNat_lt
  have hd' := d.toNat_lt
  have h := turn17 (s := a :: b :: d :: e :: t) (q := (c, 4, l, ())) (i := 1) (b := b) (x := x) (by simp) (by omega) rfl hx (by omega)
  by_cases hb : 128 ≤ b.toNat ∧ b.toNat ≤ 191
  · rw [if_pos hb] at h
    have h2 := turn17 (s := a :: b :: d :: e :: t) (q := (c, 4, l, ())) (i := 2) (b := d) (x := 64 * x + b.toNat - 128) (by simp) (by omega) rfl (by omega) (by omega)
    by_cases hd : 128 ≤ d.toNat ∧ d.toNat ≤ 191
    · rw [if_pos hd] at h2
      have h3 := turn17 (s := a :: b :: d :: e :: t) (q := (c, 4, l, ())) (i := 3) (b := e) (x := 64 * (64 * x + b.toNat - 128) + d.toNat - 128) (by simp) (by omega) rfl (by omega) (by omega)
      by_cases he : 128 ≤ e.toNat ∧ e.toNat ≤ 191
      · rw [if_pos he] at h3
        rw [if_pos ⟨hb, hd, he⟩]
        exact (((loopT_inl h).trans (loopT_inl h2)).trans (loopT_inl h3)).trans (loopT_inr (stop17 (by simp)))
      · rw [if_neg he] at h3
        rw [if_neg (fun q => he q.2.2)]
        exact ((loopT_inl h).trans (loopT_inl h2)).trans (loopT_inr h3)
    · rw [if_neg hd] at h2
      rw [if_neg (fun q => hd q.2.1)]
      exact (loopT_inl h).trans (loopT_inr h2)
  · rw [if_neg hb] at h
    rw [if_neg (fun q => hb q.1)]
    exact loopT_inr h
theorem char_t (s : List UInt8) : ref03_Char s = some ((charM s).1, ((charM s).2 : Int), ()) := by
  cases s with
  | nil => simp [ref03_Char, charM]
  | cons a t =>
    have ha : a.toNat < 256 := a.toNat_lt
    have h0 : ¬ (((a :: t).length : Int) = 0) := by simp only [List.length_cons]; omega
    have hi : atI (a :: t) 0 = some a := by simp [atI]
    unfold ref03_Char
    simp only [cond_dec, if_neg h0, hi, Option.bind_some, and_join, ite_and2, ite_or2]
    rw [wrap64 (n := (a.toNat : Int)) (by omega) (by omega)]
    by_cases c1 : a.toNat < 128
    · rw [if_pos (by omega)]
      simp only [bind_join_inr, charM, if_pos c1]; rfl
    rw [if_neg (by omega)]
    by_cases c2 : 194 ≤ a.toNat ∧ a.toNat < 224
    · rw [if_pos (by omega), wrap64 (by omega) (by omega)]
      simp only [bind_join_inl]
      match t with
      | [] => simp [charM, c1, c2]
      | b :: t =>
        rw [if_neg (by simp only [List.length_cons]; omega), loop17_2 (by omega) (by omega)]
        by_cases hb : 128 ≤ b.toNat ∧ b.toNat ≤ 191
        · rw [if_pos hb]
          simp only [bind_join_inl]
          rw [guard_join, if_neg (by omega)]
          simp only [charM, c1, c2, hb, if_true, if_false, and_self]; rfl
        · rw [if_neg hb]
          simp only [bind_join_inr]
          simp [charM, c1, c2, hb]
    rw [if_neg (by omega)]
    by_cases c3 : 224 ≤ a.toNat ∧ a.toNat < 240
    · rw [if_pos (by omega), wrap64 (by omega) (by omega)]
      simp only [bind_join_inl]
      match t with
      | [] => simp [charM, c1, c2, c3]
      | [b] => simp [charM, c1, c2, c3]
      | b :: c :: t =>
        have hb := b.toNat_lt
        have hc := c.toNat_lt
        rw [if_neg (by simp only [List.length_cons]; omega), loop17_3 (by omega) (by omega)]
        by_cases hb' : (128 ≤ b.toNat ∧ b.toNat ≤ 191) ∧ (128 ≤ c.toNat ∧ c.toNat ≤ 191)
        · rw [if_pos hb']
          simp only [bind_join_inl]
          rw [guard_join]
          simp only [charM, c1, c2, c3, hb', if_true, if_false, and_self]
          by_cases hr : 64 * (64 * ((a.toNat : Int) - 224) + b.toNat - 128) + c.toNat - 128 < 2048 ∨ (55296 ≤ 64 * (64 * ((a.toNat : Int) - 224) + b.toNat - 128) + c.toNat - 128 ∧ 64 * (64 * ((a.toNat : Int) - 224) + b.toNat - 128) + c.toNat - 128 ≤ 57343)
          · rw [if_pos (by omega), if_pos hr]; rfl
          · rw [if_neg (by omega), if_neg hr]; rfl
        · rw [if_neg hb']
          simp only [bind_join_inr]
          simp [charM, c1, c2, c3, hb']
    rw [if_neg (by omega)]
    by_cases c4 : 240 ≤ a.toNat ∧ a.toNat < 245
    · rw [if_pos (by omega), wrap64 (by omega) (by omega)]
      simp only [bind_join_inl]
      match t with
      | [] => simp [charM, c1, c2, c3, c4]
      | [b] => simp [charM, c1, c2, c3, c4]
      | [b, c] => simp [charM, c1, c2, c3, c4]
      | b :: c :: d :: t =>
        have hb := b.toNat_lt
        have hc := c.toNat_lt
        have hd := d.toNat_lt
        rw [if_neg (by simp only [List.length_cons]; omega), loop17_4 (by omega) (by omega)]
        by_cases hb' : (128 ≤ b.toNat ∧ b.toNat ≤ 191) ∧ (128 ≤ c.toNat ∧ c.toNat ≤ 191) ∧ (128 ≤ d.toNat ∧ d.toNat ≤ 191)
        · rw [if_pos hb']
          simp only [bind_join_inl]
          rw [guard_join]
          simp only [charM, c1, c2, c3, c4, hb', if_true, if_false, and_self]
          by_cases hr : 64 * (64 * (64 * ((a.toNat : Int) - 240) + b.toNat - 128) + c.toNat - 128) + d.toNat - 128 < 65536 ∨ 1114111 < 64 * (64 * (64 * ((a.toNat : Int) - 240) + b.toNat - 128) + c.toNat - 128) + d.toNat - 128
          · rw [if_pos (by omega), if_pos hr]; rfl
          · rw [if_neg (by omega), if_neg hr]; rfl
        · rw [if_neg hb']
          simp only [bind_join_inr]
          simp [charM, c1, c2, c3, c4, hb']
    rw [if_neg (by omega)]
    simp only [bind_join_inr]
    simp [charM, c1, c2, c3, c4]
theorem charM_le (s : List UInt8) : (charM s).2 ≤ s.length := by
  unfold charM
  repeat' split
  all_goals (try simp only [])
  all_goals (try split)
  all_goals (try simp only [List.length_cons])
  all_goals omega
theorem charM_four {s : List UInt8} : (charM s).2 ≤ 4 := by
  unfold charM
  repeat' split
  all_goals (try simp only [])
  all_goals (try split)
  all_goals omega
theorem charM_int (s : List UInt8) : 0 ≤ (charM s).1 ∧ (charM s).1 ≤ 1114111 := by
  unfold charM
  repeat' split
  all_goals (try simp only [])
  all_goals (try split)
  all_goals (try simp only [])
  all_goals omega
/-- The characters of a text; none: some bytes are none's. -/
def runesM (s : List UInt8) : Option (List Int) :=
  if h : s = [] then some []
  else if h0 : (charM s).2 = 0 then none
  else (runesM (s.drop (charM s).2)).map fun l => (charM s).1 :: l
termination_by s.length
decreasing_by
  have : s.length ≠ 0 := fun e => h (List.eq_nil_of_length_eq_zero e)
  simp only [List.length_drop]; omega
theorem runesM_nil : runesM [] = some [] := by rw [runesM, dif_pos rfl]
theorem runesM_none {s : List UInt8} (h : s ≠ []) (h0 : (charM s).2 = 0) : runesM s = none := by rw [runesM, dif_neg h, dif_pos h0]
theorem runesM_step {s : List UInt8} (h : s ≠ []) (h0 : (charM s).2 ≠ 0) : runesM s = (runesM (s.drop (charM s).2)).map fun l => (charM s).1 :: l := by rw [runesM, dif_neg h, dif_neg h0]
def runesR (s : List UInt8) (out : List Int) : List Int × Bool × Unit :=
  match runesM s with
  | some m => (out ++ m, true, ())
  | none => ([], false, ())
theorem runes_loop {s : List UInt8} (hs : s.length < 4294967296) : ∀ (k i : Nat) (l : List Int), s.length - i ≤ k → i ≤ s.length → l.length ≤ i → loopT (ref03_Runes_l3 s) ((i : Int), l, ()) = some (runesR (s.drop i) l) := by
  intro k
  have fin : ∀ (i : Nat) (l : List Int), ¬ i < s.length → loopT (ref03_Runes_l3 s) ((i : Int), l, ()) = some (runesR (s.drop i) l) := by
    intro i l hi
    rw [List.drop_eq_nil_of_le (by omega), loopT_inr (x := (l, true, ())) (by simp only [ref03_Runes_l3, cond_dec]; rw [if_neg (by omega)])]
    simp [runesR, runesM_nil]
  induction k with
  | zero => intro i l hk hi hl; exact fin i l (by omega)
  | succ k ih =>
    intro i l hk hi hl
    by_cases hlt : i < s.length
    · have hne : s.drop i ≠ [] := fun e => by have := congrArg List.length e; simp at this; omega
      have hle := charM_le (s.drop i)
      simp only [List.length_drop] at hle
      by_cases h0 : (charM (s.drop i)).2 = 0
      · rw [loopT_inr (x := ([], false, ()))]
        · simp only [runesR, runesM_none hne h0]
        · simp only [ref03_Runes_l3, cond_dec]
          rw [if_pos (by omega), subI_from (by omega)]
          simp only [Option.bind_some, char_t]
          rw [if_pos (by omega)]
      · rw [loopT_inl (b := (((i + (charM (s.drop i)).2 : Nat) : Int), l ++ [(charM (s.drop i)).1], ()))]
        · rw [ih _ _ (by omega) (by omega) (by simp; omega)]
          simp only [runesR, runesM_step hne h0, List.drop_drop]
          cases runesM (s.drop (i + (charM (s.drop i)).2)) <;> simp
        · simp only [ref03_Runes_l3, cond_dec]
          rw [if_pos (by omega), subI_from (by omega)]
          simp only [Option.bind_some, char_t]
          rw [if_neg (by omega), roomT_lt (by simp; omega)]
          simp only [Option.bind_some]
          rw [wrap64 (by omega) (by omega)]
          simp
    · exact fin i l hlt
theorem runes_t {s : List UInt8} (hs : s.length < 4294967296) : ref03_Runes s = some (runesR s []) := by
  have := runes_loop hs s.length 0 [] (by omega) (by omega) (by simp)
  simpa [ref03_Runes] using this
theorem at1 {a b : UInt8} {t : List UInt8} : atI (a :: b :: t) 1 = some b := by simp [atI]
theorem at2 {a b c : UInt8} {t : List UInt8} : atI (a :: b :: c :: t) 2 = some c := by simp [atI]
theorem at3 {a b c d : UInt8} {t : List UInt8} : atI (a :: b :: c :: d :: t) 3 = some d := by simp [atI]
/-- A character, or the sign that there is none: how Go ranges over a text. -/
def decN (l : List UInt8) : Nat × Nat := if (charM l).2 = 0 then (65533, 1) else ((charM l).1.toNat, (charM l).2)
theorem get_at {s : List UInt8} {i : Nat} {b : UInt8} (h : s[i]? = some b) : (⟨s.toArray⟩ : ByteArray).get! i = b := by
  have : (⟨s.toArray⟩ : ByteArray).get! i = s.toArray[i]! := rfl
  rw [this]
  simp [h]
theorem cont_no {s : List UInt8} {i : Nat} (h : s.length ≤ i) : decide (i < (⟨s.toArray⟩ : ByteArray).size) = false := by
  have : (⟨s.toArray⟩ : ByteArray).size = s.length := by simp [ByteArray.size]
  rw [this]; simp; omega
theorem cont_yes {s : List UInt8} {i : Nat} (h : i < s.length) : decide (i < (⟨s.toArray⟩ : ByteArray).size) = true := by
  have : (⟨s.toArray⟩ : ByteArray).size = s.length := by simp [ByteArray.size]
  rw [this]; simp; omega
theorem drop_at {s t : List UInt8} {i k : Nat} {b : UInt8} (h : s.drop i = t) (hb : t[k]? = some b) : s[i + k]? = some b := by
  rw [← h, List.getElem?_drop] at hb; exact hb
theorem drop_len {s t : List UInt8} {i : Nat} (h : s.drop i = t) (hi : i ≤ s.length) : s.length = i + t.length := by
  rw [← h, List.length_drop]; omega
/-- What the model makes of the bytes at a place. -/
def decV (b0 : Nat) (b1 b2 b3 : Option Nat) : Nat × Nat :=
  let cont (b : Option Nat) : Bool := match b with
    | some b => b / 64 == 2
    | none => false
  if b0 < 0x80 then (b0, 1)
  else if b0 / 32 == 6 && cont b1 then
    let c := (b0 % 32) * 64 + b1.getD 0 % 64
    if c ≥ 0x80 then (c, 2) else (65533, 1)
  else if b0 / 16 == 14 && cont b1 && cont b2 then
    let c := (b0 % 16) * 4096 + (b1.getD 0 % 64) * 64 + b2.getD 0 % 64
    if c ≥ 0x800 && Utf8.valid c then (c, 3) else (65533, 1)
  else if b0 / 8 == 30 && cont b1 && cont b2 && cont b3 then
    let c := (b0 % 8) * 262144 + (b1.getD 0 % 64) * 4096 + (b2.getD 0 % 64) * 64 + b3.getD 0 % 64
    if c ≥ 0x10000 && Utf8.valid c then (c, 4) else (65533, 1)
  else (65533, 1)
theorem decode_V {s t : List UInt8} {i : Nat} {a : UInt8} (h : s.drop i = a :: t) (hi : i ≤ s.length) : Utf8.decode ⟨s.toArray⟩ i = decV a.toNat (t[0]?.map (·.toNat)) (t[1]?.map (·.toNat)) (t[2]?.map (·.toNat)) := by
  have hlen := drop_len h hi
  have g0 : (⟨s.toArray⟩ : ByteArray).get! (i + 0) = a := get_at (drop_at h rfl)
  have gk : ∀ k b, t[k]? = some b → (⟨s.toArray⟩ : ByteArray).get! (i + (k + 1)) = b := fun k b hb => get_at (drop_at h (by simpa using hb))
  have cy : ∀ k b, t[k]? = some b → decide (i + (k + 1) < (⟨s.toArray⟩ : ByteArray).size) = true := fun k b hb => cont_yes (by
    rcases Nat.lt_or_ge k t.length with h' | h'
    · simp only [List.length_cons] at hlen; omega
    · rw [List.getElem?_eq_none h'] at hb; cases hb)
  have cn : ∀ k, t[k]? = none → decide (i + (k + 1) < (⟨s.toArray⟩ : ByteArray).size) = false := fun k hb => cont_no (by
    rw [List.getElem?_eq_none_iff] at hb
    simp only [List.length_cons] at hlen; omega)
  unfold Utf8.decode decV
  simp only [g0]
  have e : Utf8.runeError = 65533 := rfl
  cases h1 : t[0]? with
  | none =>
    have c1 := cn 0 h1
    have h2 : t[1]? = none := by rw [List.getElem?_eq_none_iff] at h1 ⊢; omega
    have h3 : t[2]? = none := by rw [List.getElem?_eq_none_iff] at h1 ⊢; omega
    simp only [Nat.zero_add] at c1
    simp [c1, h2, h3, e]
  | some b =>
    have c1 := cy 0 b h1
    have d1 := gk 0 b h1
    simp only [Nat.zero_add] at c1 d1
    cases h2 : t[1]? with
    | none =>
      have c2 := cn 1 h2
      have h3 : t[2]? = none := by rw [List.getElem?_eq_none_iff] at h2 ⊢; omega
      simp only [Nat.reduceAdd] at c2
      simp [c1, c2, d1, h3, e]
    | some c =>
      have c2 := cy 1 c h2
      have d2 := gk 1 c h2
      simp only [Nat.reduceAdd] at c2 d2
      cases h3 : t[2]? with
      | none =>
        have c3 := cn 2 h3
        simp only [Nat.reduceAdd] at c3
        simp [c1, c2, c3, d1, d2, e]
      | some d =>
        have c3 := cy 2 d h3
        have d3 := gk 2 d h3
        simp only [Nat.reduceAdd] at c3 d3
        simp [c1, c2, c3, d1, d2, d3, e]
theorem div64 {b : Nat} : (b / 64 == 2) = decide (128 ≤ b ∧ b ≤ 191) := by
  rw [Bool.eq_iff_iff]; simp; omega
theorem decV_N (a : UInt8) (t : List UInt8) : decV a.toNat (t[0]?.map (·.toNat)) (t[1]?.map (·.toNat)) (t[2]?.map (·.toNat)) = decN (a :: t) := by
  have ha := a.toNat_lt
  unfold decV decN
  by_cases c1 : a.toNat < 128
  · simp [charM, c1]
  have c1' : ¬ a.toNat < 0x80 := c1
  simp only [if_neg c1']
  by_cases c2 : a.toNat / 32 = 6
  · have e2 : (a.toNat / 32 == 6) = true := by simp [c2]
    match t with
    | [] =>
      have e3 : ¬ a.toNat / 16 = 14 := by omega
      have e4 : ¬ a.toNat / 8 = 30 := by omega
      have d3 : ¬ (224 ≤ a.toNat ∧ a.toNat < 240) := by omega
      have d4 : ¬ (240 ≤ a.toNat ∧ a.toNat < 245) := by omega
      simp [charM, c1, e3, e4, d3, d4]
    | b :: t =>
      have hb := b.toNat_lt
      have e3 : ¬ a.toNat / 16 = 14 := by omega
      have e4 : ¬ a.toNat / 8 = 30 := by omega
      have d3 : ¬ (224 ≤ a.toNat ∧ a.toNat < 240) := by omega
      have d4 : ¬ (240 ≤ a.toNat ∧ a.toNat < 245) := by omega
      simp only [List.getElem?_cons_zero, Option.map_some, e2, div64, Bool.true_and, Option.getD_some]
      by_cases hb' : 128 ≤ b.toNat ∧ b.toNat ≤ 191
      · rw [if_pos (by simpa using hb')]
        by_cases c3 : 194 ≤ a.toNat
        · rw [if_pos (by omega)]
          have q : 194 ≤ a.toNat ∧ a.toNat < 224 := by omega
          simp only [charM, if_neg c1, if_pos q, if_pos hb']
          rw [if_neg (by omega)]
          congr 1
          omega
        · rw [if_neg (by omega)]
          have q : ¬ (194 ≤ a.toNat ∧ a.toNat < 224) := by omega
          simp [charM, c1, q, d3, d4]
      · rw [if_neg (by simpa using hb')]
        have x3 : (a.toNat / 16 == 14) = false := by simp [e3]
        have x4 : (a.toNat / 8 == 30) = false := by simp [e4]
        simp only [x3, x4, Bool.false_and, Bool.false_eq_true, if_false]
        by_cases c3 : 194 ≤ a.toNat ∧ a.toNat < 224
        · simp [charM, c1, c3, hb']
        · simp [charM, c1, c3, d3, d4]
  have e2 : (a.toNat / 32 == 6) = false := by simp [c2]
  simp only [e2, Bool.false_and, Bool.false_eq_true, if_false]
  have d2 : ¬ (194 ≤ a.toNat ∧ a.toNat < 224) := by omega
  by_cases c3 : a.toNat / 16 = 14
  · have e3 : (a.toNat / 16 == 14) = true := by simp [c3]
    have d3 : (224 ≤ a.toNat ∧ a.toNat < 240) := by omega
    have x4 : (a.toNat / 8 == 30) = false := by simp; omega
    simp only [e3, x4, Bool.true_and, Bool.false_and, Bool.false_eq_true, if_false]
    match t with
    | [] => simp [charM, c1, d2, d3]
    | [b] => simp [charM, c1, d2, d3]
    | b :: c :: t =>
      have hb := b.toNat_lt
      have hc := c.toNat_lt
      simp only [List.getElem?_cons_zero, List.getElem?_cons_succ, Option.map_some, div64, Option.getD_some]
      by_cases hb' : (128 ≤ b.toNat ∧ b.toNat ≤ 191) ∧ (128 ≤ c.toNat ∧ c.toNat ≤ 191)
      · rw [if_pos (by simp only [Bool.and_eq_true, decide_eq_true_eq]; exact hb')]
        simp only [charM, if_neg c1, if_neg d2, if_pos d3, if_pos hb']
        by_cases hr : 64 * (64 * ((a.toNat : Int) - 224) + b.toNat - 128) + c.toNat - 128 < 2048 ∨ (55296 ≤ 64 * (64 * ((a.toNat : Int) - 224) + b.toNat - 128) + c.toNat - 128 ∧ 64 * (64 * ((a.toNat : Int) - 224) + b.toNat - 128) + c.toNat - 128 ≤ 57343)
        · rw [if_pos hr, if_neg (by
            simp only [Utf8.valid, Bool.and_eq_true, Bool.or_eq_true, decide_eq_true_eq]; omega)]
          rfl
        · rw [if_neg hr, if_pos (by
            simp only [Utf8.valid, Bool.and_eq_true, Bool.or_eq_true, decide_eq_true_eq]; omega), if_neg (by simp)]
          congr 1
          omega
      · rw [if_neg (by simp only [Bool.and_eq_true, decide_eq_true_eq]; exact hb')]
        simp only [charM, if_neg c1, if_neg d2, if_pos d3, if_neg hb']
        rfl
  have e3 : (a.toNat / 16 == 14) = false := by simp [c3]
  have d3 : ¬ (224 ≤ a.toNat ∧ a.toNat < 240) := by omega
  simp only [e3, Bool.false_and, Bool.false_eq_true, if_false]
  by_cases c4 : a.toNat / 8 = 30
  · have e4 : (a.toNat / 8 == 30) = true := by simp [c4]
    simp only [e4, Bool.true_and]
    match t with
    | [] => simp [charM, c1, d2, d3]
    | [b] => simp [charM, c1, d2, d3]
    | [b, c] => simp [charM, c1, d2, d3]
    | b :: c :: d :: t =>
      have hb := b.toNat_lt
      have hc := c.toNat_lt
      have hd := d.toNat_lt
      simp only [List.getElem?_cons_zero, List.getElem?_cons_succ, Option.map_some, div64, Option.getD_some]
      by_cases hb' : (128 ≤ b.toNat ∧ b.toNat ≤ 191) ∧ (128 ≤ c.toNat ∧ c.toNat ≤ 191) ∧ (128 ≤ d.toNat ∧ d.toNat ≤ 191)
      · rw [if_pos (by simp only [Bool.and_eq_true, decide_eq_true_eq]; exact ⟨⟨hb'.1, hb'.2.1⟩, hb'.2.2⟩)]
        by_cases d4 : (240 ≤ a.toNat ∧ a.toNat < 245)
        · simp only [charM, if_neg c1, if_neg d2, if_neg d3, if_pos d4, if_pos hb']
          by_cases hr : 64 * (64 * (64 * ((a.toNat : Int) - 240) + b.toNat - 128) + c.toNat - 128) + d.toNat - 128 < 65536 ∨ 1114111 < 64 * (64 * (64 * ((a.toNat : Int) - 240) + b.toNat - 128) + c.toNat - 128) + d.toNat - 128
          · rw [if_pos hr, if_neg (by
              simp only [Utf8.valid, Bool.and_eq_true, Bool.or_eq_true, decide_eq_true_eq]; omega)]
            rfl
          · rw [if_neg hr, if_pos (by
              simp only [Utf8.valid, Bool.and_eq_true, Bool.or_eq_true, decide_eq_true_eq]; omega), if_neg (by simp)]
            congr 1
            omega
        · rw [if_neg (by
            simp only [Utf8.valid, Bool.and_eq_true, Bool.or_eq_true, decide_eq_true_eq]; omega)]
          simp only [charM, if_neg c1, if_neg d2, if_neg d3, if_neg d4]
          rfl
      · rw [if_neg (by simp only [Bool.and_eq_true, decide_eq_true_eq]; exact fun e => hb' ⟨e.1.1, e.1.2, e.2⟩)]
        by_cases d4 : (240 ≤ a.toNat ∧ a.toNat < 245)
        · simp only [charM, if_neg c1, if_neg d2, if_neg d3, if_pos d4, if_neg hb']
          rfl
        · simp only [charM, if_neg c1, if_neg d2, if_neg d3, if_neg d4]
          rfl
  · have e4 : (a.toNat / 8 == 30) = false := by simp [c4]
    have d4 : ¬ (240 ≤ a.toNat ∧ a.toNat < 245) := by omega
    simp [e4, charM, c1, d2, d3, d4]
/-- How Go ranges over a text: character by character. -/
theorem decode_N {s : List UInt8} {i : Nat} (hi : i < s.length) : Utf8.decode ⟨s.toArray⟩ i = decN (s.drop i) := by
  cases h : s.drop i with
  | nil => have := congrArg List.length h; simp at this; omega
  | cons a t => rw [decode_V h (by omega), decV_N]
def cmpI (a b : Int) : Int := if a < b then -1 else if a > b then 1 else 0
theorem compare_t (a b : Int) : cmp_Compare_int a b = some (cmpI a b) := by
  unfold cmp_Compare_int cmp_isNaN_int cmpI
  simp only [Option.bind_some, decide_true, Bool.not_true, cond_false, cond_dec]
  by_cases h1 : a < b
  · simp [h1]
  · by_cases h2 : a > b <;> simp [h1, h2]
def orI (a b : Int) : Int := if a = 0 then b else a
theorem or_t (a b : Int) : cmp_Or_int [a, b] = some (orI a b) := by
  unfold cmp_Or_int orI
  by_cases h1 : a = 0
  · rw [if_pos h1]
    have t0 : cmp_Or_int_l3 [a, b] (0, ()) = some (.inl (1, ())) := by
      unfold cmp_Or_int_l3
      simp only [cond_dec, List.length_cons, List.length_nil]
      rw [if_pos (by decide)]
      simp [atI, h1, wrap64]
    rw [loopT_inl t0]
    by_cases h2 : b = 0
    · have t1 : cmp_Or_int_l3 [a, b] (1, ()) = some (.inl (2, ())) := by
        unfold cmp_Or_int_l3
        simp only [cond_dec, List.length_cons, List.length_nil]
        rw [if_pos (by decide)]
        simp [atI, h2, wrap64]
      rw [loopT_inl t1, h2]
      refine loopT_inr ?_
      unfold cmp_Or_int_l3
      simp only [cond_dec, List.length_cons, List.length_nil]
      rw [if_neg (by decide)]
    · refine loopT_inr ?_
      unfold cmp_Or_int_l3
      simp only [cond_dec, List.length_cons, List.length_nil]
      rw [if_pos (by decide)]
      simp [atI, h2]
  · rw [if_neg h1]
    refine loopT_inr ?_
    unfold cmp_Or_int_l3
    simp only [cond_dec, List.length_cons, List.length_nil]
    rw [if_pos (by decide)]
    simp [atI, h1]
def cmpD (a b : Int × Int × Unit) : Int := orI (cmpI a.1 b.1) (cmpI a.2.1 b.2.1)
theorem cmpD_cases (a b : Int × Int × Unit) : cmpD a b = if a.1 < b.1 then -1 else if a.1 > b.1 then 1 else if a.2.1 < b.2.1 then -1 else if a.2.1 > b.2.1 then 1 else 0 := by
  unfold cmpD orI cmpI
  by_cases h1 : a.1 < b.1
  · simp [h1]
  · by_cases h2 : a.1 > b.1
    · simp [h1, h2]
    · simp [h1, h2]
/-! ### a text that is built -/
def bI (s : List UInt8) : List Int := s.map fun b => (b.toNat : Int)
theorem bI_app {s t : List UInt8} : bI (s ++ t) = bI s ++ bI t := by simp [bI]
theorem bI_len {s : List UInt8} : (bI s).length = s.length := by simp [bI]
theorem bI_back {s : List UInt8} : ((bI s).map fun n => UInt8.ofNat n.toNat) = s := by
  unfold bI
  rw [List.map_map]
  conv => rhs; rw [← List.map_id s]
  congr 1
  funext b
  simp
theorem bI_one {n : Nat} (h : n < 256) : bI [UInt8.ofNat n] = [(n : Int)] := by
  simp only [bI, List.map_cons, List.map_nil]
  rw [UInt8.toNat_ofNat_of_lt' (by simpa using h)]
theorem wrapW8 {n : Int} : IntKind.wrap .u8 n = n % 256 := by
  simp [IntKind.wrap, IntKind.signed, IntKind.bits]
theorem writeByte_t {c : Int} {v : Bool × Unit × Unit} {w : List Int} (hw : w.length < 4294967000) : strings_Builder_WriteByte c v w = some (false, (true, (), ()), w ++ [c], ()) := by
  unfold strings_Builder_WriteByte
  have h : strings_Builder_copyCheck v w = some ((), (true, (), ()), w, ()) := by
    obtain ⟨b, _, _⟩ := v
    unfold strings_Builder_copyCheck
    cases b <;> rfl
  rw [h]
  simp only [Option.bind_some]
  rw [roomT_lt (by simp; omega)]
  rfl
theorem string_t {v : Bool × Unit × Unit} {s : List UInt8} (hs : s.length < 4294967296) : strings_Builder_String v (bI s) = some (s, v, ()) := by
  unfold strings_Builder_String
  cases s with
  | nil => rfl
  | cons b s =>
    have : (bI (b :: s)).isEmpty = false := rfl
    rw [this, cond_false, bI_back]
    have : wholeN 0 (bI (b :: s)).length ((bI (b :: s)).length : Int) = some () := by
      unfold wholeN
      rw [bI_len, if_pos ⟨rfl, rfl, by simp only [List.length_cons]; omega, by omega⟩]
    rw [this]; rfl
/-! ### numbers as bytes -/
def intM (n : Nat) : List UInt8 :=
  if h : n < 128 then [UInt8.ofNat n] else UInt8.ofNat (n % 128 + 128) :: intM (n / 128)
termination_by n
decreasing_by omega
theorem intM_small {n : Nat} (h : n < 128) : intM n = [UInt8.ofNat n] := by rw [intM, dif_pos h]
theorem intM_big {n : Nat} (h : ¬ n < 128) : intM n = UInt8.ofNat (n % 128 + 128) :: intM (n / 128) := by rw [intM, dif_neg h]
theorem div_pow {n k b : Nat} (hb : 0 < b) (h : n < b ^ (k + 1)) : n / b < b ^ k := by
  rw [Nat.div_lt_iff_lt_mul hb]
  rw [Nat.pow_succ] at h; exact h
theorem intM_len : ∀ (k n : Nat), n < 128 ^ k → (intM n).length ≤ k + 1
  | 0, n, h => by rw [intM_small (by simp at h; omega)]; simp
  | k + 1, n, h => by
    by_cases hn : n < 128
    · rw [intM_small hn]; simp
    · rw [intM_big hn, List.length_cons]
      have := intM_len k (n / 128) (div_pow (by omega) h)
      omega
theorem or_all : ∀ x : Fin 128, (x.val ||| 128) = x.val + 128 := by decide
theorem byte_t {n : Nat} (h : n < 9223372036854775808) : IntKind.wrap .u8 (IntKind.wrap .i64 ((BitVec.ofInt (IntKind.bits .i64) (IntKind.wrap .i64 ((BitVec.ofInt (IntKind.bits .i64) (n : Int) &&& BitVec.ofInt (IntKind.bits .i64) 127).toNat : Nat)) ||| BitVec.ofInt (IntKind.bits .i64) 128).toNat : Nat)) = ((n % 128 + 128 : Nat) : Int) := by
  have e : ∀ m : Nat, m < 18446744073709551616 → (BitVec.ofInt (IntKind.bits .i64) (m : Int)).toNat = m := by
    intro m hm
    rw [show IntKind.bits .i64 = 64 from rfl, BitVec.toNat_ofInt]
    omega
  have e127 : (BitVec.ofInt (IntKind.bits .i64) 127).toNat = 127 := by decide
  have e128 : (BitVec.ofInt (IntKind.bits .i64) 128).toNat = 128 := by decide
  have a1 : (BitVec.ofInt (IntKind.bits .i64) (n : Int) &&& BitVec.ofInt (IntKind.bits .i64) 127).toNat = n % 128 := by
    rw [BitVec.toNat_and, e n (by omega), e127]
    exact Nat.and_two_pow_sub_one_eq_mod n 7
  rw [a1, wrap64 (n := ((n % 128 : Nat) : Int)) (by omega) (by omega), BitVec.toNat_or, e (n % 128) (by omega), e128, or_all ⟨n % 128, by omega⟩]
  simp only []
  rw [wrap64 (by omega) (by omega), wrapW8]
  omega
theorem shr7_t {n : Nat} : shrT .i64 (n : Int) 7 = some ((n / 128 : Nat) : Int) := by
  unfold shrT
  rw [if_neg (by omega)]
  have e : (2 : Int) ^ min (Int.toNat 7) (IntKind.bits .i64) = 128 := by decide
  rw [e, Int.fdiv_eq_ediv_of_nonneg _ (by omega)]
  congr 1
theorem pack_loop : ∀ (k n : Nat) (out : List UInt8) (b : Bool), n < 128 ^ k → n < 9223372036854775808 → out.length + k < 1000 →
    ∃ (m : Nat) (out' : List UInt8) (b' : Bool), m < 128 ∧ out'.length < 1000 ∧ loopT pack_Int_l2 ((n : Int), bI out, (b, (), ()), ()) = some (.inl ((m : Int), bI out', (b', (), ()), ())) ∧ out' ++ [UInt8.ofNat m] = out ++ intM n
  | 0, n, out, b, h, h2, h3 => by
    have hn : n = 0 := by simp at h; exact h
    subst hn
    refine ⟨0, out, b, by omega, by omega, ?_, by rw [intM_small (by omega)]⟩
    refine loopT_inr ?_
    unfold pack_Int_l2
    rw [cond_dec, if_neg (by simp only []; omega)]
  | k + 1, n, out, b, h, h2, h3 => by
    by_cases hn : n < 128
    · refine ⟨n, out, b, hn, by omega, ?_, by rw [intM_small hn]⟩
      refine loopT_inr ?_
      unfold pack_Int_l2
      rw [cond_dec, if_neg (by simp only []; omega)]
    · have turn : pack_Int_l2 ((n : Int), bI out, (b, (), ()), ()) = some (.inl (((n / 128 : Nat) : Int), bI (out ++ [UInt8.ofNat (n % 128 + 128)]), (true, (), ()), ())) := by
        unfold pack_Int_l2
        rw [cond_dec, if_pos (by simp only []; omega)]
        simp only []
        rw [byte_t h2, writeByte_t (by rw [bI_len]; omega)]
        simp only [Option.bind_some]
        rw [shr7_t]
        simp only [Option.bind_some]
        rw [bI_app, bI_one (by omega)]
      obtain ⟨m, out', b', g1, g2, g3, g4⟩ := pack_loop k (n / 128) (out ++ [UInt8.ofNat (n % 128 + 128)]) true (div_pow (by omega) h) (by omega) (by rw [List.length_append]; simp only [List.length_cons, List.length_nil]; omega)
      refine ⟨m, out', b', g1, g2, by rw [loopT_inl turn]; exact g3, ?_⟩
      rw [g4, intM_big hn]; simp
theorem packInt_t {n : Int} (h : n ≤ 9223372036854775807) : pack_Int n = some (intM n.toNat) := by
  unfold pack_Int
  by_cases hn : n < 0
  · have : loopT pack_Int_l2 (n, [], (false, (), ()), ()) = some (.inl (n, [], (false, (), ()), ())) := by
      refine loopT_inr ?_
      unfold pack_Int_l2
      rw [cond_dec, if_neg (by simp only []; omega)]
    rw [this, bind_join_inl]
    simp only []
    rw [show max n 0 = 0 by omega, writeByte_t (by simp)]
    simp only [Option.bind_some]
    have e : ([] : List Int) ++ [IntKind.wrap .u8 0] = bI [UInt8.ofNat 0] := by decide
    rw [e, string_t (by simp)]
    have : n.toNat = 0 := by omega
    rw [this, intM_small (by omega)]; rfl
  · obtain ⟨m, rfl⟩ : ∃ m : Nat, n = (m : Int) := ⟨n.toNat, by omega⟩
    obtain ⟨r, out', b', g1, g2, g3, g4⟩ := pack_loop 9 m [] false (by simp only [Nat.reducePow]; omega) (by omega) (by simp)
    have e0 : bI [] = [] := rfl
    rw [e0] at g3
    rw [g3, bind_join_inl]
    simp only []
    rw [show max (r : Int) 0 = r by omega, wrapW8, show (r : Int) % 256 = r by omega, writeByte_t (by rw [bI_len]; omega)]
    simp only [Option.bind_some]
    rw [← bI_one (by omega : r < 256), ← bI_app, string_t (by rw [List.length_append]; simp only [List.length_cons, List.length_nil]; omega), g4]
    simp
theorem quo_t {a b : Nat} (hb : b ≠ 0) (ha : a < 9223372036854775808) : quoT .i64 (a : Int) (b : Int) = some ((a / b : Nat) : Int) := by
  unfold quoT
  rw [if_neg (by omega)]
  have : ((a : Int).tdiv (b : Int)) = ((a / b : Nat) : Int) := by rw [Int.tdiv_eq_ediv_of_nonneg (by omega)]; norm_cast
  rw [this]
  have hle : a / b ≤ a := Nat.div_le_self a b
  generalize a / b = q at hle
  rw [wrap64 (by omega) (by omega)]
theorem rem_t {a b : Nat} (hb : b ≠ 0) : remT (a : Int) (b : Int) = some ((a % b : Nat) : Int) := by
  unfold remT
  rw [if_neg (by omega)]
  have : ((a : Int).tmod (b : Int)) = ((a % b : Nat) : Int) := by rw [Int.tmod_eq_emod_of_nonneg (by omega)]; norm_cast
  rw [this]
theorem refInt_step (rec : (Int × Unit) → Option (List UInt8)) {a : Int} (h : a ≤ 9223372036854775807) : ref02_Int_step rec a = if a < 128 then some (intM a.toNat) else (rec (((a.toNat / 128 : Nat) : Int), ())).bind fun r => catT [UInt8.ofNat (a.toNat % 128 + 128)] r := by
  unfold ref02_Int_step
  by_cases ha : a < 128
  · rw [cond_dec, if_pos ha, if_pos ha, intM_small (by omega)]
    by_cases hn : a < 0
    · rw [cond_dec, if_pos hn, bind_join_inl]
      simp only [wrapW8, List.map_cons, List.map_nil]
      have : a.toNat = 0 := by omega
      rw [this]; rfl
    · rw [cond_dec, if_neg hn, bind_join_inl]
      simp only [wrapW8, List.map_cons, List.map_nil]
      rw [show a % 256 = a by omega]
  · rw [cond_dec, if_neg ha, if_neg ha]
    obtain ⟨n, rfl⟩ : ∃ n : Nat, a = (n : Int) := ⟨a.toNat, by omega⟩
    rw [show (128 : Int) = ((128 : Nat) : Int) from rfl, rem_t (by omega), quo_t (by omega) (by omega)]
    simp only [Option.bind_some, Int.toNat_natCast]
    cases rec (((n / 128 : Nat) : Int), ()) with
    | none => rfl
    | some r =>
      simp only [Option.bind_some, List.map_cons, List.map_nil, wrapW8]
      rw [wrap64 (by omega) (by omega), show (((n % 128 : Nat) : Int) + ((128 : Nat) : Int)) % 256 = ((n % 128 + 128 : Nat) : Int) by omega, Int.toNat_natCast]
      cases catT [UInt8.ofNat (n % 128 + 128)] r <;> rfl
theorem refInt_it : ∀ (m : Nat) (a : Int), a ≤ 9223372036854775807 →
    (itT (fun (rec : (Int × Unit) → Option (List UInt8)) v => ref02_Int_step rec v.1) m (a, ()) = none ∨ itT (fun (rec : (Int × Unit) → Option (List UInt8)) v => ref02_Int_step rec v.1) m (a, ()) = some (intM a.toNat)) ∧
    ∀ k, m = k + 1 → a.toNat < 128 ^ (k + 1) → itT (fun (rec : (Int × Unit) → Option (List UInt8)) v => ref02_Int_step rec v.1) m (a, ()) = some (intM a.toNat)
  | 0, a, h => ⟨.inl rfl, fun k e => by omega⟩
  | m + 1, a, h => by
    have hs := refInt_step (itT (fun (rec : (Int × Unit) → Option (List UInt8)) v => ref02_Int_step rec v.1) m) h
    have e0 : itT (fun (rec : (Int × Unit) → Option (List UInt8)) v => ref02_Int_step rec v.1) (m + 1) (a, ()) = ref02_Int_step (itT (fun (rec : (Int × Unit) → Option (List UInt8)) v => ref02_Int_step rec v.1) m) a := rfl
    rw [e0, hs]
    by_cases ha : a < 128
    · rw [if_pos ha]
      exact ⟨.inr rfl, fun _ _ _ => rfl⟩
    · rw [if_neg ha]
      obtain ⟨n, rfl⟩ : ∃ n : Nat, a = (n : Int) := ⟨a.toNat, by omega⟩
      obtain ⟨ih1, ih2⟩ := refInt_it m ((n / 128 : Nat) : Int) (by omega)
      rw [Int.toNat_natCast] at ih1 ih2 ⊢
      have fin : (some (intM (n / 128))).bind (fun r4 => (catT [UInt8.ofNat (n % 128 + 128)] r4)) = some (intM n) := by
        rw [Option.bind_some, intM_big (n := n) (by omega)]
        have := intM_len 9 (n / 128) (by simp only [Nat.reducePow]; omega)
        rw [catT_some (by simp only [List.length_cons, List.length_nil]; omega)]; rfl
      constructor
      · rcases ih1 with e | e
        · left; rw [e]; rfl
        · right; rw [e]; exact fin
      · intro k hk hlt
        have hk' : k = m := by omega
        subst hk'
        cases k with
        | zero => simp at hlt; omega
        | succ k =>
          have := ih2 k rfl (div_pow (by omega) hlt)
          rw [this]; exact fin
theorem refInt_t {n : Int} (h : n ≤ 9223372036854775807) : ref02_Int n = some (intM n.toNat) := by
  unfold ref02_Int ref02_Int_fix
  refine fix_eq (fun m => (refInt_it m n h).1) ⟨9, (refInt_it 9 n h).2 8 rfl ?_⟩
  simp only [Nat.reducePow, Nat.reduceAdd]; omega
/-! ### numerals -/
theorem dec_small {u : Nat} (h : u < 10) : Lib.decDigits u = [UInt8.ofNat (48 + u)] := by rw [Lib.decDigits, dif_pos h]
theorem dec_big {u : Nat} (h : ¬ u < 10) : Lib.decDigits u = Lib.decDigits (u / 10) ++ [UInt8.ofNat (48 + u % 10)] := by rw [Lib.decDigits, dif_neg h]
theorem dec_len : ∀ (k u : Nat), u < 10 ^ k → (Lib.decDigits u).length ≤ k + 1
  | 0, u, h => by rw [dec_small (by simp at h; omega)]; simp
  | k + 1, u, h => by
    by_cases hu : u < 10
    · rw [dec_small hu]; simp
    · rw [dec_big hu, List.length_append]
      have := dec_len k (u / 10) (div_pow (by omega) h)
      simp only [List.length_cons, List.length_nil]; omega
theorem itoa_len {n : Int} (h : -9223372036854775808 ≤ n) (h2 : n ≤ 9223372036854775807) : (Lib.itoa n).length ≤ 21 := by
  unfold Lib.itoa
  split
  · have := dec_len 19 n.natAbs (by simp only [Nat.reducePow]; omega)
    rw [List.length_cons]; omega
  · have := dec_len 19 n.toNat (by simp only [Nat.reducePow]; omega)
    omega
theorem digit_all : ∀ x : Fin 10, (([48, 49, 50, 51, 52, 53, 54, 55, 56, 57] : List UInt8).take (x.val + 1)).drop x.val = [UInt8.ofNat (48 + x.val)] := by decide
theorem digit_t {n : Nat} (h : n < 10) : subI ([48, 49, 50, 51, 52, 53, 54, 55, 56, 57] : List UInt8) (n : Int) (IntKind.wrap .i64 ((n : Int) + 1)) = some [UInt8.ofNat (48 + n)] := by
  rw [wrap64 (by omega) (by omega), show (n : Int) + 1 = ((n + 1 : Nat) : Int) by omega, subI_nat (by omega) (by simp; omega), digit_all ⟨n, h⟩]
theorem quoN_t {a : Int} (h : -9223372036854775808 ≤ a) (h2 : a < 0) : quoT .i64 a 10 = some (-((a.natAbs / 10 : Nat) : Int)) := by
  unfold quoT
  rw [if_neg (by omega)]
  have : a.tdiv 10 = -((a.natAbs / 10 : Nat) : Int) := by
    obtain ⟨n, rfl⟩ : ∃ n : Nat, a = -(n : Int) := ⟨a.natAbs, by omega⟩
    rw [Int.neg_tdiv, Int.natAbs_neg, Int.natAbs_natCast, Int.tdiv_eq_ediv_of_nonneg (by omega)]
    norm_cast
  rw [this, wrap64 (by omega) (by omega)]
theorem remN_t {a : Int} (h2 : a < 0) : remT a 10 = some (-((a.natAbs % 10 : Nat) : Int)) := by
  unfold remT
  rw [if_neg (by omega)]
  have : a.tmod 10 = -((a.natAbs % 10 : Nat) : Int) := by
    obtain ⟨n, rfl⟩ : ∃ n : Nat, a = -(n : Int) := ⟨a.natAbs, by omega⟩
    rw [Int.neg_tmod, Int.natAbs_neg, Int.natAbs_natCast, Int.tmod_eq_emod_of_nonneg (by omega)]
    norm_cast
  rw [this]
theorem digits_step (rec : (Int × Unit) → Option (List UInt8)) {a : Int} (h : -9223372036854775808 ≤ a) (h2 : a ≤ 9223372036854775807) : ref04_Digits_step rec a =
    if a < 0 then (if a > -10 then (rec (((a.natAbs : Nat) : Int), ())).bind fun r => catT [45] r
      else (rec (((a.natAbs / 10 : Nat) : Int), ())).bind fun r => (catT [45] r).bind fun s => (rec (((a.natAbs % 10 : Nat) : Int), ())).bind fun t => catT s t)
    else if a < 10 then some [UInt8.ofNat (48 + a.toNat)] else (rec (((a.toNat / 10 : Nat) : Int), ())).bind fun r => catT r [UInt8.ofNat (48 + a.toNat % 10)] := by
  unfold ref04_Digits_step
  by_cases h0 : a < 0
  · rw [cond_dec, if_pos h0, if_pos h0]
    by_cases h1 : a > -10
    · rw [cond_dec, if_pos h1, if_pos h1, wrap64 (by omega) (by omega), show (0 - a) = ((a.natAbs : Nat) : Int) by omega]
      cases rec (((a.natAbs : Nat) : Int), ()) with
      | none => rfl
      | some r => simp only [Option.bind_some]; cases catT [45] r <;> rfl
    · rw [cond_dec, if_neg h1, if_neg h1, quoN_t h h0, remN_t h0]
      simp only [Option.bind_some]
      rw [wrap64 (n := 0 - -((a.natAbs / 10 : Nat) : Int)) (by omega) (by omega), wrap64 (n := 0 - -((a.natAbs % 10 : Nat) : Int)) (by omega) (by omega), show (0 - -((a.natAbs / 10 : Nat) : Int)) = ((a.natAbs / 10 : Nat) : Int) by omega, show (0 - -((a.natAbs % 10 : Nat) : Int)) = ((a.natAbs % 10 : Nat) : Int) by omega]
      cases rec (((a.natAbs / 10 : Nat) : Int), ()) with
      | none => rfl
      | some r =>
        simp only [Option.bind_some]
        cases catT [45] r with
        | none => rfl
        | some s =>
          simp only [Option.bind_some]
          cases rec (((a.natAbs % 10 : Nat) : Int), ()) with
          | none => rfl
          | some t => simp only [Option.bind_some]; cases catT s t <;> rfl
  · rw [cond_dec, if_neg h0, if_neg h0]
    obtain ⟨n, rfl⟩ : ∃ n : Nat, a = (n : Int) := ⟨a.toNat, by omega⟩
    rw [Int.toNat_natCast]
    by_cases h1 : (n : Int) < 10
    · rw [cond_dec, if_pos h1, if_pos h1, digit_t (by omega)]; rfl
    · rw [cond_dec, if_neg h1, if_neg h1, show (10 : Int) = ((10 : Nat) : Int) from rfl, quo_t (by omega) (by omega), rem_t (by omega)]
      simp only [Option.bind_some]
      cases rec (((n / 10 : Nat) : Int), ()) with
      | none => rfl
      | some r =>
        simp only [Option.bind_some]
        rw [digit_t (by omega)]
        simp only [Option.bind_some]
        cases catT r [UInt8.ofNat (48 + n % 10)] <;> rfl
noncomputable abbrev digS : ((Int × Unit) → Option (List UInt8)) → (Int × Unit) → Option (List UInt8) := fun rec v => ref04_Digits_step rec v.1
theorem digits_pos : ∀ (m n : Nat), n < 9223372036854775809 → n ≤ 9223372036854775807 →
    (itT digS m ((n : Int), ()) = none ∨ itT digS m ((n : Int), ()) = some (Lib.decDigits n)) ∧ ∀ k, m = k + 1 → n < 10 ^ (k + 1) → itT digS m ((n : Int), ()) = some (Lib.decDigits n)
  | 0, n, _, h => ⟨.inl rfl, fun k e => by omega⟩
  | m + 1, n, hn, h => by
    have e0 : itT digS (m + 1) ((n : Int), ()) = ref04_Digits_step (itT digS m) (n : Int) := rfl
    rw [e0, digits_step (itT digS m) (by omega) (by omega), if_neg (by omega), Int.toNat_natCast]
    by_cases ha : n < 10
    · rw [if_pos (by omega), dec_small ha]
      exact ⟨.inr rfl, fun _ _ _ => rfl⟩
    · rw [if_neg (by omega)]
      obtain ⟨ih1, ih2⟩ := digits_pos m (n / 10) (by omega) (by omega)
      have fin : (some (Lib.decDigits (n / 10))).bind (fun r => catT r [UInt8.ofNat (48 + n % 10)]) = some (Lib.decDigits n) := by
        rw [Option.bind_some, dec_big (u := n) ha]
        have := dec_len 19 (n / 10) (by simp only [Nat.reducePow]; omega)
        rw [catT_some (by simp only [List.length_cons, List.length_nil]; omega)]
      constructor
      · rcases ih1 with e | e
        · left; rw [e]; rfl
        · right; rw [e]; exact fin
      · intro k hk hlt
        have hk' : k = m := by omega
        subst hk'
        cases k with
        | zero => simp at hlt; omega
        | succ k =>
          rw [ih2 k rfl (div_pow (by omega) hlt)]; exact fin
theorem itoa_neg {a : Int} (h : a < 0) : Lib.itoa a = 45 :: Lib.decDigits a.natAbs := by unfold Lib.itoa; rw [if_pos h]
theorem itoa_pos {n : Nat} : Lib.itoa (n : Int) = Lib.decDigits n := by unfold Lib.itoa; rw [if_neg (by omega), Int.toNat_natCast]
theorem digits_neg (m : Nat) {a : Int} (h : -9223372036854775808 ≤ a) (h0 : a < 0) :
    (itT digS (m + 1) (a, ()) = none ∨ itT digS (m + 1) (a, ()) = some (Lib.itoa a)) ∧ ∀ k, m = k + 1 → a.natAbs < 10 ^ (k + 1) → itT digS (m + 1) (a, ()) = some (Lib.itoa a) := by
  have e0 : itT digS (m + 1) (a, ()) = ref04_Digits_step (itT digS m) a := rfl
  rw [e0, digits_step (itT digS m) h (by omega), if_pos h0, itoa_neg h0]
  by_cases h1 : a > -10
  · rw [if_pos h1]
    obtain ⟨ih1, ih2⟩ := digits_pos m a.natAbs (by omega) (by omega)
    have fin : (some (Lib.decDigits a.natAbs)).bind (fun r => catT [45] r) = some (45 :: Lib.decDigits a.natAbs) := by
      have := dec_len 19 a.natAbs (by simp only [Nat.reducePow]; omega)
      rw [Option.bind_some, catT_some (by simp only [List.length_cons, List.length_nil]; omega)]; rfl
    constructor
    · rcases ih1 with e | e
      · left; rw [e]; rfl
      · right; rw [e]; exact fin
    · intro k hk hlt
      rw [ih2 k hk hlt]; exact fin
  · rw [if_neg h1]
    obtain ⟨ih1, ih2⟩ := digits_pos m (a.natAbs / 10) (by omega) (by omega)
    obtain ⟨jh1, jh2⟩ := digits_pos m (a.natAbs % 10) (by omega) (by omega)
    have fin : (some (Lib.decDigits (a.natAbs / 10))).bind (fun r => (catT [45] r).bind fun s => (some (Lib.decDigits (a.natAbs % 10))).bind fun t => catT s t) = some (45 :: Lib.decDigits a.natAbs) := by
      have l1 := dec_len 19 (a.natAbs / 10) (by simp only [Nat.reducePow]; omega)
      have l2 := dec_len 19 (a.natAbs % 10) (by simp only [Nat.reducePow]; omega)
      simp only [Option.bind_some]
      rw [catT_some (by simp only [List.length_cons, List.length_nil]; omega)]
      simp only [Option.bind_some]
      rw [catT_some (by rw [List.length_append]; simp only [List.length_cons, List.length_nil]; omega), dec_big (u := a.natAbs) (by omega), dec_small (u := a.natAbs % 10) (by omega)]
      simp
    constructor
    · rcases ih1 with e | e
      · left; rw [e]; rfl
      · rcases jh1 with f | f
        · left; rw [e, f]
          simp only [Option.bind_some, Option.bind_none]
          cases catT [45] (Lib.decDigits (a.natAbs / 10)) <;> rfl
        · right; rw [e, f]; exact fin
    · intro k hk hlt
      rw [ih2 k hk (by omega), jh2 k hk (by have : 10 ^ 1 ≤ 10 ^ (k + 1) := Nat.pow_le_pow_right (by omega) (by omega); omega)]
      exact fin
theorem digits_t {n : Int} (h : -9223372036854775808 ≤ n) (h2 : n ≤ 9223372036854775807) : ref04_Digits n = some (Lib.itoa n) := by
  unfold ref04_Digits ref04_Digits_fix
  by_cases h0 : n < 0
  · refine fix_eq (fun m => ?_) ⟨20, (digits_neg 19 h h0).2 18 rfl ?_⟩
    · cases m with
      | zero => exact .inl rfl
      | succ m => exact (digits_neg m h h0).1
    · simp only [Nat.reducePow, Nat.reduceAdd]; omega
  · obtain ⟨m, rfl⟩ : ∃ m : Nat, n = (m : Int) := ⟨n.toNat, by omega⟩
    rw [itoa_pos]
    refine fix_eq (fun k => (digits_pos k m (by omega) (by omega)).1) ⟨19, (digits_pos 19 m (by omega) (by omega)).2 18 rfl ?_⟩
    simp only [Nat.reducePow, Nat.reduceAdd]; omega
/-! ### dots -/
def inR (n : Int) : Prop := -9223372036854775808 ≤ n ∧ n ≤ 9223372036854775807
theorem strItoa_t {n : Int} (h : inR n) : strconv_Itoa n = some (Lib.itoa n) := if_pos h
def textM (d : Int × Int × Unit) : List UInt8 := Lib.itoa d.1 ++ [46] ++ Lib.itoa d.2.1
theorem text_cat {a b : Int} (ha : inR a) (hb : inR b) : ((catT (Lib.itoa a) [46]).bind fun s => catT s (Lib.itoa b)) = some (Lib.itoa a ++ [46] ++ Lib.itoa b) := by
  have l1 := itoa_len ha.1 ha.2
  have l2 := itoa_len hb.1 hb.2
  rw [catT_some (by simp only [List.length_cons, List.length_nil]; omega), Option.bind_some, catT_some (by rw [List.length_append]; simp only [List.length_cons, List.length_nil]; omega)]
def codeM (d : Int × Int × Unit) : List UInt8 := intM d.1.toNat ++ intM d.2.1.toNat
theorem code_cat {a b : Int} (ha : inR a) (hb : inR b) : catT (intM a.toNat) (intM b.toNat) = some (intM a.toNat ++ intM b.toNat) := by
  have l1 := intM_len 9 a.toNat (by simp only [Nat.reducePow]; have := ha.2; omega)
  have l2 := intM_len 9 b.toNat (by simp only [Nat.reducePow]; have := hb.2; omega)
  rw [catT_some (by omega)]
def rightM (d : Int × Int × Unit) : Bool := decide (0 ≤ d.1 ∧ d.1 ≤ 15 ∧ 1 ≤ d.2.1 ∧ d.2.1 ≤ 1048576)
/-! ### numerals, read -/
def digB (b : UInt8) : Prop := 48 ≤ b.toNat ∧ b.toNat ≤ 57
theorem dig_of {x : Nat} (h : x < 10) : digB (UInt8.ofNat (48 + x)) ∧ (UInt8.ofNat (48 + x)).toNat = 48 + x := by
  have : (UInt8.ofNat (48 + x)).toNat = 48 + x := UInt8.toNat_ofNat_of_lt' (by show _ < 256; omega)
  exact ⟨⟨by omega, by omega⟩, this⟩
theorem dec_digits : ∀ (u : Nat), ∀ b ∈ Lib.decDigits u, digB b := by
  intro u
  induction u using Nat.strongRecOn with
  | _ u ih =>
    intro b hb
    by_cases h : u < 10
    · rw [dec_small h] at hb
      simp only [List.mem_cons, List.mem_nil_iff, or_false] at hb
      subst hb; exact (dig_of h).1
    · rw [dec_big h] at hb
      rcases List.mem_append.1 hb with hb | hb
      · exact ih (u / 10) (by omega) b hb
      · simp only [List.mem_cons, List.mem_nil_iff, or_false] at hb
        subst hb; exact (dig_of (by omega)).1
theorem dec_pos (u : Nat) : 1 ≤ (Lib.decDigits u).length := by
  by_cases h : u < 10
  · rw [dec_small h]; simp
  · rw [dec_big h, List.length_append]; simp
theorem dec_len1 : ∀ (k u : Nat), u < 10 ^ (k + 1) → (Lib.decDigits u).length ≤ k + 1
  | 0, u, h => by rw [dec_small (by simpa using h)]; simp
  | k + 1, u, h => by
    by_cases hu : u < 10
    · rw [dec_small hu]; simp
    · rw [dec_big hu, List.length_append]
      have := dec_len1 k (u / 10) (div_pow (by omega) h)
      simp only [List.length_cons, List.length_nil]; omega
/-- The value of digits. -/
def valM (acc : Nat) : List UInt8 → Option Nat
  | [] => some acc
  | c :: r => if 48 ≤ c.toNat ∧ c.toNat ≤ 57 then valM (acc * 10 + (c.toNat - 48)) r else none
theorem val_app : ∀ (l r : List UInt8) (acc : Nat), valM acc (l ++ r) = (valM acc l).bind fun m => valM m r
  | [], r, acc => rfl
  | c :: l, r, acc => by
    simp only [List.cons_append, valM]
    split
    · exact val_app l r _
    · rfl
theorem val_dec : ∀ (u : Nat), valM 0 (Lib.decDigits u) = some u := by
  intro u
  induction u using Nat.strongRecOn with
  | _ u ih =>
    by_cases h : u < 10
    · rw [dec_small h]
      have := dig_of h
      simp only [valM, this.2]
      rw [if_pos (by omega)]
      simp
    · rw [dec_big h, val_app, ih (u / 10) (by omega), Option.bind_some]
      have := dig_of (x := u % 10) (by omega)
      simp only [valM, this.2]
      rw [if_pos (by omega)]
      congr 1; omega
theorem parse_val : ∀ (l : List UInt8) (acc v : Nat), valM acc l = some v → v < 1000000000000000000 → Lib.parseUint10 acc l = .ok v ∧ acc ≤ v
  | [], acc, v, h, hv => by simp only [valM] at h; cases h; exact ⟨rfl, Nat.le_refl _⟩
  | c :: r, acc, v, h, hv => by
    simp only [valM] at h
    split at h
    · rename_i hc
      obtain ⟨h1, h2⟩ := parse_val r _ v h hv
      refine ⟨?_, by omega⟩
      simp only [Lib.parseUint10]
      rw [if_pos hc, if_neg (by omega), if_neg (by omega)]
      exact h1
    · cases h
theorem atoi_dec {u : Nat} (hu : u < 1000000000000000000) : Lib.atoiAll (Lib.decDigits u) = .ok (u : Int) := by
  have hp := dec_pos u
  have hd := dec_digits u
  have hv := val_dec u
  obtain ⟨h1, _⟩ := parse_val _ 0 u hv hu
  cases hl : Lib.decDigits u with
  | nil => rw [hl] at hp; simp at hp
  | cons c r =>
    rw [hl] at hd h1
    have hc := hd c (List.mem_cons_self ..)
    rw [Lib.atoiAll_plain c r (by have := hc.1; omega) (by have := hc.1; omega)]
    unfold Lib.parseMag
    rw [if_neg (by simp), h1]
    show (if 9223372036854775808 ≤ u then Lib.NumEnd.range else Lib.NumEnd.ok (u : Int)) = _
    rw [if_neg (by omega)]
/-! ### cut at a point -/
theorem first_app {c : UInt8} : ∀ (l t : List UInt8) (i : Nat), (∀ b ∈ l, b ≠ c) → firstByte c (l ++ c :: t) i = ((i + l.length : Nat) : Int)
  | [], t, i, h => by
    simp only [List.nil_append, firstByte, List.length_nil, Nat.add_zero]
    have : Nat.beq c.toNat c.toNat = true := by rw [Nat.beq_eq]
    rw [this]; rfl
  | b :: l, t, i, h => by
    simp only [List.cons_append, firstByte]
    have hb := h b (List.mem_cons_self ..)
    have : Nat.beq b.toNat c.toNat = false := by
      cases e : Nat.beq b.toNat c.toNat with
      | false => rfl
      | true => rw [Nat.beq_eq] at e; exact absurd (UInt8.toNat_inj.1 e) hb
    rw [this, cond_false, first_app l t (i + 1) (fun b hb => h b (List.mem_cons_of_mem _ hb)), List.length_cons]
    omega
theorem first_le {c : UInt8} : ∀ (l : List UInt8) (i : Nat), firstByte c l i = -1 ∨ ∃ k : Nat, firstByte c l i = (k : Int) ∧ i ≤ k ∧ k < i + l.length
  | [], i => .inl rfl
  | b :: l, i => by
    simp only [firstByte]
    cases Nat.beq b.toNat c.toNat with
    | true => exact .inr ⟨i, rfl, Nat.le_refl _, by rw [List.length_cons]; omega⟩
    | false =>
      rcases first_le (c := c) l (i + 1) with h | ⟨k, h1, h2, h3⟩
      · exact .inl h
      · exact .inr ⟨k, h1, by omega, by rw [List.length_cons]; omega⟩
/-! ### the program's -/
theorem atoi_any (s : List UInt8) (h : s.length ≤ 281474976710656) : ∃ v e, strconv_Atoi s = some (v, e, ()) := by
  unfold strconv_Atoi atoi
  rw [if_pos h]
  exact ⟨_, _, rfl⟩
theorem atoi_num {u : Nat} (h : u < 1000000000000000000) : strconv_Atoi (Lib.decDigits u) = some ((u : Int), false, ()) := by
  have := dec_len1 17 u (by simpa using h)
  unfold strconv_Atoi atoi
  rw [if_pos (by omega), atoi_dec h]
theorem right_in {d : Int × Int × Unit} (h : rightM d = true) : (0 ≤ d.1 ∧ d.1 ≤ 15) ∧ (1 ≤ d.2.1 ∧ d.2.1 ≤ 1048576) := by
  have := of_decide_eq_true h
  omega
theorem right_text {d : Int × Int × Unit} (h : rightM d = true) : ∃ r n : Nat, d = ((r : Int), (n : Int), ()) ∧ r ≤ 15 ∧ 1 ≤ n ∧ n ≤ 1048576 ∧ textM d = Lib.decDigits r ++ 46 :: Lib.decDigits n := by
  have hi := right_in h
  obtain ⟨a, b, u⟩ := d
  simp only at hi
  refine ⟨a.toNat, b.toNat, ?_, by omega, by omega, by omega, ?_⟩
  · congr 1
    · omega
    · congr 1; omega
  · unfold textM
    simp only
    have i1 : Lib.itoa a = Lib.decDigits a.toNat := by unfold Lib.itoa; rw [if_neg (by omega)]
    have i2 : Lib.itoa b = Lib.decDigits b.toNat := by unfold Lib.itoa; rw [if_neg (by omega)]
    rw [i1, i2]
    simp
theorem dec_ne {u : Nat} : ∀ b ∈ Lib.decDigits u, b ≠ 46 := fun b hb e => by
  have := (dec_digits u b hb).1
  subst e
  exact absurd this (by decide)
def headM (r : Nat) : List UInt8 := Lib.decDigits r ++ [46]
theorem head_inj {r r' : Nat} {t t' : List UInt8} (h : Lib.decDigits r ++ 46 :: t = Lib.decDigits r' ++ 46 :: t') : r = r' ∧ t = t' := by
  have h1 := first_app (c := 46) (Lib.decDigits r) t 0 dec_ne
  have h2 := first_app (c := 46) (Lib.decDigits r') t' 0 dec_ne
  rw [h, h2] at h1
  have hl : (Lib.decDigits r).length = (Lib.decDigits r').length := by omega
  obtain ⟨e1, e2⟩ := List.append_inj h hl
  have v1 := val_dec r
  rw [e1, val_dec r'] at v1
  exact ⟨(Option.some.inj v1).symm, (List.cons.inj e2).2⟩
/-! ### numbers, read -/
theorem ofInt64 {m : Nat} (hm : m < 18446744073709551616) : (BitVec.ofInt (IntKind.bits .i64) (m : Int)).toNat = m := by
  rw [show IntKind.bits .i64 = 64 from rfl, BitVec.toNat_ofInt]
  omega
theorem and127 {c : Nat} (hc : c < 256) : IntKind.wrap .i64 ((BitVec.ofInt (IntKind.bits .i64) (c : Int) &&& BitVec.ofInt (IntKind.bits .i64) 127).toNat : Nat) = ((c % 128 : Nat) : Int) := by
  have e127 : (BitVec.ofInt (IntKind.bits .i64) 127).toNat = 127 := by decide
  have a1 : (BitVec.ofInt (IntKind.bits .i64) (c : Int) &&& BitVec.ofInt (IntKind.bits .i64) 127).toNat = c % 128 := by
    rw [BitVec.toNat_and, ofInt64 (by omega), e127]
    exact Nat.and_two_pow_sub_one_eq_mod c 7
  rw [a1, wrap64 (by omega) (by omega)]
theorem pow7 (i : Nat) : 2 ^ (7 * i) = 128 ^ i := by rw [Nat.pow_mul]
theorem shl_t {x i : Nat} (hx : x < 128) (hi : i < 8) : shlT .i64 (x : Int) (7 * (i : Int)) = some ((x * 128 ^ i : Nat) : Int) := by
  unfold shlT
  rw [if_neg (by omega)]
  have e1 : min (7 * (i : Int)).toNat (IntKind.bits .i64) = 7 * i := by
    have : IntKind.bits .i64 = 64 := rfl
    rw [this]; omega
  have hp : 128 ^ i ≤ 128 ^ 7 := Nat.pow_le_pow_right (by omega) (by omega)
  have hm : x * 128 ^ i ≤ 127 * 128 ^ 7 := Nat.mul_le_mul (by omega) hp
  simp only [Nat.reducePow, Nat.reduceMul] at hm
  rw [e1]
  have e2 : (x : Int) * 2 ^ (7 * i) = ((x * 128 ^ i : Nat) : Int) := by
    rw [← pow7]; push_cast; rfl
  rw [e2, wrap64 (by omega) (by omega)]
theorem or_add {a x i : Nat} (ha : a < 128 ^ i) (hx : x < 128) (hi : i < 8) : IntKind.wrap .i64 ((BitVec.ofInt (IntKind.bits .i64) (a : Int) ||| BitVec.ofInt (IntKind.bits .i64) ((x * 128 ^ i : Nat) : Int)).toNat : Nat) = ((a + x * 128 ^ i : Nat) : Int) := by
  have hp : 128 ^ i ≤ 128 ^ 7 := Nat.pow_le_pow_right (by omega) (by omega)
  have hm : x * 128 ^ i ≤ 127 * 128 ^ 7 := Nat.mul_le_mul (by omega) hp
  simp only [Nat.reducePow, Nat.reduceMul] at hm hp
  have e : (BitVec.ofInt (IntKind.bits .i64) (a : Int) ||| BitVec.ofInt (IntKind.bits .i64) ((x * 128 ^ i : Nat) : Int)).toNat = a + x * 128 ^ i := by
    rw [BitVec.toNat_or, ofInt64 (by omega), ofInt64 (by omega), Nat.or_comm]
    have := Nat.two_pow_add_eq_or_of_lt (i := 7 * i) (b := a) (by rw [pow7]; exact ha) x
    rw [pow7] at this
    rw [Nat.mul_comm x, ← this]; omega
  rw [e, wrap64 (by omega) (by omega)]
theorem fine_t (s : List UInt8) : pack_Reader_fine (s, 0, ()) = some (true, (s, 0, ()), ()) := rfl
theorem read_loop {s t : List UInt8} (hs : s.length < 1000000) : ∀ (k i m acc : Nat), m < 128 ^ k → i + k ≤ 7 → s.drop i = intM m ++ t → acc < 128 ^ i → (0 < i → 0 < m) →
    loopT pack_Reader_Int_l3 ((acc : Int), (i : Int), (s, 0, ()), ()) = some (((acc + m * 128 ^ i : Nat) : Int), (t, 0, ()), ()) := by
  intro k
  induction k with
  | zero =>
    intro i m acc hm hi hd ha hp
    have hm0 : m = 0 := by simpa using hm
    have hi0 : i = 0 := by
      rcases Nat.eq_zero_or_pos i with h | h
      · exact h
      · have := hp h; omega
    subst hm0; subst hi0
    have ha0 : acc = 0 := by simpa using ha
    subst ha0
    rw [intM_small (by omega)] at hd
    simp only [List.drop_zero] at hd
    have hlen : s.length = 1 + t.length := by rw [hd, List.length_append]; rfl
    have h0 : atI s ((0 : Nat) : Int) = some (UInt8.ofNat 0) := by rw [atI_nat, hd]; rfl
    refine loopT_inr ?_
    unfold pack_Reader_Int_l3
    simp only [fine_t, Option.bind_some, cond_true, cond_dec]
    rw [if_neg (by omega), if_neg (by omega), h0]
    simp only [Option.bind_some]
    have hb : ((UInt8.ofNat 0).toNat : Int) = ((0 : Nat) : Int) := rfl
    rw [hb, wrap64 (n := ((0 : Nat) : Int)) (by omega) (by omega), and127 (by omega)]
    rw [wrap64 (n := 7 * ((0 : Nat) : Int)) (by omega) (by omega), shl_t (by omega) (by omega)]
    simp only [Option.bind_some]
    rw [if_neg (by omega), if_pos (show ((0 : Nat) : Int) = 0 by omega), if_neg (show ¬ ((0 : Nat) : Int) > 0 by omega), bind_join_inl]
    simp only []
    rw [or_add (by simp) (by omega) (by omega), wrap64 (n := ((0 : Nat) : Int) + 1) (by omega) (by omega), show ((0 : Nat) : Int) + 1 = ((1 : Nat) : Int) from rfl, subI_from (by omega)]
    simp only [Option.bind_some]
    rw [hd]; rfl
  | succ k ih =>
    intro i m acc hm hi hd ha hp
    have hpow : 128 ^ (i + 1) = 128 ^ i * 128 := Nat.pow_succ ..
    by_cases hsm : m < 128
    · rw [intM_small hsm] at hd
      have hlen : s.length - i = 1 + t.length := by have := congrArg List.length hd; rw [List.length_drop, List.length_append] at this; simpa using this
      have h0 : atI s (i : Int) = some (UInt8.ofNat m) := by
        rw [atI_nat]
        have := congrArg (fun l => l[0]?) hd
        simpa [List.getElem?_drop] using this
      have hb : ((UInt8.ofNat m).toNat : Int) = (m : Int) := by rw [UInt8.toNat_ofNat_of_lt' (by show _ < 256; omega)]
      have ht : s.drop (i + 1) = t := by
        rw [← List.drop_drop, hd]; rfl
      refine loopT_inr ?_
      unfold pack_Reader_Int_l3
      simp only [fine_t, Option.bind_some, cond_true, cond_dec]
      rw [if_neg (by omega), if_neg (by omega), h0]
      simp only [Option.bind_some]
      rw [hb, wrap64 (n := (m : Int)) (by omega) (by omega), and127 (by omega), show m % 128 = m by omega]
      rw [wrap64 (n := 7 * (i : Int)) (by omega) (by omega), shl_t hsm (by omega)]
      simp only [Option.bind_some]
      rw [if_neg (by omega)]
      have hrest : (((some (.inl ((s, 0, ()), ()))) : Option (((List UInt8 × Int × Unit) × Unit) ⊕ ((Int × Int × (List UInt8 × Int × Unit) × Unit) ⊕ (Int × (List UInt8 × Int × Unit) × Unit)))).bind (joinS fun v7 =>
          (subI v7.1.1 (IntKind.wrap .i64 ((i : Int) + 1)) (v7.1.1.length : Int)).bind fun s8 =>
          some (.inr ((IntKind.wrap .i64 ((BitVec.ofInt (IntKind.bits .i64) (acc : Int) ||| BitVec.ofInt (IntKind.bits .i64) ((m * 128 ^ i : Nat) : Int)).toNat : Nat)), (s8, v7.1.2.1, ()), ())))) = (some (.inr (((acc + m * 128 ^ i : Nat) : Int), (t, 0, ()), ())) : Option ((Int × Int × (List UInt8 × Int × Unit) × Unit) ⊕ (Int × (List UInt8 × Int × Unit) × Unit))) := by
        rw [bind_join_inl]
        simp only []
        rw [or_add ha hsm (by omega), wrap64 (n := (i : Int) + 1) (by omega) (by omega), show (i : Int) + 1 = ((i + 1 : Nat) : Int) by omega, subI_from (by omega), ht]
        rfl
      by_cases hz : (m : Int) = 0
      · rw [if_pos hz, if_neg (by omega)]
        exact hrest
      · rw [if_neg hz]
        exact hrest
    · rw [intM_big hsm] at hd
      have hlen : s.length - i = 1 + (intM (m / 128)).length + t.length := by
        have := congrArg List.length hd
        rw [List.length_drop, List.cons_append, List.length_cons, List.length_append] at this; omega
      have h0 : atI s (i : Int) = some (UInt8.ofNat (m % 128 + 128)) := by
        rw [atI_nat]
        have := congrArg (fun l => l[0]?) hd
        simpa [List.getElem?_drop] using this
      have hb : ((UInt8.ofNat (m % 128 + 128)).toNat : Int) = ((m % 128 + 128 : Nat) : Int) := by rw [UInt8.toNat_ofNat_of_lt' (by show _ < 256; omega)]
      have ht : s.drop (i + 1) = intM (m / 128) ++ t := by
        rw [← List.drop_drop, hd]; rfl
      have hacc : acc + (m % 128) * 128 ^ i < 128 ^ (i + 1) := by
        have h1 : (m % 128) * 128 ^ i ≤ 127 * 128 ^ i := Nat.mul_le_mul_right _ (by omega)
        omega
      rw [loopT_inl (b := (((acc + (m % 128) * 128 ^ i : Nat) : Int), ((i + 1 : Nat) : Int), (s, 0, ()), ()))]
      · rw [ih (i + 1) (m / 128) _ (div_pow (by omega) hm) (by omega) ht hacc (fun _ => by omega)]
        have : acc + m % 128 * 128 ^ i + m / 128 * 128 ^ (i + 1) = acc + m * 128 ^ i := by
          have h1 := Nat.div_add_mod m 128
          rw [hpow]
          have h2 : m * 128 ^ i = (128 * (m / 128) + m % 128) * 128 ^ i := by rw [h1]
          rw [h2, Nat.add_mul]
          have h3 : m / 128 * (128 ^ i * 128) = 128 * (m / 128) * 128 ^ i := by
            rw [Nat.mul_comm (128 ^ i) 128, ← Nat.mul_assoc, Nat.mul_comm (m / 128) 128]
          omega
        rw [this]
      · unfold pack_Reader_Int_l3
        simp only [fine_t, Option.bind_some, cond_true, cond_dec]
        rw [if_neg (by omega), if_neg (by omega), h0]
        simp only [Option.bind_some]
        rw [hb, wrap64 (n := ((m % 128 + 128 : Nat) : Int)) (by omega) (by omega), and127 (by omega), show (m % 128 + 128) % 128 = m % 128 by omega]
        rw [wrap64 (n := 7 * (i : Int)) (by omega) (by omega), shl_t (by omega) (by omega)]
        simp only [Option.bind_some]
        rw [if_pos (by omega), bind_join_inr, or_add ha (by omega) (by omega), wrap64 (n := (i : Int) + 1) (by omega) (by omega)]
        rfl
theorem readInt_t {m : Nat} {t : List UInt8} (hm : m < 128 ^ 7) (ht : t.length < 100000) : pack_Reader_Int (intM m ++ t, 0, ()) = some ((m : Int), (t, 0, ()), ()) := by
  have hl := intM_len 7 m hm
  have := read_loop (s := intM m ++ t) (t := t) (by rw [List.length_append]; omega) 7 0 m 0 hm (by omega) rfl (by simp) (fun h => by omega)
  simpa [pack_Reader_Int] using this
theorem end_t : pack_Reader_End (([] : List UInt8), (0 : Int), ()) = some (0, ([], 0, ()), ()) := by
  unfold pack_Reader_End pack_Reader_Left
  rw [fine_t]
  simp only [Option.bind_some, Bool.not_true, cond_false, List.length_nil, cond_dec]
  rw [if_neg (by decide)]
  rfl
/-! ### one behind the other -/
theorem charM_app {s u : List UInt8} (h : (charM s).2 ≠ 0) : charM (s ++ u) = charM s := by
  match s with
  | [] => exact absurd rfl h
  | [a] =>
    simp only [charM, List.cons_append, List.nil_append] at h ⊢
    by_cases c1 : a.toNat < 128
    · simp only [if_pos c1]
    · simp only [if_neg c1, ite_self, ne_eq, not_true_eq_false] at h
  | [a, b] =>
    simp only [charM, List.cons_append, List.nil_append] at h ⊢
    by_cases c1 : a.toNat < 128
    · simp only [if_pos c1]
    · by_cases c2 : 194 ≤ a.toNat ∧ a.toNat < 224
      · simp only [if_neg c1, if_pos c2]
      · simp only [if_neg c1, if_neg c2, ite_self, ne_eq, not_true_eq_false] at h
  | [a, b, c] =>
    simp only [charM, List.cons_append, List.nil_append] at h ⊢
    by_cases c1 : a.toNat < 128
    · simp only [if_pos c1]
    · by_cases c2 : 194 ≤ a.toNat ∧ a.toNat < 224
      · simp only [if_neg c1, if_pos c2]
      · by_cases c3 : 224 ≤ a.toNat ∧ a.toNat < 240
        · simp only [if_neg c1, if_neg c2, if_pos c3]
        · simp only [if_neg c1, if_neg c2, if_neg c3, ite_self, ne_eq, not_true_eq_false] at h
  | a :: b :: c :: d :: t => simp only [charM, List.cons_append]
/-! ### characters written -/
def encM (o : List Int) : List UInt8 := o.flatMap fun n => (Utf8.encode n).data.toList
theorem u8_of {n : Nat} {x : UInt8} (h : n = x.toNat) : UInt8.ofNat n = x := by subst h; exact UInt8.ofNat_toNat
def encN (c : Nat) : List UInt8 :=
  if c < 128 then [UInt8.ofNat c]
  else if c < 2048 then [UInt8.ofNat (192 + c / 64), UInt8.ofNat (128 + c % 64)]
  else if c < 65536 then [UInt8.ofNat (224 + c / 4096), UInt8.ofNat (128 + c / 64 % 64), UInt8.ofNat (128 + c % 64)]
  else [UInt8.ofNat (240 + c / 262144), UInt8.ofNat (128 + c / 4096 % 64), UInt8.ofNat (128 + c / 64 % 64), UInt8.ofNat (128 + c % 64)]
theorem enc_N {r : Int} (h : Utf8.valid r = true) : (Utf8.encode r).data.toList = encN r.toNat := by
  unfold Utf8.encode encN
  simp only [h, if_true]
  split
  · rfl
  · split
    · rfl
    · split <;> rfl
theorem valid_of {r : Int} (h0 : 0 ≤ r) (h1 : r ≤ 1114111) (h2 : ¬ (55296 ≤ r ∧ r ≤ 57343)) : Utf8.valid r = true := by
  simp [Utf8.valid]; omega
theorem enc_char {s : List UInt8} (h : (charM s).2 ≠ 0) : (Utf8.encode (charM s).1).data.toList = s.take (charM s).2 := by
  match s with
  | [] => exact absurd rfl h
  | a :: t =>
    have ha := a.toNat_lt
    by_cases c1 : a.toNat < 128
    · have e : charM (a :: t) = ((a.toNat : Int), 1) := by simp only [charM, if_pos c1]
      rw [e, enc_N (valid_of (by omega) (by omega) (by omega))]
      simp only [Int.toNat_natCast, encN, if_pos c1]
      rw [u8_of rfl]; rfl
    by_cases c2 : 194 ≤ a.toNat ∧ a.toNat < 224
    · match t with
      | [] => simp only [charM, if_neg c1, if_pos c2, ne_eq, not_true_eq_false] at h
      | b :: t =>
        by_cases hb : 128 ≤ b.toNat ∧ b.toNat ≤ 191
        · have e : charM (a :: b :: t) = (64 * ((a.toNat : Int) - 192) + b.toNat - 128, 2) := by simp only [charM, if_neg c1, if_pos c2, if_pos hb]
          rw [e, enc_N (valid_of (by simp only []; omega) (by simp only []; omega) (by simp only []; omega))]
          simp only []
          have : (64 * ((a.toNat : Int) - 192) + b.toNat - 128).toNat = 64 * (a.toNat - 192) + (b.toNat - 128) := by omega
          rw [this]
          unfold encN
          rw [if_neg (by omega), if_pos (by omega), u8_of (x := a) (by omega), u8_of (x := b) (by omega)]; rfl
        · simp only [charM, if_neg c1, if_pos c2, if_neg hb, ne_eq, not_true_eq_false] at h
    by_cases c3 : 224 ≤ a.toNat ∧ a.toNat < 240
    · match t with
      | [] => simp only [charM, if_neg c1, if_neg c2, if_pos c3, ne_eq, not_true_eq_false] at h
      | [b] => simp only [charM, if_neg c1, if_neg c2, if_pos c3, ne_eq, not_true_eq_false] at h
      | b :: c :: t =>
        by_cases hb : (128 ≤ b.toNat ∧ b.toNat ≤ 191) ∧ (128 ≤ c.toNat ∧ c.toNat ≤ 191)
        · by_cases hr : 64 * (64 * ((a.toNat : Int) - 224) + b.toNat - 128) + c.toNat - 128 < 2048 ∨ (55296 ≤ 64 * (64 * ((a.toNat : Int) - 224) + b.toNat - 128) + c.toNat - 128 ∧ 64 * (64 * ((a.toNat : Int) - 224) + b.toNat - 128) + c.toNat - 128 ≤ 57343)
          · simp only [charM, if_neg c1, if_neg c2, if_pos c3, if_pos hb, if_pos hr, ne_eq, not_true_eq_false] at h
          · have e : charM (a :: b :: c :: t) = (64 * (64 * ((a.toNat : Int) - 224) + b.toNat - 128) + c.toNat - 128, 3) := by simp only [charM, if_neg c1, if_neg c2, if_pos c3, if_pos hb, if_neg hr]
            rw [e, enc_N (valid_of (by simp only []; omega) (by simp only []; omega) (by simp only []; omega))]
            simp only []
            have : (64 * (64 * ((a.toNat : Int) - 224) + b.toNat - 128) + c.toNat - 128).toNat = 4096 * (a.toNat - 224) + 64 * (b.toNat - 128) + (c.toNat - 128) := by omega
            rw [this]
            unfold encN
            rw [if_neg (by omega), if_neg (by omega), if_pos (by omega), u8_of (x := a) (by omega), u8_of (x := b) (by omega), u8_of (x := c) (by omega)]; rfl
        · simp only [charM, if_neg c1, if_neg c2, if_pos c3, if_neg hb, ne_eq, not_true_eq_false] at h
    by_cases c4 : 240 ≤ a.toNat ∧ a.toNat < 245
    · match t with
      | [] => simp only [charM, if_neg c1, if_neg c2, if_neg c3, if_pos c4, ne_eq, not_true_eq_false] at h
      | [b] => simp only [charM, if_neg c1, if_neg c2, if_neg c3, if_pos c4, ne_eq, not_true_eq_false] at h
      | [b, c] => simp only [charM, if_neg c1, if_neg c2, if_neg c3, if_pos c4, ne_eq, not_true_eq_false] at h
      | b :: c :: d :: t =>
        by_cases hb : (128 ≤ b.toNat ∧ b.toNat ≤ 191) ∧ (128 ≤ c.toNat ∧ c.toNat ≤ 191) ∧ (128 ≤ d.toNat ∧ d.toNat ≤ 191)
        · by_cases hr : 64 * (64 * (64 * ((a.toNat : Int) - 240) + b.toNat - 128) + c.toNat - 128) + d.toNat - 128 < 65536 ∨ 1114111 < 64 * (64 * (64 * ((a.toNat : Int) - 240) + b.toNat - 128) + c.toNat - 128) + d.toNat - 128
          · simp only [charM, if_neg c1, if_neg c2, if_neg c3, if_pos c4, if_pos hb, if_pos hr, ne_eq, not_true_eq_false] at h
          · have e : charM (a :: b :: c :: d :: t) = (64 * (64 * (64 * ((a.toNat : Int) - 240) + b.toNat - 128) + c.toNat - 128) + d.toNat - 128, 4) := by simp only [charM, if_neg c1, if_neg c2, if_neg c3, if_pos c4, if_pos hb, if_neg hr]
            rw [e, enc_N (valid_of (by simp only []; omega) (by simp only []; omega) (by simp only []; omega))]
            simp only []
            have : (64 * (64 * (64 * ((a.toNat : Int) - 240) + b.toNat - 128) + c.toNat - 128) + d.toNat - 128).toNat = 262144 * (a.toNat - 240) + 4096 * (b.toNat - 128) + 64 * (c.toNat - 128) + (d.toNat - 128) := by omega
            rw [this]
            unfold encN
            rw [if_neg (by omega), if_neg (by omega), if_neg (by omega), u8_of (x := a) (by omega), u8_of (x := b) (by omega), u8_of (x := c) (by omega), u8_of (x := d) (by omega)]; rfl
        · simp only [charM, if_neg c1, if_neg c2, if_neg c3, if_pos c4, if_neg hb, ne_eq, not_true_eq_false] at h
    · simp only [charM, if_neg c1, if_neg c2, if_neg c3, if_neg c4, ne_eq, not_true_eq_false] at h
theorem enc_runes : ∀ {s : List UInt8} {t : List Int}, runesM s = some t → encM t = s := by
  intro s
  induction s using (measure List.length).wf.induction with
  | _ s ih =>
    intro l h
    by_cases hn : s = []
    · subst hn; rw [runesM_nil] at h; cases h; rfl
    · by_cases h0 : (charM s).2 = 0
      · rw [runesM_none hn h0] at h; cases h
      · rw [runesM_step hn h0, Option.map_eq_some_iff] at h
        obtain ⟨l', hl', rfl⟩ := h
        have hp : s.length ≠ 0 := fun e => hn (List.eq_nil_of_length_eq_zero e)
        have := ih (s.drop (charM s).2) (by show (s.drop _).length < s.length; simp only [List.length_drop]; omega) hl'
        unfold encM at this ⊢
        rw [List.flatMap_cons, this, enc_char h0, List.take_append_drop]
/-- A character that is some text's. -/
def Good (c : Int) : Prop := ∃ s, (charM s).2 ≠ 0 ∧ (charM s).1 = c
theorem good_runes : ∀ {s : List UInt8} {t : List Int}, runesM s = some t → ∀ c ∈ t, Good c := by
  intro s
  induction s using (measure List.length).wf.induction with
  | _ s ih =>
    intro l h c hc
    by_cases hn : s = []
    · subst hn; rw [runesM_nil] at h; cases h; cases hc
    · by_cases h0 : (charM s).2 = 0
      · rw [runesM_none hn h0] at h; cases h
      · rw [runesM_step hn h0, Option.map_eq_some_iff] at h
        obtain ⟨l', hl', rfl⟩ := h
        have hp : s.length ≠ 0 := fun e => hn (List.eq_nil_of_length_eq_zero e)
        rcases List.mem_cons.1 hc with rfl | hc
        · exact ⟨s, h0, rfl⟩
        · exact ih (s.drop (charM s).2) (by show (s.drop _).length < s.length; simp only [List.length_drop]; omega) hl' c hc
theorem charM_take {s : List UInt8} (h : (charM s).2 ≠ 0) : charM (s.take (charM s).2) = charM s := by
  match s with
  | [] => rfl
  | a :: t =>
    by_cases c1 : a.toNat < 128
    · simp [charM, if_pos c1]
    by_cases c2 : 194 ≤ a.toNat ∧ a.toNat < 224
    · match t with
      | [] => simp only [charM, if_neg c1, if_pos c2, ne_eq, not_true_eq_false] at h
      | b :: t =>
        by_cases hb : 128 ≤ b.toNat ∧ b.toNat ≤ 191
        · have e : charM (a :: b :: t) = (64 * ((a.toNat : Int) - 192) + b.toNat - 128, 2) := by simp only [charM, if_neg c1, if_pos c2, if_pos hb]
          rw [e]
          simp only [List.take_succ_cons, List.take_zero, charM, if_neg c1, if_pos c2, if_pos hb]
        · simp only [charM, if_neg c1, if_pos c2, if_neg hb, ne_eq, not_true_eq_false] at h
    by_cases c3 : 224 ≤ a.toNat ∧ a.toNat < 240
    · match t with
      | [] => simp only [charM, if_neg c1, if_neg c2, if_pos c3, ne_eq, not_true_eq_false] at h
      | [b] => simp only [charM, if_neg c1, if_neg c2, if_pos c3, ne_eq, not_true_eq_false] at h
      | b :: c :: t =>
        by_cases hb : (128 ≤ b.toNat ∧ b.toNat ≤ 191) ∧ (128 ≤ c.toNat ∧ c.toNat ≤ 191)
        · by_cases hr : 64 * (64 * ((a.toNat : Int) - 224) + b.toNat - 128) + c.toNat - 128 < 2048 ∨ (55296 ≤ 64 * (64 * ((a.toNat : Int) - 224) + b.toNat - 128) + c.toNat - 128 ∧ 64 * (64 * ((a.toNat : Int) - 224) + b.toNat - 128) + c.toNat - 128 ≤ 57343)
          · simp only [charM, if_neg c1, if_neg c2, if_pos c3, if_pos hb, if_pos hr, ne_eq, not_true_eq_false] at h
          · have e : charM (a :: b :: c :: t) = (64 * (64 * ((a.toNat : Int) - 224) + b.toNat - 128) + c.toNat - 128, 3) := by simp only [charM, if_neg c1, if_neg c2, if_pos c3, if_pos hb, if_neg hr]
            rw [e]
            simp only [List.take_succ_cons, List.take_zero, charM, if_neg c1, if_neg c2, if_pos c3, if_pos hb, if_neg hr]
        · simp only [charM, if_neg c1, if_neg c2, if_pos c3, if_neg hb, ne_eq, not_true_eq_false] at h
    by_cases c4 : 240 ≤ a.toNat ∧ a.toNat < 245
    · match t with
      | [] => simp only [charM, if_neg c1, if_neg c2, if_neg c3, if_pos c4, ne_eq, not_true_eq_false] at h
      | [b] => simp only [charM, if_neg c1, if_neg c2, if_neg c3, if_pos c4, ne_eq, not_true_eq_false] at h
      | [b, c] => simp only [charM, if_neg c1, if_neg c2, if_neg c3, if_pos c4, ne_eq, not_true_eq_false] at h
      | b :: c :: d :: t =>
        by_cases hb : (128 ≤ b.toNat ∧ b.toNat ≤ 191) ∧ (128 ≤ c.toNat ∧ c.toNat ≤ 191) ∧ (128 ≤ d.toNat ∧ d.toNat ≤ 191)
        · by_cases hr : 64 * (64 * (64 * ((a.toNat : Int) - 240) + b.toNat - 128) + c.toNat - 128) + d.toNat - 128 < 65536 ∨ 1114111 < 64 * (64 * (64 * ((a.toNat : Int) - 240) + b.toNat - 128) + c.toNat - 128) + d.toNat - 128
          · simp only [charM, if_neg c1, if_neg c2, if_neg c3, if_pos c4, if_pos hb, if_pos hr, ne_eq, not_true_eq_false] at h
          · have e : charM (a :: b :: c :: d :: t) = (64 * (64 * (64 * ((a.toNat : Int) - 240) + b.toNat - 128) + c.toNat - 128) + d.toNat - 128, 4) := by simp only [charM, if_neg c1, if_neg c2, if_neg c3, if_pos c4, if_pos hb, if_neg hr]
            rw [e]
            simp only [List.take_succ_cons, List.take_zero, charM, if_neg c1, if_neg c2, if_neg c3, if_pos c4, if_pos hb, if_neg hr]
        · simp only [charM, if_neg c1, if_neg c2, if_neg c3, if_pos c4, if_neg hb, ne_eq, not_true_eq_false] at h
    · simp only [charM, if_neg c1, if_neg c2, if_neg c3, if_neg c4, ne_eq, not_true_eq_false] at h
theorem runes_enc : ∀ {o : List Int}, (∀ c ∈ o, Good c) → runesM (encM o) = some o
  | [], _ => by simp [encM, runesM_nil]
  | c :: o, h => by
    obtain ⟨s, h0, rfl⟩ := h c (List.mem_cons_self ..)
    have ih := runes_enc (o := o) (fun c hc => h c (List.mem_cons_of_mem _ hc))
    have he : encM ((charM s).1 :: o) = s.take (charM s).2 ++ encM o := by
      unfold encM; rw [List.flatMap_cons, enc_char h0]
    have hc : charM (s.take (charM s).2 ++ encM o) = charM s := by
      rw [charM_app (by rw [charM_take h0]; exact h0), charM_take h0]
    have hne : s.take (charM s).2 ++ encM o ≠ [] := fun e => by
      rw [e] at hc
      rw [← hc] at h0
      exact h0 rfl
    rw [he, runesM_step hne (by rw [hc]; exact h0), hc]
    have hl : (s.take (charM s).2).length = (charM s).2 := by rw [List.length_take]; have := charM_le s; omega
    rw [List.drop_append_of_le_length (by omega), List.drop_eq_nil_of_le (by omega), List.nil_append, ih]; rfl
theorem enc_high {n : Nat} (h : 128 ≤ n) (h2 : n ≤ 1114111) : ∀ b ∈ encN n, 128 ≤ b.toNat := by
  have e : ∀ n : Nat, 128 ≤ n → n < 256 → 128 ≤ (UInt8.ofNat n).toNat := by
    intro n h1 h2
    rw [UInt8.toNat_ofNat_of_lt' (by simpa using h2)]; exact h1
  intro b hb
  unfold encN at hb
  rw [if_neg (by omega)] at hb
  split at hb
  · simp only [List.mem_cons, List.mem_nil_iff, or_false] at hb
    rcases hb with rfl | rfl <;> exact e _ (by omega) (by omega)
  · split at hb
    · simp only [List.mem_cons, List.mem_nil_iff, or_false] at hb
      rcases hb with rfl | rfl | rfl <;> exact e _ (by omega) (by omega)
    · simp only [List.mem_cons, List.mem_nil_iff, or_false] at hb
      rcases hb with rfl | rfl | rfl | rfl <;> exact e _ (by omega) (by omega)
theorem runes_head {s u : List UInt8} (h0 : (charM s).2 ≠ 0) : runesM (s.take (charM s).2 ++ u) = (runesM u).map fun l => (charM s).1 :: l := by
  have hc : charM (s.take (charM s).2 ++ u) = charM s := by
    rw [charM_app (by rw [charM_take h0]; exact h0), charM_take h0]
  have hne : s.take (charM s).2 ++ u ≠ [] := fun e => by
    rw [e] at hc
    rw [← hc] at h0
    exact h0 rfl
  have hl : (s.take (charM s).2).length = (charM s).2 := by rw [List.length_take]; have := charM_le s; omega
  rw [runesM_step hne (by rw [hc]; exact h0), hc, List.drop_append_of_le_length (by omega), List.drop_eq_nil_of_le (by omega), List.nil_append]
theorem charM_valid {s : List UInt8} (h0 : (charM s).2 ≠ 0) : s.take (charM s).2 = encN (charM s).1.toNat := by
  have hi := charM_int s
  have he := enc_char h0
  by_cases hv : Utf8.valid (charM s).1 = true
  · rw [← he, enc_N hv]
  · exfalso
    have hs : 55296 ≤ (charM s).1 ∧ (charM s).1 ≤ 57343 := by
      simp [Utf8.valid] at hv; omega
    have h3 : (charM s).2 = 3 ∨ (charM s).2 ≠ 3 := by omega
    revert hs h0
    unfold charM
    repeat' split
    all_goals (try simp only [])
    all_goals (try split)
    all_goals (try simp only [])
    all_goals omega
theorem wrapW32 {n : Int} (h : 0 ≤ n) (h2 : n < 4294967296) : IntKind.wrap .u32 n = n := by
  simp [IntKind.wrap, IntKind.signed, IntKind.bits]; omega
theorem low_all : ∀ x : Fin 256, (IntKind.wrap .u8 ((BitVec.ofInt (IntKind.bits .u8) 128 ||| BitVec.ofInt (IntKind.bits .u8) (IntKind.wrap .u8 ((BitVec.ofInt (IntKind.bits .u8) ((x.val : Nat) : Int) &&& BitVec.ofInt (IntKind.bits .u8) 63).toNat : Nat))).toNat : Nat)) = ((128 + x.val % 64 : Nat) : Int) := by decide +kernel
theorem low_t {c : Int} : (IntKind.wrap .u8 ((BitVec.ofInt (IntKind.bits .u8) 128 ||| BitVec.ofInt (IntKind.bits .u8) (IntKind.wrap .u8 ((BitVec.ofInt (IntKind.bits .u8) (IntKind.wrap .u8 c) &&& BitVec.ofInt (IntKind.bits .u8) 63).toNat : Nat))).toNat : Nat)) = 128 + c % 64 := by
  have h0 : 0 ≤ c % 256 := by omega
  have h1 : c % 256 < 256 := by omega
  have := low_all ⟨(c % 256).toNat, by omega⟩
  simp only at this
  rw [show (((c % 256).toNat : Nat) : Int) = c % 256 by omega] at this
  rw [wrapW8 (n := c), this]
  omega
theorem top_all : (∀ x : Fin 32, (IntKind.wrap .u8 ((BitVec.ofInt (IntKind.bits .u8) 192 ||| BitVec.ofInt (IntKind.bits .u8) (IntKind.wrap .u8 ((x.val : Nat) : Int))).toNat : Nat)) = ((192 + x.val : Nat) : Int)) ∧ (∀ x : Fin 16, (IntKind.wrap .u8 ((BitVec.ofInt (IntKind.bits .u8) 224 ||| BitVec.ofInt (IntKind.bits .u8) (IntKind.wrap .u8 ((x.val : Nat) : Int))).toNat : Nat)) = ((224 + x.val : Nat) : Int)) ∧ (∀ x : Fin 8, (IntKind.wrap .u8 ((BitVec.ofInt (IntKind.bits .u8) 240 ||| BitVec.ofInt (IntKind.bits .u8) (IntKind.wrap .u8 ((x.val : Nat) : Int))).toNat : Nat)) = ((240 + x.val : Nat) : Int)) := by decide +kernel
theorem top2 {x : Int} (h : 0 ≤ x) (h2 : x < 32) : (IntKind.wrap .u8 ((BitVec.ofInt (IntKind.bits .u8) 192 ||| BitVec.ofInt (IntKind.bits .u8) (IntKind.wrap .u8 x)).toNat : Nat)) = 192 + x := by
  have := top_all.1 ⟨x.toNat, by omega⟩
  simp only at this
  rw [show ((x.toNat : Nat) : Int) = x by omega] at this
  rw [this]; omega
theorem top3 {x : Int} (h : 0 ≤ x) (h2 : x < 16) : (IntKind.wrap .u8 ((BitVec.ofInt (IntKind.bits .u8) 224 ||| BitVec.ofInt (IntKind.bits .u8) (IntKind.wrap .u8 x)).toNat : Nat)) = 224 + x := by
  have := top_all.2.1 ⟨x.toNat, by omega⟩
  simp only at this
  rw [show ((x.toNat : Nat) : Int) = x by omega] at this
  rw [this]; omega
theorem top4 {x : Int} (h : 0 ≤ x) (h2 : x < 8) : (IntKind.wrap .u8 ((BitVec.ofInt (IntKind.bits .u8) 240 ||| BitVec.ofInt (IntKind.bits .u8) (IntKind.wrap .u8 x)).toNat : Nat)) = 240 + x := by
  have := top_all.2.2 ⟨x.toNat, by omega⟩
  simp only at this
  rw [show ((x.toNat : Nat) : Int) = x by omega] at this
  rw [this]; omega
theorem shr_t {c : Int} {n : Int} {k : Nat} (hn : n = (k : Int)) (hk : k ≤ 32) : shrT .i32 c n = some (c / (2 ^ k : Nat)) := by
  subst hn
  unfold shrT
  rw [if_neg (by omega)]
  congr 1
  rw [Int.toNat_natCast, Int.fdiv_eq_ediv_of_nonneg _ (by exact_mod_cast Nat.zero_le _)]
  have : min k (IntKind.bits .i32) = k := by show min k 32 = k; omega
  rw [this]
  norm_cast
/-- A character that can be written. -/
def Char0 (c : Int) : Prop := 0 ≤ c ∧ c ≤ 1114111 ∧ ¬ (55296 ≤ c ∧ c ≤ 57343)
theorem bI_of {l : List Nat} (h : ∀ n ∈ l, n < 256) : bI (l.map UInt8.ofNat) = l.map fun (n : Nat) => (n : Int) := by
  unfold bI
  rw [List.map_map]
  refine List.map_congr_left fun n hn => ?_
  simp only [Function.comp]
  rw [UInt8.toNat_ofNat_of_lt' (by simpa using h n hn)]
theorem append_t {c : Int} {w : List Int} (hc : Char0 c) (hw : w.length < 4294967000) : utf8_AppendRune c w = some ((), w ++ bI (encN c.toNat), ()) := by
  obtain ⟨h0, h1, h2⟩ := hc
  obtain ⟨n, rfl⟩ : ∃ n : Nat, c = (n : Int) := ⟨c.toNat, by omega⟩
  unfold utf8_AppendRune
  rw [Int.toNat_natCast]
  simp only [cond_dec, wrapW32 (n := (n : Int)) (by omega) (by omega)]
  by_cases c1 : n < 128
  · rw [if_pos (by omega), roomT_lt (by simp; omega), Option.bind_some]
    unfold encN
    rw [if_pos c1, wrapW8]
    have e : [UInt8.ofNat n] = [n].map UInt8.ofNat := rfl
    rw [e, bI_of (by intro m hm; simp at hm; omega)]
    simp only [List.map_cons, List.map_nil]
    rw [show (n : Int) % 256 = n by omega]
  rw [if_neg (by omega)]
  have room : ∀ l : List Int, l.length ≤ 4 → roomT (w.length + l.length) = some () := fun l hl => roomT_lt (by omega)
  have key : utf8_appendRuneNonASCII (n : Int) w = some ((), w ++ bI (encN n), ()) := by
    unfold utf8_appendRuneNonASCII encN
    rw [if_neg c1]
    simp only [cond_dec, wrapW32 (n := (n : Int)) (by omega) (by omega), shr_t (n := 6) (k := 6) rfl (by omega), shr_t (n := 12) (k := 12) rfl (by omega), shr_t (n := 18) (k := 18) rfl (by omega), Option.bind_some]
    by_cases c2 : n < 2048
    · rw [if_pos (by omega), if_pos c2, room _ (by simp), Option.bind_some, low_t, top2 (by omega) (by omega)]
      have e : [UInt8.ofNat (192 + n / 64), UInt8.ofNat (128 + n % 64)] = [192 + n / 64, 128 + n % 64].map UInt8.ofNat := rfl
      rw [e, bI_of (by intro m hm; simp at hm; omega)]
      simp only [List.map_cons, List.map_nil, show ((2 ^ 6 : Nat) : Int) = 64 from rfl, show ((2 ^ 12 : Nat) : Int) = 4096 from rfl, show ((2 ^ 18 : Nat) : Int) = 262144 from rfl, Int.natCast_add, Int.natCast_ediv, Int.natCast_emod, Int.cast_ofNat_Int]
    rw [if_neg (by omega), if_neg c2]
    by_cases c3 : n < 65536
    · have hA : ((if (n : Int) < 55296 then some (Sum.inl (decide ((n : Int) < 55296), w, ())) else
          (if 57343 < (n : Int) then some (decide ((n : Int) ≤ 65535), w, ()) else some (false, w, ())).bind fun v3 => some (Sum.inl (v3.1, v3.2.1, ()))) : Option ((Bool × List Int × Unit) ⊕ (Unit × List Int × Unit))) = some (.inl (true, w, ())) := by
        by_cases g : (n : Int) < 55296
        · rw [if_pos g]; simp [g]
        · rw [if_neg g, if_pos (by omega)]; simp; omega
      rw [hA, bind_join_inl, if_pos c3]
      simp only [cond_true]
      rw [room _ (by simp), Option.bind_some, low_t, low_t, top3 (by omega) (by omega)]
      have e : [UInt8.ofNat (224 + n / 4096), UInt8.ofNat (128 + n / 64 % 64), UInt8.ofNat (128 + n % 64)] = [224 + n / 4096, 128 + n / 64 % 64, 128 + n % 64].map UInt8.ofNat := rfl
      rw [e, bI_of (by intro m hm; simp at hm; omega)]
      simp only [List.map_cons, List.map_nil, show ((2 ^ 6 : Nat) : Int) = 64 from rfl, show ((2 ^ 12 : Nat) : Int) = 4096 from rfl, show ((2 ^ 18 : Nat) : Int) = 262144 from rfl, Int.natCast_add, Int.natCast_ediv, Int.natCast_emod, Int.cast_ofNat_Int]
    · have hA : ((if (n : Int) < 55296 then some (Sum.inl (decide ((n : Int) < 55296), w, ())) else
          (if 57343 < (n : Int) then some (decide ((n : Int) ≤ 65535), w, ()) else some (false, w, ())).bind fun v3 => some (Sum.inl (v3.1, v3.2.1, ()))) : Option ((Bool × List Int × Unit) ⊕ (Unit × List Int × Unit))) = some (.inl (false, w, ())) := by
        rw [if_neg (by omega), if_pos (by omega)]; simp; omega
      rw [hA, bind_join_inl, if_neg c3]
      simp only [cond_false]
      rw [if_pos (by omega), if_pos (by omega), room _ (by simp), Option.bind_some, low_t, low_t, low_t, top4 (by omega) (by omega)]
      have e : [UInt8.ofNat (240 + n / 262144), UInt8.ofNat (128 + n / 4096 % 64), UInt8.ofNat (128 + n / 64 % 64), UInt8.ofNat (128 + n % 64)] = [240 + n / 262144, 128 + n / 4096 % 64, 128 + n / 64 % 64, 128 + n % 64].map UInt8.ofNat := rfl
      rw [e, bI_of (by intro m hm; simp at hm; omega)]
      simp only [List.map_cons, List.map_nil, show ((2 ^ 6 : Nat) : Int) = 64 from rfl, show ((2 ^ 12 : Nat) : Int) = 4096 from rfl, show ((2 ^ 18 : Nat) : Int) = 262144 from rfl, Int.natCast_add, Int.natCast_ediv, Int.natCast_emod, Int.cast_ofNat_Int]
  rw [key]; rfl
/-! ### quoted by the program -/
theorem charM_char0 {s : List UInt8} (h0 : (charM s).2 ≠ 0) : Char0 (charM s).1 := by
  have hi := charM_int s
  refine ⟨hi.1, hi.2, ?_⟩
  intro hs
  revert hs h0
  unfold charM
  repeat' split
  all_goals (try simp only [])
  all_goals (try split)
  all_goals (try simp only [])
  all_goals omega
theorem encN_len {n : Nat} : 1 ≤ (encN n).length ∧ (encN n).length ≤ 4 := by
  unfold encN
  repeat' split
  all_goals simp
theorem char92 : Char0 92 := ⟨by omega, by omega, by omega⟩
theorem enc92 : encN (92 : Int).toNat = [92] := by rfl
end Go.Proofs.YtoddoiemnekffaaDoor.Q

set_option linter.unusedVariables false
set_option linter.unusedSimpArgs false
set_option maxRecDepth 100000
namespace Go.Proofs.YtoddoiemnekffaaDoor.Q
open Go.EM Go.TY Go.Proofs Go.Proofs.YtoddoiemnekffaaDoor.Y Go.Proofs.YtoddoiemnekffaaDoor.K Go.Proofs.YtoddoiemnekffaaDoor.L
abbrev Val := Int × Int × List UInt8 × Unit
/-! ### the first of some that is not 0 -/
theorem or_turn {l : List Int} {i : Nat} {x : Int} (h : l[i]? = some x) (hl : l.length < 1000000) : cmp_Or_int_l3 l ((i : Int), ()) = if x = 0 then some (.inl (((i + 1 : Nat) : Int), ())) else some (.inr x) := by
  have hi : i < l.length := by
    rcases Nat.lt_or_ge i l.length with h' | h'
    · exact h'
    · rw [List.getElem?_eq_none h'] at h; cases h
  unfold cmp_Or_int_l3
  simp only [cond_dec]
  rw [if_pos (by omega), atI_nat, h]
  simp only [Option.bind_some]
  by_cases hx : x = 0
  · rw [if_pos hx]
    simp only [hx, decide_true, Bool.not_true, cond_false]
    rw [wrap64 (by omega) (by omega)]; rfl
  · rw [if_neg hx]
    simp only [hx, decide_false, Bool.not_false, cond_true]
theorem or3_t (a b c : Int) : cmp_Or_int [a, b, c] = some (orI a (orI b c)) := by
  unfold cmp_Or_int
  have t0 := or_turn (l := [a, b, c]) (i := 0) (x := a) rfl (by simp)
  have t1 := or_turn (l := [a, b, c]) (i := 1) (x := b) rfl (by simp)
  have t2 := or_turn (l := [a, b, c]) (i := 2) (x := c) rfl (by simp)
  have t3 : cmp_Or_int_l3 [a, b, c] (((3 : Nat) : Int), ()) = some (.inr 0) := by
    unfold cmp_Or_int_l3
    simp only [cond_dec, List.length_cons, List.length_nil]
    rw [if_neg (by decide)]
  unfold orI
  by_cases h0 : a = 0
  · rw [if_pos h0] at t0 ⊢
    rw [show ((0 : Int), ()) = (((0 : Nat) : Int), ()) from rfl, loopT_inl t0]
    by_cases h1 : b = 0
    · rw [if_pos h1] at t1 ⊢
      rw [loopT_inl t1]
      by_cases h2 : c = 0
      · rw [if_pos h2] at t2
        rw [loopT_inl t2, loopT_inr t3, h2]
      · rw [if_neg h2] at t2
        rw [loopT_inr t2]
    · rw [if_neg h1] at t1 ⊢
      rw [loopT_inr t1]
  · rw [if_neg h0] at t0 ⊢
    exact loopT_inr t0
/-! ### bytes in a row -/
theorem cb_neg : ∀ a b : List UInt8, Lib.compareBytes b a = - Lib.compareBytes a b
  | [], [] => rfl
  | [], _ :: _ => rfl
  | _ :: _, [] => rfl
  | x :: a, y :: b => by
    simp only [Lib.compareBytes, UInt8.lt_iff_toNat_lt]
    by_cases h1 : x.toNat < y.toNat
    · have h2 : ¬ y.toNat < x.toNat := by omega
      simp only [if_pos h1, if_neg h2]
      rfl
    · by_cases h2 : y.toNat < x.toNat
      · simp only [if_pos h2, if_neg h1]
      · simp only [if_neg h2, if_neg h1]; exact cb_neg a b
theorem cb_zero : ∀ a b : List UInt8, Lib.compareBytes a b = 0 ↔ a = b
  | [], [] => by simp [Lib.compareBytes]
  | [], _ :: _ => by simp [Lib.compareBytes]
  | _ :: _, [] => by simp [Lib.compareBytes]
  | x :: a, y :: b => by
    simp only [Lib.compareBytes, UInt8.lt_iff_toNat_lt]
    by_cases h1 : x.toNat < y.toNat
    · rw [if_pos h1]
      constructor
      · intro h; cases h
      · intro h; cases h; omega
    · rw [if_neg h1]
      by_cases h2 : y.toNat < x.toNat
      · rw [if_pos h2]
        constructor
        · intro h; cases h
        · intro h; cases h; omega
      · rw [if_neg h2, cb_zero a b]
        have : x = y := UInt8.toNat_inj.1 (by omega)
        subst this
        simp
theorem cb_one : ∀ a b : List UInt8, Lib.compareBytes a b = -1 ∨ Lib.compareBytes a b = 0 ∨ Lib.compareBytes a b = 1
  | [], [] => .inr (.inl rfl)
  | [], _ :: _ => .inl rfl
  | _ :: _, [] => .inr (.inr rfl)
  | x :: a, y :: b => by
    simp only [Lib.compareBytes]
    split
    · exact .inl rfl
    · split
      · exact .inr (.inr rfl)
      · exact cb_one a b
theorem cb_trans : ∀ a b c : List UInt8, Lib.compareBytes a b ≤ 0 → Lib.compareBytes b c ≤ 0 → Lib.compareBytes a c ≤ 0
  | [], b, [], _, _ => by simp [Lib.compareBytes]
  | [], b, _ :: _, _, _ => by simp [Lib.compareBytes]
  | _ :: _, [], _, h, _ => by simp [Lib.compareBytes] at h
  | x :: a, y :: b, [], _, h => by simp [Lib.compareBytes] at h
  | x :: a, y :: b, z :: c, h, k => by
    simp only [Lib.compareBytes, UInt8.lt_iff_toNat_lt] at h k ⊢
    by_cases h1 : x.toNat < y.toNat
    · by_cases k1 : y.toNat < z.toNat
      · rw [if_pos (by omega)]; omega
      · rw [if_neg k1] at k
        by_cases k2 : z.toNat < y.toNat
        · rw [if_pos k2] at k; omega
        · rw [if_pos (by omega)]; omega
    · rw [if_neg h1] at h
      by_cases h2 : y.toNat < x.toNat
      · rw [if_pos h2] at h; omega
      · rw [if_neg h2] at h
        by_cases k1 : y.toNat < z.toNat
        · rw [if_pos (by omega)]; omega
        · rw [if_neg k1] at k
          by_cases k2 : z.toNat < y.toNat
          · rw [if_pos k2] at k; omega
          · rw [if_neg k2] at k
            rw [if_neg (by omega), if_neg (by omega)]
            exact cb_trans a b c h k
/-! ### values in a row -/
def cmpV (a b : Val) : Int := orI (cmpI a.1 b.1) (orI (cmpI a.2.1 b.2.1) (Lib.compareBytes a.2.2.1 b.2.2.1))
theorem valueCompare_t (a b : Val) : value_Compare a b = some (cmpV a b) := by
  unfold value_Compare cmpV strings_Compare cmpT
  simp only [compare_t, or3_t, Option.bind_some]
theorem awake9 : law09_awake = some true := rfl
theorem cmpV_cases (a b : Val) : cmpV a b = if a.1 < b.1 then -1 else if a.1 > b.1 then 1 else if a.2.1 < b.2.1 then -1 else if a.2.1 > b.2.1 then 1 else Lib.compareBytes a.2.2.1 b.2.2.1 := by
  unfold cmpV orI cmpI
  by_cases h1 : a.1 < b.1
  · simp [h1]
  · by_cases h2 : a.1 > b.1
    · simp [h1, h2]
    · by_cases h3 : a.2.1 < b.2.1
      · simp [h1, h2, h3]
      · by_cases h4 : a.2.1 > b.2.1
        · simp [h1, h2, h3, h4]
        · simp [h1, h2, h3, h4]
theorem eqVal (a b : Val) : eqV (.agg (.cons (.int .i64) (.cons (.int .i64) (.cons .str .unit)))) a b = decide (a = b) := by
  obtain ⟨k, n, s, ⟨⟩⟩ := a
  obtain ⟨k', n', s', ⟨⟩⟩ := b
  simp only [eqV, Bool.and_true]
  rw [Bool.eq_iff_iff]
  simp
theorem cmpV_neg (a b : Val) : cmpV b a = - cmpV a b := by
  rw [cmpV_cases, cmpV_cases, cb_neg]
  repeat' split
  all_goals first | omega | rfl
theorem cmpV_one (a b : Val) : -1 ≤ cmpV a b ∧ cmpV a b ≤ 1 := by
  have := cb_one a.2.2.1 b.2.2.1
  rw [cmpV_cases]
  repeat' split
  all_goals omega
theorem cmpV_zero (a b : Val) : cmpV a b = 0 ↔ a = b := by
  have := cb_zero a.2.2.1 b.2.2.1
  obtain ⟨k, n, s, ⟨⟩⟩ := a
  obtain ⟨k', n', s', ⟨⟩⟩ := b
  rw [cmpV_cases]
  simp only at this ⊢
  by_cases h1 : k < k'
  · rw [if_pos h1]; constructor
    · intro h; cases h
    · intro h; cases h; omega
  rw [if_neg h1]
  by_cases h2 : k > k'
  · rw [if_pos h2]; constructor
    · intro h; cases h
    · intro h; cases h; omega
  rw [if_neg h2]
  by_cases h3 : n < n'
  · rw [if_pos h3]; constructor
    · intro h; cases h
    · intro h; cases h; omega
  rw [if_neg h3]
  by_cases h4 : n > n'
  · rw [if_pos h4]; constructor
    · intro h; cases h
    · intro h; cases h; omega
  rw [if_neg h4, this]
  have e1 : k = k' := by omega
  have e2 : n = n' := by omega
  subst e1; subst e2
  simp
theorem cmpV_trans (a b c : Val) (h : cmpV a b ≤ 0) (k : cmpV b c ≤ 0) : cmpV a c ≤ 0 := by
  have := cb_trans a.2.2.1 b.2.2.1 c.2.2.1
  rw [cmpV_cases] at h k ⊢
  by_cases h1 : a.1 < b.1
  · by_cases k1 : b.1 > c.1
    · rw [if_neg (by omega), if_pos k1] at k; omega
    · rw [if_pos (by omega)]; omega
  rw [if_neg h1] at h
  by_cases h2 : a.1 > b.1
  · rw [if_pos h2] at h; omega
  rw [if_neg h2] at h
  by_cases k1 : b.1 < c.1
  · rw [if_pos (by omega)]; omega
  rw [if_neg k1] at k
  by_cases k2 : b.1 > c.1
  · rw [if_pos k2] at k; omega
  rw [if_neg k2] at k
  rw [if_neg (by omega), if_neg (by omega)]
  by_cases h3 : a.2.1 < b.2.1
  · by_cases k3 : b.2.1 > c.2.1
    · rw [if_neg (by omega), if_pos k3] at k; omega
    · rw [if_pos (by omega)]; omega
  rw [if_neg h3] at h
  by_cases h4 : a.2.1 > b.2.1
  · rw [if_pos h4] at h; omega
  rw [if_neg h4] at h
  by_cases k3 : b.2.1 < c.2.1
  · rw [if_pos (by omega)]; omega
  rw [if_neg k3] at k
  by_cases k4 : b.2.1 > c.2.1
  · rw [if_pos k4] at k; omega
  rw [if_neg k4] at k
  rw [if_neg (by omega), if_neg (by omega)]
  exact this h k
theorem valueRow_t (a b c : Val) : law09_ValueRow a b c = some true := by
  unfold law09_ValueRow
  simp only [valueCompare_t, awake9, Option.bind_some, cond_dec, eqVal]
  have e1 : cmpV b a = IntKind.wrap .i64 (0 - cmpV a b) := by
    have := cmpV_one a b
    rw [cmpV_neg, wrap64 (by omega) (by omega)]; omega
  have e2 : (decide (cmpV a b = 0) == decide (a = b)) = true := by
    rw [beq_iff_eq, Bool.eq_iff_iff, decide_eq_true_eq, decide_eq_true_eq]
    exact cmpV_zero a b
  rw [if_pos e1, e2]
  simp only [Option.bind_some, cond_true]
  have e3 := cmpV_trans a b c
  by_cases h1 : cmpV a b > 0
  · simp only [if_pos h1, ite_self]
  · by_cases h2 : cmpV b c > 0
    · simp only [if_neg h1, if_pos h2, ite_self]
    · have h3 := e3 (by omega) (by omega)
      simp only [if_neg h1, if_neg h2, if_pos h3, ite_self]
theorem valueRow_law : ∀ v : law09_ValueRow_T.ps.V, okV law09_ValueRow_T.ps v → law09_ValueRow_T.fn v = some true := fun v _ => valueRow_t v.1 v.2.1 v.2.2.1
end Go.Proofs.YtoddoiemnekffaaDoor.Q

set_option linter.unusedVariables false
set_option linter.unusedSimpArgs false
set_option maxRecDepth 100000
namespace Go.Proofs.YtoddoiemnekffaaDoor.Q
open Go.EM Go.TY Go.Proofs Go.Proofs.YtoddoiemnekffaaDoor.Y Go.Proofs.YtoddoiemnekffaaDoor.K Go.Proofs.YtoddoiemnekffaaDoor.L
/-! ### the reference's row -/
theorem ints9_t (a b : Int) : ref09_ints a b = some (cmpI a b) := by
  unfold ref09_ints cmpI
  simp only [cond_dec]
  by_cases h1 : a < b
  · simp [h1]
  · by_cases h2 : a > b <;> simp [h1, h2]
theorem dropC {A : Type} {s : List A} {i : Nat} (h : i < s.length) : s.drop i = s[i] :: s.drop (i + 1) := List.drop_eq_getElem_cons h
theorem texts_loop {a b : List UInt8} (ha : a.length < 1000000) : ∀ (k i : Nat), a.length - i ≤ k → i ≤ a.length → i ≤ b.length →
    ((loopT (ref09_Texts_l2 a b) ((i : Int), ()) : Option (Unit ⊕ Int)).bind (joinS fun _ => some (cmpI (a.length : Int) (b.length : Int)))) = some (Lib.compareBytes (a.drop i) (b.drop i)) := by
  intro k
  have fin : ∀ i : Nat, i ≤ a.length → i ≤ b.length → ¬ (i < a.length ∧ i < b.length) → ((loopT (ref09_Texts_l2 a b) ((i : Int), ()) : Option (Unit ⊕ Int)).bind (joinS fun _ => some (cmpI (a.length : Int) (b.length : Int)))) = some (Lib.compareBytes (a.drop i) (b.drop i)) := by
    intro i h1 h2 h3
    have hl : loopT (ref09_Texts_l2 a b) ((i : Int), ()) = some (.inl ()) := by
      refine loopT_inr ?_
      unfold ref09_Texts_l2
      simp only [cond_dec]
      by_cases h4 : (i : Int) < (a.length : Int)
      · rw [if_pos h4, if_neg (by omega)]
      · rw [if_neg h4]
    rw [hl, bind_join_inl]
    congr 1
    unfold cmpI
    by_cases h4 : i < a.length
    · have e : b.drop i = [] := List.drop_eq_nil_of_le (by omega)
      rw [e, dropC h4]
      simp only [Lib.compareBytes]
      rw [if_neg (by omega), if_pos (by omega)]
    · have e : a.drop i = [] := List.drop_eq_nil_of_le (by omega)
      rw [e]
      by_cases h5 : i < b.length
      · rw [dropC h5]
        simp only [Lib.compareBytes]
        rw [if_pos (by omega)]
      · have e : b.drop i = [] := List.drop_eq_nil_of_le (by omega)
        rw [e]
        simp only [Lib.compareBytes]
        rw [if_neg (by omega), if_neg (by omega)]
  induction k with
  | zero => intro i hk h1 h2; exact fin i h1 h2 (by omega)
  | succ k ih =>
    intro i hk h1 h2
    by_cases h3 : i < a.length ∧ i < b.length
    · obtain ⟨h3, h4⟩ := h3
      rw [dropC h3, dropC h4]
      simp only [Lib.compareBytes, UInt8.lt_iff_toNat_lt]
      by_cases he : a[i].toNat = b[i].toNat
      · rw [if_neg (by omega), if_neg (by omega), ← ih (i + 1) (by omega) (by omega) (by omega)]
        rw [loopT_inl (b := (((i + 1 : Nat) : Int), ()))]
        unfold ref09_Texts_l2
        simp only [cond_dec]
        rw [if_pos (by omega), if_pos (by omega), atI_lt h3, atI_lt h4]
        simp only [Option.bind_some]
        rw [decide_eq_true (by omega)]
        simp only [Bool.not_true, cond_false]
        rw [wrap64 (by omega) (by omega)]; rfl
      · have ba := a[i].toNat_lt
        have bb := b[i].toNat_lt
        have hl : loopT (ref09_Texts_l2 a b) ((i : Int), ()) = some (.inr (cmpI (a[i].toNat : Int) (b[i].toNat : Int))) := by
          refine loopT_inr ?_
          unfold ref09_Texts_l2
          simp only [cond_dec]
          rw [if_pos (by omega), if_pos (by omega), atI_lt h3, atI_lt h4]
          simp only [Option.bind_some]
          rw [decide_eq_false (by omega)]
          simp only [Bool.not_false, cond_true, ints9_t, Option.bind_some]
          rw [wrap64 (by omega) (by omega), wrap64 (by omega) (by omega)]
        rw [hl, bind_join_inr]
        congr 1
        unfold cmpI
        by_cases h5 : a[i].toNat < b[i].toNat
        · rw [if_pos (by omega), if_pos h5]
        · rw [if_neg (by omega), if_neg h5, if_pos (by omega), if_pos (by omega)]
    · exact fin i h1 h2 h3
theorem texts_t {a b : List UInt8} (ha : a.length < 1000000) : ref09_Texts a b = some (Lib.compareBytes a b) := by
  have := texts_loop (b := b) ha a.length 0 (by omega) (by omega) (by omega)
  simp only [List.drop_zero] at this
  unfold ref09_Texts
  simp only [ints9_t, Option.bind_some]
  exact this
theorem refCompare9_t {a b : Val} (ha : a.2.2.1.length < 1000000) : ref09_Compare a b = some (cmpV a b) := by
  unfold ref09_Compare cmpV orI
  simp only [ints9_t, texts_t ha, Option.bind_some]
  unfold cmpI
  by_cases h1 : a.1 = b.1
  · simp only [h1, decide_true, Bool.not_true, cond_false]
    by_cases h2 : a.2.1 = b.2.1
    · simp [h2]
    · simp only [h2, decide_false, Bool.not_false, cond_true]
      by_cases h3 : a.2.1 < b.2.1
      · simp [h3]
      · have h4 : b.2.1 < a.2.1 := by omega
        simp [h3, h4]
  · simp only [h1, decide_false, Bool.not_false, cond_true]
    by_cases h3 : a.1 < b.1
    · simp [h3]
    · have h4 : b.1 < a.1 := by omega
      simp [h3, h4]
/-! ### characters -/
theorem charM_one {s : List UInt8} (h : (charM s).2 = 1) : (charM s).1 < 128 := by
  revert h
  unfold charM
  repeat' split
  all_goals (try simp only [])
  all_goals (try split)
  all_goals (try simp only [])
  all_goals omega
theorem decGo {s : List UInt8} (h : s ≠ []) : utf8_DecodeRuneInString s = some (((decN s).1 : Int), ((decN s).2 : Int), ()) := by
  have hl : 0 < s.length := by cases s with | nil => exact absurd rfl h | cons _ _ => simp
  have hz : ¬ (⟨s.toArray⟩ : ByteArray).size = 0 := by show ¬ s.toArray.size = 0; simp; exact h
  unfold utf8_DecodeRuneInString decodeT Lib.decodeGo
  rw [if_neg hz, decode_N hl, List.drop_zero]
theorem nrunes_loop {s : List UInt8} (hs : s.length < 1000000) : ∀ (k i : Nat) (l : List Int), s.length - i ≤ k → i ≤ s.length → l.length ≤ i → loopT (name_Runes_l3 s) (i, l, ()) = some (runesR (s.drop i) l) := by
  intro k
  have fin : ∀ (i : Nat) (l : List Int), ¬ i < s.length → loopT (name_Runes_l3 s) (i, l, ()) = some (runesR (s.drop i) l) := by
    intro i l hi
    rw [List.drop_eq_nil_of_le (by omega), loopT_inr (x := (l, true, ())) (by simp only [name_Runes_l3, cond_dec]; rw [if_neg (by omega)])]
    simp [runesR, runesM_nil]
  induction k with
  | zero => intro i l hk hi hl; exact fin i l (by omega)
  | succ k ih =>
    intro i l hk hi hl
    by_cases hlt : i < s.length
    · have hne : s.drop i ≠ [] := fun e => by have := congrArg List.length e; simp at this; omega
      have hle := charM_le (s.drop i)
      simp only [List.length_drop] at hle
      have hci := charM_int (s.drop i)
      by_cases h0 : (charM (s.drop i)).2 = 0
      · rw [loopT_inr (x := ([], false, ()))]
        · simp only [runesR, runesM_none hne h0]
        · unfold name_Runes_l3
          rw [cond_dec, if_pos (by simp only []; exact hlt)]
          simp only [decode_N hlt, decN, if_pos h0]
          rw [decide_eq_true (by omega)]
          simp only [cond_true]
          rw [subI_from (by omega)]
          simp only [Option.bind_some, decGo hne, decN, if_pos h0, cond_dec]
          rw [if_pos (by omega)]
          rfl
      · rw [loopT_inl (b := (i + (charM (s.drop i)).2, l ++ [(charM (s.drop i)).1], ()))]
        · rw [ih _ _ (by omega) (by omega) (by simp; omega)]
          simp only [runesR, runesM_step hne h0, List.drop_drop]
          cases runesM (s.drop (i + (charM (s.drop i)).2)) <;> simp
        · unfold name_Runes_l3
          rw [cond_dec, if_pos (by simp only []; exact hlt)]
          simp only [decode_N hlt, decN, if_neg h0]
          have hnat : (((charM (s.drop i)).1.toNat : Nat) : Int) = (charM (s.drop i)).1 := by omega
          simp only [hnat]
          have h1 := charM_one (s := s.drop i)
          by_cases hc : (charM (s.drop i)).1 = 65533
          · rw [decide_eq_true hc]
            simp only [cond_true]
            rw [subI_from (by omega)]
            simp only [Option.bind_some, decGo hne, decN, if_neg h0, cond_dec]
            rw [if_neg (by omega), bind_join_inl]
            simp only []
            rw [roomT_lt (by simp; omega)]
            rfl
          · rw [decide_eq_false hc]
            simp only [cond_false]
            rw [bind_join_inl]
            simp only []
            rw [roomT_lt (by simp; omega)]
            rfl
    · exact fin i l hlt
theorem nrunes_t {s : List UInt8} (hs : s.length < 1000000) : name_Runes s = some (runesR s []) := by
  have := nrunes_loop hs s.length 0 [] (by omega) (by omega) (by simp)
  simpa [name_Runes] using this
theorem runesR_ok {s : List UInt8} : (runesR s []).2.1 = (runesM s).isSome := by
  unfold runesR; cases runesM s <;> rfl
/-! ### right values -/
def rightV (v : Val) : Bool := decide ((v.1 = 1 ∧ v.2.2.1 = [] ∧ -2147483647 ≤ v.2.1 ∧ v.2.1 ≤ 2147483647) ∨ (v.1 = 2 ∧ v.2.1 = 0 ∧ (runesM v.2.2.1).isSome = true ∧ v.2.2.1.length ≤ 64) ∨ (v.1 = 3 ∧ v.2.2.1 = [] ∧ 0 ≤ v.2.1 ∧ v.2.1 ≤ 1))
theorem valueRight_t {v : Val} (hv : v.2.2.1.length < 1000000) : value_Right v = some (rightV v) := by
  unfold value_Right rightV
  simp only [nrunes_t hv, Option.bind_some, runesR_ok, cond_dec]
  by_cases h1 : v.1 = 1
  · rw [if_pos h1]
    by_cases h2 : v.2.2.1 = []
    · by_cases h3 : v.2.1 ≥ -2147483647
      · simp only [h1, h2, h3]; simp <;> omega
      · simp only [h1, h2]; simp [h3] <;> omega
    · simp [h1, h2]
  rw [if_neg h1]
  by_cases h2 : v.1 = 2
  · rw [if_pos h2]
    cases hr : (runesM v.2.2.1).isSome with
    | true =>
      by_cases h3 : v.2.1 = 0
      · simp only [h2, h3]; simp <;> omega
      · simp [h2, h3]
    | false => simp [h2]
  rw [if_neg h2]
  by_cases h3 : v.1 = 3
  · rw [if_pos h3]
    by_cases h4 : v.2.2.1 = []
    · by_cases h5 : v.2.1 = 0
      · simp [h3, h4, h5]
      · simp only [h3, h4, if_neg h5, if_true, Option.some.injEq, decide_eq_decide, true_and, false_and, and_true, false_or, or_false, decide_true, cond_true]
        omega
    · simp [h3, h4]
  rw [if_neg h3]
  simp [h1, h2, h3]
theorem refRight9_t {v : Val} (hv : v.2.2.1.length < 4294967296) : ref09_Right v = some (rightV v) := by
  unfold ref09_Right rightV
  simp only [runes_t (s := v.2.2.1) (by omega), Option.bind_some, runesR_ok, cond_dec]
  by_cases h1 : v.1 = 1
  · rw [if_pos h1]
    by_cases h2 : v.2.2.1 = []
    · by_cases h3 : v.2.1 ≥ -2147483647
      · simp only [h1, h2, h3]; simp <;> omega
      · simp only [h1, h2]; simp [h3] <;> omega
    · simp [h1, h2]
  rw [if_neg h1]
  by_cases h2 : v.1 = 2
  · rw [if_pos h2]
    cases hr : (runesM v.2.2.1).isSome with
    | true =>
      by_cases h3 : v.2.1 = 0
      · simp only [h2, h3]; simp <;> omega
      · simp [h2, h3]
    | false => by_cases h3 : v.2.1 = 0 <;> simp [h2, h3]
  rw [if_neg h2]
  by_cases h3 : v.1 = 3
  · rw [if_pos h3]
    by_cases h4 : v.2.2.1 = []
    · by_cases h5 : v.2.1 ≥ 0
      · simp only [h3, h4]; simp [h5] <;> omega
      · simp only [h3, h4]; simp [h5] <;> omega
    · simp [h3, h4]
  rw [if_neg h3]
  simp [h1, h2, h3]
end Go.Proofs.YtoddoiemnekffaaDoor.Q

set_option linter.unusedVariables false
set_option linter.unusedSimpArgs false
set_option maxRecDepth 100000
namespace Go.Proofs.YtoddoiemnekffaaDoor.Q
open Go.EM Go.TY Go.Proofs Go.Proofs.YtoddoiemnekffaaDoor.Y Go.Proofs.YtoddoiemnekffaaDoor.K Go.Proofs.YtoddoiemnekffaaDoor.L
/-! ### texts in quotes -/
def specB (b : UInt8) : Bool := decide (b.toNat = 34) || decide (b.toNat = 92)
def spec (c : Int) : Bool := decide (c = 34) || decide (c = 92)
def quoteM (s : List UInt8) : List UInt8 := s.flatMap fun b => if specB b then [92, b] else [b]
theorem quote_cons {b : UInt8} {s : List UInt8} : quoteM (b :: s) = (if specB b then [92, b] else [b]) ++ quoteM s := by unfold quoteM; rw [List.flatMap_cons]
theorem quote_app {s t : List UInt8} : quoteM (s ++ t) = quoteM s ++ quoteM t := by unfold quoteM; rw [List.flatMap_append]
theorem quote_len : ∀ (s : List UInt8), (quoteM s).length ≤ 2 * s.length
  | [] => by simp [quoteM]
  | b :: s => by
    have := quote_len s
    rw [quote_cons, List.length_append, List.length_cons]
    split <;> simp <;> omega
theorem quote_high : ∀ (s : List UInt8), (∀ b ∈ s, 128 ≤ b.toNat) → quoteM s = s
  | [], _ => rfl
  | b :: s, h => by
    have h1 := h b (List.mem_cons_self ..)
    have : specB b = false := by
      simp only [specB, Bool.or_eq_false_iff, decide_eq_false_iff_not]; omega
    rw [quote_cons, this, quote_high s (fun x hx => h x (List.mem_cons_of_mem _ hx))]; rfl
theorem spec_byte {a : UInt8} : spec (a.toNat : Int) = specB a := by
  unfold spec specB
  have h1 : decide ((a.toNat : Int) = 34) = decide (a.toNat = 34) := by rw [decide_eq_decide]; omega
  have h3 : decide ((a.toNat : Int) = 92) = decide (a.toNat = 92) := by rw [decide_eq_decide]; omega
  rw [h1, h3]
theorem quote_step {s : List UInt8} (h0 : (charM s).2 ≠ 0) : quoteM s = (if spec (charM s).1 then [92] else []) ++ encN (charM s).1.toNat ++ quoteM (s.drop (charM s).2) := by
  have hi := charM_int s
  have hv := charM_valid h0
  have hq : quoteM s = quoteM (s.take (charM s).2) ++ quoteM (s.drop (charM s).2) := by rw [← quote_app, List.take_append_drop]
  rw [hq]
  congr 1
  by_cases hc : (charM s).1.toNat < 128
  · have hb : encN (charM s).1.toNat = [UInt8.ofNat (charM s).1.toNat] := by unfold encN; rw [if_pos hc]
    have ht : (UInt8.ofNat (charM s).1.toNat).toNat = (charM s).1.toNat := UInt8.toNat_ofNat_of_lt' (by show _ < 256; omega)
    rw [hv, hb]
    generalize hbb : UInt8.ofNat (charM s).1.toNat = b at ht ⊢
    have hcb : (charM s).1 = (b.toNat : Int) := by omega
    rw [hcb, spec_byte, quote_cons]
    have hnil : quoteM [] = [] := rfl
    rw [hnil, List.append_nil]
    cases specB b <;> rfl
  · have hsp : spec (charM s).1 = false := by
      simp only [spec, Bool.or_eq_false_iff, decide_eq_false_iff_not]; omega
    rw [quote_high _ (by rw [hv]; exact enc_high (by omega) (by omega)), hsp, hv]; rfl
theorem writeRune_t {c : Int} {v : Bool × Unit × Unit} {w : List Int} (hc : Char0 c) (hw : w.length < 4294967000) : ∃ n, strings_Builder_WriteRune c v w = some ((n, false, ()), (true, (), ()), w ++ bI (encN c.toNat), ()) := by
  unfold strings_Builder_WriteRune
  have h : strings_Builder_copyCheck v w = some ((), (true, (), ()), w, ()) := by
    obtain ⟨b, _, _⟩ := v
    unfold strings_Builder_copyCheck
    cases b <;> rfl
  rw [h]
  simp only [Option.bind_some, append_t hc hw]
  exact ⟨_, rfl⟩
theorem bI_92 : bI [92] = [92] := rfl
theorem bI_34 : bI [34] = [34] := rfl
theorem quote_loop {s : List UInt8} (hs : s.length < 1000000) : ∀ (k i : Nat) (out : List UInt8) (b : Bool) (l : List Int), s.length - i ≤ k → i ≤ s.length → out.length ≤ 5 * i + 1 → runesM (s.drop i) = some l →
    loopT (value_quote_l4 s) (bI out, (b, (), ()), i, ()) = some (out ++ quoteM (s.drop i) ++ [34]) := by
  intro k
  have fin : ∀ (i : Nat) (out : List UInt8) (b : Bool), ¬ i < s.length → out.length ≤ 5 * s.length + 1 → loopT (value_quote_l4 s) (bI out, (b, (), ()), i, ()) = some (out ++ quoteM (s.drop i) ++ [34]) := by
    intro i out b hi ho
    refine loopT_inr ?_
    unfold value_quote_l4
    rw [cond_dec, if_neg (by simp only []; exact hi), writeByte_t (by rw [bI_len]; omega)]
    simp only [Option.bind_some]
    rw [← bI_34, ← bI_app, string_t (by rw [List.length_append]; simp only [List.length_cons, List.length_nil]; omega), List.drop_eq_nil_of_le (by omega)]
    simp [quoteM]
  induction k with
  | zero => intro i out b l hk hi ho hl; exact fin i out b (by omega) (by omega)
  | succ k ih =>
    intro i out b l hk hi ho hl
    by_cases hlt : i < s.length
    · have hne : s.drop i ≠ [] := fun e => by have := congrArg List.length e; simp at this; omega
      have hle := charM_le (s.drop i)
      simp only [List.length_drop] at hle
      by_cases h0 : (charM (s.drop i)).2 = 0
      · rw [runesM_none hne h0] at hl; cases hl
      · rw [runesM_step hne h0, List.drop_drop, Option.map_eq_some_iff] at hl
        obtain ⟨l', hl', rfl⟩ := hl
        have hc := charM_char0 h0
        have hstep := quote_step h0
        rw [List.drop_drop] at hstep
        have hen := encN_len (n := (charM (s.drop i)).1.toNat)
        have turn : value_quote_l4 s (bI out, (b, (), ()), i, ()) = some (.inl (bI (out ++ ((if spec (charM (s.drop i)).1 then [92] else []) ++ encN (charM (s.drop i)).1.toNat)), (true, (), ()), i + (charM (s.drop i)).2, ())) := by
          unfold value_quote_l4
          rw [cond_dec, if_pos (by simp only []; exact hlt)]
          have hnat : (((charM (s.drop i)).1.toNat : Nat) : Int) = (charM (s.drop i)).1 := by have := charM_int (s.drop i); omega
          simp only [decode_N hlt, decN, if_neg h0, hnat, Option.bind_some]
          obtain ⟨n2, e2⟩ := writeRune_t (v := (true, (), ())) (w := bI out ++ [92]) hc (by rw [List.length_append, bI_len]; simp only [List.length_cons, List.length_nil]; omega)
          obtain ⟨n1, e1⟩ := writeRune_t (v := (b, (), ())) (w := bI out) hc (by rw [bI_len]; omega)
          have es : spec (charM (s.drop i)).1 = (decide ((charM (s.drop i)).1 = 34) || decide ((charM (s.drop i)).1 = 92)) := rfl
          rw [es]
          cases h34 : decide ((charM (s.drop i)).1 = 34) with
          | true =>
            simp only [cond_true, Bool.true_or, if_true]
            rw [writeByte_t (by rw [bI_len]; omega)]
            simp only [Option.bind_some]
            rw [e2]
            simp only [Option.bind_some]
            rw [← bI_92, ← bI_app, ← bI_app, List.append_assoc]
          | false =>
            simp only [cond_false, Bool.false_or]
            cases h92 : decide ((charM (s.drop i)).1 = 92) with
            | true =>
              simp only [cond_true, if_true]
              rw [writeByte_t (by rw [bI_len]; omega)]
              simp only [Option.bind_some]
              rw [e2]
              simp only [Option.bind_some]
              rw [← bI_92, ← bI_app, ← bI_app, List.append_assoc]
            | false =>
              simp only [cond_false, Bool.false_eq_true, if_false, List.nil_append]
              rw [e1]
              simp only [Option.bind_some]
              rw [← bI_app]
        rw [loopT_inl turn, ih _ _ _ l' (by omega) (by omega) ?_ hl', hstep]
        · simp only [List.append_assoc]
        · have h1 : (if spec (charM (s.drop i)).1 then ([92] : List UInt8) else []).length ≤ 1 := by split <;> simp
          have h5 : ((if spec (charM (s.drop i)).1 then ([92] : List UInt8) else []) ++ encN (charM (s.drop i)).1.toNat).length ≤ 5 * (charM (s.drop i)).2 := by
            rw [List.length_append]; omega
          rw [List.length_append]
          omega
    · exact fin i out b (by omega) (by omega)
theorem quote_t {s : List UInt8} {l : List Int} (hs : s.length < 1000000) (hl : runesM s = some l) : value_quote s = some ([34] ++ quoteM s ++ [34]) := by
  have := quote_loop hs s.length 0 [34] true l (by omega) (by omega) (by simp) (by simpa using hl)
  unfold value_quote
  rw [writeByte_t (by simp)]
  simp only [Option.bind_some, List.nil_append]
  simpa [bI_34] using this
theorem drop_cons' {s : List UInt8} {i : Nat} (h : i < s.length) : s.drop i = s[i] :: s.drop (i + 1) := List.drop_eq_getElem_cons h
theorem refQuote_loop {v : Val} (hs : v.2.2.1.length < 1000000) : ∀ (k i : Nat) (out : List UInt8), v.2.2.1.length - i ≤ k → i ≤ v.2.2.1.length → out.length ≤ 2 * i + 1 → loopT (ref09_Text_l9 v) (out, (i : Int), ()) = some (out ++ quoteM (v.2.2.1.drop i) ++ [34]) := by
  obtain ⟨vk, vn, s, ⟨⟩⟩ := v
  simp only at hs ⊢
  intro k
  have fin : ∀ (i : Nat) (out : List UInt8), ¬ i < s.length → out.length ≤ 3000000 → loopT (ref09_Text_l9 (vk, vn, s, ())) (out, (i : Int), ()) = some (out ++ quoteM (s.drop i) ++ [34]) := by
    intro i out hi ho
    rw [List.drop_eq_nil_of_le (by omega)]
    refine loopT_inr ?_
    unfold ref09_Text_l9
    rw [cond_dec, if_neg (by simp only []; omega), catT_some (by simp; omega)]
    simp [quoteM]
  induction k with
  | zero => intro i out hk hi ho; exact fin i out (by omega) (by omega)
  | succ k ih =>
    intro i out hk hi ho
    by_cases hlt : i < s.length
    · have hd : s.drop i = s[i] :: s.drop (i + 1) := drop_cons' hlt
      have w1 : IntKind.wrap .i64 ((i : Int) + 1) = ((i + 1 : Nat) : Int) := by rw [wrap64 (by omega) (by omega)]; rfl
      have hsub : subI s (i : Int) ((i + 1 : Nat) : Int) = some [s[i]] := by
        rw [subI_nat (by omega) (by omega), List.drop_take, hd]
        have e : i + 1 - i = 1 := by omega
        rw [e]; rfl
      have hbl : (if specB s[i] then ([92, s[i]] : List UInt8) else [s[i]]).length ≤ 2 := by split <;> simp
      rw [loopT_inl (b := (out ++ (if specB s[i] then [92, s[i]] else [s[i]]), ((i + 1 : Nat) : Int), ())), ih _ _ (by omega) (by omega) (by rw [List.length_append]; omega), hd, quote_cons]
      · simp only [List.append_assoc]
      unfold ref09_Text_l9
      have hc1 : catT out [92] = some (out ++ [92]) := catT_some (by simp; omega)
      have hc2 : ∀ (o : List UInt8), o.length ≤ 2 * i + 2 → catT o [s[i]] = some (o ++ [s[i]]) := fun o h => catT_some (by simp; omega)
      simp only [cond_dec, if_pos (show (i : Int) < (s.length : Int) by omega), atI_nat, List.getElem?_eq_getElem hlt, Option.bind_some, w1, hsub, hc1]
      have e1 : ((s[i].toNat : Int) = 34) ↔ s[i].toNat = 34 := by omega
      have e3 : ((s[i].toNat : Int) = 92) ↔ s[i].toNat = 92 := by omega
      simp only [e1, e3, specB]
      have hl1 : (out ++ [92] : List UInt8).length ≤ 2 * i + 2 := by simp; omega
      by_cases h1 : s[i].toNat = 34
      · simp [h1, hc2 _ hl1]
      · by_cases h3 : s[i].toNat = 92
        · simp [h1, h3, hc2 _ hl1]
        · simp [h1, h3, hc2 out (by omega)]
    · exact fin i out hlt (by omega)
/-! ### a right value's text -/
def textV (v : Val) : List UInt8 := if v.1 = 1 then Lib.itoa v.2.1 else if v.1 = 3 then (if v.2.1 = 1 then [116, 114, 117, 101] else [102, 97, 108, 115, 101]) else [34] ++ quoteM v.2.2.1 ++ [34]
theorem rightV_cases {v : Val} (h : rightV v = true) : (∃ n : Int, v = (1, n, [], ()) ∧ -2147483647 ≤ n ∧ n ≤ 2147483647) ∨ (∃ s l, v = (2, 0, s, ()) ∧ runesM s = some l ∧ s.length ≤ 64) ∨ v = (3, 0, [], ()) ∨ v = (3, 1, [], ()) := by
  obtain ⟨k, n, s, ⟨⟩⟩ := v
  unfold rightV at h
  simp only [decide_eq_true_eq] at h
  rcases h with ⟨rfl, rfl, h1, h2⟩ | ⟨rfl, rfl, h1, h2⟩ | ⟨rfl, rfl, h1, h2⟩
  · exact .inl ⟨n, rfl, h1, h2⟩
  · cases hr : runesM s with
    | none => rw [hr] at h1; cases h1
    | some l => exact .inr (.inl ⟨s, l, rfl, hr, h2⟩)
  · have : n = 0 ∨ n = 1 := by omega
    rcases this with rfl | rfl
    · exact .inr (.inr (.inl rfl))
    · exact .inr (.inr (.inr rfl))
theorem valueText_t {v : Val} (h : rightV v = true) : value_Text v = some (textV v) := by
  rcases rightV_cases h with ⟨n, rfl, h1, h2⟩ | ⟨s, l, rfl, h1, h2⟩ | rfl | rfl
  · unfold value_Text textV
    simp only [strItoa_t (show inR n from ⟨by omega, by omega⟩)]
    rfl
  · unfold value_Text textV
    simp only [quote_t (by omega) h1]
    rfl
  · rfl
  · rfl
theorem refText9_t {v : Val} (h : rightV v = true) : ref09_Text v = some (textV v) := by
  rcases rightV_cases h with ⟨n, rfl, h1, h2⟩ | ⟨s, l, rfl, h1, h2⟩ | rfl | rfl
  · unfold ref09_Text textV
    simp only [digits_t (show (-9223372036854775808 : Int) ≤ n by omega) (by omega)]
    rfl
  · unfold ref09_Text textV
    have := refQuote_loop (v := (2, 0, s, ())) (by simp only []; omega) s.length 0 [34] (by simp) (by omega) (by simp)
    simp only [List.drop_zero] at this
    simpa using this
  · rfl
  · rfl
/-! ### a right value's bytes -/
def foldM (n : Int) : Int := if n < 0 then -2 * n - 1 else 2 * n
def codeV (v : Val) : List UInt8 := if v.1 = 2 then intM 2 ++ (intM v.2.2.1.length ++ v.2.2.1) else intM v.1.toNat ++ intM (foldM v.2.1).toNat
theorem fold_t {n : Int} (h : -2147483648 ≤ n) (h2 : n ≤ 2147483647) : value_Fold n = some (foldM n) := by
  unfold value_Fold foldM
  simp only [cond_dec]
  by_cases h1 : n < 0
  · rw [if_pos h1, if_pos h1, wrap64 (n := -2 * n) (by omega) (by omega), wrap64 (by omega) (by omega)]
  · rw [if_neg h1, if_neg h1, wrap64 (by omega) (by omega)]
theorem refFold_t {n : Int} (h : -2147483648 ≤ n) (h2 : n ≤ 2147483647) : ref09_Fold n = some (foldM n) := by
  unfold ref09_Fold foldM
  simp only [cond_dec]
  by_cases h1 : n < 0
  · rw [if_pos h1, if_pos h1, wrap64 (n := 0 - n) (by omega) (by omega), wrap64 (n := 0 - n - n) (by omega) (by omega), wrap64 (by omega) (by omega)]
    congr 1; omega
  · rw [if_neg h1, if_neg h1, wrap64 (by omega) (by omega)]
    congr 1; omega
theorem fold_le {n : Int} (h : -2147483648 ≤ n) (h2 : n ≤ 2147483647) : 0 ≤ foldM n ∧ foldM n ≤ 4294967295 := by
  unfold foldM
  split <;> omega
theorem code_parts {v : Val} (h : rightV v = true) : -2147483648 ≤ v.2.1 ∧ v.2.1 ≤ 2147483647 ∧ 1 ≤ v.1 ∧ v.1 ≤ 3 ∧ v.2.2.1.length ≤ 64 := by
  rcases rightV_cases h with ⟨n, rfl, h1, h2⟩ | ⟨s, l, rfl, h1, h2⟩ | rfl | rfl
  · simp; omega
  · simp; omega
  · simp
  · simp
theorem cat_int {a : Nat} {t : List UInt8} (ha : a < 128 ^ 7) (ht : t.length < 100000) : catT (intM a) t = some (intM a ++ t) := by
  have := intM_len 7 a ha
  exact catT_some (by omega)
theorem valueCode_t {v : Val} (h : rightV v = true) : value_Code v = some (codeV v) := by
  obtain ⟨h1, h2, h3, h4, h5⟩ := code_parts h
  have hf := fold_le h1 h2
  unfold value_Code codeV pack_Text
  simp only [packInt_t (show v.1 ≤ 9223372036854775807 by omega), packInt_t (show (v.2.2.1.length : Int) ≤ 9223372036854775807 by omega), fold_t h1 h2, packInt_t (show foldM v.2.1 ≤ 9223372036854775807 by omega), Option.bind_some, cond_dec, Int.toNat_natCast]
  have hl := intM_len 7 v.2.2.1.length (by simp only [Nat.reducePow]; omega)
  have hl2 := intM_len 7 (foldM v.2.1).toNat (by simp only [Nat.reducePow]; omega)
  by_cases hk : v.1 = 2
  · rw [if_pos hk, if_pos hk, cat_int (by simp only [Nat.reducePow]; omega) (by omega), hk]
    simp only [Option.bind_some]
    rw [show (2 : Int).toNat = 2 from rfl, cat_int (by simp only [Nat.reducePow]; omega) (by rw [List.length_append]; omega)]
    rfl
  · rw [if_neg hk, if_neg hk, cat_int (by simp only [Nat.reducePow]; omega) (by omega)]
    rfl
theorem refCode9_t {v : Val} (h : rightV v = true) : ref09_Code v = some (codeV v) := by
  obtain ⟨h1, h2, h3, h4, h5⟩ := code_parts h
  have hf := fold_le h1 h2
  unfold ref09_Code codeV ref02_Text
  simp only [refInt_t (show v.1 ≤ 9223372036854775807 by omega), refInt_t (show (2 : Int) ≤ 9223372036854775807 by omega), refInt_t (show (v.2.2.1.length : Int) ≤ 9223372036854775807 by omega), refFold_t h1 h2, refInt_t (show foldM v.2.1 ≤ 9223372036854775807 by omega), Option.bind_some, cond_dec, Int.toNat_natCast]
  have hl := intM_len 7 v.2.2.1.length (by simp only [Nat.reducePow]; omega)
  have hl2 := intM_len 7 (foldM v.2.1).toNat (by simp only [Nat.reducePow]; omega)
  by_cases hk : v.1 = 2
  · rw [if_pos hk, if_pos hk, cat_int (by simp only [Nat.reducePow]; omega) (by omega)]
    simp only [Option.bind_some]
    rw [show (2 : Int).toNat = 2 from rfl, cat_int (by simp only [Nat.reducePow]; omega) (by rw [List.length_append]; omega)]
    rfl
  · rw [if_neg hk, if_neg hk, cat_int (by simp only [Nat.reducePow]; omega) (by omega)]
    rfl
theorem valueTells_t (a b : Val) : law09_ValueTells a b = some true := by
  unfold law09_ValueTells
  simp only [awake9, Option.bind_some, cond_dec]
  by_cases h1 : (a.2.2.1.length : Int) > 200
  · rw [if_pos h1]
  rw [if_neg h1]
  by_cases h2 : (b.2.2.1.length : Int) > 200
  · rw [if_pos h2]
  rw [if_neg h2]
  simp only [valueRight_t (v := a) (by omega), refRight9_t (v := a) (by omega), valueCompare_t, refCompare9_t (a := a) (b := b) (by omega), Option.bind_some, beq_self_eq_true, Bool.not_true, cond_false, decide_true]
  cases hr : rightV a with
  | false => rfl
  | true => simp only [valueText_t hr, refText9_t hr, valueCode_t hr, refCode9_t hr, Option.bind_some, Bool.not_true, cond_false, if_true]
theorem valueTells_law : ∀ v : law09_ValueTells_T.ps.V, okV law09_ValueTells_T.ps v → law09_ValueTells_T.fn v = some true := fun v _ => valueTells_t v.1 v.2.1
end Go.Proofs.YtoddoiemnekffaaDoor.Q

set_option linter.unusedVariables false
set_option linter.unusedSimpArgs false
set_option maxRecDepth 100000
namespace Go.Proofs.YtoddoiemnekffaaDoor.Q
open Go.EM Go.TY Go.Proofs Go.Proofs.YtoddoiemnekffaaDoor.Y Go.Proofs.YtoddoiemnekffaaDoor.K Go.Proofs.YtoddoiemnekffaaDoor.L
/-! ### numerals, with a sign -/
theorem atoi_itoa {n : Int} (h : -1000000000000 < n) (h2 : n < 1000000000000) : Lib.atoiAll (Lib.itoa n) = .ok n := by
  by_cases h0 : n < 0
  · rw [itoa_neg h0, Lib.atoiAll_minus]
    have hp := dec_pos n.natAbs
    obtain ⟨h1, _⟩ := parse_val _ 0 n.natAbs (val_dec n.natAbs) (by omega)
    unfold Lib.parseMag
    rw [if_neg (by intro e; simp [e] at hp), h1]
    show (if 9223372036854775808 < n.natAbs then Lib.NumEnd.range else Lib.NumEnd.ok (-(n.natAbs : Int))) = _
    rw [if_neg (by omega)]
    congr 1; omega
  · obtain ⟨m, rfl⟩ := Int.eq_ofNat_of_zero_le (show 0 ≤ n by omega)
    rw [itoa_pos]
    exact atoi_dec (by omega)
theorem strAtoi_t {n : Int} (h : -1000000000000 < n) (h2 : n < 1000000000000) : strconv_Atoi (Lib.itoa n) = some (n, false, ()) := by
  have := itoa_len (n := n) (by omega) (by omega)
  unfold strconv_Atoi atoi
  rw [if_pos (by omega), atoi_itoa h h2]
theorem itoa_head {n : Int} : ∃ c r, Lib.itoa n = c :: r ∧ (c.toNat = 45 ∨ digB c) := by
  by_cases h0 : n < 0
  · exact ⟨45, _, itoa_neg h0, .inl rfl⟩
  · obtain ⟨m, rfl⟩ := Int.eq_ofNat_of_zero_le (show 0 ≤ n by omega)
    rw [itoa_pos]
    have hp := dec_pos m
    have hd := dec_digits m
    cases hl : Lib.decDigits m with
    | nil => rw [hl] at hp; simp at hp
    | cons c r => exact ⟨c, r, rfl, .inr (hd c (by rw [hl]; exact List.mem_cons_self ..))⟩
/-! ### out of quotes -/
def unqM : Bool → List UInt8 → List UInt8 × Bool
  | e, [] => ([], e)
  | e, b :: r => if e = false ∧ b.toNat = 92 then unqM true r else (b :: (unqM false r).1, (unqM false r).2)
theorem unq_len : ∀ (e : Bool) (l : List UInt8), (unqM e l).1.length ≤ l.length
  | e, [] => by simp [unqM]
  | e, b :: r => by
    have h1 := unq_len true r
    have h2 := unq_len false r
    simp only [unqM]
    split <;> simp <;> omega
theorem unq_quote : ∀ t : List UInt8, unqM false (quoteM t) = (t, false)
  | [] => rfl
  | b :: t => by
    have ih := unq_quote t
    rw [quote_cons]
    cases hb : specB b with
    | true =>
      simp only [if_true, List.cons_append, List.nil_append]
      simp [unqM, ih]
    | false =>
      have h2 : ¬ b.toNat = 92 := by
        simp only [specB, Bool.or_eq_false_iff, decide_eq_false_iff_not] at hb; exact hb.2
      simp only [Bool.false_eq_true, if_false, List.cons_append, List.nil_append]
      simp [unqM, ih, h2]
theorem bI_byte (b : UInt8) : bI [b] = [(b.toNat : Int)] := rfl
theorem unq_loop {s : List UInt8} (hs : s.length < 1000000) : ∀ (k i : Nat) (out : List UInt8) (e b : Bool), s.length - 1 - i ≤ k → 1 ≤ i → i ≤ s.length - 1 → out.length ≤ i →
    ∃ b', loopT (value_unquote_l6 s) (e, (i : Int), bI out, (b, (), ()), ()) = some (.inl ((unqM e ((s.take (s.length - 1)).drop i)).2, bI (out ++ (unqM e ((s.take (s.length - 1)).drop i)).1), (b', (), ()), ())) := by
  intro k
  have fin : ∀ (i : Nat) (out : List UInt8) (e b : Bool), 1 ≤ s.length → ¬ i < s.length - 1 → ∃ b', loopT (value_unquote_l6 s) (e, (i : Int), bI out, (b, (), ()), ()) = some (.inl ((unqM e ((s.take (s.length - 1)).drop i)).2, bI (out ++ (unqM e ((s.take (s.length - 1)).drop i)).1), (b', (), ()), ())) := by
    intro i out e b h1 hi
    refine ⟨b, loopT_inr ?_⟩
    have : (s.take (s.length - 1)).drop i = [] := List.drop_eq_nil_of_le (by rw [List.length_take]; omega)
    rw [this]
    unfold value_unquote_l6
    rw [cond_dec, wrap64 (by omega) (by omega), if_neg (by simp only []; omega)]
    simp [unqM]
  induction k with
  | zero => intro i out e b hk h1 hi ho; exact fin i out e b (by omega) (by omega)
  | succ k ih =>
    intro i out e b hk h1 hi ho
    by_cases hlt : i < s.length - 1
    · have hls : i < s.length := by omega
      have hd : (s.take (s.length - 1)).drop i = s[i] :: (s.take (s.length - 1)).drop (i + 1) := by
        rw [List.drop_eq_getElem_cons (by rw [List.length_take]; omega)]
        congr 1
        simp
      rw [hd]
      simp only [unqM]
      have w1 : IntKind.wrap .i64 ((i : Int) + 1) = ((i + 1 : Nat) : Int) := by rw [wrap64 (by omega) (by omega)]; rfl
      have hw : IntKind.wrap .i64 ((s.length : Int) - 1) = (s.length : Int) - 1 := wrap64 (by omega) (by omega)
      by_cases hc : e = false ∧ s[i].toNat = 92
      · rw [if_pos hc]
        obtain ⟨rfl, h92⟩ := hc
        rw [loopT_inl (b := (true, ((i + 1 : Nat) : Int), bI out, (b, (), ()), ()))]
        · exact ih (i + 1) out true b (by omega) (by omega) (by omega) (by omega)
        · unfold value_unquote_l6
          rw [cond_dec, hw, if_pos (by simp only []; omega)]
          simp only [atI_nat, List.getElem?_eq_getElem hls, Option.bind_some, cond_dec, Bool.not_false, cond_true]
          rw [if_pos (by omega), bind_join_inr, w1]
      · rw [if_neg hc]
        have turn : value_unquote_l6 s (e, (i : Int), bI out, (b, (), ()), ()) = some (.inl (false, ((i + 1 : Nat) : Int), bI (out ++ [s[i]]), (true, (), ()), ())) := by
          unfold value_unquote_l6
          rw [cond_dec, hw, if_pos (by simp only []; omega)]
          simp only [atI_nat, List.getElem?_eq_getElem hls, Option.bind_some, cond_dec]
          have e1 : (if (s[i].toNat : Int) = 92 then (some (.inr (.inl (true, IntKind.wrap .i64 ((i : Int) + 1), bI out, (b, (), ()), ()))) : Option ((List Int × (Bool × Unit × Unit) × Unit) ⊕ ((Bool × Int × List Int × (Bool × Unit × Unit) × Unit) ⊕ ((Bool × List Int × (Bool × Unit × Unit) × Unit) ⊕ (List UInt8 × Bool × Unit))))) else some (.inl (bI out, (b, (), ()), ()))) = if s[i].toNat = 92 then some (.inr (.inl (true, IntKind.wrap .i64 ((i : Int) + 1), bI out, (b, (), ()), ()))) else some (.inl (bI out, (b, (), ()), ())) := by
            by_cases h : s[i].toNat = 92
            · rw [if_pos (by omega), if_pos h]
            · rw [if_neg (by omega), if_neg h]
          have e2 : (cond (!e) (if (s[i].toNat : Int) = 92 then (some (.inr (.inl (true, IntKind.wrap .i64 ((i : Int) + 1), bI out, (b, (), ()), ()))) : Option ((List Int × (Bool × Unit × Unit) × Unit) ⊕ ((Bool × Int × List Int × (Bool × Unit × Unit) × Unit) ⊕ ((Bool × List Int × (Bool × Unit × Unit) × Unit) ⊕ (List UInt8 × Bool × Unit))))) else some (.inl (bI out, (b, (), ()), ()))) (some (.inl (bI out, (b, (), ()), ())))) = some (.inl (bI out, (b, (), ()), ())) := by
            cases e with
            | true => rfl
            | false =>
              have h92 : ¬ s[i].toNat = 92 := fun h => hc ⟨rfl, h⟩
              simp only [Bool.not_false, cond_true]
              rw [if_neg (by omega)]
          rw [e2, bind_join_inl]
          simp only []
          rw [writeByte_t (by rw [bI_len]; omega)]
          simp only [Option.bind_some]
          rw [← bI_byte, ← bI_app, w1]
        obtain ⟨b', h'⟩ := ih (i + 1) (out ++ [s[i]]) false true (by omega) (by omega) (by omega) (by rw [List.length_append]; simp; omega)
        refine ⟨b', ?_⟩
        rw [loopT_inl turn, h']
        simp only [List.append_assoc, List.cons_append, List.nil_append]
    · exact fin i out e b (by omega) hlt
theorem unquote_any {s : List UInt8} (hs : s.length < 1000000) : ∃ t b, value_unquote s = some (t, b, ()) ∧ t.length ≤ s.length ∧ (∀ m, s = 34 :: (quoteM m ++ [34]) → t = m) := by
  by_cases h2 : s.length < 2
  · refine ⟨[], false, ?_, by simp, ?_⟩
    · unfold value_unquote
      rw [cond_dec, if_pos (by omega)]
    · intro m e
      exfalso
      rw [e] at h2; simp at h2; omega
  have h0 : 0 < s.length := by omega
  have hz : s.length - 1 < s.length := by omega
  have w1 : IntKind.wrap .i64 ((s.length : Int) - 1) = ((s.length - 1 : Nat) : Int) := by rw [wrap64 (by omega) (by omega)]; omega
  have form : value_unquote s = cond (!decide (((s[0]).toNat : Int) = 34)) (some ([], false, ())) (cond (!decide (((s[s.length - 1]).toNat : Int) = 34)) (some ([], false, ())) ((loopT (value_unquote_l6 s) (false, 1, [], (false, (), ()), ()) : Option ((Bool × List Int × (Bool × Unit × Unit) × Unit) ⊕ (List UInt8 × Bool × Unit))).bind (joinS fun v7 =>
      (strings_Builder_String (v7.2.2.1.1, (), ()) v7.2.1).bind fun q8 => some (q8.1, (!v7.1), ())))) := by
    unfold value_unquote
    rw [cond_dec, if_neg (by omega), show (0 : Int) = ((0 : Nat) : Int) from rfl, atI_lt h0, w1, atI_lt hz]
    rfl
  by_cases ha : s[0].toNat = 34
  · by_cases hb : s[s.length - 1].toNat = 34
    · obtain ⟨b', hl⟩ := unq_loop hs (s.length - 1 - 1) 1 [] false false (by omega) (by omega) (by omega) (by simp)
      refine ⟨(unqM false ((s.take (s.length - 1)).drop 1)).1, !(unqM false ((s.take (s.length - 1)).drop 1)).2, ?_, ?_, ?_⟩
      · rw [form, decide_eq_true (by omega), decide_eq_true (by omega)]
        simp only [Bool.not_true, cond_false]
        rw [show ((1 : Int)) = ((1 : Nat) : Int) from rfl, show ([] : List Int) = bI [] from rfl, hl, bind_join_inl]
        simp only [List.nil_append]
        have := unq_len false ((s.take (s.length - 1)).drop 1)
        rw [List.length_drop, List.length_take] at this
        rw [string_t (by omega)]
        rfl
      · have := unq_len false ((s.take (s.length - 1)).drop 1)
        rw [List.length_drop, List.length_take] at this
        omega
      · intro m e
        have : (s.take (s.length - 1)).drop 1 = quoteM m := by
          rw [e]
          simp
        rw [this, unq_quote]
    · refine ⟨[], false, ?_, by simp, ?_⟩
      · rw [form, decide_eq_true (by omega), decide_eq_false (by omega)]; rfl
      · intro m e
        exfalso
        apply hb
        subst e
        simp [List.getElem_append]
  · refine ⟨[], false, ?_, by simp, ?_⟩
    · rw [form, decide_eq_false (by omega)]; rfl
    · intro m e
      exfalso
      apply ha
      subst e
      rfl
/-! ### parsed -/
theorem prefix_t {s : List UInt8} (hs : s.length < 1000000) : strings_HasPrefix s [34] = some (decide (s.head? = some 34)) := by
  unfold strings_HasPrefix stringslite_HasPrefix
  cases s with
  | nil => simp
  | cons c r =>
    rw [cond_dec, if_pos (by simp; omega), show (0 : Int) = ((0 : Nat) : Int) from rfl, show (([34] : List UInt8).length : Int) = ((1 : Nat) : Int) from rfl, subI_nat (by omega) (by simp)]
    simp
/-- What Parse looks at. -/
theorem cand_t {s : List UInt8} (hs : s.length < 1000000) : ∃ v : Val, v.2.2.1.length ≤ s.length ∧ (value_Parse s = if rightV v = true ∧ textV v = s then some (v, 0, ()) else some ((0, 0, [], ()), 19, ())) ∧ ∀ u, rightV u = true → textV u = s → v = u := by
  have fin : ∀ v : Val, v.2.2.1.length ≤ s.length → ((value_Right v).bind fun r5 =>
      cond (!r5) (some ((0, 0, [], ()), 19, ())) ((value_Text v).bind fun r6 =>
      cond (!decide (r6 = s)) (some ((0, 0, [], ()), 19, ())) (some (v, (0 : Int), ())))) = (if rightV v = true ∧ textV v = s then some (v, 0, ()) else some ((0, 0, [], ()), 19, ()) : Option (Val × Int × Unit)) := by
    intro v hv
    rw [valueRight_t (by omega)]
    simp only [Option.bind_some]
    cases hr : rightV v with
    | false => simp
    | true =>
      simp only [Bool.not_true, cond_false]
      rw [valueText_t hr]
      simp only [Option.bind_some]
      by_cases ht : textV v = s
      · simp [ht]
      · simp [ht]
  have heads : ∀ u : Val, rightV u = true → textV u = s → (∃ n, u = (1, n, [], ()) ∧ -2147483647 ≤ n ∧ n ≤ 2147483647 ∧ Lib.itoa n = s) ∨ (∃ m, u = (2, 0, m, ()) ∧ s = 34 :: (quoteM m ++ [34])) ∨ (u = (3, 0, [], ()) ∧ s = [102, 97, 108, 115, 101]) ∨ (u = (3, 1, [], ()) ∧ s = [116, 114, 117, 101]) := by
    intro u hu ht
    rcases rightV_cases hu with ⟨n, rfl, h1, h2⟩ | ⟨m, l, rfl, h1, h2⟩ | rfl | rfl
    · exact .inl ⟨n, rfl, h1, h2, ht⟩
    · refine .inr (.inl ⟨m, rfl, ?_⟩)
      rw [← ht]; rfl
    · exact .inr (.inr (.inl ⟨rfl, ht.symm⟩))
    · exact .inr (.inr (.inr ⟨rfl, ht.symm⟩))
  unfold value_Parse
  rw [prefix_t hs]
  simp only [Option.bind_some]
  have hd : ∀ {m : List UInt8}, s = 34 :: m → s.head? = some 34 := fun e => by rw [e]; rfl
  by_cases hp : s.head? = some 34
  · obtain ⟨t, b, h1, h2, h3⟩ := unquote_any hs
    rw [decide_eq_true hp, h1]
    simp only [cond_true, Option.bind_some, bind_join_inl]
    refine ⟨(2, 0, t, ()), h2, fin (2, 0, t, ()) h2, ?_⟩
    intro u hu ht
    have hr : s.head? = some 34 := hp
    rcases heads u hu ht with ⟨n, rfl, g1, g2, g3⟩ | ⟨m, rfl, g⟩ | ⟨rfl, g⟩ | ⟨rfl, g⟩
    · obtain ⟨c, r', e, hc⟩ := itoa_head (n := n)
      rw [← g3, e] at hr
      cases hr
      rcases hc with hc | hc
      · cases hc
      · have := hc.1; simp at this
    · rw [h3 m g]
    · rw [g] at hr; cases hr
    · rw [g] at hr; cases hr
  · rw [decide_eq_false hp]
    simp only [cond_false, cond_dec]
    by_cases ht : s = [116, 114, 117, 101]
    · rw [if_pos ht, bind_join_inl]
      refine ⟨(3, 1, [], ()), by simp, fin (3, 1, [], ()) (by simp), ?_⟩
      intro u hu hut
      rcases heads u hu hut with ⟨n, rfl, g1, g2, g3⟩ | ⟨m, rfl, g⟩ | ⟨rfl, g⟩ | ⟨rfl, g⟩
      · obtain ⟨c, r', e, hc⟩ := itoa_head (n := n)
        rw [ht, e] at g3
        cases g3
        rcases hc with hc | hc
        · cases hc
        · have := hc.2; simp at this
      · exact absurd (hd g) hp
      · rw [ht] at g; cases g
      · rfl
    rw [if_neg ht]
    by_cases hf : s = [102, 97, 108, 115, 101]
    · rw [if_pos hf, bind_join_inl]
      refine ⟨(3, 0, [], ()), by simp, fin (3, 0, [], ()) (by simp), ?_⟩
      intro u hu hut
      rcases heads u hu hut with ⟨n, rfl, g1, g2, g3⟩ | ⟨m, rfl, g⟩ | ⟨rfl, g⟩ | ⟨rfl, g⟩
      · obtain ⟨c, r', e, hc⟩ := itoa_head (n := n)
        rw [hf, e] at g3
        cases g3
        rcases hc with hc | hc
        · cases hc
        · have := hc.2; simp at this
      · exact absurd (hd g) hp
      · rfl
      · rw [hf] at g; cases g
    rw [if_neg hf]
    obtain ⟨n, e, ha⟩ := atoi_any s (by omega)
    rw [ha]
    simp only [Option.bind_some, bind_join_inl]
    refine ⟨(1, n, [], ()), by simp, fin (1, n, [], ()) (by simp), ?_⟩
    intro u hu hut
    rcases heads u hu hut with ⟨m, rfl, g1, g2, g3⟩ | ⟨m, rfl, g⟩ | ⟨rfl, g⟩ | ⟨rfl, g⟩
    · have := strAtoi_t (n := m) (by omega) (by omega)
      rw [g3, ha] at this
      cases this
      rfl
    · exact absurd (hd g) hp
    · exact absurd g hf
    · exact absurd g ht
theorem parse_of {s : List UInt8} (hs : s.length < 1000000) {v : Val} (h : rightV v = true) (ht : textV v = s) : value_Parse s = some (v, 0, ()) := by
  obtain ⟨u, h1, h2, h3⟩ := cand_t hs
  have := h3 v h ht
  subst this
  rw [h2, if_pos ⟨h, ht⟩]
theorem parse_no {s : List UInt8} (hs : s.length < 1000000) (h : ∀ v, rightV v = true → textV v ≠ s) : value_Parse s = some ((0, 0, [], ()), 19, ()) := by
  obtain ⟨u, h1, h2, h3⟩ := cand_t hs
  rw [h2, if_neg (fun e => h u e.1 e.2)]
theorem text_inj {u v : Val} (hu : rightV u = true) (hv : rightV v = true) (h : textV u = textV v) (hl : (textV u).length < 1000000) : u = v := by
  have h1 := parse_of hl hu rfl
  have h2 := parse_of hl hv h.symm
  rw [h1] at h2
  cases h2
  rfl
end Go.Proofs.YtoddoiemnekffaaDoor.Q

set_option linter.unusedVariables false
set_option linter.unusedSimpArgs false
set_option maxRecDepth 100000
namespace Go.Proofs.YtoddoiemnekffaaDoor.Q
open Go.EM Go.TY Go.Proofs Go.Proofs.YtoddoiemnekffaaDoor.Y Go.Proofs.YtoddoiemnekffaaDoor.K Go.Proofs.YtoddoiemnekffaaDoor.L
/-! ### the reference's numbers -/
theorem num_loop {s : List UInt8} (hs : s.length ≤ 11) : ∀ (k i n : Nat), s.length - i ≤ k → i ≤ s.length → n < 10 ^ i →
    loopT (ref09_number_l9 s) ((n : Int), (i : Int), ()) = (match valM n (s.drop i) with
      | some v => some (.inl ((v : Int), ()))
      | none => some (.inr (0, false, ()))) := by
  intro k
  have fin : ∀ (i n : Nat), ¬ i < s.length → loopT (ref09_number_l9 s) ((n : Int), (i : Int), ()) = (match valM n (s.drop i) with
      | some v => some (.inl ((v : Int), ()))
      | none => some (.inr (0, false, ()))) := by
    intro i n hi
    rw [List.drop_eq_nil_of_le (by omega)]
    simp only [valM]
    refine loopT_inr ?_
    unfold ref09_number_l9
    rw [cond_dec, if_neg (by simp only []; omega)]
  induction k with
  | zero => intro i n hk hi hn; exact fin i n (by omega)
  | succ k ih =>
    intro i n hk hi hn
    by_cases hlt : i < s.length
    · have hb := (s[i]).toNat_lt
      rw [List.drop_eq_getElem_cons hlt]
      simp only [valM]
      have hp : 10 ^ i * 10 = 10 ^ (i + 1) := (Nat.pow_succ ..).symm
      have hp2 : 10 ^ (i + 1) ≤ 10 ^ 11 := Nat.pow_le_pow_right (by omega) (by omega)
      simp only [Nat.reducePow] at hp2
      by_cases hd : 48 ≤ s[i].toNat ∧ s[i].toNat ≤ 57
      · rw [if_pos hd]
        rw [loopT_inl (b := (((n * 10 + (s[i].toNat - 48) : Nat) : Int), ((i + 1 : Nat) : Int), ()))]
        · exact ih (i + 1) _ (by omega) (by omega) (by omega)
        · unfold ref09_number_l9
          rw [cond_dec, if_pos (by simp only []; omega)]
          simp only [atI_nat, List.getElem?_eq_getElem hlt, Option.bind_some, cond_dec]
          rw [if_neg (by omega), if_neg (by omega), wrap64 (n := 10 * (n : Int)) (by omega) (by omega), wrap64 (n := (s[i].toNat : Int)) (by omega) (by omega), wrap64 (n := 10 * (n : Int) + s[i].toNat) (by omega) (by omega), wrap64 (n := 10 * (n : Int) + s[i].toNat - 48) (by omega) (by omega), wrap64 (n := (i : Int) + 1) (by omega) (by omega)]
          congr 3
          omega
      · rw [if_neg hd]
        refine loopT_inr ?_
        unfold ref09_number_l9
        rw [cond_dec, if_pos (by simp only []; omega)]
        simp only [atI_nat, List.getElem?_eq_getElem hlt, Option.bind_some, cond_dec]
        by_cases h48 : (s[i].toNat : Int) < 48
        · rw [if_pos h48]
        · rw [if_neg h48, if_pos (by omega)]
    · exact fin i n hlt
theorem val_le : ∀ (l : List UInt8) (n m : Nat), valM n l = some m → m < (n + 1) * 10 ^ l.length
  | [], n, m, h => by simp only [valM] at h; cases h; simp
  | c :: r, n, m, h => by
    simp only [valM] at h
    split at h
    · have := val_le r _ m h
      rw [List.length_cons, Nat.pow_succ]
      have h2 : (n * 10 + (c.toNat - 48) + 1) * 10 ^ r.length ≤ ((n + 1) * 10) * 10 ^ r.length := Nat.mul_le_mul_right _ (by omega)
      calc m < (n * 10 + (c.toNat - 48) + 1) * 10 ^ r.length := this
        _ ≤ ((n + 1) * 10) * 10 ^ r.length := h2
        _ = (n + 1) * (10 ^ r.length * 10) := by rw [Nat.mul_assoc, Nat.mul_comm 10]
    · cases h
theorem number_t {s : List UInt8} (hs : s.length < 1000000) : ∃ n b, ref09_number s = some (n, b, ()) ∧ (b = true → inR n ∧ Lib.itoa n = s) ∧ ∀ m : Int, -2147483647 ≤ m → m ≤ 2147483647 → Lib.itoa m = s → n = m ∧ b = true := by
  have neg : ∃ g : Bool, (cond (decide ((s.length : Int) > 0)) ((atI s 0).bind fun b1 => some ((decide ((b1.toNat : Int) = 45)), ())) (some (false, ())) : Option (Bool × Unit)) = some (g, ()) ∧ (g = true → ∃ r, s = 45 :: r) ∧ (g = false → ∀ r, s ≠ 45 :: r) := by
    cases s with
    | nil => exact ⟨false, rfl, (fun h => by cases h), fun _ r h => by cases h⟩
    | cons c r =>
      refine ⟨decide ((c.toNat : Int) = 45), ?_, fun h => ?_, fun h r' e => ?_⟩
      · rw [cond_dec, if_pos (by rw [List.length_cons]; omega)]; rfl
      · have h := of_decide_eq_true h
        have : c = 45 := UInt8.toNat_inj.1 (by show c.toNat = 45; omega)
        exact ⟨r, by rw [this]⟩
      · cases e
        have h := of_decide_eq_false h
        exact h rfl
  obtain ⟨g, hg, hg1, hg2⟩ := neg
  have head : ∀ m : Int, Lib.itoa m = s → (m < 0 ↔ g = true) := by
    intro m hm
    constructor
    · intro h0
      rw [itoa_neg h0] at hm
      cases hgv : g with
      | true => rfl
      | false => exact absurd hm.symm (hg2 hgv _)
    · intro hgv
      obtain ⟨r, hr⟩ := hg1 hgv
      rcases Int.lt_or_le m 0 with h0 | h0
      · exact h0
      · obtain ⟨k, rfl⟩ := Int.eq_ofNat_of_zero_le h0
        rw [itoa_pos, hr] at hm
        have := dec_digits k 45 (by rw [hm]; exact List.mem_cons_self ..)
        have := this.1
        simp at this
  have lens : ∀ m : Int, -2147483647 ≤ m → m ≤ 2147483647 → Lib.itoa m = s → s.length ≠ (if g then 1 else 0) ∧ s.length ≤ (if g then 1 else 0) + 10 := by
    intro m h1 h2 hm
    have hh := head m hm
    cases hgv : g with
    | true =>
      have h0 := hh.2 hgv
      rw [itoa_neg h0] at hm
      have := dec_pos m.natAbs
      have := dec_len1 9 m.natAbs (by omega)
      rw [← hm]; simp only [List.length_cons, if_true]; omega
    | false =>
      have h0 : ¬ m < 0 := fun h => by have := hh.1 h; rw [hgv] at this; cases this
      obtain ⟨k, rfl⟩ := Int.eq_ofNat_of_zero_le (show 0 ≤ m by omega)
      rw [itoa_pos] at hm
      have := dec_pos k
      have := dec_len1 9 k (by omega)
      rw [← hm]; simp only [Bool.false_eq_true, if_false]; omega
  unfold ref09_number
  rw [hg]
  simp only [Option.bind_some]
  have e1 : (cond g (some (.inl ((1 : Int), ()))) (some (.inl ((0 : Int), ()))) : Option ((Int × Unit) ⊕ (Int × Bool × Unit))) = some (.inl (((if g then 1 else 0 : Nat) : Int), ())) := by cases g <;> rfl
  rw [e1, bind_join_inl]
  generalize hf : (if g then 1 else 0 : Nat) = fr at lens ⊢
  have hfr : fr ≤ 1 := by subst hf; split <;> omega
  simp only [cond_dec]
  by_cases c1 : (s.length : Int) = (fr : Int)
  · rw [if_pos c1]
    refine ⟨0, false, rfl, (fun h => by cases h), fun m h1 h2 hm => ?_⟩
    have := (lens m h1 h2 hm).1
    omega
  rw [if_neg c1, wrap64 (by omega) (by omega)]
  by_cases c2 : (s.length : Int) > (fr : Int) + 10
  · rw [if_pos c2]
    refine ⟨0, false, rfl, (fun h => by cases h), fun m h1 h2 hm => ?_⟩
    have := (lens m h1 h2 hm).2
    omega
  rw [if_neg c2]
  have hl := num_loop (s := s) (by omega) s.length fr 0 (by omega) (by
    subst hf
    cases hgv : g with
    | true => obtain ⟨r, hr⟩ := hg1 hgv; rw [hr]; simp
    | false => simp) (Nat.pos_of_ne_zero (by
      have : 0 < 10 ^ fr := Nat.pow_pos (by omega)
      omega))
  rw [show (((0 : Nat) : Int)) = 0 from rfl] at hl
  rw [hl]
  have vals : ∀ m : Int, Lib.itoa m = s → valM 0 (s.drop fr) = some m.natAbs := by
    intro m hm
    have hh := head m hm
    cases hgv : g with
    | true =>
      have h0 := hh.2 hgv
      rw [itoa_neg h0] at hm
      rw [← hm, ← hf, hgv]
      exact val_dec _
    | false =>
      have h0 : ¬ m < 0 := fun h => by have := hh.1 h; rw [hgv] at this; cases this
      obtain ⟨k, rfl⟩ := Int.eq_ofNat_of_zero_le (show 0 ≤ m by omega)
      rw [itoa_pos] at hm
      rw [← hm, ← hf, hgv]
      exact val_dec _
  cases hv : valM 0 (s.drop fr) with
  | none =>
    simp only [bind_join_inr]
    refine ⟨0, false, rfl, (fun h => by cases h), fun m h1 h2 hm => ?_⟩
    rw [vals m hm] at hv; cases hv
  | some v =>
    simp only [bind_join_inl]
    have hlt := val_le _ _ _ hv
    rw [List.length_drop] at hlt
    have hp : 10 ^ (s.length - fr) ≤ 10 ^ 10 := Nat.pow_le_pow_right (by omega) (by omega)
    simp only [Nat.reducePow, Nat.zero_add, Nat.one_mul] at hp hlt
    have e2 : (cond g (some (.inl (IntKind.wrap .i64 (0 - (v : Int)), ()))) (some (.inl ((v : Int), ()))) : Option ((Int × Unit) ⊕ (Int × Bool × Unit))) = some (.inl ((if g then -(v : Int) else (v : Int)), ())) := by
      cases g with
      | true =>
        simp only [cond_true, if_true]
        rw [wrap64 (by omega) (by omega)]
        congr 3; omega
      | false => rfl
    rw [e2, bind_join_inl]
    have hin : inR (if g then -(v : Int) else (v : Int)) := by
      unfold inR
      cases g with
      | true => simp only [if_true]; omega
      | false => simp only [Bool.false_eq_true, if_false]; omega
    simp only []
    rw [digits_t hin.1 hin.2]
    simp only [Option.bind_some]
    refine ⟨_, _, rfl, fun h => ⟨hin, of_decide_eq_true h⟩, fun m h1 h2 hm => ?_⟩
    have h3 := vals m hm
    rw [hv] at h3
    cases h3
    have hh := head m hm
    have e : (if g then -(m.natAbs : Int) else (m.natAbs : Int)) = m := by
      cases hgv : g with
      | true =>
        have h0 := hh.2 hgv
        simp only [if_true]; omega
      | false =>
        have h0 : ¬ m < 0 := fun h => by have := hh.1 h; rw [hgv] at this; cases this
        simp only [Bool.false_eq_true, if_false]; omega
    exact ⟨e, by rw [e]; exact decide_eq_true hm⟩
/-! ### the reference's texts -/
def unqR : List UInt8 → Option (List UInt8 × List UInt8)
  | [] => some ([], [])
  | b :: r => if b.toNat = 34 then some ([], b :: r) else if b.toNat = 92 then (match r with
      | [] => none
      | c :: r' => if c.toNat = 34 ∨ c.toNat = 92 then (unqR r').map fun p => (c :: p.1, p.2) else none) else (unqR r).map fun p => (b :: p.1, p.2)
theorem unqR_cons (b : UInt8) (r : List UInt8) : unqR (b :: r) = if b.toNat = 34 then some ([], b :: r) else if b.toNat = 92 then (match r with
      | [] => none
      | c :: r' => if c.toNat = 34 ∨ c.toNat = 92 then (unqR r').map fun p => (c :: p.1, p.2) else none) else (unqR r).map fun p => (b :: p.1, p.2) := by rw [unqR.eq_def]
theorem u8_34 {b : UInt8} (h : b.toNat = 34) : b = 34 := UInt8.toNat_inj.1 h
theorem u8_92 {b : UInt8} (h : b.toNat = 92) : b = 92 := UInt8.toNat_inj.1 h
theorem unqR_back : ∀ (k : Nat) (l : List UInt8), l.length ≤ k → ∀ u r, unqR l = some (u, r) → l = quoteM u ++ r ∧ (r = [] ∨ ∃ r', r = 34 :: r') ∧ u.length + r.length ≤ l.length := by
  intro k
  induction k with
  | zero =>
    intro l hl u r h
    have : l = [] := List.eq_nil_of_length_eq_zero (by omega)
    subst this
    simp only [unqR] at h; cases h
    exact ⟨rfl, .inl rfl, by simp⟩
  | succ k ih =>
    intro l hl u r h
    match l, hl, h with
    | [], _, h =>
      simp only [unqR] at h; cases h
      exact ⟨rfl, .inl rfl, by simp⟩
    | b :: t, hl, h =>
      simp only [List.length_cons] at hl
      rw [unqR_cons] at h
      by_cases h34 : b.toNat = 34
      · rw [if_pos h34] at h; cases h
        exact ⟨rfl, .inr ⟨t, by rw [u8_34 h34]⟩, by simp⟩
      rw [if_neg h34] at h
      by_cases h92 : b.toNat = 92
      · rw [if_pos h92] at h
        match t, hl, h with
        | [], _, h => cases h
        | c :: t', hl, h =>
          simp only [List.length_cons] at hl
          simp only at h
          by_cases hc : c.toNat = 34 ∨ c.toNat = 92
          · rw [if_pos hc, Option.map_eq_some_iff] at h
            obtain ⟨p, hp, e⟩ := h
            cases e
            obtain ⟨h1, h2, h3⟩ := ih t' (by omega) p.1 p.2 hp
            have hsp : specB c = true := by
              simp only [specB, Bool.or_eq_true, decide_eq_true_eq]; exact hc
            refine ⟨?_, h2, by simp only [List.length_cons]; omega⟩
            rw [quote_cons, hsp, u8_92 h92]
            simp only [if_true, List.cons_append, List.nil_append]
            rw [← h1]
          · rw [if_neg hc] at h; cases h
      · rw [if_neg h92, Option.map_eq_some_iff] at h
        obtain ⟨p, hp, e⟩ := h
        cases e
        obtain ⟨h1, h2, h3⟩ := ih t (by omega) p.1 p.2 hp
        have hsp : specB b = false := by
          simp only [specB, Bool.or_eq_false_iff, decide_eq_false_iff_not]; exact ⟨h34, h92⟩
        refine ⟨?_, h2, by simp only [List.length_cons]; omega⟩
        rw [quote_cons, hsp]
        simp only [Bool.false_eq_true, if_false, List.cons_append, List.nil_append]
        rw [← h1]
theorem unqR_quote : ∀ t : List UInt8, unqR (quoteM t ++ [34]) = some (t, [34])
  | [] => rfl
  | b :: t => by
    have ih := unqR_quote t
    rw [quote_cons]
    cases hb : specB b with
    | true =>
      have hc : b.toNat = 34 ∨ b.toNat = 92 := by simpa [specB] using hb
      simp only [if_true, List.cons_append, List.nil_append]
      rw [unqR_cons]
      rw [if_neg (by decide), if_pos (by decide)]
      simp only []
      rw [if_pos hc, ih]
      rfl
    | false =>
      simp only [specB, Bool.or_eq_false_iff, decide_eq_false_iff_not] at hb
      simp only [Bool.false_eq_true, if_false, List.cons_append, List.nil_append]
      rw [unqR_cons]
      rw [if_neg hb.1, if_neg hb.2, ih]
      rfl
theorem unqR_loop {s : List UInt8} (hs : s.length < 1000000) (z : Val) : ∀ (k i : Nat) (t : List UInt8), s.length - i ≤ k → i ≤ s.length → t.length ≤ i →
    loopT (ref09_Parse_l13 s) (t, (i : Int), z, ()) = (match unqR (s.drop i) with
      | some p => some (.inl (t ++ p.1, ((s.length - p.2.length : Nat) : Int), z, ()))
      | none => some (.inr ((0, 0, [], ()), false, ()))) := by
  intro k
  have fin : ∀ (i : Nat) (t : List UInt8), i = s.length → loopT (ref09_Parse_l13 s) (t, (i : Int), z, ()) = (match unqR (s.drop i) with
      | some p => some (.inl (t ++ p.1, ((s.length - p.2.length : Nat) : Int), z, ()))
      | none => some (.inr ((0, 0, [], ()), false, ()))) := by
    intro i t hi
    rw [List.drop_eq_nil_of_le (by omega)]
    simp only [unqR]
    refine loopT_inr ?_
    unfold ref09_Parse_l13
    rw [cond_dec, if_neg (by simp only []; omega), hi]
    simp
  induction k using Nat.strongRecOn with
  | _ k ih =>
    intro i t hk hi ht
    by_cases hlt : i < s.length
    · have hd := List.drop_eq_getElem_cons hlt
      have w1 : IntKind.wrap .i64 ((i : Int) + 1) = ((i + 1 : Nat) : Int) := by rw [wrap64 (by omega) (by omega)]; rfl
      have hone : ∀ j : Nat, (hj : j < s.length) → subI s (j : Int) ((j + 1 : Nat) : Int) = some [s[j]] := by
        intro j hj
        rw [subI_nat (by omega) (by omega), List.drop_take, List.drop_eq_getElem_cons hj]
        have e : j + 1 - j = 1 := by omega
        rw [e]; rfl
      rw [hd, unqR_cons]
      by_cases h34 : s[i].toNat = 34
      · rw [if_pos h34]
        simp only []
        refine loopT_inr ?_
        unfold ref09_Parse_l13
        rw [cond_dec, if_pos (by simp only []; omega)]
        simp only [atI_nat, List.getElem?_eq_getElem hlt, Option.bind_some]
        rw [decide_eq_true (by omega)]
        simp only [Bool.not_true, cond_false, List.length_cons, List.length_drop, List.append_nil]
        have : s.length - (s.length - (i + 1) + 1) = i := by omega
        rw [this]
      · rw [if_neg h34]
        by_cases h92 : s[i].toNat = 92
        · rw [if_pos h92]
          by_cases hlt2 : i + 1 < s.length
          · have hd2 := List.drop_eq_getElem_cons hlt2
            rw [hd2]
            simp only []
            by_cases hc : s[i + 1].toNat = 34 ∨ s[i + 1].toNat = 92
            · rw [if_pos hc]
              rw [loopT_inl (b := (t ++ [s[i + 1]], ((i + 1 + 1 : Nat) : Int), z, ()))]
              · rw [ih (k - 2) (by omega) (i + 1 + 1) (t ++ [s[i + 1]]) (by omega) (by omega) (by rw [List.length_append]; simp; omega)]
                cases unqR (s.drop (i + 1 + 1)) with
                | none => rfl
                | some p => simp
              · unfold ref09_Parse_l13
                rw [cond_dec, if_pos (by simp only []; omega)]
                simp only [atI_nat, List.getElem?_eq_getElem hlt, Option.bind_some, w1, List.getElem?_eq_getElem hlt2]
                rw [decide_eq_false (by omega)]
                simp only [Bool.not_false, cond_true, cond_dec]
                rw [if_pos (by omega), if_neg (by omega)]
                have e : (cond (!decide ((s[i + 1].toNat : Int) = 34)) (cond (!decide ((s[i + 1].toNat : Int) = 92)) (some (.inr (.inr (.inr ((0, 0, [], ()), false, ()))))) (some (.inl (((i + 1 : Nat) : Int), z, ())))) (some (.inl (((i + 1 : Nat) : Int), z, ()))) : Option ((Int × (Int × Int × List UInt8 × Unit) × Unit) ⊕ ((List UInt8 × Int × (Int × Int × List UInt8 × Unit) × Unit) ⊕ ((List UInt8 × Int × (Int × Int × List UInt8 × Unit) × Unit) ⊕ ((Int × Int × List UInt8 × Unit) × Bool × Unit))))) = some (.inl (((i + 1 : Nat) : Int), z, ())) := by
                  rcases hc with hc | hc
                  · rw [decide_eq_true (by omega)]; rfl
                  · rw [decide_eq_false (by omega), decide_eq_true (by omega)]; rfl
                rw [e, bind_join_inl]
                simp only []
                rw [wrap64 (n := ((i + 1 : Nat) : Int) + 1) (by omega) (by omega), show (((i + 1 : Nat) : Int) + 1) = ((i + 1 + 1 : Nat) : Int) by omega, hone (i + 1) hlt2]
                simp only [Option.bind_some]
                rw [catT_some (by simp; omega)]
                rfl
            · rw [if_neg hc]
              simp only []
              refine loopT_inr ?_
              unfold ref09_Parse_l13
              rw [cond_dec, if_pos (by simp only []; omega)]
              simp only [atI_nat, List.getElem?_eq_getElem hlt, Option.bind_some, w1, List.getElem?_eq_getElem hlt2]
              rw [decide_eq_false (by omega)]
              simp only [Bool.not_false, cond_true, cond_dec]
              rw [if_pos (by omega), if_neg (by omega), decide_eq_false (by omega), decide_eq_false (by omega)]
              rfl
          · have hnil : s.drop (i + 1) = [] := List.drop_eq_nil_of_le (by omega)
            rw [hnil]
            simp only []
            refine loopT_inr ?_
            unfold ref09_Parse_l13
            rw [cond_dec, if_pos (by simp only []; omega)]
            simp only [atI_nat, List.getElem?_eq_getElem hlt, Option.bind_some, w1]
            rw [decide_eq_false (by omega)]
            simp only [Bool.not_false, cond_true, cond_dec]
            rw [if_pos (by omega), if_pos (by omega)]
            rfl
        · rw [if_neg h92]
          rw [loopT_inl (b := (t ++ [s[i]], ((i + 1 : Nat) : Int), z, ()))]
          · rw [ih (k - 1) (by omega) (i + 1) (t ++ [s[i]]) (by omega) (by omega) (by rw [List.length_append]; simp; omega)]
            cases unqR (s.drop (i + 1)) with
            | none => rfl
            | some p => simp
          · unfold ref09_Parse_l13
            rw [cond_dec, if_pos (by simp only []; omega)]
            simp only [atI_nat, List.getElem?_eq_getElem hlt, Option.bind_some, w1]
            rw [decide_eq_false (by omega)]
            simp only [Bool.not_false, cond_true, cond_dec]
            rw [if_neg (by omega), bind_join_inl]
            simp only []
            rw [w1, hone i hlt]
            simp only [Option.bind_some]
            rw [catT_some (by simp; omega)]
            rfl
    · exact fin i t (by omega)
theorem right_num {n : Int} : rightV (1, n, [], ()) = decide (-2147483647 ≤ n ∧ n ≤ 2147483647) := by
  unfold rightV; simp
/-- The reference's answer. -/
theorem refParse_t {s : List UInt8} (hs : s.length < 1000000) : ∃ v ok, ref09_Parse s = some (v, ok, ()) ∧ (ok = true → rightV v = true ∧ textV v = s) ∧ (ok = false → v = (0, 0, [], ()) ∧ ∀ u, rightV u = true → textV u ≠ s) := by
  have no : ∀ {u v : Val}, rightV u = true → rightV v = true → textV u = s → textV v = s → u = v := fun hu hv h1 h2 => text_inj hu hv (h1.trans h2.symm) (by rw [h1]; exact hs)
  unfold ref09_Parse
  simp only [cond_dec]
  by_cases ht : s = [116, 114, 117, 101]
  · rw [if_pos ht]
    exact ⟨_, _, rfl, fun _ => ⟨rfl, ht.symm⟩, fun h => by cases h⟩
  rw [if_neg ht]
  by_cases hf : s = [102, 97, 108, 115, 101]
  · rw [if_pos hf]
    exact ⟨_, _, rfl, fun _ => ⟨rfl, hf.symm⟩, fun h => by cases h⟩
  rw [if_neg hf]
  have hq : (if (s.length : Int) = 0 then some (.inl (true, (0, 0, [], ()), ())) else (atI s 0).bind fun b1 => some (.inl ((!decide ((b1.toNat : Int) = 34)), (0, 0, [], ()), ())) : Option ((Bool × (Int × Int × List UInt8 × Unit) × Unit) ⊕ ((Int × Int × List UInt8 × Unit) × Bool × Unit))) = some (.inl (!decide (s.head? = some 34), (0, 0, [], ()), ())) := by
    cases s with
    | nil => rfl
    | cons c r =>
      rw [if_neg (by simp; omega), show (0 : Int) = ((0 : Nat) : Int) from rfl, atI_nat]
      simp only [List.getElem?_cons_zero, Option.bind_some, List.head?_cons, Option.some.injEq]
      have : decide ((c.toNat : Int) = 34) = decide (c = 34) := by
        rw [decide_eq_decide]
        constructor
        · intro h; exact u8_34 (by omega)
        · intro h; rw [h]; rfl
      rw [this]
  rw [hq, bind_join_inl]
  simp only []
  by_cases hp : s.head? = some 34
  · rw [decide_eq_true hp]
    simp only [Bool.not_true, cond_false]
    have h1 : 1 ≤ s.length := by cases s with | nil => cases hp | cons _ _ => simp
    have hs1 : s = 34 :: s.drop 1 := by cases s with | nil => cases hp | cons c r => simp only [List.head?_cons, Option.some.injEq] at hp; rw [hp]; rfl
    have hl := unqR_loop hs (0, 0, [], ()) s.length 1 [] (by omega) h1 (by simp)
    rw [show (((1 : Nat) : Int)) = 1 from rfl] at hl
    rw [hl]
    have htx : ∀ u, rightV u = true → textV u = s → ∃ m, u = (2, 0, m, ()) ∧ s.drop 1 = quoteM m ++ [34] := by
      intro u hu hut
      rcases rightV_cases hu with ⟨n, rfl, g1, g2⟩ | ⟨m, l, rfl, g1, g2⟩ | rfl | rfl
      · obtain ⟨c, r', e, hc⟩ := itoa_head (n := n)
        have : Lib.itoa n = s := hut
        rw [← this, e] at hp
        simp only [List.head?_cons, Option.some.injEq] at hp
        rw [hp] at hc
        rcases hc with hc | hc
        · cases hc
        · have := hc.1; simp at this
      · refine ⟨m, rfl, ?_⟩
        rw [← hut]; rfl
      · exact absurd hut.symm hf
      · exact absurd hut.symm ht
    cases hu : unqR (s.drop 1) with
    | none =>
      simp only [bind_join_inr]
      refine ⟨_, _, rfl, (fun h => by cases h), fun _ => ⟨rfl, fun u hu' hut => ?_⟩⟩
      obtain ⟨m, _, e⟩ := htx u hu' hut
      rw [e, unqR_quote] at hu; cases hu
    | some p =>
      obtain ⟨t, r⟩ := p
      simp only [bind_join_inl, List.nil_append]
      obtain ⟨g1, g2, g3⟩ := unqR_back _ _ (Nat.le_refl _) t r hu
      rw [List.length_drop] at g3
      rw [wrap64 (by omega) (by omega)]
      by_cases hr : ((s.length - r.length : Nat) : Int) = (s.length : Int) - 1
      · rw [decide_eq_true hr]
        simp only [Bool.not_true, cond_false]
        have hr34 : r = [34] := by
          rcases g2 with rfl | ⟨r', rfl⟩
          · simp only [List.length_nil] at hr; omega
          · simp only [List.length_cons] at hr g3
            have : r'.length = 0 := by omega
            rw [List.eq_nil_of_length_eq_zero this]
        rw [refRight9_t (v := (2, 0, t, ())) (by simp only []; omega)]
        simp only [Option.bind_some]
        have hts : textV (2, 0, t, ()) = s := by
          rw [hs1, g1, hr34]; rfl
        cases hrt : rightV (2, 0, t, ()) with
        | true =>
          simp only [Bool.not_true, cond_false]
          exact ⟨_, _, rfl, fun _ => ⟨hrt, hts⟩, fun h => by cases h⟩
        | false =>
          simp only [Bool.not_false, cond_true]
          refine ⟨_, _, rfl, (fun h => by cases h), fun _ => ⟨rfl, fun u hu' hut => ?_⟩⟩
          obtain ⟨m, hm, e⟩ := htx u hu' hut
          rw [e, unqR_quote] at hu
          cases hu
          rw [hm] at hu'
          rw [hu'] at hrt; cases hrt
      · rw [decide_eq_false hr]
        simp only [Bool.not_false, cond_true]
        refine ⟨_, _, rfl, (fun h => by cases h), fun _ => ⟨rfl, fun u hu' hut => ?_⟩⟩
        obtain ⟨m, _, e⟩ := htx u hu' hut
        rw [e, unqR_quote] at hu
        cases hu
        apply hr
        simp only [List.length_cons, List.length_nil]; omega
  · rw [decide_eq_false hp]
    simp only [Bool.not_false, cond_true]
    obtain ⟨n, b, g1, g2, g3⟩ := number_t hs
    rw [g1]
    simp only [Option.bind_some]
    have htx : ∀ u, rightV u = true → textV u = s → ∃ m, u = (1, m, [], ()) ∧ -2147483647 ≤ m ∧ m ≤ 2147483647 ∧ Lib.itoa m = s := by
      intro u hu hut
      rcases rightV_cases hu with ⟨m, rfl, k1, k2⟩ | ⟨m, l, rfl, k1, k2⟩ | rfl | rfl
      · exact ⟨m, rfl, k1, k2, hut⟩
      · exact absurd (show s.head? = some 34 by rw [← hut]; rfl) hp
      · exact absurd hut.symm hf
      · exact absurd hut.symm ht
    cases b with
    | false =>
      simp only [Bool.not_false, cond_true]
      refine ⟨_, _, rfl, (fun h => by cases h), fun _ => ⟨rfl, fun u hu' hut => ?_⟩⟩
      obtain ⟨m, _, k1, k2, k3⟩ := htx u hu' hut
      have := (g3 m k1 k2 k3).2
      cases this
    | true =>
      simp only [Bool.not_true, cond_false]
      rw [refRight9_t (v := (1, n, [], ())) (by simp)]
      simp only [Option.bind_some, right_num]
      by_cases hr : -2147483647 ≤ n ∧ n ≤ 2147483647
      · rw [decide_eq_true hr]
        simp only [Bool.not_true, cond_false]
        exact ⟨_, _, rfl, fun _ => ⟨by rw [right_num]; exact decide_eq_true hr, (g2 rfl).2⟩, fun h => by cases h⟩
      · rw [decide_eq_false hr]
        simp only [Bool.not_false, cond_true]
        refine ⟨_, _, rfl, (fun h => by cases h), fun _ => ⟨rfl, fun u hu' hut => ?_⟩⟩
        obtain ⟨m, _, k1, k2, k3⟩ := htx u hu' hut
        have := (g3 m k1 k2 k3).1
        omega
theorem valueParses_t (s : List UInt8) : law09_ValueParses s = some true := by
  unfold law09_ValueParses
  simp only [awake9, Option.bind_some, cond_dec]
  by_cases h1 : (s.length : Int) > 200
  · rw [if_pos h1]
  rw [if_neg h1]
  obtain ⟨v, ok, h2, h3, h4⟩ := refParse_t (s := s) (by omega)
  rw [h2]
  cases ok with
  | true =>
    obtain ⟨h5, h6⟩ := h3 rfl
    rw [parse_of (by omega) h5 h6]
    simp only [Option.bind_some, eqVal]
    simp
  | false =>
    obtain ⟨h5, h6⟩ := h4 rfl
    rw [parse_no (by omega) h6]
    subst h5
    simp only [Option.bind_some, eqVal]
    simp
theorem valueParses_law : ∀ v : law09_ValueParses_T.ps.V, okV law09_ValueParses_T.ps v → law09_ValueParses_T.fn v = some true := fun v _ => valueParses_t v.1
end Go.Proofs.YtoddoiemnekffaaDoor.Q

set_option linter.unusedVariables false
set_option linter.unusedSimpArgs false
set_option maxRecDepth 100000
namespace Go.Proofs.YtoddoiemnekffaaDoor.Q
open Go.EM Go.TY Go.Proofs Go.Proofs.YtoddoiemnekffaaDoor.Y Go.Proofs.YtoddoiemnekffaaDoor.K Go.Proofs.YtoddoiemnekffaaDoor.L
theorem unfold_t {n : Int} (h1 : -2147483648 ≤ n) (h2 : n ≤ 2147483647) : value_Unfold (((foldM n).toNat : Nat) : Int) = some n := by
  have hf := fold_le h1 h2
  have e : (((foldM n).toNat : Nat) : Int) = foldM n := by omega
  unfold value_Unfold
  rw [show (2 : Int) = ((2 : Nat) : Int) from rfl, rem_t (a := (foldM n).toNat) (b := 2) (by omega)]
  simp only [Option.bind_some, cond_dec]
  by_cases h0 : n < 0
  · have ef : (foldM n).toNat = 2 * n.natAbs - 1 := by unfold foldM; rw [if_pos h0]; omega
    rw [if_pos (by rw [ef]; omega), ef, wrap64 (n := (((2 * n.natAbs - 1 : Nat) : Int)) + 1) (by omega) (by omega), wrap64 (by omega) (by omega)]
    have e2 : (0 - (((2 * n.natAbs - 1 : Nat) : Int) + 1)) = n * 2 := by omega
    rw [e2]
    unfold quoT
    have e3 : (n * 2).tdiv ((2 : Nat) : Int) = n := Int.mul_tdiv_cancel n (by decide)
    rw [if_neg (by omega), e3, wrap64 (by omega) (by omega)]
    rfl
  · have ef : (foldM n).toNat = 2 * n.natAbs := by unfold foldM; rw [if_neg h0]; omega
    rw [if_neg (by rw [ef]; omega), ef]
    rw [quo_t (by omega) (by omega)]
    simp only [Option.bind_some]
    congr 1; omega
theorem readText_t {s t : List UInt8} (hs : s.length < 1000) (ht : t.length < 10000) : pack_Reader_Text (intM s.length ++ (s ++ t), 0, ()) = some (s, (t, 0, ()), ()) := by
  unfold pack_Reader_Text
  rw [readInt_t (by simp only [Nat.reducePow]; omega) (by rw [List.length_append]; omega)]
  simp only [Option.bind_some, fine_t, cond_true, cond_dec]
  rw [if_neg (by rw [List.length_append]; omega), bind_join_inl]
  simp only [Bool.not_true, cond_false, fine_t, Option.bind_some]
  rw [show (0 : Int) = ((0 : Nat) : Int) from rfl, subI_nat (by omega) (by rw [List.length_append]; omega), subI_from (by rw [List.length_append]; omega)]
  simp only [Option.bind_some, List.drop_zero]
  rw [List.take_append_of_le_length (Nat.le_refl _), List.take_of_length_le (Nat.le_refl _), List.drop_left]
theorem valueRead_t {v : Val} (h : rightV v = true) : value_Read (codeV v, 0, ()) = some (v, ([], 0, ()), ()) := by
  obtain ⟨h1, h2, h3, h4, h5⟩ := code_parts h
  have hf := fold_le h1 h2
  have fin : ∀ w : Val, w = v → (((pack_Reader_Fault (([] : List UInt8), (0 : Int), ())).bind fun q6 =>
      cond (decide (q6.1 = 0)) ((value_Right w).bind fun r7 =>
      cond (!r7) (
      (pack_Reader_Fail 2 q6.2.1).bind fun q8 =>
      some (.inl (q8.2.1, ((0, 0, [], ()) : Val), w, ()))) (
      some (.inl (q6.2.1, ((0, 0, [], ()) : Val), w, ())))) (some (.inl (q6.2.1, ((0, 0, [], ()) : Val), w, ()))) : Option (((List UInt8 × Int × Unit) × (Int × Int × List UInt8 × Unit) × (Int × Int × List UInt8 × Unit) × Unit) ⊕ ((Int × Int × List UInt8 × Unit) × (List UInt8 × Int × Unit) × Unit))).bind (joinS fun v9 =>
      (pack_Reader_Fault v9.1).bind fun q10 =>
      cond (!decide (q10.1 = 0)) (
      some ((0, 0, [], ()), q10.2.1, ())) (
      some (v9.2.2.1, q10.2.1, ())))) = some (v, ([], 0, ()), ()) := by
    intro w e
    subst e
    simp only [pack_Reader_Fault, Option.bind_some, decide_true, cond_true]
    rw [valueRight_t (by omega), h]
    rfl
  unfold value_Read codeV
  by_cases hk : v.1 = 2
  · rw [if_pos hk, readInt_t (by simp only [Nat.reducePow]; omega) (by
      have := intM_len 7 v.2.2.1.length (by simp only [Nat.reducePow]; omega)
      rw [List.length_append]; omega)]
    have := readText_t (s := v.2.2.1) (t := []) (by omega) (by simp)
    rw [List.append_nil] at this
    simp only [Option.bind_some, cond_dec]
    rw [if_pos (by rfl), this]
    simp only [Option.bind_some, bind_join_inl]
    refine fin _ ?_
    rcases rightV_cases h with ⟨n, rfl, g1, g2⟩ | ⟨s, l, rfl, g1, g2⟩ | rfl | rfl
    · cases hk
    · rfl
    · cases hk
    · cases hk
  · have hl := intM_len 7 (foldM v.2.1).toNat (by simp only [Nat.reducePow]; omega)
    rw [if_neg hk, readInt_t (by simp only [Nat.reducePow]; omega) (by omega)]
    simp only [Option.bind_some, cond_dec]
    have := readInt_t (m := (foldM v.2.1).toNat) (t := []) (by simp only [Nat.reducePow]; omega) (by simp)
    rw [List.append_nil] at this
    rw [if_neg (by omega), this]
    simp only [Option.bind_some, unfold_t h1 h2, bind_join_inl]
    refine fin _ ?_
    rcases rightV_cases h with ⟨n, rfl, g1, g2⟩ | ⟨s, l, rfl, g1, g2⟩ | rfl | rfl
    · rfl
    · exact absurd rfl hk
    · rfl
    · rfl
theorem text_len {v : Val} (h : rightV v = true) : (textV v).length < 1000 := by
  rcases rightV_cases h with ⟨n, rfl, g1, g2⟩ | ⟨s, l, rfl, g1, g2⟩ | rfl | rfl
  · have := itoa_len (n := n) (by omega) (by omega)
    show (Lib.itoa n).length < 1000
    omega
  · have := quote_len s
    show ([34] ++ quoteM s ++ [34]).length < 1000
    simp only [List.length_append, List.length_cons, List.length_nil]; omega
  · decide
  · decide
theorem valueBack_t {a b : Val} (ha : a.2.2.1.length < 4294967296) (hb : b.2.2.1.length < 4294967296) : law09_ValueBack a b = some true := by
  unfold law09_ValueBack
  simp only [awake9, Option.bind_some, refRight9_t ha, refRight9_t hb]
  cases hra : rightV a with
  | false => rfl
  | true =>
    cases hrb : rightV b with
    | false => rfl
    | true =>
      have hla := text_len hra
      simp only [valueText_t hra, valueText_t hrb, valueCode_t hra, Option.bind_some, Bool.not_true, cond_false, pack_Open, parse_of (s := textV a) (by omega) hra rfl, valueRead_t hra, decide_true, cond_true, eqVal, end_t]
      have : (decide (textV a = textV b) == decide (a = b)) = true := by
        rw [beq_iff_eq, decide_eq_decide]
        constructor
        · intro h; exact text_inj hra hrb h (by omega)
        · intro h; rw [h]
      rw [this]; rfl
theorem valueBack_law : ∀ v : law09_ValueBack_T.ps.V, okV law09_ValueBack_T.ps v → lenV law09_ValueBack_T.ps v ≤ 1048576 → law09_ValueBack_T.fn v = some true := fun v _ hl => by
  simp only [law09_ValueBack_T, lenV] at hl
  exact valueBack_t (by omega) (by omega)
end Go.Proofs.YtoddoiemnekffaaDoor.Q
