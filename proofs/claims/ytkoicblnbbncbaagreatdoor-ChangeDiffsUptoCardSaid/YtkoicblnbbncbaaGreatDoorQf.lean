import Derived.Test.YtkoicblnbbncbaaGreatDoorL
import Derived.Test.YtkoicblnbbncbaaGreatDoorT14
import Derived.Test.YtkoicblnbbncbaaGreatDoorT22
import Derived.Lib.AtoiAllCases
set_option linter.unusedVariables false
set_option linter.unusedSimpArgs false
set_option maxRecDepth 100000
namespace Go.Proofs.YtkoicblnbbncbaaGreatDoor.Q
open Go.EM Go.TY Go.Proofs Go.Proofs.YtkoicblnbbncbaaGreatDoor.Y Go.Proofs.YtkoicblnbbncbaaGreatDoor.K Go.Proofs.YtkoicblnbbncbaaGreatDoor.L
/-- A character of a text, and how many bytes it has; none: 0. -/
def charM : List UInt8 → Int × Nat
  | [] => (0, 0)
  | a :: t =>
    if a.toNat < 128 then (a.toNat, 1)
    else if 194 ≤ a.toNat ∧ a.toNat < 224 then (match t with
      | b :: _ => if 128 ≤ b.toNat ∧ b.toNat ≤ 191 then (64 * ((a.toNat : Int) - 192) + b.toNat - 128, 2) else (0, 0)
      | _ => (0, 0))
    else if 224 ≤ a.toNat ∧ a.toNat < 240 then (match t with
      | b :: c :: _ => if (128 ≤ b.toNat ∧ b.toNat ≤ 191) ∧ (128 ≤ c.toNat ∧ c.toNat ≤ 191) then
          let r : Int := 64 * (64 * ((a.toNat : Int) - 224) + b.toNat - 128) + c.toNat - 128
          if r < 2048 ∨ (55296 ≤ r ∧ r ≤ 57343) then (0, 0) else (r, 3)
        else (0, 0)
      | _ => (0, 0))
    else if 240 ≤ a.toNat ∧ a.toNat < 245 then (match t with
      | b :: c :: d :: _ => if (128 ≤ b.toNat ∧ b.toNat ≤ 191) ∧ (128 ≤ c.toNat ∧ c.toNat ≤ 191) ∧ (128 ≤ d.toNat ∧ d.toNat ≤ 191) then
          let r : Int := 64 * (64 * (64 * ((a.toNat : Int) - 240) + b.toNat - 128) + c.toNat - 128) + d.toNat - 128
          if r < 65536 ∨ 1114111 < r then (0, 0) else (r, 4)
        else (0, 0)
      | _ => (0, 0))
    else (0, 0)
/-- One turn of Char. -/
theorem turn17 {s : List UInt8} {q : Int × Int × Int × Unit} {x : Int} {i : Nat} {b : UInt8} (hi : (i : Int) < q.2.1) (hi4 : i ≤ 4) (h : s[i]? = some b) (hx : 0 ≤ x) (hx2 : x ≤ 100000000) :
    ref03_Char_l17 s q (x, (i : Int), ()) = if 128 ≤ b.toNat ∧ b.toNat ≤ 191 then some (.inl (64 * x + b.toNat - 128, ((i + 1 : Nat) : Int), ())) else some (.inr (.inr (0, 0, ()))) := by
  have hb : b.toNat < 256 := b.toNat_lt
  simp only [ref03_Char_l17, atI_nat, h, Option.bind_some, cond_dec, if_pos hi]
  rw [wrap64 (n := 64 * x) (by omega) (by omega), wrap64 (n := (b.toNat : Int)) (by omega) (by omega), wrap64 (n := 64 * x + b.toNat) (by omega) (by omega), wrap64 (n := 64 * x + b.toNat - 128) (by omega) (by omega), wrap64 (n := (i : Int) + 1) (by omega) (by omega)]
  by_cases h1 : b.toNat < 128
  · rw [if_pos (by omega), if_neg (by omega)]
  · rw [if_neg (by omega)]
    by_cases h2 : b.toNat > 191
    · rw [if_pos (by omega), if_neg (by omega)]
    · rw [if_neg (by omega), if_pos (by omega)]; rfl
theorem stop17 {s : List UInt8} {q : Int × Int × Int × Unit} {x : Int} {i : Nat} (hi : ¬ (i : Int) < q.2.1) : ref03_Char_l17 s q (x, (i : Int), ()) = some (.inr (.inl (x, ()))) := by
  simp only [ref03_Char_l17, cond_dec, if_neg hi]
theorem loop17_2 {a b : UInt8} {t : List UInt8} {l : Int} {c x : Int} (hx : 0 ≤ x) (hx2 : x ≤ 1000) :
    loopT (ref03_Char_l17 (a :: b :: t) (c, 2, l, ())) (x, 1, ()) = if 128 ≤ b.toNat ∧ b.toNat ≤ 191 then some (.inl (64 * x + b.toNat - 128, ())) else some (.inr (0, 0, ())) := by
  have h := turn17 (s := a :: b :: t) (q := (c, 2, l, ())) (i := 1) (b := b) (x := x) (by simp) (by omega) rfl hx (by omega)
  by_cases hb : 128 ≤ b.toNat ∧ b.toNat ≤ 191
  · rw [if_pos hb] at h ⊢
    exact (loopT_inl h).trans (loopT_inr (stop17 (by simp)))
  · rw [if_neg hb] at h ⊢
    exact loopT_inr h
theorem loop17_3 {a b d : UInt8} {t : List UInt8} {l : Int} {c x : Int} (hx : 0 ≤ x) (hx2 : x ≤ 1000) :
    loopT (ref03_Char_l17 (a :: b :: d :: t) (c, 3, l, ())) (x, 1, ()) = if (128 ≤ b.toNat ∧ b.toNat ≤ 191) ∧ (128 ≤ d.toNat ∧ d.toNat ≤ 191) then some (.inl (64 * (64 * x + b.toNat - 128) + d.toNat - 128, ())) else some (.inr (0, 0, ())) := by
  have hb' := b.toNat_lt
  have h := turn17 (s := a :: b :: d :: t) (q := (c, 3, l, ())) (i := 1) (b := b) (x := x) (by simp) (by omega) rfl hx (by omega)
  by_cases hb : 128 ≤ b.toNat ∧ b.toNat ≤ 191
  · rw [if_pos hb] at h
    have h2 := turn17 (s := a :: b :: d :: t) (q := (c, 3, l, ())) (i := 2) (b := d) (x := 64 * x + b.toNat - 128) (by simp) (by omega) rfl (by omega) (by omega)
    by_cases hd : 128 ≤ d.toNat ∧ d.toNat ≤ 191
    · rw [if_pos hd] at h2
      rw [if_pos ⟨hb, hd⟩]
      exact ((loopT_inl h).trans (loopT_inl h2)).trans (loopT_inr (stop17 (by simp)))
    · rw [if_neg hd] at h2
      rw [if_neg (fun e => hd e.2)]
      exact (loopT_inl h).trans (loopT_inr h2)
  · rw [if_neg hb] at h
    rw [if_neg (fun e => hb e.1)]
    exact loopT_inr h
theorem loop17_4 {a b d e : UInt8} {t : List UInt8} {l : Int} {c x : Int} (hx : 0 ≤ x) (hx2 : x ≤ 1000) :
    loopT (ref03_Char_l17 (a :: b :: d :: e :: t) (c, 4, l, ())) (x, 1, ()) = if (128 ≤ b.toNat ∧ b.toNat ≤ 191) ∧ (128 ≤ d.toNat ∧ d.toNat ≤ 191) ∧ (128 ≤ e.toNat ∧ e.toNat ≤ 191) then some (.inl (64 * (64 * (64 * x + b.toNat - 128) + d.toNat - 128) + e.toNat - 128, ())) else some (.inr (0, 0, ())) := by
  have hb' := b.toNat_lt
  have hd' := d.toNat_lt
  have h := turn17 (s := a :: b :: d :: e :: t) (q := (c, 4, l, ())) (i := 1) (b := b) (x := x) (by simp) (by omega) rfl hx (by omega)
  by_cases hb : 128 ≤ b.toNat ∧ b.toNat ≤ 191
  · rw [if_pos hb] at h
    have h2 := turn17 (s := a :: b :: d :: e :: t) (q := (c, 4, l, ())) (i := 2) (b := d) (x := 64 * x + b.toNat - 128) (by simp) (by omega) rfl (by omega) (by omega)
    by_cases hd : 128 ≤ d.toNat ∧ d.toNat ≤ 191
    · rw [if_pos hd] at h2
      have h3 := turn17 (s := a :: b :: d :: e :: t) (q := (c, 4, l, ())) (i := 3) (b := e) (x := 64 * (64 * x + b.toNat - 128) + d.toNat - 128) (by simp) (by omega) rfl (by omega) (by omega)
      by_cases he : 128 ≤ e.toNat ∧ e.toNat ≤ 191
      · rw [if_pos he] at h3
        rw [if_pos ⟨hb, hd, he⟩]
        exact (((loopT_inl h).trans (loopT_inl h2)).trans (loopT_inl h3)).trans (loopT_inr (stop17 (by simp)))
      · rw [if_neg he] at h3
        rw [if_neg (fun q => he q.2.2)]
        exact ((loopT_inl h).trans (loopT_inl h2)).trans (loopT_inr h3)
    · rw [if_neg hd] at h2
      rw [if_neg (fun q => hd q.2.1)]
      exact (loopT_inl h).trans (loopT_inr h2)
  · rw [if_neg hb] at h
    rw [if_neg (fun q => hb q.1)]
    exact loopT_inr h
theorem char_t (s : List UInt8) : ref03_Char s = some ((charM s).1, ((charM s).2 : Int), ()) := by
  cases s with
  | nil => simp [ref03_Char, charM]
  | cons a t =>
    have ha : a.toNat < 256 := a.toNat_lt
    have h0 : ¬ (((a :: t).length : Int) = 0) := by simp only [List.length_cons]; omega
    have hi : atI (a :: t) 0 = some a := by simp [atI]
    unfold ref03_Char
    simp only [cond_dec, if_neg h0, hi, Option.bind_some, and_join, ite_and2, ite_or2]
    rw [wrap64 (n := (a.toNat : Int)) (by omega) (by omega)]
    by_cases c1 : a.toNat < 128
    · rw [if_pos (by omega)]
      simp only [bind_join_inr, charM, if_pos c1]; rfl
    rw [if_neg (by omega)]
    by_cases c2 : 194 ≤ a.toNat ∧ a.toNat < 224
    · rw [if_pos (by omega), wrap64 (by omega) (by omega)]
      simp only [bind_join_inl]
      match t with
      | [] => simp [charM, c1, c2]
      | b :: t =>
        rw [if_neg (by simp only [List.length_cons]; omega), loop17_2 (by omega) (by omega)]
        by_cases hb : 128 ≤ b.toNat ∧ b.toNat ≤ 191
        · rw [if_pos hb]
          simp only [bind_join_inl]
          rw [guard_join, if_neg (by omega)]
          simp only [charM, c1, c2, hb, if_true, if_false, and_self]; rfl
        · rw [if_neg hb]
          simp only [bind_join_inr]
          simp [charM, c1, c2, hb]
    rw [if_neg (by omega)]
    by_cases c3 : 224 ≤ a.toNat ∧ a.toNat < 240
    · rw [if_pos (by omega), wrap64 (by omega) (by omega)]
      simp only [bind_join_inl]
      match t with
      | [] => simp [charM, c1, c2, c3]
      | [b] => simp [charM, c1, c2, c3]
      | b :: c :: t =>
        have hb := b.toNat_lt
        have hc := c.toNat_lt
        rw [if_neg (by simp only [List.length_cons]; omega), loop17_3 (by omega) (by omega)]
        by_cases hb' : (128 ≤ b.toNat ∧ b.toNat ≤ 191) ∧ (128 ≤ c.toNat ∧ c.toNat ≤ 191)
        · rw [if_pos hb']
          simp only [bind_join_inl]
          rw [guard_join]
          simp only [charM, c1, c2, c3, hb', if_true, if_false, and_self]
          by_cases hr : 64 * (64 * ((a.toNat : Int) - 224) + b.toNat - 128) + c.toNat - 128 < 2048 ∨ (55296 ≤ 64 * (64 * ((a.toNat : Int) - 224) + b.toNat - 128) + c.toNat - 128 ∧ 64 * (64 * ((a.toNat : Int) - 224) + b.toNat - 128) + c.toNat - 128 ≤ 57343)
          · rw [if_pos (by omega), if_pos hr]; rfl
          · rw [if_neg (by omega), if_neg hr]; rfl
        · rw [if_neg hb']
          simp only [bind_join_inr]
          simp [charM, c1, c2, c3, hb']
    rw [if_neg (by omega)]
    by_cases c4 : 240 ≤ a.toNat ∧ a.toNat < 245
    · rw [if_pos (by omega), wrap64 (by omega) (by omega)]
      simp only [bind_join_inl]
      match t with
      | [] => simp [charM, c1, c2, c3, c4]
      | [b] => simp [charM, c1, c2, c3, c4]
      | [b, c] => simp [charM, c1, c2, c3, c4]
      | b :: c :: d :: t =>
        have hb := b.toNat_lt
        have hc := c.toNat_lt
        have hd := d.toNat_lt
        rw [if_neg (by simp only [List.length_cons]; omega), loop17_4 (by omega) (by omega)]
        by_cases hb' : (128 ≤ b.toNat ∧ b.toNat ≤ 191) ∧ (128 ≤ c.toNat ∧ c.toNat ≤ 191) ∧ (128 ≤ d.toNat ∧ d.toNat ≤ 191)
        · rw [if_pos hb']
          simp only [bind_join_inl]
          rw [guard_join]
          simp only [charM, c1, c2, c3, c4, hb', if_true, if_false, and_self]
          by_cases hr : 64 * (64 * (64 * ((a.toNat : Int) - 240) + b.toNat - 128) + c.toNat - 128) + d.toNat - 128 < 65536 ∨ 1114111 < 64 * (64 * (64 * ((a.toNat : Int) - 240) + b.toNat - 128) + c.toNat - 128) + d.toNat - 128
          · rw [if_pos (by omega), if_pos hr]; rfl
          · rw [if_neg (by omega), if_neg hr]; rfl
        · rw [if_neg hb']
          simp only [bind_join_inr]
          simp [charM, c1, c2, c3, c4, hb']
    rw [if_neg (by omega)]
    simp only [bind_join_inr]
    simp [charM, c1, c2, c3, c4]
theorem charM_le (s : List UInt8) : (charM s).2 ≤ s.length := by
  unfold charM
  repeat' split
  all_goals (try simp only [])
  all_goals (try split)
  all_goals (try simp only [List.length_cons])
  all_goals omega
theorem charM_four {s : List UInt8} : (charM s).2 ≤ 4 := by
  unfold charM
  repeat' split
  all_goals (try simp only [])
  all_goals (try split)
  all_goals omega
theorem charM_int (s : List UInt8) : 0 ≤ (charM s).1 ∧ (charM s).1 ≤ 1114111 := by
  unfold charM
  repeat' split
  all_goals (try simp only [])
  all_goals (try split)
  all_goals (try simp only [])
  all_goals omega
/-- The characters of a text; none: some bytes are none's. -/
def runesM (s : List UInt8) : Option (List Int) :=
  if h : s = [] then some []
  else if h0 : (charM s).2 = 0 then none
  else (runesM (s.drop (charM s).2)).map fun l => (charM s).1 :: l
termination_by s.length
decreasing_by
  have : s.length ≠ 0 := fun e => h (List.eq_nil_of_length_eq_zero e)
  simp only [List.length_drop]; omega
theorem runesM_nil : runesM [] = some [] := by rw [runesM, dif_pos rfl]
theorem runesM_none {s : List UInt8} (h : s ≠ []) (h0 : (charM s).2 = 0) : runesM s = none := by rw [runesM, dif_neg h, dif_pos h0]
theorem runesM_step {s : List UInt8} (h : s ≠ []) (h0 : (charM s).2 ≠ 0) : runesM s = (runesM (s.drop (charM s).2)).map fun l => (charM s).1 :: l := by rw [runesM, dif_neg h, dif_neg h0]
def runesR (s : List UInt8) (out : List Int) : List Int × Bool × Unit :=
  match runesM s with
  | some m => (out ++ m, true, ())
  | none => ([], false, ())
theorem runes_loop {s : List UInt8} (hs : s.length < 4294967296) : ∀ (k i : Nat) (l : List Int), s.length - i ≤ k → i ≤ s.length → l.length ≤ i → loopT (ref03_Runes_l3 s) ((i : Int), l, ()) = some (runesR (s.drop i) l) := by
  intro k
  have fin : ∀ (i : Nat) (l : List Int), ¬ i < s.length → loopT (ref03_Runes_l3 s) ((i : Int), l, ()) = some (runesR (s.drop i) l) := by
    intro i l hi
    rw [List.drop_eq_nil_of_le (by omega), loopT_inr (x := (l, true, ())) (by simp only [ref03_Runes_l3, cond_dec]; rw [if_neg (by omega)])]
    simp [runesR, runesM_nil]
  induction k with
  | zero => intro i l hk hi hl; exact fin i l (by omega)
  | succ k ih =>
    intro i l hk hi hl
    by_cases hlt : i < s.length
    · have hne : s.drop i ≠ [] := fun e => by have := congrArg List.length e; simp at this; omega
      have hle := charM_le (s.drop i)
      simp only [List.length_drop] at hle
      by_cases h0 : (charM (s.drop i)).2 = 0
      · rw [loopT_inr (x := ([], false, ()))]
        · simp only [runesR, runesM_none hne h0]
        · simp only [ref03_Runes_l3, cond_dec]
          rw [if_pos (by omega), subI_from (by omega)]
          simp only [Option.bind_some, char_t]
          rw [if_pos (by omega)]
      · rw [loopT_inl (b := (((i + (charM (s.drop i)).2 : Nat) : Int), l ++ [(charM (s.drop i)).1], ()))]
        · rw [ih _ _ (by omega) (by omega) (by simp; omega)]
          simp only [runesR, runesM_step hne h0, List.drop_drop]
          cases runesM (s.drop (i + (charM (s.drop i)).2)) <;> simp
        · simp only [ref03_Runes_l3, cond_dec]
          rw [if_pos (by omega), subI_from (by omega)]
          simp only [Option.bind_some, char_t]
          rw [if_neg (by omega), roomT_lt (by simp; omega)]
          simp only [Option.bind_some]
          rw [wrap64 (by omega) (by omega)]
          simp
    · exact fin i l hlt
theorem runes_t {s : List UInt8} (hs : s.length < 4294967296) : ref03_Runes s = some (runesR s []) := by
  have := runes_loop hs s.length 0 [] (by omega) (by omega) (by simp)
  simpa [ref03_Runes] using this
theorem at1 {a b : UInt8} {t : List UInt8} : atI (a :: b :: t) 1 = some b := by simp [atI]
theorem at2 {a b c : UInt8} {t : List UInt8} : atI (a :: b :: c :: t) 2 = some c := by simp [atI]
theorem at3 {a b c d : UInt8} {t : List UInt8} : atI (a :: b :: c :: d :: t) 3 = some d := by simp [atI]
/-- A character, or the sign that there is none: how Go ranges over a text. -/
def decN (l : List UInt8) : Nat × Nat := if (charM l).2 = 0 then (65533, 1) else ((charM l).1.toNat, (charM l).2)
theorem get_at {s : List UInt8} {i : Nat} {b : UInt8} (h : s[i]? = some b) : (⟨s.toArray⟩ : ByteArray).get! i = b := by
  have : (⟨s.toArray⟩ : ByteArray).get! i = s.toArray[i]! := rfl
  rw [this]
  simp [h]
theorem cont_no {s : List UInt8} {i : Nat} (h : s.length ≤ i) : decide (i < (⟨s.toArray⟩ : ByteArray).size) = false := by
  have : (⟨s.toArray⟩ : ByteArray).size = s.length := by simp [ByteArray.size]
  rw [this]; simp; omega
theorem cont_yes {s : List UInt8} {i : Nat} (h : i < s.length) : decide (i < (⟨s.toArray⟩ : ByteArray).size) = true := by
  have : (⟨s.toArray⟩ : ByteArray).size = s.length := by simp [ByteArray.size]
  rw [this]; simp; omega
theorem drop_at {s t : List UInt8} {i k : Nat} {b : UInt8} (h : s.drop i = t) (hb : t[k]? = some b) : s[i + k]? = some b := by
  rw [← h, List.getElem?_drop] at hb; exact hb
theorem drop_len {s t : List UInt8} {i : Nat} (h : s.drop i = t) (hi : i ≤ s.length) : s.length = i + t.length := by
  rw [← h, List.length_drop]; omega
/-- What the model makes of the bytes at a place. -/
def decV (b0 : Nat) (b1 b2 b3 : Option Nat) : Nat × Nat :=
  let cont (b : Option Nat) : Bool := match b with
    | some b => b / 64 == 2
    | none => false
  if b0 < 0x80 then (b0, 1)
  else if b0 / 32 == 6 && cont b1 then
    let c := (b0 % 32) * 64 + b1.getD 0 % 64
    if c ≥ 0x80 then (c, 2) else (65533, 1)
  else if b0 / 16 == 14 && cont b1 && cont b2 then
    let c := (b0 % 16) * 4096 + (b1.getD 0 % 64) * 64 + b2.getD 0 % 64
    if c ≥ 0x800 && Utf8.valid c then (c, 3) else (65533, 1)
  else if b0 / 8 == 30 && cont b1 && cont b2 && cont b3 then
    let c := (b0 % 8) * 262144 + (b1.getD 0 % 64) * 4096 + (b2.getD 0 % 64) * 64 + b3.getD 0 % 64
    if c ≥ 0x10000 && Utf8.valid c then (c, 4) else (65533, 1)
  else (65533, 1)
theorem decode_V {s t : List UInt8} {i : Nat} {a : UInt8} (h : s.drop i = a :: t) (hi : i ≤ s.length) : Utf8.decode ⟨s.toArray⟩ i = decV a.toNat (t[0]?.map (·.toNat)) (t[1]?.map (·.toNat)) (t[2]?.map (·.toNat)) := by
  have hlen := drop_len h hi
  have g0 : (⟨s.toArray⟩ : ByteArray).get! (i + 0) = a := get_at (drop_at h rfl)
  have gk : ∀ k b, t[k]? = some b → (⟨s.toArray⟩ : ByteArray).get! (i + (k + 1)) = b := fun k b hb => get_at (drop_at h (by simpa using hb))
  have cy : ∀ k b, t[k]? = some b → decide (i + (k + 1) < (⟨s.toArray⟩ : ByteArray).size) = true := fun k b hb => cont_yes (by
    rcases Nat.lt_or_ge k t.length with h' | h'
    · simp only [List.length_cons] at hlen; omega
    · rw [List.getElem?_eq_none h'] at hb; cases hb)
  have cn : ∀ k, t[k]? = none → decide (i + (k + 1) < (⟨s.toArray⟩ : ByteArray).size) = false := fun k hb => cont_no (by
    rw [List.getElem?_eq_none_iff] at hb
    simp only [List.length_cons] at hlen; omega)
  unfold Utf8.decode decV
  simp only [g0]
  have e : Utf8.runeError = 65533 := rfl
  cases h1 : t[0]? with
  | none =>
    have c1 := cn 0 h1
    have h2 : t[1]? = none := by rw [List.getElem?_eq_none_iff] at h1 ⊢; omega
    have h3 : t[2]? = none := by rw [List.getElem?_eq_none_iff] at h1 ⊢; omega
    simp only [Nat.zero_add] at c1
    simp [c1, h2, h3, e]
  | some b =>
    have c1 := cy 0 b h1
    have d1 := gk 0 b h1
    simp only [Nat.zero_add] at c1 d1
    cases h2 : t[1]? with
    | none =>
      have c2 := cn 1 h2
      have h3 : t[2]? = none := by rw [List.getElem?_eq_none_iff] at h2 ⊢; omega
      simp only [Nat.reduceAdd] at c2
      simp [c1, c2, d1, h3, e]
    | some c =>
      have c2 := cy 1 c h2
      have d2 := gk 1 c h2
      simp only [Nat.reduceAdd] at c2 d2
      cases h3 : t[2]? with
      | none =>
        have c3 := cn 2 h3
        simp only [Nat.reduceAdd] at c3
        simp [c1, c2, c3, d1, d2, e]
      | some d =>
        have c3 := cy 2 d h3
        have d3 := gk 2 d h3
        simp only [Nat.reduceAdd] at c3 d3
        simp [c1, c2, c3, d1, d2, d3, e]
theorem div64 {b : Nat} : (b / 64 == 2) = decide (128 ≤ b ∧ b ≤ 191) := by
  rw [Bool.eq_iff_iff]; simp; omega
theorem decV_N (a : UInt8) (t : List UInt8) : decV a.toNat (t[0]?.map (·.toNat)) (t[1]?.map (·.toNat)) (t[2]?.map (·.toNat)) = decN (a :: t) := by
  have ha := a.toNat_lt
  unfold decV decN
  by_cases c1 : a.toNat < 128
  · simp [charM, c1]
  have c1' : ¬ a.toNat < 0x80 := c1
  simp only [if_neg c1']
  by_cases c2 : a.toNat / 32 = 6
  · have e2 : (a.toNat / 32 == 6) = true := by simp [c2]
    match t with
    | [] =>
      have e3 : ¬ a.toNat / 16 = 14 := by omega
      have e4 : ¬ a.toNat / 8 = 30 := by omega
      have d3 : ¬ (224 ≤ a.toNat ∧ a.toNat < 240) := by omega
      have d4 : ¬ (240 ≤ a.toNat ∧ a.toNat < 245) := by omega
      simp [charM, c1, e3, e4, d3, d4]
    | b :: t =>
      have hb := b.toNat_lt
      have e3 : ¬ a.toNat / 16 = 14 := by omega
      have e4 : ¬ a.toNat / 8 = 30 := by omega
      have d3 : ¬ (224 ≤ a.toNat ∧ a.toNat < 240) := by omega
      have d4 : ¬ (240 ≤ a.toNat ∧ a.toNat < 245) := by omega
      simp only [List.getElem?_cons_zero, Option.map_some, e2, div64, Bool.true_and, Option.getD_some]
      by_cases hb' : 128 ≤ b.toNat ∧ b.toNat ≤ 191
      · rw [if_pos (by simpa using hb')]
        by_cases c3 : 194 ≤ a.toNat
        · rw [if_pos (by omega)]
          have q : 194 ≤ a.toNat ∧ a.toNat < 224 := by omega
          simp only [charM, if_neg c1, if_pos q, if_pos hb']
          rw [if_neg (by omega)]
          congr 1
          omega
        · rw [if_neg (by omega)]
          have q : ¬ (194 ≤ a.toNat ∧ a.toNat < 224) := by omega
          simp [charM, c1, q, d3, d4]
      · rw [if_neg (by simpa using hb')]
        have x3 : (a.toNat / 16 == 14) = false := by simp [e3]
        have x4 : (a.toNat / 8 == 30) = false := by simp [e4]
        simp only [x3, x4, Bool.false_and, Bool.false_eq_true, if_false]
        by_cases c3 : 194 ≤ a.toNat ∧ a.toNat < 224
        · simp [charM, c1, c3, hb']
        · simp [charM, c1, c3, d3, d4]
  have e2 : (a.toNat / 32 == 6) = false := by simp [c2]
  simp only [e2, Bool.false_and, Bool.false_eq_true, if_false]
  have d2 : ¬ (194 ≤ a.toNat ∧ a.toNat < 224) := by omega
  by_cases c3 : a.toNat / 16 = 14
  · have e3 : (a.toNat / 16 == 14) = true := by simp [c3]
    have d3 : (224 ≤ a.toNat ∧ a.toNat < 240) := by omega
    have x4 : (a.toNat / 8 == 30) = false := by simp; omega
    simp only [e3, x4, Bool.true_and, Bool.false_and, Bool.false_eq_true, if_false]
    match t with
    | [] => simp [charM, c1, d2, d3]
    | [b] => simp [charM, c1, d2, d3]
    | b :: c :: t =>
      have hb := b.toNat_lt
      have hc := c.toNat_lt
      simp only [List.getElem?_cons_zero, List.getElem?_cons_succ, Option.map_some, div64, Option.getD_some]
      by_cases hb' : (128 ≤ b.toNat ∧ b.toNat ≤ 191) ∧ (128 ≤ c.toNat ∧ c.toNat ≤ 191)
      · rw [if_pos (by simp only [Bool.and_eq_true, decide_eq_true_eq]; exact hb')]
        simp only [charM, if_neg c1, if_neg d2, if_pos d3, if_pos hb']
        by_cases hr : 64 * (64 * ((a.toNat : Int) - 224) + b.toNat - 128) + c.toNat - 128 < 2048 ∨ (55296 ≤ 64 * (64 * ((a.toNat : Int) - 224) + b.toNat - 128) + c.toNat - 128 ∧ 64 * (64 * ((a.toNat : Int) - 224) + b.toNat - 128) + c.toNat - 128 ≤ 57343)
        · rw [if_pos hr, if_neg (by
            simp only [Utf8.valid, Bool.and_eq_true, Bool.or_eq_true, decide_eq_true_eq]; omega)]
          rfl
        · rw [if_neg hr, if_pos (by
            simp only [Utf8.valid, Bool.and_eq_true, Bool.or_eq_true, decide_eq_true_eq]; omega), if_neg (by simp)]
          congr 1
          omega
      · rw [if_neg (by simp only [Bool.and_eq_true, decide_eq_true_eq]; exact hb')]
        simp only [charM, if_neg c1, if_neg d2, if_pos d3, if_neg hb']
        rfl
  have e3 : (a.toNat / 16 == 14) = false := by simp [c3]
  have d3 : ¬ (224 ≤ a.toNat ∧ a.toNat < 240) := by omega
  simp only [e3, Bool.false_and, Bool.false_eq_true, if_false]
  by_cases c4 : a.toNat / 8 = 30
  · have e4 : (a.toNat / 8 == 30) = true := by simp [c4]
    simp only [e4, Bool.true_and]
    match t with
    | [] => simp [charM, c1, d2, d3]
    | [b] => simp [charM, c1, d2, d3]
    | [b, c] => simp [charM, c1, d2, d3]
    | b :: c :: d :: t =>
      have hb := b.toNat_lt
      have hc := c.toNat_lt
      have hd := d.toNat_lt
      simp only [List.getElem?_cons_zero, List.getElem?_cons_succ, Option.map_some, div64, Option.getD_some]
      by_cases hb' : (128 ≤ b.toNat ∧ b.toNat ≤ 191) ∧ (128 ≤ c.toNat ∧ c.toNat ≤ 191) ∧ (128 ≤ d.toNat ∧ d.toNat ≤ 191)
      · rw [if_pos (by simp only [Bool.and_eq_true, decide_eq_true_eq]; exact ⟨⟨hb'.1, hb'.2.1⟩, hb'.2.2⟩)]
        by_cases d4 : (240 ≤ a.toNat ∧ a.toNat < 245)
        · simp only [charM, if_neg c1, if_neg d2, if_neg d3, if_pos d4, if_pos hb']
          by_cases hr : 64 * (64 * (64 * ((a.toNat : Int) - 240) + b.toNat - 128) + c.toNat - 128) + d.toNat - 128 < 65536 ∨ 1114111 < 64 * (64 * (64 * ((a.toNat : Int) - 240) + b.toNat - 128) + c.toNat - 128) + d.toNat - 128
          · rw [if_pos hr, if_neg (by
              simp only [Utf8.valid, Bool.and_eq_true, Bool.or_eq_true, decide_eq_true_eq]; omega)]
            rfl
          · rw [if_neg hr, if_pos (by
              simp only [Utf8.valid, Bool.and_eq_true, Bool.or_eq_true, decide_eq_true_eq]; omega), if_neg (by simp)]
            congr 1
            omega
        · rw [if_neg (by
            simp only [Utf8.valid, Bool.and_eq_true, Bool.or_eq_true, decide_eq_true_eq]; omega)]
          simp only [charM, if_neg c1, if_neg d2, if_neg d3, if_neg d4]
          rfl
      · rw [if_neg (by simp only [Bool.and_eq_true, decide_eq_true_eq]; exact fun e => hb' ⟨e.1.1, e.1.2, e.2⟩)]
        by_cases d4 : (240 ≤ a.toNat ∧ a.toNat < 245)
        · simp only [charM, if_neg c1, if_neg d2, if_neg d3, if_pos d4, if_neg hb']
          rfl
        · simp only [charM, if_neg c1, if_neg d2, if_neg d3, if_neg d4]
          rfl
  · have e4 : (a.toNat / 8 == 30) = false := by simp [c4]
    have d4 : ¬ (240 ≤ a.toNat ∧ a.toNat < 245) := by omega
    simp [e4, charM, c1, d2, d3, d4]
/-- How Go ranges over a text: character by character. -/
theorem decode_N {s : List UInt8} {i : Nat} (hi : i < s.length) : Utf8.decode ⟨s.toArray⟩ i = decN (s.drop i) := by
  cases h : s.drop i with
  | nil => have := congrArg List.length h; simp at this; omega
  | cons a t => rw [decode_V h (by omega), decV_N]
def cmpI (a b : Int) : Int := if a < b then -1 else if a > b then 1 else 0
theorem compare_t (a b : Int) : cmp_Compare_int a b = some (cmpI a b) := by
  unfold cmp_Compare_int cmp_isNaN_int cmpI
  simp only [Option.bind_some, decide_true, Bool.not_true, cond_false, cond_dec]
  by_cases h1 : a < b
  · simp [h1]
  · by_cases h2 : a > b <;> simp [h1, h2]
def orI (a b : Int) : Int := if a = 0 then b else a
theorem or_t (a b : Int) : cmp_Or_int [a, b] = some (orI a b) := by
  unfold cmp_Or_int orI
  by_cases h1 : a = 0
  · rw [if_pos h1]
    have t0 : cmp_Or_int_l3 [a, b] (0, ()) = some (.inl (1, ())) := by
      unfold cmp_Or_int_l3
      simp only [cond_dec, List.length_cons, List.length_nil]
      rw [if_pos (by decide)]
      simp [atI, h1, wrap64]
    rw [loopT_inl t0]
    by_cases h2 : b = 0
    · have t1 : cmp_Or_int_l3 [a, b] (1, ()) = some (.inl (2, ())) := by
        unfold cmp_Or_int_l3
        simp only [cond_dec, List.length_cons, List.length_nil]
        rw [if_pos (by decide)]
        simp [atI, h2, wrap64]
      rw [loopT_inl t1, h2]
      refine loopT_inr ?_
      unfold cmp_Or_int_l3
      simp only [cond_dec, List.length_cons, List.length_nil]
      rw [if_neg (by decide)]
    · refine loopT_inr ?_
      unfold cmp_Or_int_l3
      simp only [cond_dec, List.length_cons, List.length_nil]
      rw [if_pos (by decide)]
      simp [atI, h2]
  · rw [if_neg h1]
    refine loopT_inr ?_
    unfold cmp_Or_int_l3
    simp only [cond_dec, List.length_cons, List.length_nil]
    rw [if_pos (by decide)]
    simp [atI, h1]
def cmpD (a b : Int × Int × Unit) : Int := orI (cmpI a.1 b.1) (cmpI a.2.1 b.2.1)
theorem cmpD_cases (a b : Int × Int × Unit) : cmpD a b = if a.1 < b.1 then -1 else if a.1 > b.1 then 1 else if a.2.1 < b.2.1 then -1 else if a.2.1 > b.2.1 then 1 else 0 := by
  unfold cmpD orI cmpI
  by_cases h1 : a.1 < b.1
  · simp [h1]
  · by_cases h2 : a.1 > b.1
    · simp [h1, h2]
    · simp [h1, h2]
/-! ### a text that is built -/
def bI (s : List UInt8) : List Int := s.map fun b => (b.toNat : Int)
theorem bI_app {s t : List UInt8} : bI (s ++ t) = bI s ++ bI t := by simp [bI]
theorem bI_len {s : List UInt8} : (bI s).length = s.length := by simp [bI]
theorem bI_back {s : List UInt8} : ((bI s).map fun n => UInt8.ofNat n.toNat) = s := by
  unfold bI
  rw [List.map_map]
  conv => rhs; rw [← List.map_id s]
  congr 1
  funext b
  simp
theorem bI_one {n : Nat} (h : n < 256) : bI [UInt8.ofNat n] = [(n : Int)] := by
  simp only [bI, List.map_cons, List.map_nil]
  rw [UInt8.toNat_ofNat_of_lt' (by simpa using h)]
theorem wrapW8 {n : Int} : IntKind.wrap .u8 n = n % 256 := by
  simp [IntKind.wrap, IntKind.signed, IntKind.bits]
theorem writeByte_t {c : Int} {v : Bool × Unit × Unit} {w : List Int} (hw : w.length < 4294967000) : strings_Builder_WriteByte c v w = some (false, (true, (), ()), w ++ [c], ()) := by
  unfold strings_Builder_WriteByte
  have h : strings_Builder_copyCheck v w = some ((), (true, (), ()), w, ()) := by
    obtain ⟨b, _, _⟩ := v
    unfold strings_Builder_copyCheck
    cases b <;> rfl
  rw [h]
  simp only [Option.bind_some]
  rw [roomT_lt (by simp; omega)]
  rfl
theorem string_t {v : Bool × Unit × Unit} {s : List UInt8} (hs : s.length < 4294967296) : strings_Builder_String v (bI s) = some (s, v, ()) := by
  unfold strings_Builder_String
  cases s with
  | nil => rfl
  | cons b s =>
    have : (bI (b :: s)).isEmpty = false := rfl
    rw [this, cond_false, bI_back]
    have : wholeN 0 (bI (b :: s)).length ((bI (b :: s)).length : Int) = some () := by
      unfold wholeN
      rw [bI_len, if_pos ⟨rfl, rfl, by simp only [List.length_cons]; omega, by omega⟩]
    rw [this]; rfl
/-! ### numbers as bytes -/
def intM (n : Nat) : List UInt8 :=
  if h : n < 128 then [UInt8.ofNat n] else UInt8.ofNat (n % 128 + 128) :: intM (n / 128)
termination_by n
decreasing_by omega
theorem intM_small {n : Nat} (h : n < 128) : intM n = [UInt8.ofNat n] := by rw [intM, dif_pos h]
theorem intM_big {n : Nat} (h : ¬ n < 128) : intM n = UInt8.ofNat (n % 128 + 128) :: intM (n / 128) := by rw [intM, dif_neg h]
theorem div_pow {n k b : Nat} (hb : 0 < b) (h : n < b ^ (k + 1)) : n / b < b ^ k := by
  rw [Nat.div_lt_iff_lt_mul hb]
  rw [Nat.pow_succ] at h; exact h
theorem intM_len : ∀ (k n : Nat), n < 128 ^ k → (intM n).length ≤ k + 1
  | 0, n, h => by rw [intM_small (by simp at h; omega)]; simp
  | k + 1, n, h => by
    by_cases hn : n < 128
    · rw [intM_small hn]; simp
    · rw [intM_big hn, List.length_cons]
      have := intM_len k (n / 128) (div_pow (by omega) h)
      omega
theorem or_all : ∀ x : Fin 128, (x.val ||| 128) = x.val + 128 := by decide
theorem byte_t {n : Nat} (h : n < 9223372036854775808) : IntKind.wrap .u8 (IntKind.wrap .i64 ((BitVec.ofInt (IntKind.bits .i64) (IntKind.wrap .i64 ((BitVec.ofInt (IntKind.bits .i64) (n : Int) &&& BitVec.ofInt (IntKind.bits .i64) 127).toNat : Nat)) ||| BitVec.ofInt (IntKind.bits .i64) 128).toNat : Nat)) = ((n % 128 + 128 : Nat) : Int) := by
  have e : ∀ m : Nat, m < 18446744073709551616 → (BitVec.ofInt (IntKind.bits .i64) (m : Int)).toNat = m := by
    intro m hm
    rw [show IntKind.bits .i64 = 64 from rfl, BitVec.toNat_ofInt]
    omega
  have e127 : (BitVec.ofInt (IntKind.bits .i64) 127).toNat = 127 := by decide
  have e128 : (BitVec.ofInt (IntKind.bits .i64) 128).toNat = 128 := by decide
  have a1 : (BitVec.ofInt (IntKind.bits .i64) (n : Int) &&& BitVec.ofInt (IntKind.bits .i64) 127).toNat = n % 128 := by
    rw [BitVec.toNat_and, e n (by omega), e127]
    exact Nat.and_two_pow_sub_one_eq_mod n 7
  rw [a1, wrap64 (n := ((n % 128 : Nat) : Int)) (by omega) (by omega), BitVec.toNat_or, e (n % 128) (by omega), e128, or_all ⟨n % 128, by omega⟩]
  simp only []
  rw [wrap64 (by omega) (by omega), wrapW8]
  omega
theorem shr7_t {n : Nat} : shrT .i64 (n : Int) 7 = some ((n / 128 : Nat) : Int) := by
  unfold shrT
  rw [if_neg (by omega)]
  have e : (2 : Int) ^ min (Int.toNat 7) (IntKind.bits .i64) = 128 := by decide
  rw [e, Int.fdiv_eq_ediv_of_nonneg _ (by omega)]
  congr 1
theorem quo_t {a b : Nat} (hb : b ≠ 0) (ha : a < 9223372036854775808) : quoT .i64 (a : Int) (b : Int) = some ((a / b : Nat) : Int) := by
  unfold quoT
  rw [if_neg (by omega)]
  have : ((a : Int).tdiv (b : Int)) = ((a / b : Nat) : Int) := by rw [Int.tdiv_eq_ediv_of_nonneg (by omega)]; norm_cast
  rw [this]
  have hle : a / b ≤ a := Nat.div_le_self a b
  generalize a / b = q at hle
  rw [wrap64 (by omega) (by omega)]
theorem rem_t {a b : Nat} (hb : b ≠ 0) : remT (a : Int) (b : Int) = some ((a % b : Nat) : Int) := by
  unfold remT
  rw [if_neg (by omega)]
  have : ((a : Int).tmod (b : Int)) = ((a % b : Nat) : Int) := by rw [Int.tmod_eq_emod_of_nonneg (by omega)]; norm_cast
  rw [this]
/-! ### numerals -/
theorem dec_small {u : Nat} (h : u < 10) : Lib.decDigits u = [UInt8.ofNat (48 + u)] := by rw [Lib.decDigits, dif_pos h]
theorem dec_big {u : Nat} (h : ¬ u < 10) : Lib.decDigits u = Lib.decDigits (u / 10) ++ [UInt8.ofNat (48 + u % 10)] := by rw [Lib.decDigits, dif_neg h]
theorem dec_len : ∀ (k u : Nat), u < 10 ^ k → (Lib.decDigits u).length ≤ k + 1
  | 0, u, h => by rw [dec_small (by simp at h; omega)]; simp
  | k + 1, u, h => by
    by_cases hu : u < 10
    · rw [dec_small hu]; simp
    · rw [dec_big hu, List.length_append]
      have := dec_len k (u / 10) (div_pow (by omega) h)
      simp only [List.length_cons, List.length_nil]; omega
theorem itoa_len {n : Int} (h : -9223372036854775808 ≤ n) (h2 : n ≤ 9223372036854775807) : (Lib.itoa n).length ≤ 21 := by
  unfold Lib.itoa
  split
  · have := dec_len 19 n.natAbs (by simp only [Nat.reducePow]; omega)
    rw [List.length_cons]; omega
  · have := dec_len 19 n.toNat (by simp only [Nat.reducePow]; omega)
    omega
theorem digit_all : ∀ x : Fin 10, (([48, 49, 50, 51, 52, 53, 54, 55, 56, 57] : List UInt8).take (x.val + 1)).drop x.val = [UInt8.ofNat (48 + x.val)] := by decide
theorem digit_t {n : Nat} (h : n < 10) : subI ([48, 49, 50, 51, 52, 53, 54, 55, 56, 57] : List UInt8) (n : Int) (IntKind.wrap .i64 ((n : Int) + 1)) = some [UInt8.ofNat (48 + n)] := by
  rw [wrap64 (by omega) (by omega), show (n : Int) + 1 = ((n + 1 : Nat) : Int) by omega, subI_nat (by omega) (by simp; omega), digit_all ⟨n, h⟩]
theorem quoN_t {a : Int} (h : -9223372036854775808 ≤ a) (h2 : a < 0) : quoT .i64 a 10 = some (-((a.natAbs / 10 : Nat) : Int)) := by
  unfold quoT
  rw [if_neg (by omega)]
  have : a.tdiv 10 = -((a.natAbs / 10 : Nat) : Int) := by
    obtain ⟨n, rfl⟩ : ∃ n : Nat, a = -(n : Int) := ⟨a.natAbs, by omega⟩
    rw [Int.neg_tdiv, Int.natAbs_neg, Int.natAbs_natCast, Int.tdiv_eq_ediv_of_nonneg (by omega)]
    norm_cast
  rw [this, wrap64 (by omega) (by omega)]
theorem remN_t {a : Int} (h2 : a < 0) : remT a 10 = some (-((a.natAbs % 10 : Nat) : Int)) := by
  unfold remT
  rw [if_neg (by omega)]
  have : a.tmod 10 = -((a.natAbs % 10 : Nat) : Int) := by
    obtain ⟨n, rfl⟩ : ∃ n : Nat, a = -(n : Int) := ⟨a.natAbs, by omega⟩
    rw [Int.neg_tmod, Int.natAbs_neg, Int.natAbs_natCast, Int.tmod_eq_emod_of_nonneg (by omega)]
    norm_cast
  rw [this]
theorem digits_step (rec : (Int × Unit) → Option (List UInt8)) {a : Int} (h : -9223372036854775808 ≤ a) (h2 : a ≤ 9223372036854775807) : ref04_Digits_step rec a =
    if a < 0 then (if a > -10 then (rec (((a.natAbs : Nat) : Int), ())).bind fun r => catT [45] r
      else (rec (((a.natAbs / 10 : Nat) : Int), ())).bind fun r => (catT [45] r).bind fun s => (rec (((a.natAbs % 10 : Nat) : Int), ())).bind fun t => catT s t)
    else if a < 10 then some [UInt8.ofNat (48 + a.toNat)] else (rec (((a.toNat / 10 : Nat) : Int), ())).bind fun r => catT r [UInt8.ofNat (48 + a.toNat % 10)] := by
  unfold ref04_Digits_step
  by_cases h0 : a < 0
  · rw [cond_dec, if_pos h0, if_pos h0]
    by_cases h1 : a > -10
    · rw [cond_dec, if_pos h1, if_pos h1, wrap64 (by omega) (by omega), show (0 - a) = ((a.natAbs : Nat) : Int) by omega]
      cases rec (((a.natAbs : Nat) : Int), ()) with
      | none => rfl
      | some r => simp only [Option.bind_some]; cases catT [45] r <;> rfl
    · rw [cond_dec, if_neg h1, if_neg h1, quoN_t h h0, remN_t h0]
      simp only [Option.bind_some]
      rw [wrap64 (n := 0 - -((a.natAbs / 10 : Nat) : Int)) (by omega) (by omega), wrap64 (n := 0 - -((a.natAbs % 10 : Nat) : Int)) (by omega) (by omega), show (0 - -((a.natAbs / 10 : Nat) : Int)) = ((a.natAbs / 10 : Nat) : Int) by omega, show (0 - -((a.natAbs % 10 : Nat) : Int)) = ((a.natAbs % 10 : Nat) : Int) by omega]
      cases rec (((a.natAbs / 10 : Nat) : Int), ()) with
      | none => rfl
      | some r =>
        simp only [Option.bind_some]
        cases catT [45] r with
        | none => rfl
        | some s =>
          simp only [Option.bind_some]
          cases rec (((a.natAbs % 10 : Nat) : Int), ()) with
          | none => rfl
          | some t => simp only [Option.bind_some]; cases catT s t <;> rfl
  · rw [cond_dec, if_neg h0, if_neg h0]
    obtain ⟨n, rfl⟩ : ∃ n : Nat, a = (n : Int) := ⟨a.toNat, by omega⟩
    rw [Int.toNat_natCast]
    by_cases h1 : (n : Int) < 10
    · rw [cond_dec, if_pos h1, if_pos h1, digit_t (by omega)]; rfl
    · rw [cond_dec, if_neg h1, if_neg h1, show (10 : Int) = ((10 : Nat) : Int) from rfl, quo_t (by omega) (by omega), rem_t (by omega)]
      simp only [Option.bind_some]
      cases rec (((n / 10 : Nat) : Int), ()) with
      | none => rfl
      | some r =>
        simp only [Option.bind_some]
        rw [digit_t (by omega)]
        simp only [Option.bind_some]
        cases catT r [UInt8.ofNat (48 + n % 10)] <;> rfl
noncomputable abbrev digS : ((Int × Unit) → Option (List UInt8)) → (Int × Unit) → Option (List UInt8) := fun rec v => ref04_Digits_step rec v.1
theorem digits_pos : ∀ (m n : Nat), n < 9223372036854775809 → n ≤ 9223372036854775807 →
    (itT digS m ((n : Int), ()) = none ∨ itT digS m ((n : Int), ()) = some (Lib.decDigits n)) ∧ ∀ k, m = k + 1 → n < 10 ^ (k + 1) → itT digS m ((n : Int), ()) = some (Lib.decDigits n)
  | 0, n, _, h => ⟨.inl rfl, fun k e => by omega⟩
  | m + 1, n, hn, h => by
    have e0 : itT digS (m + 1) ((n : Int), ()) = ref04_Digits_step (itT digS m) (n : Int) := rfl
    rw [e0, digits_step (itT digS m) (by omega) (by omega), if_neg (by omega), Int.toNat_natCast]
    by_cases ha : n < 10
    · rw [if_pos (by omega), dec_small ha]
      exact ⟨.inr rfl, fun _ _ _ => rfl⟩
    · rw [if_neg (by omega)]
      obtain ⟨ih1, ih2⟩ := digits_pos m (n / 10) (by omega) (by omega)
      have fin : (some (Lib.decDigits (n / 10))).bind (fun r => catT r [UInt8.ofNat (48 + n % 10)]) = some (Lib.decDigits n) := by
        rw [Option.bind_some, dec_big (u := n) ha]
        have := dec_len 19 (n / 10) (by simp only [Nat.reducePow]; omega)
        rw [catT_some (by simp only [List.length_cons, List.length_nil]; omega)]
      constructor
      · rcases ih1 with e | e
        · left; rw [e]; rfl
        · right; rw [e]; exact fin
      · intro k hk hlt
        have hk' : k = m := by omega
        subst hk'
        cases k with
        | zero => simp at hlt; omega
        | succ k =>
          rw [ih2 k rfl (div_pow (by omega) hlt)]; exact fin
theorem itoa_neg {a : Int} (h : a < 0) : Lib.itoa a = 45 :: Lib.decDigits a.natAbs := by unfold Lib.itoa; rw [if_pos h]
theorem itoa_pos {n : Nat} : Lib.itoa (n : Int) = Lib.decDigits n := by unfold Lib.itoa; rw [if_neg (by omega), Int.toNat_natCast]
theorem digits_neg (m : Nat) {a : Int} (h : -9223372036854775808 ≤ a) (h0 : a < 0) :
    (itT digS (m + 1) (a, ()) = none ∨ itT digS (m + 1) (a, ()) = some (Lib.itoa a)) ∧ ∀ k, m = k + 1 → a.natAbs < 10 ^ (k + 1) → itT digS (m + 1) (a, ()) = some (Lib.itoa a) := by
  have e0 : itT digS (m + 1) (a, ()) = ref04_Digits_step (itT digS m) a := rfl
  rw [e0, digits_step (itT digS m) h (by omega), if_pos h0, itoa_neg h0]
  by_cases h1 : a > -10
  · rw [if_pos h1]
    obtain ⟨ih1, ih2⟩ := digits_pos m a.natAbs (by omega) (by omega)
    have fin : (some (Lib.decDigits a.natAbs)).bind (fun r => catT [45] r) = some (45 :: Lib.decDigits a.natAbs) := by
      have := dec_len 19 a.natAbs (by simp only [Nat.reducePow]; omega)
      rw [Option.bind_some, catT_some (by simp only [List.length_cons, List.length_nil]; omega)]; rfl
    constructor
    · rcases ih1 with e | e
      · left; rw [e]; rfl
      · right; rw [e]; exact fin
    · intro k hk hlt
      rw [ih2 k hk hlt]; exact fin
  · rw [if_neg h1]
    obtain ⟨ih1, ih2⟩ := digits_pos m (a.natAbs / 10) (by omega) (by omega)
    obtain ⟨jh1, jh2⟩ := digits_pos m (a.natAbs % 10) (by omega) (by omega)
    have fin : (some (Lib.decDigits (a.natAbs / 10))).bind (fun r => (catT [45] r).bind fun s => (some (Lib.decDigits (a.natAbs % 10))).bind fun t => catT s t) = some (45 :: Lib.decDigits a.natAbs) := by
      have l1 := dec_len 19 (a.natAbs / 10) (by simp only [Nat.reducePow]; omega)
      have l2 := dec_len 19 (a.natAbs % 10) (by simp only [Nat.reducePow]; omega)
      simp only [Option.bind_some]
      rw [catT_some (by simp only [List.length_cons, List.length_nil]; omega)]
      simp only [Option.bind_some]
      rw [catT_some (by rw [List.length_append]; simp only [List.length_cons, List.length_nil]; omega), dec_big (u := a.natAbs) (by omega), dec_small (u := a.natAbs % 10) (by omega)]
      simp
    constructor
    · rcases ih1 with e | e
      · left; rw [e]; rfl
      · rcases jh1 with f | f
        · left; rw [e, f]
          simp only [Option.bind_some, Option.bind_none]
          cases catT [45] (Lib.decDigits (a.natAbs / 10)) <;> rfl
        · right; rw [e, f]; exact fin
    · intro k hk hlt
      rw [ih2 k hk (by omega), jh2 k hk (by have : 10 ^ 1 ≤ 10 ^ (k + 1) := Nat.pow_le_pow_right (by omega) (by omega); omega)]
      exact fin
theorem digits_t {n : Int} (h : -9223372036854775808 ≤ n) (h2 : n ≤ 9223372036854775807) : ref04_Digits n = some (Lib.itoa n) := by
  unfold ref04_Digits ref04_Digits_fix
  by_cases h0 : n < 0
  · refine fix_eq (fun m => ?_) ⟨20, (digits_neg 19 h h0).2 18 rfl ?_⟩
    · cases m with
      | zero => exact .inl rfl
      | succ m => exact (digits_neg m h h0).1
    · simp only [Nat.reducePow, Nat.reduceAdd]; omega
  · obtain ⟨m, rfl⟩ : ∃ m : Nat, n = (m : Int) := ⟨n.toNat, by omega⟩
    rw [itoa_pos]
    refine fix_eq (fun k => (digits_pos k m (by omega) (by omega)).1) ⟨19, (digits_pos 19 m (by omega) (by omega)).2 18 rfl ?_⟩
    simp only [Nat.reducePow, Nat.reduceAdd]; omega
/-! ### dots -/
def inR (n : Int) : Prop := -9223372036854775808 ≤ n ∧ n ≤ 9223372036854775807
theorem strItoa_t {n : Int} (h : inR n) : strconv_Itoa n = some (Lib.itoa n) := if_pos h
def textM (d : Int × Int × Unit) : List UInt8 := Lib.itoa d.1 ++ [46] ++ Lib.itoa d.2.1
theorem text_cat {a b : Int} (ha : inR a) (hb : inR b) : ((catT (Lib.itoa a) [46]).bind fun s => catT s (Lib.itoa b)) = some (Lib.itoa a ++ [46] ++ Lib.itoa b) := by
  have l1 := itoa_len ha.1 ha.2
  have l2 := itoa_len hb.1 hb.2
  rw [catT_some (by simp only [List.length_cons, List.length_nil]; omega), Option.bind_some, catT_some (by rw [List.length_append]; simp only [List.length_cons, List.length_nil]; omega)]
def codeM (d : Int × Int × Unit) : List UInt8 := intM d.1.toNat ++ intM d.2.1.toNat
theorem code_cat {a b : Int} (ha : inR a) (hb : inR b) : catT (intM a.toNat) (intM b.toNat) = some (intM a.toNat ++ intM b.toNat) := by
  have l1 := intM_len 9 a.toNat (by simp only [Nat.reducePow]; have := ha.2; omega)
  have l2 := intM_len 9 b.toNat (by simp only [Nat.reducePow]; have := hb.2; omega)
  rw [catT_some (by omega)]
def rightM (d : Int × Int × Unit) : Bool := decide (0 ≤ d.1 ∧ d.1 ≤ 15 ∧ 1 ≤ d.2.1 ∧ d.2.1 ≤ 1048576)
/-! ### numerals, read -/
def digB (b : UInt8) : Prop := 48 ≤ b.toNat ∧ b.toNat ≤ 57
theorem dig_of {x : Nat} (h : x < 10) : digB (UInt8.ofNat (48 + x)) ∧ (UInt8.ofNat (48 + x)).toNat = 48 + x := by
  have : (UInt8.ofNat (48 + x)).toNat = 48 + x := UInt8.toNat_ofNat_of_lt' (by show _ < 256; omega)
  exact ⟨⟨by omega, by omega⟩, this⟩
theorem dec_digits : ∀ (u : Nat), ∀ b ∈ Lib.decDigits u, digB b := by
  intro u
  induction u using Nat.strongRecOn with
  | _ u ih =>
    intro b hb
    by_cases h : u < 10
    · rw [dec_small h] at hb
      simp only [List.mem_cons, List.mem_nil_iff, or_false] at hb
      subst hb; exact (dig_of h).1
    · rw [dec_big h] at hb
      rcases List.mem_append.1 hb with hb | hb
      · exact ih (u / 10) (by omega) b hb
      · simp only [List.mem_cons, List.mem_nil_iff, or_false] at hb
        subst hb; exact (dig_of (by omega)).1
theorem dec_pos (u : Nat) : 1 ≤ (Lib.decDigits u).length := by
  by_cases h : u < 10
  · rw [dec_small h]; simp
  · rw [dec_big h, List.length_append]; simp
theorem dec_len1 : ∀ (k u : Nat), u < 10 ^ (k + 1) → (Lib.decDigits u).length ≤ k + 1
  | 0, u, h => by rw [dec_small (by simpa using h)]; simp
  | k + 1, u, h => by
    by_cases hu : u < 10
    · rw [dec_small hu]; simp
    · rw [dec_big hu, List.length_append]
      have := dec_len1 k (u / 10) (div_pow (by omega) h)
      simp only [List.length_cons, List.length_nil]; omega
/-- The value of digits. -/
def valM (acc : Nat) : List UInt8 → Option Nat
  | [] => some acc
  | c :: r => if 48 ≤ c.toNat ∧ c.toNat ≤ 57 then valM (acc * 10 + (c.toNat - 48)) r else none
theorem val_app : ∀ (l r : List UInt8) (acc : Nat), valM acc (l ++ r) = (valM acc l).bind fun m => valM m r
  | [], r, acc => rfl
  | c :: l, r, acc => by
    simp only [List.cons_append, valM]
    split
    · exact val_app l r _
    · rfl
theorem val_dec : ∀ (u : Nat), valM 0 (Lib.decDigits u) = some u := by
  intro u
  induction u using Nat.strongRecOn with
  | _ u ih =>
    by_cases h : u < 10
    · rw [dec_small h]
      have := dig_of h
      simp only [valM, this.2]
      rw [if_pos (by omega)]
      simp
    · rw [dec_big h, val_app, ih (u / 10) (by omega), Option.bind_some]
      have := dig_of (x := u % 10) (by omega)
      simp only [valM, this.2]
      rw [if_pos (by omega)]
      congr 1; omega
/-! ### cut at a point -/
theorem first_app {c : UInt8} : ∀ (l t : List UInt8) (i : Nat), (∀ b ∈ l, b ≠ c) → firstByte c (l ++ c :: t) i = ((i + l.length : Nat) : Int)
  | [], t, i, h => by
    simp only [List.nil_append, firstByte, List.length_nil, Nat.add_zero]
    have : Nat.beq c.toNat c.toNat = true := by rw [Nat.beq_eq]
    rw [this]; rfl
  | b :: l, t, i, h => by
    simp only [List.cons_append, firstByte]
    have hb := h b (List.mem_cons_self ..)
    have : Nat.beq b.toNat c.toNat = false := by
      cases e : Nat.beq b.toNat c.toNat with
      | false => rfl
      | true => rw [Nat.beq_eq] at e; exact absurd (UInt8.toNat_inj.1 e) hb
    rw [this, cond_false, first_app l t (i + 1) (fun b hb => h b (List.mem_cons_of_mem _ hb)), List.length_cons]
    omega
theorem first_le {c : UInt8} : ∀ (l : List UInt8) (i : Nat), firstByte c l i = -1 ∨ ∃ k : Nat, firstByte c l i = (k : Int) ∧ i ≤ k ∧ k < i + l.length
  | [], i => .inl rfl
  | b :: l, i => by
    simp only [firstByte]
    cases Nat.beq b.toNat c.toNat with
    | true => exact .inr ⟨i, rfl, Nat.le_refl _, by rw [List.length_cons]; omega⟩
    | false =>
      rcases first_le (c := c) l (i + 1) with h | ⟨k, h1, h2, h3⟩
      · exact .inl h
      · exact .inr ⟨k, h1, by omega, by rw [List.length_cons]; omega⟩
theorem right_in {d : Int × Int × Unit} (h : rightM d = true) : (0 ≤ d.1 ∧ d.1 ≤ 15) ∧ (1 ≤ d.2.1 ∧ d.2.1 ≤ 1048576) := by
  have := of_decide_eq_true h
  omega
theorem right_text {d : Int × Int × Unit} (h : rightM d = true) : ∃ r n : Nat, d = ((r : Int), (n : Int), ()) ∧ r ≤ 15 ∧ 1 ≤ n ∧ n ≤ 1048576 ∧ textM d = Lib.decDigits r ++ 46 :: Lib.decDigits n := by
  have hi := right_in h
  obtain ⟨a, b, u⟩ := d
  simp only at hi
  refine ⟨a.toNat, b.toNat, ?_, by omega, by omega, by omega, ?_⟩
  · congr 1
    · omega
    · congr 1; omega
  · unfold textM
    simp only
    have i1 : Lib.itoa a = Lib.decDigits a.toNat := by unfold Lib.itoa; rw [if_neg (by omega)]
    have i2 : Lib.itoa b = Lib.decDigits b.toNat := by unfold Lib.itoa; rw [if_neg (by omega)]
    rw [i1, i2]
    simp
theorem dec_ne {u : Nat} : ∀ b ∈ Lib.decDigits u, b ≠ 46 := fun b hb e => by
  have := (dec_digits u b hb).1
  subst e
  exact absurd this (by decide)
def headM (r : Nat) : List UInt8 := Lib.decDigits r ++ [46]
theorem head_inj {r r' : Nat} {t t' : List UInt8} (h : Lib.decDigits r ++ 46 :: t = Lib.decDigits r' ++ 46 :: t') : r = r' ∧ t = t' := by
  have h1 := first_app (c := 46) (Lib.decDigits r) t 0 dec_ne
  have h2 := first_app (c := 46) (Lib.decDigits r') t' 0 dec_ne
  rw [h, h2] at h1
  have hl : (Lib.decDigits r).length = (Lib.decDigits r').length := by omega
  obtain ⟨e1, e2⟩ := List.append_inj h hl
  have v1 := val_dec r
  rw [e1, val_dec r'] at v1
  exact ⟨(Option.some.inj v1).symm, (List.cons.inj e2).2⟩
/-! ### numbers, read -/
theorem ofInt64 {m : Nat} (hm : m < 18446744073709551616) : (BitVec.ofInt (IntKind.bits .i64) (m : Int)).toNat = m := by
  rw [show IntKind.bits .i64 = 64 from rfl, BitVec.toNat_ofInt]
  omega
theorem and127 {c : Nat} (hc : c < 256) : IntKind.wrap .i64 ((BitVec.ofInt (IntKind.bits .i64) (c : Int) &&& BitVec.ofInt (IntKind.bits .i64) 127).toNat : Nat) = ((c % 128 : Nat) : Int) := by
  have e127 : (BitVec.ofInt (IntKind.bits .i64) 127).toNat = 127 := by decide
  have a1 : (BitVec.ofInt (IntKind.bits .i64) (c : Int) &&& BitVec.ofInt (IntKind.bits .i64) 127).toNat = c % 128 := by
    rw [BitVec.toNat_and, ofInt64 (by omega), e127]
    exact Nat.and_two_pow_sub_one_eq_mod c 7
  rw [a1, wrap64 (by omega) (by omega)]
theorem pow7 (i : Nat) : 2 ^ (7 * i) = 128 ^ i := by rw [Nat.pow_mul]
theorem shl_t {x i : Nat} (hx : x < 128) (hi : i < 8) : shlT .i64 (x : Int) (7 * (i : Int)) = some ((x * 128 ^ i : Nat) : Int) := by
  unfold shlT
  rw [if_neg (by omega)]
  have e1 : min (7 * (i : Int)).toNat (IntKind.bits .i64) = 7 * i := by
    have : IntKind.bits .i64 = 64 := rfl
    rw [this]; omega
  have hp : 128 ^ i ≤ 128 ^ 7 := Nat.pow_le_pow_right (by omega) (by omega)
  have hm : x * 128 ^ i ≤ 127 * 128 ^ 7 := Nat.mul_le_mul (by omega) hp
  simp only [Nat.reducePow, Nat.reduceMul] at hm
  rw [e1]
  have e2 : (x : Int) * 2 ^ (7 * i) = ((x * 128 ^ i : Nat) : Int) := by
    rw [← pow7]; push_cast; rfl
  rw [e2, wrap64 (by omega) (by omega)]
theorem or_add {a x i : Nat} (ha : a < 128 ^ i) (hx : x < 128) (hi : i < 8) : IntKind.wrap .i64 ((BitVec.ofInt (IntKind.bits .i64) (a : Int) ||| BitVec.ofInt (IntKind.bits .i64) ((x * 128 ^ i : Nat) : Int)).toNat : Nat) = ((a + x * 128 ^ i : Nat) : Int) := by
  have hp : 128 ^ i ≤ 128 ^ 7 := Nat.pow_le_pow_right (by omega) (by omega)
  have hm : x * 128 ^ i ≤ 127 * 128 ^ 7 := Nat.mul_le_mul (by omega) hp
  simp only [Nat.reducePow, Nat.reduceMul] at hm hp
  have e : (BitVec.ofInt (IntKind.bits .i64) (a : Int) ||| BitVec.ofInt (IntKind.bits .i64) ((x * 128 ^ i : Nat) : Int)).toNat = a + x * 128 ^ i := by
    rw [BitVec.toNat_or, ofInt64 (by omega), ofInt64 (by omega), Nat.or_comm]
    have := Nat.two_pow_add_eq_or_of_lt (i := 7 * i) (b := a) (by rw [pow7]; exact ha) x
    rw [pow7] at this
    rw [Nat.mul_comm x, ← this]; omega
  rw [e, wrap64 (by omega) (by omega)]
/-! ### one behind the other -/
theorem charM_app {s u : List UInt8} (h : (charM s).2 ≠ 0) : charM (s ++ u) = charM s := by
  match s with
  | [] => exact absurd rfl h
  | [a] =>
    simp only [charM, List.cons_append, List.nil_append] at h ⊢
    by_cases c1 : a.toNat < 128
    · simp only [if_pos c1]
    · simp only [if_neg c1, ite_self, ne_eq, not_true_eq_false] at h
  | [a, b] =>
    simp only [charM, List.cons_append, List.nil_append] at h ⊢
    by_cases c1 : a.toNat < 128
    · simp only [if_pos c1]
    · by_cases c2 : 194 ≤ a.toNat ∧ a.toNat < 224
      · simp only [if_neg c1, if_pos c2]
      · simp only [if_neg c1, if_neg c2, ite_self, ne_eq, not_true_eq_false] at h
  | [a, b, c] =>
    simp only [charM, List.cons_append, List.nil_append] at h ⊢
    by_cases c1 : a.toNat < 128
    · simp only [if_pos c1]
    · by_cases c2 : 194 ≤ a.toNat ∧ a.toNat < 224
      · simp only [if_neg c1, if_pos c2]
      · by_cases c3 : 224 ≤ a.toNat ∧ a.toNat < 240
        · simp only [if_neg c1, if_neg c2, if_pos c3]
        · simp only [if_neg c1, if_neg c2, if_neg c3, ite_self, ne_eq, not_true_eq_false] at h
  | a :: b :: c :: d :: t => simp only [charM, List.cons_append]
/-! ### characters written -/
def encM (o : List Int) : List UInt8 := o.flatMap fun n => (Utf8.encode n).data.toList
theorem u8_of {n : Nat} {x : UInt8} (h : n = x.toNat) : UInt8.ofNat n = x := by subst h; exact UInt8.ofNat_toNat
def encN (c : Nat) : List UInt8 :=
  if c < 128 then [UInt8.ofNat c]
  else if c < 2048 then [UInt8.ofNat (192 + c / 64), UInt8.ofNat (128 + c % 64)]
  else if c < 65536 then [UInt8.ofNat (224 + c / 4096), UInt8.ofNat (128 + c / 64 % 64), UInt8.ofNat (128 + c % 64)]
  else [UInt8.ofNat (240 + c / 262144), UInt8.ofNat (128 + c / 4096 % 64), UInt8.ofNat (128 + c / 64 % 64), UInt8.ofNat (128 + c % 64)]
theorem enc_N {r : Int} (h : Utf8.valid r = true) : (Utf8.encode r).data.toList = encN r.toNat := by
  unfold Utf8.encode encN
  simp only [h, if_true]
  split
  · rfl
  · split
    · rfl
    · split <;> rfl
theorem valid_of {r : Int} (h0 : 0 ≤ r) (h1 : r ≤ 1114111) (h2 : ¬ (55296 ≤ r ∧ r ≤ 57343)) : Utf8.valid r = true := by
  simp [Utf8.valid]; omega
theorem enc_char {s : List UInt8} (h : (charM s).2 ≠ 0) : (Utf8.encode (charM s).1).data.toList = s.take (charM s).2 := by
  match s with
  | [] => exact absurd rfl h
  | a :: t =>
    have ha := a.toNat_lt
    by_cases c1 : a.toNat < 128
    · have e : charM (a :: t) = ((a.toNat : Int), 1) := by simp only [charM, if_pos c1]
      rw [e, enc_N (valid_of (by omega) (by omega) (by omega))]
      simp only [Int.toNat_natCast, encN, if_pos c1]
      rw [u8_of rfl]; rfl
    by_cases c2 : 194 ≤ a.toNat ∧ a.toNat < 224
    · match t with
      | [] => simp only [charM, if_neg c1, if_pos c2, ne_eq, not_true_eq_false] at h
      | b :: t =>
        by_cases hb : 128 ≤ b.toNat ∧ b.toNat ≤ 191
        · have e : charM (a :: b :: t) = (64 * ((a.toNat : Int) - 192) + b.toNat - 128, 2) := by simp only [charM, if_neg c1, if_pos c2, if_pos hb]
          rw [e, enc_N (valid_of (by simp only []; omega) (by simp only []; omega) (by simp only []; omega))]
          simp only []
          have : (64 * ((a.toNat : Int) - 192) + b.toNat - 128).toNat = 64 * (a.toNat - 192) + (b.toNat - 128) := by omega
          rw [this]
          unfold encN
          rw [if_neg (by omega), if_pos (by omega), u8_of (x := a) (by omega), u8_of (x := b) (by omega)]; rfl
        · simp only [charM, if_neg c1, if_pos c2, if_neg hb, ne_eq, not_true_eq_false] at h
    by_cases c3 : 224 ≤ a.toNat ∧ a.toNat < 240
    · match t with
      | [] => simp only [charM, if_neg c1, if_neg c2, if_pos c3, ne_eq, not_true_eq_false] at h
      | [b] => simp only [charM, if_neg c1, if_neg c2, if_pos c3, ne_eq, not_true_eq_false] at h
      | b :: c :: t =>
        by_cases hb : (128 ≤ b.toNat ∧ b.toNat ≤ 191) ∧ (128 ≤ c.toNat ∧ c.toNat ≤ 191)
        · by_cases hr : 64 * (64 * ((a.toNat : Int) - 224) + b.toNat - 128) + c.toNat - 128 < 2048 ∨ (55296 ≤ 64 * (64 * ((a.toNat : Int) - 224) + b.toNat - 128) + c.toNat - 128 ∧ 64 * (64 * ((a.toNat : Int) - 224) + b.toNat - 128) + c.toNat - 128 ≤ 57343)
          · simp only [charM, if_neg c1, if_neg c2, if_pos c3, if_pos hb, if_pos hr, ne_eq, not_true_eq_false] at h
          · have e : charM (a :: b :: c :: t) = (64 * (64 * ((a.toNat : Int) - 224) + b.toNat - 128) + c.toNat - 128, 3) := by simp only [charM, if_neg c1, if_neg c2, if_pos c3, if_pos hb, if_neg hr]
            rw [e, enc_N (valid_of (by simp only []; omega) (by simp only []; omega) (by simp only []; omega))]
            simp only []
            have : (64 * (64 * ((a.toNat : Int) - 224) + b.toNat - 128) + c.toNat - 128).toNat = 4096 * (a.toNat - 224) + 64 * (b.toNat - 128) + (c.toNat - 128) := by omega
            rw [this]
            unfold encN
            rw [if_neg (by omega), if_neg (by omega), if_pos (by omega), u8_of (x := a) (by omega), u8_of (x := b) (by omega), u8_of (x := c) (by omega)]; rfl
        · simp only [charM, if_neg c1, if_neg c2, if_pos c3, if_neg hb, ne_eq, not_true_eq_false] at h
    by_cases c4 : 240 ≤ a.toNat ∧ a.toNat < 245
    · match t with
      | [] => simp only [charM, if_neg c1, if_neg c2, if_neg c3, if_pos c4, ne_eq, not_true_eq_false] at h
      | [b] => simp only [charM, if_neg c1, if_neg c2, if_neg c3, if_pos c4, ne_eq, not_true_eq_false] at h
      | [b, c] => simp only [charM, if_neg c1, if_neg c2, if_neg c3, if_pos c4, ne_eq, not_true_eq_false] at h
      | b :: c :: d :: t =>
        by_cases hb : (128 ≤ b.toNat ∧ b.toNat ≤ 191) ∧ (128 ≤ c.toNat ∧ c.toNat ≤ 191) ∧ (128 ≤ d.toNat ∧ d.toNat ≤ 191)
        · by_cases hr : 64 * (64 * (64 * ((a.toNat : Int) - 240) + b.toNat - 128) + c.toNat - 128) + d.toNat - 128 < 65536 ∨ 1114111 < 64 * (64 * (64 * ((a.toNat : Int) - 240) + b.toNat - 128) + c.toNat - 128) + d.toNat - 128
          · simp only [charM, if_neg c1, if_neg c2, if_neg c3, if_pos c4, if_pos hb, if_pos hr, ne_eq, not_true_eq_false] at h
          · have e : charM (a :: b :: c :: d :: t) = (64 * (64 * (64 * ((a.toNat : Int) - 240) + b.toNat - 128) + c.toNat - 128) + d.toNat - 128, 4) := by simp only [charM, if_neg c1, if_neg c2, if_neg c3, if_pos c4, if_pos hb, if_neg hr]
            rw [e, enc_N (valid_of (by simp only []; omega) (by simp only []; omega) (by simp only []; omega))]
            simp only []
            have : (64 * (64 * (64 * ((a.toNat : Int) - 240) + b.toNat - 128) + c.toNat - 128) + d.toNat - 128).toNat = 262144 * (a.toNat - 240) + 4096 * (b.toNat - 128) + 64 * (c.toNat - 128) + (d.toNat - 128) := by omega
            rw [this]
            unfold encN
            rw [if_neg (by omega), if_neg (by omega), if_neg (by omega), u8_of (x := a) (by omega), u8_of (x := b) (by omega), u8_of (x := c) (by omega), u8_of (x := d) (by omega)]; rfl
        · simp only [charM, if_neg c1, if_neg c2, if_neg c3, if_pos c4, if_neg hb, ne_eq, not_true_eq_false] at h
    · simp only [charM, if_neg c1, if_neg c2, if_neg c3, if_neg c4, ne_eq, not_true_eq_false] at h
theorem enc_runes : ∀ {s : List UInt8} {t : List Int}, runesM s = some t → encM t = s := by
  intro s
  induction s using (measure List.length).wf.induction with
  | _ s ih =>
    intro l h
    by_cases hn : s = []
    · subst hn; rw [runesM_nil] at h; cases h; rfl
    · by_cases h0 : (charM s).2 = 0
      · rw [runesM_none hn h0] at h; cases h
      · rw [runesM_step hn h0, Option.map_eq_some_iff] at h
        obtain ⟨l', hl', rfl⟩ := h
        have hp : s.length ≠ 0 := fun e => hn (List.eq_nil_of_length_eq_zero e)
        have := ih (s.drop (charM s).2) (by show (s.drop _).length < s.length; simp only [List.length_drop]; omega) hl'
        unfold encM at this ⊢
        rw [List.flatMap_cons, this, enc_char h0, List.take_append_drop]
/-- A character that is some text's. -/
def Good (c : Int) : Prop := ∃ s, (charM s).2 ≠ 0 ∧ (charM s).1 = c
theorem good_runes : ∀ {s : List UInt8} {t : List Int}, runesM s = some t → ∀ c ∈ t, Good c := by
  intro s
  induction s using (measure List.length).wf.induction with
  | _ s ih =>
    intro l h c hc
    by_cases hn : s = []
    · subst hn; rw [runesM_nil] at h; cases h; cases hc
    · by_cases h0 : (charM s).2 = 0
      · rw [runesM_none hn h0] at h; cases h
      · rw [runesM_step hn h0, Option.map_eq_some_iff] at h
        obtain ⟨l', hl', rfl⟩ := h
        have hp : s.length ≠ 0 := fun e => hn (List.eq_nil_of_length_eq_zero e)
        rcases List.mem_cons.1 hc with rfl | hc
        · exact ⟨s, h0, rfl⟩
        · exact ih (s.drop (charM s).2) (by show (s.drop _).length < s.length; simp only [List.length_drop]; omega) hl' c hc
theorem charM_take {s : List UInt8} (h : (charM s).2 ≠ 0) : charM (s.take (charM s).2) = charM s := by
  match s with
  | [] => rfl
  | a :: t =>
    by_cases c1 : a.toNat < 128
    · simp [charM, if_pos c1]
    by_cases c2 : 194 ≤ a.toNat ∧ a.toNat < 224
    · match t with
      | [] => simp only [charM, if_neg c1, if_pos c2, ne_eq, not_true_eq_false] at h
      | b :: t =>
        by_cases hb : 128 ≤ b.toNat ∧ b.toNat ≤ 191
        · have e : charM (a :: b :: t) = (64 * ((a.toNat : Int) - 192) + b.toNat - 128, 2) := by simp only [charM, if_neg c1, if_pos c2, if_pos hb]
          rw [e]
          simp only [List.take_succ_cons, List.take_zero, charM, if_neg c1, if_pos c2, if_pos hb]
        · simp only [charM, if_neg c1, if_pos c2, if_neg hb, ne_eq, not_true_eq_false] at h
    by_cases c3 : 224 ≤ a.toNat ∧ a.toNat < 240
    · match t with
      | [] => simp only [charM, if_neg c1, if_neg c2, if_pos c3, ne_eq, not_true_eq_false] at h
      | [b] => simp only [charM, if_neg c1, if_neg c2, if_pos c3, ne_eq, not_true_eq_false] at h
      | b :: c :: t =>
        by_cases hb : (128 ≤ b.toNat ∧ b.toNat ≤ 191) ∧ (128 ≤ c.toNat ∧ c.toNat ≤ 191)
        · by_cases hr : 64 * (64 * ((a.toNat : Int) - 224) + b.toNat - 128) + c.toNat - 128 < 2048 ∨ (55296 ≤ 64 * (64 * ((a.toNat : Int) - 224) + b.toNat - 128) + c.toNat - 128 ∧ 64 * (64 * ((a.toNat : Int) - 224) + b.toNat - 128) + c.toNat - 128 ≤ 57343)
          · simp only [charM, if_neg c1, if_neg c2, if_pos c3, if_pos hb, if_pos hr, ne_eq, not_true_eq_false] at h
          · have e : charM (a :: b :: c :: t) = (64 * (64 * ((a.toNat : Int) - 224) + b.toNat - 128) + c.toNat - 128, 3) := by simp only [charM, if_neg c1, if_neg c2, if_pos c3, if_pos hb, if_neg hr]
            rw [e]
            simp only [List.take_succ_cons, List.take_zero, charM, if_neg c1, if_neg c2, if_pos c3, if_pos hb, if_neg hr]
        · simp only [charM, if_neg c1, if_neg c2, if_pos c3, if_neg hb, ne_eq, not_true_eq_false] at h
    by_cases c4 : 240 ≤ a.toNat ∧ a.toNat < 245
    · match t with
      | [] => simp only [charM, if_neg c1, if_neg c2, if_neg c3, if_pos c4, ne_eq, not_true_eq_false] at h
      | [b] => simp only [charM, if_neg c1, if_neg c2, if_neg c3, if_pos c4, ne_eq, not_true_eq_false] at h
      | [b, c] => simp only [charM, if_neg c1, if_neg c2, if_neg c3, if_pos c4, ne_eq, not_true_eq_false] at h
      | b :: c :: d :: t =>
        by_cases hb : (128 ≤ b.toNat ∧ b.toNat ≤ 191) ∧ (128 ≤ c.toNat ∧ c.toNat ≤ 191) ∧ (128 ≤ d.toNat ∧ d.toNat ≤ 191)
        · by_cases hr : 64 * (64 * (64 * ((a.toNat : Int) - 240) + b.toNat - 128) + c.toNat - 128) + d.toNat - 128 < 65536 ∨ 1114111 < 64 * (64 * (64 * ((a.toNat : Int) - 240) + b.toNat - 128) + c.toNat - 128) + d.toNat - 128
          · simp only [charM, if_neg c1, if_neg c2, if_neg c3, if_pos c4, if_pos hb, if_pos hr, ne_eq, not_true_eq_false] at h
          · have e : charM (a :: b :: c :: d :: t) = (64 * (64 * (64 * ((a.toNat : Int) - 240) + b.toNat - 128) + c.toNat - 128) + d.toNat - 128, 4) := by simp only [charM, if_neg c1, if_neg c2, if_neg c3, if_pos c4, if_pos hb, if_neg hr]
            rw [e]
            simp only [List.take_succ_cons, List.take_zero, charM, if_neg c1, if_neg c2, if_neg c3, if_pos c4, if_pos hb, if_neg hr]
        · simp only [charM, if_neg c1, if_neg c2, if_neg c3, if_pos c4, if_neg hb, ne_eq, not_true_eq_false] at h
    · simp only [charM, if_neg c1, if_neg c2, if_neg c3, if_neg c4, ne_eq, not_true_eq_false] at h
theorem runes_enc : ∀ {o : List Int}, (∀ c ∈ o, Good c) → runesM (encM o) = some o
  | [], _ => by simp [encM, runesM_nil]
  | c :: o, h => by
    obtain ⟨s, h0, rfl⟩ := h c (List.mem_cons_self ..)
    have ih := runes_enc (o := o) (fun c hc => h c (List.mem_cons_of_mem _ hc))
    have he : encM ((charM s).1 :: o) = s.take (charM s).2 ++ encM o := by
      unfold encM; rw [List.flatMap_cons, enc_char h0]
    have hc : charM (s.take (charM s).2 ++ encM o) = charM s := by
      rw [charM_app (by rw [charM_take h0]; exact h0), charM_take h0]
    have hne : s.take (charM s).2 ++ encM o ≠ [] := fun e => by
      rw [e] at hc
      rw [← hc] at h0
      exact h0 rfl
    rw [he, runesM_step hne (by rw [hc]; exact h0), hc]
    have hl : (s.take (charM s).2).length = (charM s).2 := by rw [List.length_take]; have := charM_le s; omega
    rw [List.drop_append_of_le_length (by omega), List.drop_eq_nil_of_le (by omega), List.nil_append, ih]; rfl
theorem enc_high {n : Nat} (h : 128 ≤ n) (h2 : n ≤ 1114111) : ∀ b ∈ encN n, 128 ≤ b.toNat := by
  have e : ∀ n : Nat, 128 ≤ n → n < 256 → 128 ≤ (UInt8.ofNat n).toNat := by
    intro n h1 h2
    rw [UInt8.toNat_ofNat_of_lt' (by simpa using h2)]; exact h1
  intro b hb
  unfold encN at hb
  rw [if_neg (by omega)] at hb
  split at hb
  · simp only [List.mem_cons, List.mem_nil_iff, or_false] at hb
    rcases hb with rfl | rfl <;> exact e _ (by omega) (by omega)
  · split at hb
    · simp only [List.mem_cons, List.mem_nil_iff, or_false] at hb
      rcases hb with rfl | rfl | rfl <;> exact e _ (by omega) (by omega)
    · simp only [List.mem_cons, List.mem_nil_iff, or_false] at hb
      rcases hb with rfl | rfl | rfl | rfl <;> exact e _ (by omega) (by omega)
theorem runes_head {s u : List UInt8} (h0 : (charM s).2 ≠ 0) : runesM (s.take (charM s).2 ++ u) = (runesM u).map fun l => (charM s).1 :: l := by
  have hc : charM (s.take (charM s).2 ++ u) = charM s := by
    rw [charM_app (by rw [charM_take h0]; exact h0), charM_take h0]
  have hne : s.take (charM s).2 ++ u ≠ [] := fun e => by
    rw [e] at hc
    rw [← hc] at h0
    exact h0 rfl
  have hl : (s.take (charM s).2).length = (charM s).2 := by rw [List.length_take]; have := charM_le s; omega
  rw [runesM_step hne (by rw [hc]; exact h0), hc, List.drop_append_of_le_length (by omega), List.drop_eq_nil_of_le (by omega), List.nil_append]
theorem charM_valid {s : List UInt8} (h0 : (charM s).2 ≠ 0) : s.take (charM s).2 = encN (charM s).1.toNat := by
  have hi := charM_int s
  have he := enc_char h0
  by_cases hv : Utf8.valid (charM s).1 = true
  · rw [← he, enc_N hv]
  · exfalso
    have hs : 55296 ≤ (charM s).1 ∧ (charM s).1 ≤ 57343 := by
      simp [Utf8.valid] at hv; omega
    have h3 : (charM s).2 = 3 ∨ (charM s).2 ≠ 3 := by omega
    revert hs h0
    unfold charM
    repeat' split
    all_goals (try simp only [])
    all_goals (try split)
    all_goals (try simp only [])
    all_goals omega
theorem wrapW32 {n : Int} (h : 0 ≤ n) (h2 : n < 4294967296) : IntKind.wrap .u32 n = n := by
  simp [IntKind.wrap, IntKind.signed, IntKind.bits]; omega
theorem low_all : ∀ x : Fin 256, (IntKind.wrap .u8 ((BitVec.ofInt (IntKind.bits .u8) 128 ||| BitVec.ofInt (IntKind.bits .u8) (IntKind.wrap .u8 ((BitVec.ofInt (IntKind.bits .u8) ((x.val : Nat) : Int) &&& BitVec.ofInt (IntKind.bits .u8) 63).toNat : Nat))).toNat : Nat)) = ((128 + x.val % 64 : Nat) : Int) := by decide +kernel
theorem low_t {c : Int} : (IntKind.wrap .u8 ((BitVec.ofInt (IntKind.bits .u8) 128 ||| BitVec.ofInt (IntKind.bits .u8) (IntKind.wrap .u8 ((BitVec.ofInt (IntKind.bits .u8) (IntKind.wrap .u8 c) &&& BitVec.ofInt (IntKind.bits .u8) 63).toNat : Nat))).toNat : Nat)) = 128 + c % 64 := by
  have h0 : 0 ≤ c % 256 := by omega
  have h1 : c % 256 < 256 := by omega
  have := low_all ⟨(c % 256).toNat, by omega⟩
  simp only at this
  rw [show (((c % 256).toNat : Nat) : Int) = c % 256 by omega] at this
  rw [wrapW8 (n := c), this]
  omega
theorem top_all : (∀ x : Fin 32, (IntKind.wrap .u8 ((BitVec.ofInt (IntKind.bits .u8) 192 ||| BitVec.ofInt (IntKind.bits .u8) (IntKind.wrap .u8 ((x.val : Nat) : Int))).toNat : Nat)) = ((192 + x.val : Nat) : Int)) ∧ (∀ x : Fin 16, (IntKind.wrap .u8 ((BitVec.ofInt (IntKind.bits .u8) 224 ||| BitVec.ofInt (IntKind.bits .u8) (IntKind.wrap .u8 ((x.val : Nat) : Int))).toNat : Nat)) = ((224 + x.val : Nat) : Int)) ∧ (∀ x : Fin 8, (IntKind.wrap .u8 ((BitVec.ofInt (IntKind.bits .u8) 240 ||| BitVec.ofInt (IntKind.bits .u8) (IntKind.wrap .u8 ((x.val : Nat) : Int))).toNat : Nat)) = ((240 + x.val : Nat) : Int)) := by decide +kernel
theorem top2 {x : Int} (h : 0 ≤ x) (h2 : x < 32) : (IntKind.wrap .u8 ((BitVec.ofInt (IntKind.bits .u8) 192 ||| BitVec.ofInt (IntKind.bits .u8) (IntKind.wrap .u8 x)).toNat : Nat)) = 192 + x := by
  have := top_all.1 ⟨x.toNat, by omega⟩
  simp only at this
  rw [show ((x.toNat : Nat) : Int) = x by omega] at this
  rw [this]; omega
theorem top3 {x : Int} (h : 0 ≤ x) (h2 : x < 16) : (IntKind.wrap .u8 ((BitVec.ofInt (IntKind.bits .u8) 224 ||| BitVec.ofInt (IntKind.bits .u8) (IntKind.wrap .u8 x)).toNat : Nat)) = 224 + x := by
  have := top_all.2.1 ⟨x.toNat, by omega⟩
  simp only at this
  rw [show ((x.toNat : Nat) : Int) = x by omega] at this
  rw [this]; omega
theorem top4 {x : Int} (h : 0 ≤ x) (h2 : x < 8) : (IntKind.wrap .u8 ((BitVec.ofInt (IntKind.bits .u8) 240 ||| BitVec.ofInt (IntKind.bits .u8) (IntKind.wrap .u8 x)).toNat : Nat)) = 240 + x := by
  have := top_all.2.2 ⟨x.toNat, by omega⟩
  simp only at this
  rw [show ((x.toNat : Nat) : Int) = x by omega] at this
  rw [this]; omega
theorem shr_t {c : Int} {n : Int} {k : Nat} (hn : n = (k : Int)) (hk : k ≤ 32) : shrT .i32 c n = some (c / (2 ^ k : Nat)) := by
  subst hn
  unfold shrT
  rw [if_neg (by omega)]
  congr 1
  rw [Int.toNat_natCast, Int.fdiv_eq_ediv_of_nonneg _ (by exact_mod_cast Nat.zero_le _)]
  have : min k (IntKind.bits .i32) = k := by show min k 32 = k; omega
  rw [this]
  norm_cast
/-- A character that can be written. -/
def Char0 (c : Int) : Prop := 0 ≤ c ∧ c ≤ 1114111 ∧ ¬ (55296 ≤ c ∧ c ≤ 57343)
theorem bI_of {l : List Nat} (h : ∀ n ∈ l, n < 256) : bI (l.map UInt8.ofNat) = l.map fun (n : Nat) => (n : Int) := by
  unfold bI
  rw [List.map_map]
  refine List.map_congr_left fun n hn => ?_
  simp only [Function.comp]
  rw [UInt8.toNat_ofNat_of_lt' (by simpa using h n hn)]
theorem append_t {c : Int} {w : List Int} (hc : Char0 c) (hw : w.length < 4294967000) : utf8_AppendRune c w = some ((), w ++ bI (encN c.toNat), ()) := by
  obtain ⟨h0, h1, h2⟩ := hc
  obtain ⟨n, rfl⟩ : ∃ n : Nat, c = (n : Int) := ⟨c.toNat, by omega⟩
  unfold utf8_AppendRune
  rw [Int.toNat_natCast]
  simp only [cond_dec, wrapW32 (n := (n : Int)) (by omega) (by omega)]
  by_cases c1 : n < 128
  · rw [if_pos (by omega), roomT_lt (by simp; omega), Option.bind_some]
    unfold encN
    rw [if_pos c1, wrapW8]
    have e : [UInt8.ofNat n] = [n].map UInt8.ofNat := rfl
    rw [e, bI_of (by intro m hm; simp at hm; omega)]
    simp only [List.map_cons, List.map_nil]
    rw [show (n : Int) % 256 = n by omega]
  rw [if_neg (by omega)]
  have room : ∀ l : List Int, l.length ≤ 4 → roomT (w.length + l.length) = some () := fun l hl => roomT_lt (by omega)
  have key : utf8_appendRuneNonASCII (n : Int) w = some ((), w ++ bI (encN n), ()) := by
    unfold utf8_appendRuneNonASCII encN
    rw [if_neg c1]
    simp only [cond_dec, wrapW32 (n := (n : Int)) (by omega) (by omega), shr_t (n := 6) (k := 6) rfl (by omega), shr_t (n := 12) (k := 12) rfl (by omega), shr_t (n := 18) (k := 18) rfl (by omega), Option.bind_some]
    by_cases c2 : n < 2048
    · rw [if_pos (by omega), if_pos c2, room _ (by simp), Option.bind_some, low_t, top2 (by omega) (by omega)]
      have e : [UInt8.ofNat (192 + n / 64), UInt8.ofNat (128 + n % 64)] = [192 + n / 64, 128 + n % 64].map UInt8.ofNat := rfl
      rw [e, bI_of (by intro m hm; simp at hm; omega)]
      simp only [List.map_cons, List.map_nil, show ((2 ^ 6 : Nat) : Int) = 64 from rfl, show ((2 ^ 12 : Nat) : Int) = 4096 from rfl, show ((2 ^ 18 : Nat) : Int) = 262144 from rfl, Int.natCast_add, Int.natCast_ediv, Int.natCast_emod, Int.cast_ofNat_Int]
    rw [if_neg (by omega), if_neg c2]
    by_cases c3 : n < 65536
    · have hA : ((if (n : Int) < 55296 then some (Sum.inl (decide ((n : Int) < 55296), w, ())) else
          (if 57343 < (n : Int) then some (decide ((n : Int) ≤ 65535), w, ()) else some (false, w, ())).bind fun v3 => some (Sum.inl (v3.1, v3.2.1, ()))) : Option ((Bool × List Int × Unit) ⊕ (Unit × List Int × Unit))) = some (.inl (true, w, ())) := by
        by_cases g : (n : Int) < 55296
        · rw [if_pos g]; simp [g]
        · rw [if_neg g, if_pos (by omega)]; simp; omega
      rw [hA, bind_join_inl, if_pos c3]
      simp only [cond_true]
      rw [room _ (by simp), Option.bind_some, low_t, low_t, top3 (by omega) (by omega)]
      have e : [UInt8.ofNat (224 + n / 4096), UInt8.ofNat (128 + n / 64 % 64), UInt8.ofNat (128 + n % 64)] = [224 + n / 4096, 128 + n / 64 % 64, 128 + n % 64].map UInt8.ofNat := rfl
      rw [e, bI_of (by intro m hm; simp at hm; omega)]
      simp only [List.map_cons, List.map_nil, show ((2 ^ 6 : Nat) : Int) = 64 from rfl, show ((2 ^ 12 : Nat) : Int) = 4096 from rfl, show ((2 ^ 18 : Nat) : Int) = 262144 from rfl, Int.natCast_add, Int.natCast_ediv, Int.natCast_emod, Int.cast_ofNat_Int]
    · have hA : ((if (n : Int) < 55296 then some (Sum.inl (decide ((n : Int) < 55296), w, ())) else
          (if 57343 < (n : Int) then some (decide ((n : Int) ≤ 65535), w, ()) else some (false, w, ())).bind fun v3 => some (Sum.inl (v3.1, v3.2.1, ()))) : Option ((Bool × List Int × Unit) ⊕ (Unit × List Int × Unit))) = some (.inl (false, w, ())) := by
        rw [if_neg (by omega), if_pos (by omega)]; simp; omega
      rw [hA, bind_join_inl, if_neg c3]
      simp only [cond_false]
      rw [if_pos (by omega), if_pos (by omega), room _ (by simp), Option.bind_some, low_t, low_t, low_t, top4 (by omega) (by omega)]
      have e : [UInt8.ofNat (240 + n / 262144), UInt8.ofNat (128 + n / 4096 % 64), UInt8.ofNat (128 + n / 64 % 64), UInt8.ofNat (128 + n % 64)] = [240 + n / 262144, 128 + n / 4096 % 64, 128 + n / 64 % 64, 128 + n % 64].map UInt8.ofNat := rfl
      rw [e, bI_of (by intro m hm; simp at hm; omega)]
      simp only [List.map_cons, List.map_nil, show ((2 ^ 6 : Nat) : Int) = 64 from rfl, show ((2 ^ 12 : Nat) : Int) = 4096 from rfl, show ((2 ^ 18 : Nat) : Int) = 262144 from rfl, Int.natCast_add, Int.natCast_ediv, Int.natCast_emod, Int.cast_ofNat_Int]
  rw [key]; rfl
/-! ### quoted by the program -/
theorem charM_char0 {s : List UInt8} (h0 : (charM s).2 ≠ 0) : Char0 (charM s).1 := by
  have hi := charM_int s
  refine ⟨hi.1, hi.2, ?_⟩
  intro hs
  revert hs h0
  unfold charM
  repeat' split
  all_goals (try simp only [])
  all_goals (try split)
  all_goals (try simp only [])
  all_goals omega
theorem encN_len {n : Nat} : 1 ≤ (encN n).length ∧ (encN n).length ≤ 4 := by
  unfold encN
  repeat' split
  all_goals simp
theorem char92 : Char0 92 := ⟨by omega, by omega, by omega⟩
theorem enc92 : encN (92 : Int).toNat = [92] := by rfl
abbrev Val := Int × Int × List UInt8 × Unit
/-! ### the first of some that is not 0 -/
theorem or_turn {l : List Int} {i : Nat} {x : Int} (h : l[i]? = some x) (hl : l.length < 1000000) : cmp_Or_int_l3 l ((i : Int), ()) = if x = 0 then some (.inl (((i + 1 : Nat) : Int), ())) else some (.inr x) := by
  have hi : i < l.length := by
    rcases Nat.lt_or_ge i l.length with h' | h'
    · exact h'
    · rw [List.getElem?_eq_none h'] at h; cases h
  unfold cmp_Or_int_l3
  simp only [cond_dec]
  rw [if_pos (by omega), atI_nat, h]
  simp only [Option.bind_some]
  by_cases hx : x = 0
  · rw [if_pos hx]
    simp only [hx, decide_true, Bool.not_true, cond_false]
    rw [wrap64 (by omega) (by omega)]; rfl
  · rw [if_neg hx]
    simp only [hx, decide_false, Bool.not_false, cond_true]
theorem or3_t (a b c : Int) : cmp_Or_int [a, b, c] = some (orI a (orI b c)) := by
  unfold cmp_Or_int
  have t0 := or_turn (l := [a, b, c]) (i := 0) (x := a) rfl (by simp)
  have t1 := or_turn (l := [a, b, c]) (i := 1) (x := b) rfl (by simp)
  have t2 := or_turn (l := [a, b, c]) (i := 2) (x := c) rfl (by simp)
  have t3 : cmp_Or_int_l3 [a, b, c] (((3 : Nat) : Int), ()) = some (.inr 0) := by
    unfold cmp_Or_int_l3
    simp only [cond_dec, List.length_cons, List.length_nil]
    rw [if_neg (by decide)]
  unfold orI
  by_cases h0 : a = 0
  · rw [if_pos h0] at t0 ⊢
    rw [show ((0 : Int), ()) = (((0 : Nat) : Int), ()) from rfl, loopT_inl t0]
    by_cases h1 : b = 0
    · rw [if_pos h1] at t1 ⊢
      rw [loopT_inl t1]
      by_cases h2 : c = 0
      · rw [if_pos h2] at t2
        rw [loopT_inl t2, loopT_inr t3, h2]
      · rw [if_neg h2] at t2
        rw [loopT_inr t2]
    · rw [if_neg h1] at t1 ⊢
      rw [loopT_inr t1]
  · rw [if_neg h0] at t0 ⊢
    exact loopT_inr t0
/-! ### bytes in a row -/
theorem cb_neg : ∀ a b : List UInt8, Lib.compareBytes b a = - Lib.compareBytes a b
  | [], [] => rfl
  | [], _ :: _ => rfl
  | _ :: _, [] => rfl
  | x :: a, y :: b => by
    simp only [Lib.compareBytes, UInt8.lt_iff_toNat_lt]
    by_cases h1 : x.toNat < y.toNat
    · have h2 : ¬ y.toNat < x.toNat := by omega
      simp only [if_pos h1, if_neg h2]
      rfl
    · by_cases h2 : y.toNat < x.toNat
      · simp only [if_pos h2, if_neg h1]
      · simp only [if_neg h2, if_neg h1]; exact cb_neg a b
theorem cb_zero : ∀ a b : List UInt8, Lib.compareBytes a b = 0 ↔ a = b
  | [], [] => by simp [Lib.compareBytes]
  | [], _ :: _ => by simp [Lib.compareBytes]
  | _ :: _, [] => by simp [Lib.compareBytes]
  | x :: a, y :: b => by
    simp only [Lib.compareBytes, UInt8.lt_iff_toNat_lt]
    by_cases h1 : x.toNat < y.toNat
    · rw [if_pos h1]
      constructor
      · intro h; cases h
      · intro h; cases h; omega
    · rw [if_neg h1]
      by_cases h2 : y.toNat < x.toNat
      · rw [if_pos h2]
        constructor
        · intro h; cases h
        · intro h; cases h; omega
      · rw [if_neg h2, cb_zero a b]
        have : x = y := UInt8.toNat_inj.1 (by omega)
        subst this
        simp
theorem cb_one : ∀ a b : List UInt8, Lib.compareBytes a b = -1 ∨ Lib.compareBytes a b = 0 ∨ Lib.compareBytes a b = 1
  | [], [] => .inr (.inl rfl)
  | [], _ :: _ => .inl rfl
  | _ :: _, [] => .inr (.inr rfl)
  | x :: a, y :: b => by
    simp only [Lib.compareBytes]
    split
    · exact .inl rfl
    · split
      · exact .inr (.inr rfl)
      · exact cb_one a b
theorem cb_trans : ∀ a b c : List UInt8, Lib.compareBytes a b ≤ 0 → Lib.compareBytes b c ≤ 0 → Lib.compareBytes a c ≤ 0
  | [], b, [], _, _ => by simp [Lib.compareBytes]
  | [], b, _ :: _, _, _ => by simp [Lib.compareBytes]
  | _ :: _, [], _, h, _ => by simp [Lib.compareBytes] at h
  | x :: a, y :: b, [], _, h => by simp [Lib.compareBytes] at h
  | x :: a, y :: b, z :: c, h, k => by
    simp only [Lib.compareBytes, UInt8.lt_iff_toNat_lt] at h k ⊢
    by_cases h1 : x.toNat < y.toNat
    · by_cases k1 : y.toNat < z.toNat
      · rw [if_pos (by omega)]; omega
      · rw [if_neg k1] at k
        by_cases k2 : z.toNat < y.toNat
        · rw [if_pos k2] at k; omega
        · rw [if_pos (by omega)]; omega
    · rw [if_neg h1] at h
      by_cases h2 : y.toNat < x.toNat
      · rw [if_pos h2] at h; omega
      · rw [if_neg h2] at h
        by_cases k1 : y.toNat < z.toNat
        · rw [if_pos (by omega)]; omega
        · rw [if_neg k1] at k
          by_cases k2 : z.toNat < y.toNat
          · rw [if_pos k2] at k; omega
          · rw [if_neg k2] at k
            rw [if_neg (by omega), if_neg (by omega)]
            exact cb_trans a b c h k
/-! ### values in a row -/
def cmpV (a b : Val) : Int := orI (cmpI a.1 b.1) (orI (cmpI a.2.1 b.2.1) (Lib.compareBytes a.2.2.1 b.2.2.1))
theorem cmpV_cases (a b : Val) : cmpV a b = if a.1 < b.1 then -1 else if a.1 > b.1 then 1 else if a.2.1 < b.2.1 then -1 else if a.2.1 > b.2.1 then 1 else Lib.compareBytes a.2.2.1 b.2.2.1 := by
  unfold cmpV orI cmpI
  by_cases h1 : a.1 < b.1
  · simp [h1]
  · by_cases h2 : a.1 > b.1
    · simp [h1, h2]
    · by_cases h3 : a.2.1 < b.2.1
      · simp [h1, h2, h3]
      · by_cases h4 : a.2.1 > b.2.1
        · simp [h1, h2, h3, h4]
        · simp [h1, h2, h3, h4]
theorem eqVal (a b : Val) : eqV (.agg (.cons (.int .i64) (.cons (.int .i64) (.cons .str .unit)))) a b = decide (a = b) := by
  obtain ⟨k, n, s, ⟨⟩⟩ := a
  obtain ⟨k', n', s', ⟨⟩⟩ := b
  simp only [eqV, Bool.and_true]
  rw [Bool.eq_iff_iff]
  simp
theorem cmpV_neg (a b : Val) : cmpV b a = - cmpV a b := by
  rw [cmpV_cases, cmpV_cases, cb_neg]
  repeat' split
  all_goals first | omega | rfl
theorem cmpV_one (a b : Val) : -1 ≤ cmpV a b ∧ cmpV a b ≤ 1 := by
  have := cb_one a.2.2.1 b.2.2.1
  rw [cmpV_cases]
  repeat' split
  all_goals omega
theorem cmpV_zero (a b : Val) : cmpV a b = 0 ↔ a = b := by
  have := cb_zero a.2.2.1 b.2.2.1
  obtain ⟨k, n, s, ⟨⟩⟩ := a
  obtain ⟨k', n', s', ⟨⟩⟩ := b
  rw [cmpV_cases]
  simp only at this ⊢
  by_cases h1 : k < k'
  · rw [if_pos h1]; constructor
    · intro h; cases h
    · intro h; cases h; omega
  rw [if_neg h1]
  by_cases h2 : k > k'
  · rw [if_pos h2]; constructor
    · intro h; cases h
    · intro h; cases h; omega
  rw [if_neg h2]
  by_cases h3 : n < n'
  · rw [if_pos h3]; constructor
    · intro h; cases h
    · intro h; cases h; omega
  rw [if_neg h3]
  by_cases h4 : n > n'
  · rw [if_pos h4]; constructor
    · intro h; cases h
    · intro h; cases h; omega
  rw [if_neg h4, this]
  have e1 : k = k' := by omega
  have e2 : n = n' := by omega
  subst e1; subst e2
  simp
theorem cmpV_trans (a b c : Val) (h : cmpV a b ≤ 0) (k : cmpV b c ≤ 0) : cmpV a c ≤ 0 := by
  have := cb_trans a.2.2.1 b.2.2.1 c.2.2.1
  rw [cmpV_cases] at h k ⊢
  by_cases h1 : a.1 < b.1
  · by_cases k1 : b.1 > c.1
    · rw [if_neg (by omega), if_pos k1] at k; omega
    · rw [if_pos (by omega)]; omega
  rw [if_neg h1] at h
  by_cases h2 : a.1 > b.1
  · rw [if_pos h2] at h; omega
  rw [if_neg h2] at h
  by_cases k1 : b.1 < c.1
  · rw [if_pos (by omega)]; omega
  rw [if_neg k1] at k
  by_cases k2 : b.1 > c.1
  · rw [if_pos k2] at k; omega
  rw [if_neg k2] at k
  rw [if_neg (by omega), if_neg (by omega)]
  by_cases h3 : a.2.1 < b.2.1
  · by_cases k3 : b.2.1 > c.2.1
    · rw [if_neg (by omega), if_pos k3] at k; omega
    · rw [if_pos (by omega)]; omega
  rw [if_neg h3] at h
  by_cases h4 : a.2.1 > b.2.1
  · rw [if_pos h4] at h; omega
  rw [if_neg h4] at h
  by_cases k3 : b.2.1 < c.2.1
  · rw [if_pos (by omega)]; omega
  rw [if_neg k3] at k
  by_cases k4 : b.2.1 > c.2.1
  · rw [if_pos k4] at k; omega
  rw [if_neg k4] at k
  rw [if_neg (by omega), if_neg (by omega)]
  exact this h k
/-! ### the reference's row -/
theorem ints9_t (a b : Int) : ref09_ints a b = some (cmpI a b) := by
  unfold ref09_ints cmpI
  simp only [cond_dec]
  by_cases h1 : a < b
  · simp [h1]
  · by_cases h2 : a > b <;> simp [h1, h2]
theorem dropC {A : Type} {s : List A} {i : Nat} (h : i < s.length) : s.drop i = s[i] :: s.drop (i + 1) := List.drop_eq_getElem_cons h
theorem texts_loop {a b : List UInt8} (ha : a.length < 1000000) : ∀ (k i : Nat), a.length - i ≤ k → i ≤ a.length → i ≤ b.length →
    ((loopT (ref09_Texts_l2 a b) ((i : Int), ()) : Option (Unit ⊕ Int)).bind (joinS fun _ => some (cmpI (a.length : Int) (b.length : Int)))) = some (Lib.compareBytes (a.drop i) (b.drop i)) := by
  intro k
  have fin : ∀ i : Nat, i ≤ a.length → i ≤ b.length → ¬ (i < a.length ∧ i < b.length) → ((loopT (ref09_Texts_l2 a b) ((i : Int), ()) : Option (Unit ⊕ Int)).bind (joinS fun _ => some (cmpI (a.length : Int) (b.length : Int)))) = some (Lib.compareBytes (a.drop i) (b.drop i)) := by
    intro i h1 h2 h3
    have hl : loopT (ref09_Texts_l2 a b) ((i : Int), ()) = some (.inl ()) := by
      refine loopT_inr ?_
      unfold ref09_Texts_l2
      simp only [cond_dec]
      by_cases h4 : (i : Int) < (a.length : Int)
      · rw [if_pos h4, if_neg (by omega)]
      · rw [if_neg h4]
    rw [hl, bind_join_inl]
    congr 1
    unfold cmpI
    by_cases h4 : i < a.length
    · have e : b.drop i = [] := List.drop_eq_nil_of_le (by omega)
      rw [e, dropC h4]
      simp only [Lib.compareBytes]
      rw [if_neg (by omega), if_pos (by omega)]
    · have e : a.drop i = [] := List.drop_eq_nil_of_le (by omega)
      rw [e]
      by_cases h5 : i < b.length
      · rw [dropC h5]
        simp only [Lib.compareBytes]
        rw [if_pos (by omega)]
      · have e : b.drop i = [] := List.drop_eq_nil_of_le (by omega)
        rw [e]
        simp only [Lib.compareBytes]
        rw [if_neg (by omega), if_neg (by omega)]
  induction k with
  | zero => intro i hk h1 h2; exact fin i h1 h2 (by omega)
  | succ k ih =>
    intro i hk h1 h2
    by_cases h3 : i < a.length ∧ i < b.length
    · obtain ⟨h3, h4⟩ := h3
      rw [dropC h3, dropC h4]
      simp only [Lib.compareBytes, UInt8.lt_iff_toNat_lt]
      by_cases he : a[i].toNat = b[i].toNat
      · rw [if_neg (by omega), if_neg (by omega), ← ih (i + 1) (by omega) (by omega) (by omega)]
        rw [loopT_inl (b := (((i + 1 : Nat) : Int), ()))]
        unfold ref09_Texts_l2
        simp only [cond_dec]
        rw [if_pos (by omega), if_pos (by omega), atI_lt h3, atI_lt h4]
        simp only [Option.bind_some]
        rw [decide_eq_true (by omega)]
        simp only [Bool.not_true, cond_false]
        rw [wrap64 (by omega) (by omega)]; rfl
      · have ba := a[i].toNat_lt
        have bb := b[i].toNat_lt
        have hl : loopT (ref09_Texts_l2 a b) ((i : Int), ()) = some (.inr (cmpI (a[i].toNat : Int) (b[i].toNat : Int))) := by
          refine loopT_inr ?_
          unfold ref09_Texts_l2
          simp only [cond_dec]
          rw [if_pos (by omega), if_pos (by omega), atI_lt h3, atI_lt h4]
          simp only [Option.bind_some]
          rw [decide_eq_false (by omega)]
          simp only [Bool.not_false, cond_true, ints9_t, Option.bind_some]
          rw [wrap64 (by omega) (by omega), wrap64 (by omega) (by omega)]
        rw [hl, bind_join_inr]
        congr 1
        unfold cmpI
        by_cases h5 : a[i].toNat < b[i].toNat
        · rw [if_pos (by omega), if_pos h5]
        · rw [if_neg (by omega), if_neg h5, if_pos (by omega), if_pos (by omega)]
    · exact fin i h1 h2 h3
theorem texts_t {a b : List UInt8} (ha : a.length < 1000000) : ref09_Texts a b = some (Lib.compareBytes a b) := by
  have := texts_loop (b := b) ha a.length 0 (by omega) (by omega) (by omega)
  simp only [List.drop_zero] at this
  unfold ref09_Texts
  simp only [ints9_t, Option.bind_some]
  exact this
/-! ### characters -/
theorem charM_one {s : List UInt8} (h : (charM s).2 = 1) : (charM s).1 < 128 := by
  revert h
  unfold charM
  repeat' split
  all_goals (try simp only [])
  all_goals (try split)
  all_goals (try simp only [])
  all_goals omega
theorem decGo {s : List UInt8} (h : s ≠ []) : utf8_DecodeRuneInString s = some (((decN s).1 : Int), ((decN s).2 : Int), ()) := by
  have hl : 0 < s.length := by cases s with | nil => exact absurd rfl h | cons _ _ => simp
  have hz : ¬ (⟨s.toArray⟩ : ByteArray).size = 0 := by show ¬ s.toArray.size = 0; simp; exact h
  unfold utf8_DecodeRuneInString decodeT Lib.decodeGo
  rw [if_neg hz, decode_N hl, List.drop_zero]
theorem nrunes_loop {s : List UInt8} (hs : s.length < 1000000) : ∀ (k i : Nat) (l : List Int), s.length - i ≤ k → i ≤ s.length → l.length ≤ i → loopT (name_Runes_l3 s) (i, l, ()) = some (runesR (s.drop i) l) := by
  intro k
  have fin : ∀ (i : Nat) (l : List Int), ¬ i < s.length → loopT (name_Runes_l3 s) (i, l, ()) = some (runesR (s.drop i) l) := by
    intro i l hi
    rw [List.drop_eq_nil_of_le (by omega), loopT_inr (x := (l, true, ())) (by simp only [name_Runes_l3, cond_dec]; rw [if_neg (by omega)])]
    simp [runesR, runesM_nil]
  induction k with
  | zero => intro i l hk hi hl; exact fin i l (by omega)
  | succ k ih =>
    intro i l hk hi hl
    by_cases hlt : i < s.length
    · have hne : s.drop i ≠ [] := fun e => by have := congrArg List.length e; simp at this; omega
      have hle := charM_le (s.drop i)
      simp only [List.length_drop] at hle
      have hci := charM_int (s.drop i)
      by_cases h0 : (charM (s.drop i)).2 = 0
      · rw [loopT_inr (x := ([], false, ()))]
        · simp only [runesR, runesM_none hne h0]
        · unfold name_Runes_l3
          rw [cond_dec, if_pos (by simp only []; exact hlt)]
          simp only [decode_N hlt, decN, if_pos h0]
          rw [decide_eq_true (by omega)]
          simp only [cond_true]
          rw [subI_from (by omega)]
          simp only [Option.bind_some, decGo hne, decN, if_pos h0, cond_dec]
          rw [if_pos (by omega)]
          rfl
      · rw [loopT_inl (b := (i + (charM (s.drop i)).2, l ++ [(charM (s.drop i)).1], ()))]
        · rw [ih _ _ (by omega) (by omega) (by simp; omega)]
          simp only [runesR, runesM_step hne h0, List.drop_drop]
          cases runesM (s.drop (i + (charM (s.drop i)).2)) <;> simp
        · unfold name_Runes_l3
          rw [cond_dec, if_pos (by simp only []; exact hlt)]
          simp only [decode_N hlt, decN, if_neg h0]
          have hnat : (((charM (s.drop i)).1.toNat : Nat) : Int) = (charM (s.drop i)).1 := by omega
          simp only [hnat]
          have h1 := charM_one (s := s.drop i)
          by_cases hc : (charM (s.drop i)).1 = 65533
          · rw [decide_eq_true hc]
            simp only [cond_true]
            rw [subI_from (by omega)]
            simp only [Option.bind_some, decGo hne, decN, if_neg h0, cond_dec]
            rw [if_neg (by omega), bind_join_inl]
            simp only []
            rw [roomT_lt (by simp; omega)]
            rfl
          · rw [decide_eq_false hc]
            simp only [cond_false]
            rw [bind_join_inl]
            simp only []
            rw [roomT_lt (by simp; omega)]
            rfl
    · exact fin i l hlt
theorem nrunes_t {s : List UInt8} (hs : s.length < 1000000) : name_Runes s = some (runesR s []) := by
  have := nrunes_loop hs s.length 0 [] (by omega) (by omega) (by simp)
  simpa [name_Runes] using this
theorem runesR_ok {s : List UInt8} : (runesR s []).2.1 = (runesM s).isSome := by
  unfold runesR; cases runesM s <;> rfl
/-! ### right values -/
def rightV (v : Val) : Bool := decide ((v.1 = 1 ∧ v.2.2.1 = [] ∧ -2147483647 ≤ v.2.1 ∧ v.2.1 ≤ 2147483647) ∨ (v.1 = 2 ∧ v.2.1 = 0 ∧ (runesM v.2.2.1).isSome = true ∧ v.2.2.1.length ≤ 64) ∨ (v.1 = 3 ∧ v.2.2.1 = [] ∧ 0 ≤ v.2.1 ∧ v.2.1 ≤ 1))
theorem refRight9_t {v : Val} (hv : v.2.2.1.length < 4294967296) : ref09_Right v = some (rightV v) := by
  unfold ref09_Right rightV
  simp only [runes_t (s := v.2.2.1) (by omega), Option.bind_some, runesR_ok, cond_dec]
  by_cases h1 : v.1 = 1
  · rw [if_pos h1]
    by_cases h2 : v.2.2.1 = []
    · by_cases h3 : v.2.1 ≥ -2147483647
      · simp only [h1, h2, h3]; simp <;> omega
      · simp only [h1, h2]; simp [h3] <;> omega
    · simp [h1, h2]
  rw [if_neg h1]
  by_cases h2 : v.1 = 2
  · rw [if_pos h2]
    cases hr : (runesM v.2.2.1).isSome with
    | true =>
      by_cases h3 : v.2.1 = 0
      · simp only [h2, h3]; simp <;> omega
      · simp [h2, h3]
    | false => by_cases h3 : v.2.1 = 0 <;> simp [h2, h3]
  rw [if_neg h2]
  by_cases h3 : v.1 = 3
  · rw [if_pos h3]
    by_cases h4 : v.2.2.1 = []
    · by_cases h5 : v.2.1 ≥ 0
      · simp only [h3, h4]; simp [h5] <;> omega
      · simp only [h3, h4]; simp [h5] <;> omega
    · simp [h3, h4]
  rw [if_neg h3]
  simp [h1, h2, h3]
/-! ### texts in quotes -/
def specB (b : UInt8) : Bool := decide (b.toNat = 34) || decide (b.toNat = 92)
def spec (c : Int) : Bool := decide (c = 34) || decide (c = 92)
def quoteM (s : List UInt8) : List UInt8 := s.flatMap fun b => if specB b then [92, b] else [b]
theorem quote_cons {b : UInt8} {s : List UInt8} : quoteM (b :: s) = (if specB b then [92, b] else [b]) ++ quoteM s := by unfold quoteM; rw [List.flatMap_cons]
theorem quote_app {s t : List UInt8} : quoteM (s ++ t) = quoteM s ++ quoteM t := by unfold quoteM; rw [List.flatMap_append]
theorem quote_len : ∀ (s : List UInt8), (quoteM s).length ≤ 2 * s.length
  | [] => by simp [quoteM]
  | b :: s => by
    have := quote_len s
    rw [quote_cons, List.length_append, List.length_cons]
    split <;> simp <;> omega
theorem quote_high : ∀ (s : List UInt8), (∀ b ∈ s, 128 ≤ b.toNat) → quoteM s = s
  | [], _ => rfl
  | b :: s, h => by
    have h1 := h b (List.mem_cons_self ..)
    have : specB b = false := by
      simp only [specB, Bool.or_eq_false_iff, decide_eq_false_iff_not]; omega
    rw [quote_cons, this, quote_high s (fun x hx => h x (List.mem_cons_of_mem _ hx))]; rfl
theorem spec_byte {a : UInt8} : spec (a.toNat : Int) = specB a := by
  unfold spec specB
  have h1 : decide ((a.toNat : Int) = 34) = decide (a.toNat = 34) := by rw [decide_eq_decide]; omega
  have h3 : decide ((a.toNat : Int) = 92) = decide (a.toNat = 92) := by rw [decide_eq_decide]; omega
  rw [h1, h3]
theorem quote_step {s : List UInt8} (h0 : (charM s).2 ≠ 0) : quoteM s = (if spec (charM s).1 then [92] else []) ++ encN (charM s).1.toNat ++ quoteM (s.drop (charM s).2) := by
  have hi := charM_int s
  have hv := charM_valid h0
  have hq : quoteM s = quoteM (s.take (charM s).2) ++ quoteM (s.drop (charM s).2) := by rw [← quote_app, List.take_append_drop]
  rw [hq]
  congr 1
  by_cases hc : (charM s).1.toNat < 128
  · have hb : encN (charM s).1.toNat = [UInt8.ofNat (charM s).1.toNat] := by unfold encN; rw [if_pos hc]
    have ht : (UInt8.ofNat (charM s).1.toNat).toNat = (charM s).1.toNat := UInt8.toNat_ofNat_of_lt' (by show _ < 256; omega)
    rw [hv, hb]
    generalize hbb : UInt8.ofNat (charM s).1.toNat = b at ht ⊢
    have hcb : (charM s).1 = (b.toNat : Int) := by omega
    rw [hcb, spec_byte, quote_cons]
    have hnil : quoteM [] = [] := rfl
    rw [hnil, List.append_nil]
    cases specB b <;> rfl
  · have hsp : spec (charM s).1 = false := by
      simp only [spec, Bool.or_eq_false_iff, decide_eq_false_iff_not]; omega
    rw [quote_high _ (by rw [hv]; exact enc_high (by omega) (by omega)), hsp, hv]; rfl
theorem writeRune_t {c : Int} {v : Bool × Unit × Unit} {w : List Int} (hc : Char0 c) (hw : w.length < 4294967000) : ∃ n, strings_Builder_WriteRune c v w = some ((n, false, ()), (true, (), ()), w ++ bI (encN c.toNat), ()) := by
  unfold strings_Builder_WriteRune
  have h : strings_Builder_copyCheck v w = some ((), (true, (), ()), w, ()) := by
    obtain ⟨b, _, _⟩ := v
    unfold strings_Builder_copyCheck
    cases b <;> rfl
  rw [h]
  simp only [Option.bind_some, append_t hc hw]
  exact ⟨_, rfl⟩
theorem bI_92 : bI [92] = [92] := rfl
theorem bI_34 : bI [34] = [34] := rfl
theorem quote_loop {s : List UInt8} (hs : s.length < 1000000) : ∀ (k i : Nat) (out : List UInt8) (b : Bool) (l : List Int), s.length - i ≤ k → i ≤ s.length → out.length ≤ 5 * i + 1 → runesM (s.drop i) = some l →
    loopT (value_quote_l4 s) (bI out, (b, (), ()), i, ()) = some (out ++ quoteM (s.drop i) ++ [34]) := by
  intro k
  have fin : ∀ (i : Nat) (out : List UInt8) (b : Bool), ¬ i < s.length → out.length ≤ 5 * s.length + 1 → loopT (value_quote_l4 s) (bI out, (b, (), ()), i, ()) = some (out ++ quoteM (s.drop i) ++ [34]) := by
    intro i out b hi ho
    refine loopT_inr ?_
    unfold value_quote_l4
    rw [cond_dec, if_neg (by simp only []; exact hi), writeByte_t (by rw [bI_len]; omega)]
    simp only [Option.bind_some]
    rw [← bI_34, ← bI_app, string_t (by rw [List.length_append]; simp only [List.length_cons, List.length_nil]; omega), List.drop_eq_nil_of_le (by omega)]
    simp [quoteM]
  induction k with
  | zero => intro i out b l hk hi ho hl; exact fin i out b (by omega) (by omega)
  | succ k ih =>
    intro i out b l hk hi ho hl
    by_cases hlt : i < s.length
    · have hne : s.drop i ≠ [] := fun e => by have := congrArg List.length e; simp at this; omega
      have hle := charM_le (s.drop i)
      simp only [List.length_drop] at hle
      by_cases h0 : (charM (s.drop i)).2 = 0
      · rw [runesM_none hne h0] at hl; cases hl
      · rw [runesM_step hne h0, List.drop_drop, Option.map_eq_some_iff] at hl
        obtain ⟨l', hl', rfl⟩ := hl
        have hc := charM_char0 h0
        have hstep := quote_step h0
        rw [List.drop_drop] at hstep
        have hen := encN_len (n := (charM (s.drop i)).1.toNat)
        have turn : value_quote_l4 s (bI out, (b, (), ()), i, ()) = some (.inl (bI (out ++ ((if spec (charM (s.drop i)).1 then [92] else []) ++ encN (charM (s.drop i)).1.toNat)), (true, (), ()), i + (charM (s.drop i)).2, ())) := by
          unfold value_quote_l4
          rw [cond_dec, if_pos (by simp only []; exact hlt)]
          have hnat : (((charM (s.drop i)).1.toNat : Nat) : Int) = (charM (s.drop i)).1 := by have := charM_int (s.drop i); omega
          simp only [decode_N hlt, decN, if_neg h0, hnat, Option.bind_some]
          obtain ⟨n2, e2⟩ := writeRune_t (v := (true, (), ())) (w := bI out ++ [92]) hc (by rw [List.length_append, bI_len]; simp only [List.length_cons, List.length_nil]; omega)
          obtain ⟨n1, e1⟩ := writeRune_t (v := (b, (), ())) (w := bI out) hc (by rw [bI_len]; omega)
          have es : spec (charM (s.drop i)).1 = (decide ((charM (s.drop i)).1 = 34) || decide ((charM (s.drop i)).1 = 92)) := rfl
          rw [es]
          cases h34 : decide ((charM (s.drop i)).1 = 34) with
          | true =>
            simp only [cond_true, Bool.true_or, if_true]
            rw [writeByte_t (by rw [bI_len]; omega)]
            simp only [Option.bind_some]
            rw [e2]
            simp only [Option.bind_some]
            rw [← bI_92, ← bI_app, ← bI_app, List.append_assoc]
          | false =>
            simp only [cond_false, Bool.false_or]
            cases h92 : decide ((charM (s.drop i)).1 = 92) with
            | true =>
              simp only [cond_true, if_true]
              rw [writeByte_t (by rw [bI_len]; omega)]
              simp only [Option.bind_some]
              rw [e2]
              simp only [Option.bind_some]
              rw [← bI_92, ← bI_app, ← bI_app, List.append_assoc]
            | false =>
              simp only [cond_false, Bool.false_eq_true, if_false, List.nil_append]
              rw [e1]
              simp only [Option.bind_some]
              rw [← bI_app]
        rw [loopT_inl turn, ih _ _ _ l' (by omega) (by omega) ?_ hl', hstep]
        · simp only [List.append_assoc]
        · have h1 : (if spec (charM (s.drop i)).1 then ([92] : List UInt8) else []).length ≤ 1 := by split <;> simp
          have h5 : ((if spec (charM (s.drop i)).1 then ([92] : List UInt8) else []) ++ encN (charM (s.drop i)).1.toNat).length ≤ 5 * (charM (s.drop i)).2 := by
            rw [List.length_append]; omega
          rw [List.length_append]
          omega
    · exact fin i out b (by omega) (by omega)
theorem quote_t {s : List UInt8} {l : List Int} (hs : s.length < 1000000) (hl : runesM s = some l) : value_quote s = some ([34] ++ quoteM s ++ [34]) := by
  have := quote_loop hs s.length 0 [34] true l (by omega) (by omega) (by simp) (by simpa using hl)
  unfold value_quote
  rw [writeByte_t (by simp)]
  simp only [Option.bind_some, List.nil_append]
  simpa [bI_34] using this
theorem drop_cons' {s : List UInt8} {i : Nat} (h : i < s.length) : s.drop i = s[i] :: s.drop (i + 1) := List.drop_eq_getElem_cons h
theorem refQuote_loop {v : Val} (hs : v.2.2.1.length < 1000000) : ∀ (k i : Nat) (out : List UInt8), v.2.2.1.length - i ≤ k → i ≤ v.2.2.1.length → out.length ≤ 2 * i + 1 → loopT (ref09_Text_l9 v) (out, (i : Int), ()) = some (out ++ quoteM (v.2.2.1.drop i) ++ [34]) := by
  obtain ⟨vk, vn, s, ⟨⟩⟩ := v
  simp only at hs ⊢
  intro k
  have fin : ∀ (i : Nat) (out : List UInt8), ¬ i < s.length → out.length ≤ 3000000 → loopT (ref09_Text_l9 (vk, vn, s, ())) (out, (i : Int), ()) = some (out ++ quoteM (s.drop i) ++ [34]) := by
    intro i out hi ho
    rw [List.drop_eq_nil_of_le (by omega)]
    refine loopT_inr ?_
    unfold ref09_Text_l9
    rw [cond_dec, if_neg (by simp only []; omega), catT_some (by simp; omega)]
    simp [quoteM]
  induction k with
  | zero => intro i out hk hi ho; exact fin i out (by omega) (by omega)
  | succ k ih =>
    intro i out hk hi ho
    by_cases hlt : i < s.length
    · have hd : s.drop i = s[i] :: s.drop (i + 1) := drop_cons' hlt
      have w1 : IntKind.wrap .i64 ((i : Int) + 1) = ((i + 1 : Nat) : Int) := by rw [wrap64 (by omega) (by omega)]; rfl
      have hsub : subI s (i : Int) ((i + 1 : Nat) : Int) = some [s[i]] := by
        rw [subI_nat (by omega) (by omega), List.drop_take, hd]
        have e : i + 1 - i = 1 := by omega
        rw [e]; rfl
      have hbl : (if specB s[i] then ([92, s[i]] : List UInt8) else [s[i]]).length ≤ 2 := by split <;> simp
      rw [loopT_inl (b := (out ++ (if specB s[i] then [92, s[i]] else [s[i]]), ((i + 1 : Nat) : Int), ())), ih _ _ (by omega) (by omega) (by rw [List.length_append]; omega), hd, quote_cons]
      · simp only [List.append_assoc]
      unfold ref09_Text_l9
      have hc1 : catT out [92] = some (out ++ [92]) := catT_some (by simp; omega)
      have hc2 : ∀ (o : List UInt8), o.length ≤ 2 * i + 2 → catT o [s[i]] = some (o ++ [s[i]]) := fun o h => catT_some (by simp; omega)
      simp only [cond_dec, if_pos (show (i : Int) < (s.length : Int) by omega), atI_nat, List.getElem?_eq_getElem hlt, Option.bind_some, w1, hsub, hc1]
      have e1 : ((s[i].toNat : Int) = 34) ↔ s[i].toNat = 34 := by omega
      have e3 : ((s[i].toNat : Int) = 92) ↔ s[i].toNat = 92 := by omega
      simp only [e1, e3, specB]
      have hl1 : (out ++ [92] : List UInt8).length ≤ 2 * i + 2 := by simp; omega
      by_cases h1 : s[i].toNat = 34
      · simp [h1, hc2 _ hl1]
      · by_cases h3 : s[i].toNat = 92
        · simp [h1, h3, hc2 _ hl1]
        · simp [h1, h3, hc2 out (by omega)]
    · exact fin i out hlt (by omega)
/-! ### a right value's text -/
def textV (v : Val) : List UInt8 := if v.1 = 1 then Lib.itoa v.2.1 else if v.1 = 3 then (if v.2.1 = 1 then [116, 114, 117, 101] else [102, 97, 108, 115, 101]) else [34] ++ quoteM v.2.2.1 ++ [34]
theorem rightV_cases {v : Val} (h : rightV v = true) : (∃ n : Int, v = (1, n, [], ()) ∧ -2147483647 ≤ n ∧ n ≤ 2147483647) ∨ (∃ s l, v = (2, 0, s, ()) ∧ runesM s = some l ∧ s.length ≤ 64) ∨ v = (3, 0, [], ()) ∨ v = (3, 1, [], ()) := by
  obtain ⟨k, n, s, ⟨⟩⟩ := v
  unfold rightV at h
  simp only [decide_eq_true_eq] at h
  rcases h with ⟨rfl, rfl, h1, h2⟩ | ⟨rfl, rfl, h1, h2⟩ | ⟨rfl, rfl, h1, h2⟩
  · exact .inl ⟨n, rfl, h1, h2⟩
  · cases hr : runesM s with
    | none => rw [hr] at h1; cases h1
    | some l => exact .inr (.inl ⟨s, l, rfl, hr, h2⟩)
  · have : n = 0 ∨ n = 1 := by omega
    rcases this with rfl | rfl
    · exact .inr (.inr (.inl rfl))
    · exact .inr (.inr (.inr rfl))
theorem valueText_t {v : Val} (h : rightV v = true) : value_Text v = some (textV v) := by
  rcases rightV_cases h with ⟨n, rfl, h1, h2⟩ | ⟨s, l, rfl, h1, h2⟩ | rfl | rfl
  · unfold value_Text textV
    simp only [strItoa_t (show inR n from ⟨by omega, by omega⟩)]
    rfl
  · unfold value_Text textV
    simp only [quote_t (by omega) h1]
    rfl
  · rfl
  · rfl
theorem refText9_t {v : Val} (h : rightV v = true) : ref09_Text v = some (textV v) := by
  rcases rightV_cases h with ⟨n, rfl, h1, h2⟩ | ⟨s, l, rfl, h1, h2⟩ | rfl | rfl
  · unfold ref09_Text textV
    simp only [digits_t (show (-9223372036854775808 : Int) ≤ n by omega) (by omega)]
    rfl
  · unfold ref09_Text textV
    have := refQuote_loop (v := (2, 0, s, ())) (by simp only []; omega) s.length 0 [34] (by simp) (by omega) (by simp)
    simp only [List.drop_zero] at this
    simpa using this
  · rfl
  · rfl
/-! ### a right value's bytes -/
def foldM (n : Int) : Int := if n < 0 then -2 * n - 1 else 2 * n
def codeV (v : Val) : List UInt8 := if v.1 = 2 then intM 2 ++ (intM v.2.2.1.length ++ v.2.2.1) else intM v.1.toNat ++ intM (foldM v.2.1).toNat
theorem fold_le {n : Int} (h : -2147483648 ≤ n) (h2 : n ≤ 2147483647) : 0 ≤ foldM n ∧ foldM n ≤ 4294967295 := by
  unfold foldM
  split <;> omega
theorem code_parts {v : Val} (h : rightV v = true) : -2147483648 ≤ v.2.1 ∧ v.2.1 ≤ 2147483647 ∧ 1 ≤ v.1 ∧ v.1 ≤ 3 ∧ v.2.2.1.length ≤ 64 := by
  rcases rightV_cases h with ⟨n, rfl, h1, h2⟩ | ⟨s, l, rfl, h1, h2⟩ | rfl | rfl
  · simp; omega
  · simp; omega
  · simp
  · simp
theorem cat_int {a : Nat} {t : List UInt8} (ha : a < 128 ^ 7) (ht : t.length < 100000) : catT (intM a) t = some (intM a ++ t) := by
  have := intM_len 7 a ha
  exact catT_some (by omega)
end Go.Proofs.YtkoicblnbbncbaaGreatDoor.Q

set_option linter.unusedVariables false
set_option linter.unusedSimpArgs false
set_option maxRecDepth 100000
namespace Go.Proofs.YtkoicblnbbncbaaGreatDoor.Q
open Go.EM Go.TY Go.Proofs Go.Proofs.YtkoicblnbbncbaaGreatDoor.Y Go.Proofs.YtkoicblnbbncbaaGreatDoor.K Go.Proofs.YtkoicblnbbncbaaGreatDoor.L
abbrev Path := List (List UInt8)
abbrev Ent := Path × Int × List Val × Int × Unit
abbrev Chg := Int × Ent × Ent × Unit
/-! ### orders -/
theorem cb_cmp : Cmp Lib.compareBytes where
  one a b := by have := cb_one a b; omega
  neg a b := cb_neg a b
  zero a b := cb_zero a b
  trans a b d h1 h2 := by
    have h3 := cb_trans a b d (by omega) (by omega)
    rcases Int.lt_or_eq_of_le h3 with h | h
    · exact h
    · have e := (cb_zero a d).1 h
      subst e
      have := cb_neg a b
      omega
theorem ci_cmp : Cmp cmpI where
  one a b := by
    unfold cmpI
    split
    · omega
    · split <;> omega
  neg a b := by
    unfold cmpI
    by_cases h1 : a < b
    · rw [if_neg (by omega), if_pos (by omega), if_pos h1]; rfl
    · by_cases h2 : a > b
      · rw [if_pos (by omega), if_neg h1, if_pos h2]
      · rw [if_neg (by omega), if_neg (by omega), if_neg h1, if_neg h2]; rfl
  zero a b := by
    unfold cmpI
    by_cases h1 : a < b
    · rw [if_pos h1]; constructor <;> intro h <;> omega
    · by_cases h2 : a > b
      · rw [if_neg h1, if_pos h2]; constructor <;> intro h <;> omega
      · rw [if_neg h1, if_neg h2]; constructor <;> intro h <;> omega
  trans a b d h1 h2 := by
    unfold cmpI at h1 h2 ⊢
    have e1 : a < b := by
      by_cases h : a < b
      · exact h
      · rw [if_neg h] at h1; split at h1 <;> omega
    have e2 : b < d := by
      by_cases h : b < d
      · exact h
      · rw [if_neg h] at h2; split at h2 <;> omega
    rw [if_pos (by omega)]; omega
theorem less_cb : ∀ a b : List UInt8, Op.bytesLess a b = decide (Lib.compareBytes a b < 0)
  | [], [] => rfl
  | _ :: _, [] => rfl
  | [], _ :: _ => rfl
  | x :: a, y :: b => by
    simp only [Op.bytesLess, Lib.compareBytes]
    by_cases h1 : x < y
    · simp [h1]
    · by_cases h2 : y < x
      · have h3 : x ≠ y := fun e => by subst e; exact h1 h2
        simp [h1, h2, h3]
      · have h3 : x = y := UInt8.toNat_inj.1 (by rw [UInt8.lt_iff_toNat_lt] at h1 h2; omega)
        subst h3
        simp [h1, less_cb a b]
theorem strCompare_t (a b : List UInt8) : cmp_Compare_string a b = some (Lib.compareBytes a b) := by
  unfold cmp_Compare_string cmp_isNaN_string
  simp only [decide_true, Bool.not_true, Option.bind_some, cond_false, less_cb]
  have h1 := cb_one a b
  have h0 := cb_zero a b
  by_cases h2 : Lib.compareBytes a b < 0
  · rw [decide_eq_true h2]
    simp only [cond_true]
    congr 1; omega
  · rw [decide_eq_false h2]
    simp only [cond_false, Bool.false_or]
    by_cases h3 : a = b
    · rw [decide_eq_true h3]
      simp only [Bool.not_true, cond_false]
      rw [h0.2 h3]
    · rw [decide_eq_false h3]
      simp only [Bool.not_false, cond_true]
      congr 1
      have : Lib.compareBytes a b ≠ 0 := fun e => h3 (h0.1 e)
      omega
def cmpP : Path → Path → Int := cmpL Lib.compareBytes
theorem cmpP_cons {x y : List UInt8} {a b : Path} : cmpP (x :: a) (y :: b) = if Lib.compareBytes x y = 0 then cmpP a b else Lib.compareBytes x y := by unfold cmpP; rw [cmpL]
theorem len_of {A : Type} {a b : List A} {i : Nat} : (decide ((i : Int) < (a.length : Int)) = true) ↔ i < a.length := by
  rw [decide_eq_true_eq]; omega
theorem pathCmp_loop {a b : Path} (ha : a.length < 1000000) : ∀ (k i : Nat), a.length - i ≤ k → i ≤ a.length → i ≤ b.length →
    ((loopT (slices_Compare_Sl_string_string_l2 a b) ((i : Int), ()) : Option (Unit ⊕ Int)).bind (joinS fun _ => cond (decide ((a.length : Int) < (b.length : Int))) (some (-1)) (some 0))) = some (cmpP (a.drop i) (b.drop i)) := by
  intro k
  have fin : ∀ i : Nat, i = a.length → i ≤ b.length → ((loopT (slices_Compare_Sl_string_string_l2 a b) ((i : Int), ()) : Option (Unit ⊕ Int)).bind (joinS fun _ => cond (decide ((a.length : Int) < (b.length : Int))) (some (-1)) (some 0))) = some (cmpP (a.drop i) (b.drop i)) := by
    intro i hi h2
    have hl : loopT (slices_Compare_Sl_string_string_l2 a b) ((i : Int), ()) = some (.inl ()) := by
      refine loopT_inr ?_
      unfold slices_Compare_Sl_string_string_l2
      simp only [cond_dec]
      rw [if_neg (by omega)]
    rw [hl, bind_join_inl, List.drop_eq_nil_of_le (by omega : a.length ≤ i)]
    rw [cond_dec]
    by_cases h5 : i < b.length
    · rw [List.drop_eq_getElem_cons h5, if_pos (by omega)]; rfl
    · rw [List.drop_eq_nil_of_le (by omega), if_neg (by omega)]; rfl
  induction k with
  | zero => intro i hk h1 h2; exact fin i (by omega) h2
  | succ k ih =>
    intro i hk h1 h2
    by_cases h3 : i < a.length
    · rw [List.drop_eq_getElem_cons h3]
      by_cases h4 : i < b.length
      · rw [List.drop_eq_getElem_cons h4, cmpP_cons]
        have turn : slices_Compare_Sl_string_string_l2 a b ((i : Int), ()) = if Lib.compareBytes a[i] b[i] = 0 then some (.inl (((i + 1 : Nat) : Int), ())) else some (.inr (.inr (Lib.compareBytes a[i] b[i]))) := by
          unfold slices_Compare_Sl_string_string_l2
          simp only [cond_dec]
          rw [if_pos (by omega), atI_lt h3]
          simp only [Option.bind_some]
          rw [if_neg (by omega), atI_lt h4]
          simp only [Option.bind_some, strCompare_t]
          by_cases hz : Lib.compareBytes a[i] b[i] = 0
          · rw [decide_eq_true hz, if_pos hz]
            simp only [Bool.not_true, cond_false]
            rw [wrap64 (by omega) (by omega)]; rfl
          · rw [decide_eq_false hz, if_neg hz]
            simp only [Bool.not_false, cond_true]
        by_cases hz : Lib.compareBytes a[i] b[i] = 0
        · rw [if_pos hz] at turn ⊢
          rw [loopT_inl turn]
          exact ih (i + 1) (by omega) (by omega) (by omega)
        · rw [if_neg hz] at turn ⊢
          rw [loopT_inr turn, bind_join_inr]
      · have hl : loopT (slices_Compare_Sl_string_string_l2 a b) ((i : Int), ()) = some (.inr 1) := by
          refine loopT_inr ?_
          unfold slices_Compare_Sl_string_string_l2
          simp only [cond_dec]
          rw [if_pos (by omega), atI_lt h3]
          simp only [Option.bind_some]
          rw [if_pos (by omega)]
        rw [hl, bind_join_inr, List.drop_eq_nil_of_le (by omega : b.length ≤ i)]; rfl
    · exact fin i (by omega) h2
theorem pathCompare_t {a b : Path} (ha : a.length < 1000000) : path_Compare a b = some (cmpP a b) := by
  have := pathCmp_loop (b := b) ha a.length 0 (by omega) (by omega) (by omega)
  simp only [List.drop_zero] at this
  rw [show (((0 : Nat) : Int)) = 0 from rfl] at this
  unfold path_Compare slices_Compare_Sl_string_string
  rw [this]; rfl
theorem refCmp_loop {a b : Path} (ha : a.length < 1000000) (hs : ∀ x ∈ a, x.length < 1000000) : ∀ (k i : Nat), a.length - i ≤ k → i ≤ a.length → i ≤ b.length →
    ((loopT (ref10_Compare_l2 a b) ((i : Int), ()) : Option (Unit ⊕ Int)).bind (joinS fun _ => cond (decide ((a.length : Int) < (b.length : Int))) (some (-1)) (cond (decide ((a.length : Int) > (b.length : Int))) (some 1) (some 0)))) = some (cmpP (a.drop i) (b.drop i)) := by
  intro k
  have fin : ∀ i : Nat, i ≤ a.length → i ≤ b.length → ¬ (i < a.length ∧ i < b.length) → ((loopT (ref10_Compare_l2 a b) ((i : Int), ()) : Option (Unit ⊕ Int)).bind (joinS fun _ => cond (decide ((a.length : Int) < (b.length : Int))) (some (-1)) (cond (decide ((a.length : Int) > (b.length : Int))) (some 1) (some 0)))) = some (cmpP (a.drop i) (b.drop i)) := by
    intro i h1 h2 h3
    have hl : loopT (ref10_Compare_l2 a b) ((i : Int), ()) = some (.inl ()) := by
      refine loopT_inr ?_
      unfold ref10_Compare_l2
      simp only [cond_dec]
      by_cases h4 : (i : Int) < (a.length : Int)
      · rw [if_pos h4, if_neg (by omega)]
      · rw [if_neg h4]
    rw [hl, bind_join_inl]
    simp only [cond_dec]
    by_cases h4 : i < a.length
    · rw [List.drop_eq_nil_of_le (by omega : b.length ≤ i), List.drop_eq_getElem_cons h4, if_neg (by omega), if_pos (by omega)]; rfl
    · rw [List.drop_eq_nil_of_le (by omega : a.length ≤ i)]
      by_cases h5 : i < b.length
      · rw [List.drop_eq_getElem_cons h5, if_pos (by omega)]; rfl
      · rw [List.drop_eq_nil_of_le (by omega), if_neg (by omega), if_neg (by omega)]; rfl
  induction k with
  | zero => intro i hk h1 h2; exact fin i h1 h2 (by omega)
  | succ k ih =>
    intro i hk h1 h2
    by_cases h3 : i < a.length ∧ i < b.length
    · obtain ⟨h3, h4⟩ := h3
      rw [List.drop_eq_getElem_cons h3, List.drop_eq_getElem_cons h4, cmpP_cons]
      have turn : ref10_Compare_l2 a b ((i : Int), ()) = if Lib.compareBytes a[i] b[i] = 0 then some (.inl (((i + 1 : Nat) : Int), ())) else some (.inr (.inr (Lib.compareBytes a[i] b[i]))) := by
        unfold ref10_Compare_l2
        simp only [cond_dec]
        rw [if_pos (by omega), if_pos (by omega), atI_lt h3, atI_lt h4]
        simp only [Option.bind_some, texts_t (hs _ (List.getElem_mem h3))]
        by_cases hz : Lib.compareBytes a[i] b[i] = 0
        · rw [decide_eq_true hz, if_pos hz]
          simp only [Bool.not_true, cond_false]
          rw [wrap64 (by omega) (by omega)]; rfl
        · rw [decide_eq_false hz, if_neg hz]
          simp only [Bool.not_false, cond_true]
      by_cases hz : Lib.compareBytes a[i] b[i] = 0
      · rw [if_pos hz] at turn ⊢
        rw [loopT_inl turn]
        exact ih (i + 1) (by omega) (by omega) (by omega)
      · rw [if_neg hz] at turn ⊢
        rw [loopT_inr turn, bind_join_inr]
    · exact fin i h1 h2 h3
theorem refPathCompare_t {a b : Path} (ha : a.length < 1000000) (hs : ∀ x ∈ a, x.length < 1000000) : ref10_Compare a b = some (cmpP a b) := by
  have := refCmp_loop (b := b) ha hs a.length 0 (by omega) (by omega) (by omega)
  simp only [List.drop_zero] at this
  rw [show (((0 : Nat) : Int)) = 0 from rfl] at this
  unfold ref10_Compare
  exact this
/-- Where an entry stands. -/
def keyE (e : Ent) : Path × Int := (e.1, e.2.1)
def cmpK : Path × Int → Path × Int → Int := cmpB cmpP cmpI
theorem ck_cmp : Cmp cmpK := (Cmp.list cb_cmp).pair ci_cmp
theorem changeCompare_t {a b : Ent} (ha : a.1.length < 1000000) : change_compare a b = some (cmpK (keyE a) (keyE b)) := by
  unfold change_compare
  simp only [pathCompare_t ha, compare_t, or_t, Option.bind_some]
  rfl
theorem refCompare39_t {a b : Ent} (ha : a.1.length < 1000000) (hs : ∀ x ∈ a.1, x.length < 1000000) : ref39_compare a b = some (cmpK (keyE a) (keyE b)) := by
  unfold ref39_compare cmpK cmpB keyE
  simp only [refPathCompare_t ha hs, Option.bind_some, cond_dec]
  by_cases h0 : cmpP a.1 b.1 = 0
  · rw [decide_eq_true h0, if_pos h0]
    simp only [Bool.not_true, cond_false]
    unfold cmpI
    by_cases h1 : a.2.1 < b.2.1
    · rw [if_pos h1, if_pos h1]
    · by_cases h2 : a.2.1 > b.2.1
      · rw [if_neg h1, if_pos h2, if_neg h1, if_pos h2]
      · rw [if_neg h1, if_neg h2, if_neg h1, if_neg h2]
  · rw [decide_eq_false h0, if_neg h0]
    simp only [Bool.not_false, cond_true]
/-! ### names -/
def mayM (c : Int) : Bool := decide (32 ≤ c ∧ (c < 127 ∨ 159 < c) ∧ c ≠ 65533)
theorem may_t (c : Int) : name_may c = some (mayM c) := by
  unfold name_may mayM
  simp only [cond_dec]
  by_cases h1 : c < 32
  · rw [if_pos h1, if_pos h1, decide_eq_false (by omega)]
  rw [if_neg h1]
  by_cases h2 : c ≥ 127
  · rw [if_pos h2]
    by_cases h3 : c < 160
    · rw [if_pos h3, decide_eq_false (by omega)]
    · rw [if_neg h3]
      by_cases h4 : c = 65533
      · rw [decide_eq_true h4, decide_eq_false (by omega)]; rfl
      · rw [decide_eq_false h4, decide_eq_true (by omega)]; rfl
  · rw [if_neg h2]
    rw [decide_eq_false (by omega : ¬ c = 65533), decide_eq_true (by omega)]; rfl
theorem refMay_t (c : Int) : ref03_may c = some (mayM c) := by
  unfold ref03_may mayM
  simp only [cond_dec]
  by_cases h1 : c ≥ 32
  · rw [if_pos h1]
    by_cases h2 : c < 127
    · rw [if_pos h2, decide_eq_false (by omega : ¬ c = 65533), decide_eq_true (by omega)]; rfl
    · rw [if_neg h2]
      by_cases h3 : c > 159
      · rw [if_pos h3]
        by_cases h4 : c = 65533
        · rw [decide_eq_true h4, decide_eq_false (by omega)]; rfl
        · rw [decide_eq_false h4, decide_eq_true (by omega)]; rfl
      · rw [if_neg h3, decide_eq_false (by omega)]
  · rw [if_neg h1, decide_eq_false (by omega)]
theorem runes_len : ∀ {s : List UInt8} {l : List Int}, runesM s = some l → l.length ≤ s.length := by
  have key : ∀ (n : Nat) (s : List UInt8) (l : List Int), s.length ≤ n → runesM s = some l → l.length ≤ s.length := by
    intro n
    induction n with
    | zero =>
      intro s l hn h
      have : s = [] := List.eq_nil_of_length_eq_zero (by omega)
      subst this
      rw [runesM_nil] at h; cases h; simp
    | succ n ih =>
      intro s l hn h
      by_cases hs : s = []
      · subst hs
        rw [runesM_nil] at h; cases h; simp
      · have hl : s.length ≠ 0 := fun e => hs (List.eq_nil_of_length_eq_zero e)
        by_cases h0 : (charM s).2 = 0
        · rw [runesM_none hs h0] at h; cases h
        · rw [runesM_step hs h0, Option.map_eq_some_iff] at h
          obtain ⟨l', hl', rfl⟩ := h
          have := ih _ l' (by rw [List.length_drop]; omega) hl'
          rw [List.length_drop] at this
          simp only [List.length_cons]; omega
  intro s l h
  exact key s.length s l (Nat.le_refl _) h
def nameM (s : List UInt8) : Bool := match runesM s with
  | some l => decide (1 ≤ l.length ∧ l.length ≤ 24) && l.all mayM
  | none => false
theorem nameRight_t {s : List UInt8} (hs : s.length < 1000000) : name_Right s = some (nameM s) := by
  unfold name_Right nameM
  rw [nrunes_t hs]
  simp only [Option.bind_some]
  cases hr : runesM s with
  | none => simp [runesR, hr]
  | some l =>
    have e : runesR s [] = (l, true, ()) := by unfold runesR; rw [hr]; rfl
    rw [e]
    simp only [Bool.not_true, cond_false, cond_dec]
    by_cases h0 : (l.length : Int) = 0
    · rw [if_pos h0, decide_eq_false (by omega)]; rfl
    rw [if_neg h0]
    by_cases h1 : (l.length : Int) > 24
    · rw [if_pos h1, decide_eq_false (by omega)]; rfl
    rw [if_neg h1, decide_eq_true (by omega), Bool.true_and]
    have := loop_all (f := name_Right_l5 (l, true, ())) (l := l) (fun i => ((i : Int), ())) mayM true false (fun i h => by
      unfold name_Right_l5
      simp only [cond_dec]
      rw [if_pos (by omega), atI_lt h]
      simp only [Option.bind_some, may_t]
      cases mayM l[i] with
      | true => simp only [Bool.not_true, cond_false, if_true]; rw [wrap64 (by omega) (by omega)]; rfl
      | false => rfl) (by
      unfold name_Right_l5
      simp only [cond_dec]
      rw [if_neg (by omega)])
    rw [show ((0 : Int), ()) = (((0 : Nat) : Int), ()) from rfl, this]
    cases l.all mayM <;> rfl
theorem refNameRight_t {s : List UInt8} (hs : s.length < 1000000) : ref03_Right s = some (nameM s) := by
  unfold ref03_Right nameM
  rw [runes_t (by omega)]
  simp only [Option.bind_some]
  have gen : ∀ (l : List Int) (ok : Bool), l.length < 1000000 → loopT (ref03_Right_l3 (l, ok, ())) ((0 : Int), ()) = some (if l.all mayM = true then .inl () else .inr false) := by
    intro l ok hl
    have := loop_all (f := ref03_Right_l3 (l, ok, ())) (l := l) (fun i => ((i : Int), ())) mayM (.inl ()) (.inr false) (fun i h => by
      unfold ref03_Right_l3
      simp only [cond_dec]
      rw [if_pos (by omega), atI_lt h]
      simp only [Option.bind_some, refMay_t]
      cases mayM l[i] with
      | true => simp only [Bool.not_true, cond_false, if_true]; rw [wrap64 (by omega) (by omega)]; rfl
      | false => rfl) (by
      unfold ref03_Right_l3
      simp only [cond_dec]
      rw [if_neg (by omega)])
    exact this
  cases hr : runesM s with
  | none =>
    have e : runesR s [] = ([], false, ()) := by unfold runesR; rw [hr]
    rw [e, gen [] false (by simp)]
    rfl
  | some l =>
    have e : runesR s [] = (l, true, ()) := by unfold runesR; rw [hr]; rfl
    have hl : l.length ≤ s.length := runes_len hr
    rw [e, gen l true (by omega)]
    cases hm : l.all mayM with
    | false =>
      simp only [Bool.false_eq_true, if_false, bind_join_inr, hm, Bool.and_false]
    | true =>
      simp only [if_true, bind_join_inl, cond_true, hm, Bool.and_true, cond_dec]
      by_cases h1 : (l.length : Int) ≥ 1
      · rw [if_pos h1]
        congr 1
        rw [decide_eq_decide]; omega
      · rw [if_neg h1, decide_eq_false (by omega)]
/-! ### paths -/
def checkM (p : Path) : Int := if p.length = 0 then 8 else if p.length > 8 then 9 else if p.all nameM = true then 0 else 8
theorem check_t {p : Path} (hs : ∀ x ∈ p, x.length < 1000000) : path_Check p = some (checkM p) := by
  unfold path_Check checkM
  simp only [cond_dec]
  by_cases h1 : (p.length : Int) = 0
  · rw [if_pos h1, if_pos (show p.length = 0 by omega)]
  rw [if_neg h1, if_neg (show ¬ p.length = 0 by omega)]
  by_cases h2 : (p.length : Int) > 8
  · rw [if_pos h2, if_pos (show p.length > 8 by omega)]
  rw [if_neg h2, if_neg (show ¬ p.length > 8 by omega)]
  unfold slices_ContainsFunc_Sl_string_string__path_Check_1 slices_IndexFunc_Sl_string_string__path_Check_1
  have gen := loop_list (f := slices_IndexFunc_Sl_string_string__path_Check_1_l2 p) (l := p) (S := Unit) (fun i _ => ((i : Int), ())) (fun i x _ => if nameM x = true then .inl () else .inr (i : Int)) (fun _ => -1) (fun _ _ => True) (fun i h s _ => by
    have turn : slices_IndexFunc_Sl_string_string__path_Check_1_l2 p ((i : Int), ()) = if nameM p[i] = true then some (.inl (((i + 1 : Nat) : Int), ())) else some (.inr (i : Int)) := by
      unfold slices_IndexFunc_Sl_string_string__path_Check_1_l2 path_Check_1
      simp only [cond_dec]
      rw [if_pos (by omega), atI_lt h]
      simp only [Option.bind_some, nameRight_t (hs _ (List.getElem_mem h))]
      cases nameM p[i] with
      | true => simp only [Bool.not_true, cond_false, if_true]; rw [wrap64 (by omega) (by omega)]; rfl
      | false => rfl
    by_cases hn : nameM p[i] = true
    · rw [if_pos hn] at turn ⊢
      exact .inl ⟨(), rfl, turn, trivial⟩
    · rw [if_neg hn] at turn ⊢
      exact .inr ⟨_, rfl, turn⟩) (fun s _ => by
    unfold slices_IndexFunc_Sl_string_string__path_Check_1_l2
    simp only [cond_dec]
    rw [if_neg (by omega)]) () trivial
  have val : ∀ (l : Path) (i : Nat), (foldE (S := Unit) (fun i x _ => if nameM x = true then .inl () else .inr (i : Int)) (fun _ => (-1 : Int)) i l () ≥ 0) ↔ ¬ l.all nameM = true := by
    intro l
    induction l with
    | nil => intro i; simp [foldE]
    | cons x l ih =>
      intro i
      by_cases hn : nameM x = true
      · simp only [foldE, hn, if_true, List.all_cons, Bool.true_and]
        exact ih (i + 1)
      · simp [foldE, hn]
  rw [show ((0 : Int), ()) = (((0 : Nat) : Int), ()) from rfl, gen]
  simp only [Option.bind_some]
  by_cases ha : p.all nameM = true
  · rw [decide_eq_false (fun h => (val p 0).1 h ha), if_pos ha]; rfl
  · rw [decide_eq_true ((val p 0).2 ha), if_neg ha]; rfl
theorem refCheck_t {p : Path} (hs : ∀ x ∈ p, x.length < 1000000) : ref10_Check p = some (checkM p) := by
  unfold ref10_Check checkM
  simp only [cond_dec]
  by_cases h1 : (p.length : Int) = 0
  · rw [if_pos h1, if_pos (show p.length = 0 by omega)]
  rw [if_neg h1, if_neg (show ¬ p.length = 0 by omega)]
  by_cases h2 : (p.length : Int) > 8
  · rw [if_pos h2, if_pos (show p.length > 8 by omega)]
  rw [if_neg h2, if_neg (show ¬ p.length > 8 by omega)]
  have := loop_all (f := ref10_Check_l6 p) (l := p) (fun i => ((i : Int), ())) nameM (0 : Int) 8 (fun i h => by
    unfold ref10_Check_l6
    simp only [cond_dec]
    rw [if_pos (by omega), atI_lt h]
    simp only [Option.bind_some, refNameRight_t (hs _ (List.getElem_mem h))]
    cases nameM p[i] with
    | true => simp only [Bool.not_true, cond_false, if_true]; rw [wrap64 (by omega) (by omega)]; rfl
    | false => rfl) (by
    unfold ref10_Check_l6
    simp only [cond_dec]
    rw [if_neg (by omega)])
  exact this
end Go.Proofs.YtkoicblnbbncbaaGreatDoor.Q

set_option linter.unusedVariables false
set_option linter.unusedSimpArgs false
set_option maxRecDepth 100000
namespace Go.Proofs.YtkoicblnbbncbaaGreatDoor.Q
open Go.EM Go.TY Go.Proofs Go.Proofs.YtkoicblnbbncbaaGreatDoor.Y Go.Proofs.YtkoicblnbbncbaaGreatDoor.K Go.Proofs.YtkoicblnbbncbaaGreatDoor.L
/-! ### alike -/
instance decE1 : DecidableEq (List Val × Int × Unit) := fun a b => @instDecidableEqProd (List Val) (Int × Unit) inferInstance inferInstance a b
instance decE2 : DecidableEq (Int × List Val × Int × Unit) := fun a b => @instDecidableEqProd Int (List Val × Int × Unit) inferInstance decE1 a b
instance decE : DecidableEq Ent := fun a b => @instDecidableEqProd Path (Int × List Val × Int × Unit) inferInstance decE2 a b
instance decC1 : DecidableEq (Ent × Unit) := fun a b => @instDecidableEqProd Ent Unit decE inferInstance a b
instance decC2 : DecidableEq (Ent × Ent × Unit) := fun a b => @instDecidableEqProd Ent (Ent × Unit) decE decC1 a b
instance decC : DecidableEq Chg := fun a b => @instDecidableEqProd Int (Ent × Ent × Unit) inferInstance decC2 a b
theorem dec_ite {p : Prop} [Decidable p] : (if decide p = true then true else false) = decide p := by cases decide p <;> rfl
theorem ite_bool {b : Bool} : (if b = true then true else false) = b := by cases b <;> rfl
theorem strsEq_t {a b : Path} (ha : a.length < 1000000) : slices_Equal_Sl_string_string a b = some (decide (a = b)) := by
  unfold slices_Equal_Sl_string_string
  by_cases hl : a.length = b.length
  · rw [decide_eq_true (by omega)]
    simp only [Bool.not_true, cond_false]
    have := loop_all2 (f := slices_Equal_Sl_string_string_l4 a b) (l := a) (m := b) (fun i => ((i : Int), ())) (fun x y => decide (x = y)) true false hl (fun i h h' => by
      unfold slices_Equal_Sl_string_string_l4
      simp only [cond_dec]
      rw [if_pos (by omega), atI_lt h, atI_lt h']
      simp only [Option.bind_some]
      cases decide (a[i] = b[i]) with
      | true => simp only [Bool.not_true, cond_false, if_true]; rw [wrap64 (by omega) (by omega)]; rfl
      | false => rfl) (by
      unfold slices_Equal_Sl_string_string_l4
      simp only [cond_dec]
      rw [if_neg (by omega)])
    rw [all2_dec, ite_bool] at this
    exact this
  · rw [decide_eq_false (by omega)]
    have : a ≠ b := fun e => hl (by rw [e])
    rw [decide_eq_false this]; rfl
theorem refStrsEq_t {a b : Path} (ha : a.length < 1000000) : ref03_Same a b = some (decide (a = b)) := by
  unfold ref03_Same
  by_cases hl : a.length = b.length
  · rw [decide_eq_true (by omega)]
    simp only [Bool.not_true, cond_false]
    have := loop_all2 (f := ref03_Same_l4 a b) (l := a) (m := b) (fun i => ((i : Int), ())) (fun x y => decide (x = y)) true false hl (fun i h h' => by
      unfold ref03_Same_l4
      simp only [cond_dec]
      rw [if_pos (by omega), atI_lt h, atI_lt h']
      simp only [Option.bind_some]
      cases decide (a[i] = b[i]) with
      | true => simp only [Bool.not_true, cond_false, if_true]; rw [wrap64 (by omega) (by omega)]; rfl
      | false => rfl) (by
      unfold ref03_Same_l4
      simp only [cond_dec]
      rw [if_neg (by omega)])
    rw [all2_dec, ite_bool] at this
    exact this
  · rw [decide_eq_false (by omega)]
    have : a ≠ b := fun e => hl (by rw [e])
    rw [decide_eq_false this]; rfl
theorem valsEq_t {a b : List Val} (ha : a.length < 1000000) : slices_Equal_Sl_api_Value_api_Value a b = some (decide (a = b)) := by
  unfold slices_Equal_Sl_api_Value_api_Value
  by_cases hl : a.length = b.length
  · rw [decide_eq_true (by omega)]
    simp only [Bool.not_true, cond_false]
    have := loop_all2 (f := slices_Equal_Sl_api_Value_api_Value_l4 a b) (l := a) (m := b) (fun i => ((i : Int), ())) (fun x y => decide (x = y)) true false hl (fun i h h' => by
      unfold slices_Equal_Sl_api_Value_api_Value_l4
      simp only [cond_dec]
      rw [if_pos (by omega), atI_lt h, atI_lt h']
      simp only [Option.bind_some, eqVal]
      cases decide (a[i] = b[i]) with
      | true => simp only [Bool.not_true, cond_false, if_true]; rw [wrap64 (by omega) (by omega)]; rfl
      | false => rfl) (by
      unfold slices_Equal_Sl_api_Value_api_Value_l4
      simp only [cond_dec]
      rw [if_neg (by omega)])
    rw [all2_dec, ite_bool] at this
    exact this
  · rw [decide_eq_false (by omega)]
    have : a ≠ b := fun e => hl (by rw [e])
    rw [decide_eq_false this]; rfl
theorem refValsEq_t {a b : List Val} (ha : a.length < 1000000) : ref09_Same a b = some (decide (a = b)) := by
  unfold ref09_Same
  by_cases hl : a.length = b.length
  · rw [decide_eq_true (by omega)]
    simp only [Bool.not_true, cond_false]
    have := loop_all2 (f := ref09_Same_l4 a b) (l := a) (m := b) (fun i => ((i : Int), ())) (fun x y => decide (x = y)) true false hl (fun i h h' => by
      unfold ref09_Same_l4
      simp only [cond_dec]
      rw [if_pos (by omega), atI_lt h, atI_lt h']
      simp only [Option.bind_some, eqVal]
      cases decide (a[i] = b[i]) with
      | true => simp only [Bool.not_true, cond_false, if_true]; rw [wrap64 (by omega) (by omega)]; rfl
      | false => rfl) (by
      unfold ref09_Same_l4
      simp only [cond_dec]
      rw [if_neg (by omega)])
    rw [all2_dec, ite_bool] at this
    exact this
  · rw [decide_eq_false (by omega)]
    have : a ≠ b := fun e => hl (by rw [e])
    rw [decide_eq_false this]; rfl
/-- An entry whose lists are short. -/
def lowE (e : Ent) : Prop := e.1.length < 1000000 ∧ e.2.2.1.length < 1000000
theorem pathSame_t {a b : Path} (ha : a.length < 1000000) : path_Same a b = some (decide (a = b)) := by
  unfold path_Same
  rw [strsEq_t ha]; rfl
theorem viewSame_t {a b : Ent} (ha : lowE a) : view_same a b = some (decide (a = b)) := by
  obtain ⟨p, k, l, n, ⟨⟩⟩ := a
  obtain ⟨p', k', l', n', ⟨⟩⟩ := b
  unfold view_same
  simp only [pathSame_t ha.1, valsEq_t ha.2, Option.bind_some, cond_dec]
  by_cases h1 : k = k'
  · rw [if_pos h1]
    simp only [Option.bind_some]
    by_cases h2 : n = n'
    · by_cases h3 : p = p'
      · by_cases h4 : l = l'
        · simp [h1, h2, h3, h4]
        · simp [h1, h2, h3, h4]
      · simp [h1, h2, h3]
    · simp [h1, h2]
  · rw [if_neg h1]
    simp [h1]
theorem changeSame_t {a b : Ent} (ha : lowE a) : change_same a b = some (decide (a = b)) := by
  unfold change_same view_Same slices_EqualFunc_Sl_view_Entry_Sl_view_Entry_view_Entry_view_Entry__view_same
  simp only [List.length_cons, List.length_nil, decide_true, Bool.not_true, cond_false]
  have := loop_all2 (f := slices_EqualFunc_Sl_view_Entry_Sl_view_Entry_view_Entry_view_Entry__view_same_l4 [a] [b]) (l := [a]) (m := [b]) (fun i => ((i : Int), ())) (fun x y => decide (x = y)) true false rfl (fun i h h' => by
    have hi : i = 0 := by simpa using h
    subst hi
    unfold slices_EqualFunc_Sl_view_Entry_Sl_view_Entry_view_Entry_view_Entry__view_same_l4
    simp only [cond_dec]
    rw [if_pos (by simp), atI_lt h, atI_lt h']
    simp only [Option.bind_some, List.getElem_cons_zero, viewSame_t ha]
    by_cases hab : a = b
    · simp only [decide_eq_true hab, Bool.not_true, cond_false, if_true]; rw [wrap64 (by omega) (by omega)]; rfl
    · simp only [decide_eq_false hab, Bool.not_false, cond_true, Bool.false_eq_true, if_false]) (by
    unfold slices_EqualFunc_Sl_view_Entry_Sl_view_Entry_view_Entry_view_Entry__view_same_l4
    simp only [cond_dec]
    rw [if_neg (by simp)])
  rw [all2_dec, ite_bool] at this
  rw [show (0 : Int) = ((0 : Nat) : Int) from rfl, this]
  simp
theorem ref18Same_t {l m : List Ent} (hl : l.length < 1000000) (hs : ∀ e ∈ l, lowE e) : ref18_Same l m = some (decide (l = m)) := by
  unfold ref18_Same
  by_cases hlen : l.length = m.length
  · rw [decide_eq_true (by omega)]
    simp only [Bool.not_true, cond_false]
    have := loop_all2 (f := ref18_Same_l4 l m) (l := l) (m := m) (fun i => ((i : Int), ())) (fun x y => decide (x = y)) true false hlen (fun i h h' => by
      unfold ref18_Same_l4
      simp only [cond_dec]
      rw [if_pos (by omega), atI_lt h, atI_lt h']
      have hlo := hs _ (List.getElem_mem h)
      simp only [Option.bind_some, refStrsEq_t hlo.1, refValsEq_t hlo.2]
      have w1 : IntKind.wrap .i64 ((i : Int) + 1) = ((i + 1 : Nat) : Int) := by rw [wrap64 (by omega) (by omega)]; rfl
      rw [w1]
      generalize l[i] = x at *
      generalize m[i] = y at *
      obtain ⟨p, k, v, n, ⟨⟩⟩ := x
      obtain ⟨p', k', v', n', ⟨⟩⟩ := y
      simp only
      by_cases h1 : k = k'
      · by_cases h2 : n = n'
        · by_cases h3 : p = p'
          · by_cases h4 : v = v'
            · simp [h1, h2, h3, h4]
            · simp [h1, h2, h3, h4]
          · simp [h1, h2, h3]
        · simp [h1, h2]
      · simp [h1]) (by
      unfold ref18_Same_l4
      simp only [cond_dec]
      rw [if_neg (by omega)])
    rw [all2_dec, ite_bool] at this
    exact this
  · rw [decide_eq_false (by omega)]
    have : l ≠ m := fun e => hlen (by rw [e])
    rw [decide_eq_false this]; rfl
theorem refSame39_t {a b : Ent} (ha : lowE a) : ref39_same a b = some (decide (a = b)) := by
  unfold ref39_same
  rw [ref18Same_t (by simp) (fun e he => by simp at he; subst he; exact ha)]
  simp
def lowC (c : Chg) : Prop := lowE c.2.1 ∧ lowE c.2.2.1
theorem lawSame_t {l : List Chg} (hl : l.length < 1000000) (hs : ∀ c ∈ l, lowC c) : law39_same l l = some true := by
  unfold law39_same
  simp only [decide_true, Bool.not_true, cond_false]
  have := loop_all2 (f := law39_same_l4 l l) (l := l) (m := l) (fun i => ((i : Int), ())) (fun x y => decide (x = y)) true false rfl (fun i h h' => by
    unfold law39_same_l4
    simp only [cond_dec]
    have hlo := hs _ (List.getElem_mem h)
    rw [if_pos (by omega), atI_lt h]
    simp only [Option.bind_some, decide_true, Bool.not_true, cond_false]
    rw [ref18Same_t (by simp) (fun e he => by
      rcases List.mem_cons.1 he with rfl | he
      · exact hlo.1
      · simp at he; subst he; exact hlo.2)]
    simp only [Option.bind_some, decide_true, Bool.not_true, cond_false, if_true]
    rw [wrap64 (by omega) (by omega)]; rfl) (by
    unfold law39_same_l4
    simp only [cond_dec]
    rw [if_neg (by omega)])
  rw [all2_refl (fun x _ => by simp), if_pos rfl] at this
  exact this
/-! ### copies -/
theorem cloneE_t {e : Ent} (h : lowE e) : change_clone e = some e := by
  unfold change_clone slices_Clone_Sl_string_string slices_Clone_Sl_api_Value_api_Value cloneT
  have h1 : e.1.length < most := by unfold most; have := h.1; omega
  have h2 : e.2.2.1.length < most := by unfold most; have := h.2; omega
  rw [if_pos h1, if_pos h2]
  rfl
theorem theirs_t {l : List Ent} (hl : l.length < 1000000) : law39_Theirs l = some l := by
  have := loop_map (f := law39_Theirs_l3 l) (l := l) (fun i o => ((i : Int), o, ())) (fun x => [x]) (fun o => o) 1 (fun x _ => by simp) (fun i h o ho => by
    unfold law39_Theirs_l3
    simp only [cond_dec]
    rw [if_pos (by omega), atI_lt h]
    simp only [Option.bind_some]
    rw [roomT_lt (by simp; omega), wrap64 (by omega) (by omega)]
    rfl) (fun o ho => by
    unfold law39_Theirs_l3
    simp only [cond_dec]
    rw [if_neg (by omega)])
  unfold law39_Theirs
  rw [List.flatMap_singleton'] at this
  exact this
theorem changes_t {l : List Chg} (hl : l.length < 1000000) : law39_changes l = some l := by
  have := loop_map (f := law39_changes_l3 l) (l := l) (fun i o => ((i : Int), o, ())) (fun x => [x]) (fun o => o) 1 (fun x _ => by simp) (fun i h o ho => by
    unfold law39_changes_l3
    simp only [cond_dec]
    rw [if_pos (by omega), atI_lt h]
    simp only [Option.bind_some]
    rw [theirs_t (by simp)]
    simp only [Option.bind_some]
    rw [show (0 : Int) = ((0 : Nat) : Int) from rfl, show (1 : Int) = ((1 : Nat) : Int) from rfl, atI_nat, atI_nat]
    simp only [List.getElem?_cons_zero, List.getElem?_cons_succ, Option.bind_some]
    rw [roomT_lt (by simp; omega), wrap64 (by omega) (by omega)]
    rfl) (fun o ho => by
    unfold law39_changes_l3
    simp only [cond_dec]
    rw [if_neg (by omega)])
  unfold law39_changes
  rw [List.flatMap_singleton'] at this
  exact this
/-! ### few, and short -/
def smallE (e : Ent) : Prop := e.1.length ≤ 12 ∧ (∀ x ∈ e.1, x.length ≤ 120) ∧ e.2.2.1.length ≤ 30 ∧ ∀ v ∈ e.2.2.1, rightV v = true
theorem small_low {e : Ent} (h : smallE e) : lowE e := ⟨by have := h.1; omega, by have := h.2.2.1; omega⟩
theorem shortP_t {p : Path} : ref10_Short p = some (decide (p.length ≤ 12) && p.all fun x => decide (x.length ≤ 120)) := by
  unfold ref10_Short
  simp only [cond_dec]
  by_cases h1 : (p.length : Int) > 12
  · rw [if_pos h1, decide_eq_false (by omega)]; rfl
  rw [if_neg h1, decide_eq_true (by omega), Bool.true_and]
  have := loop_all (f := ref10_Short_l4 p) (l := p) (fun i => ((i : Int), ())) (fun x => decide (x.length ≤ 120)) true false (fun i h => by
    unfold ref10_Short_l4
    simp only [cond_dec]
    rw [if_pos (by omega), atI_lt h]
    simp only [Option.bind_some]
    by_cases h2 : (p[i].length : Int) > 120
    · rw [if_pos h2, if_neg (by simp; omega)]
    · rw [if_neg h2, if_pos (by simp; omega), wrap64 (by omega) (by omega)]; rfl) (by
    unfold ref10_Short_l4
    simp only [cond_dec]
    rw [if_neg (by omega)])
  rw [ite_bool] at this
  exact this
def shortE (e : Ent) : Bool := decide (e.1.length ≤ 12) && (e.1.all fun x => decide (x.length ≤ 120)) && decide (e.2.2.1.length ≤ 30) && e.2.2.1.all rightV
theorem shortE_small {e : Ent} (h : shortE e = true) : smallE e := by
  unfold shortE at h
  simp only [Bool.and_eq_true, decide_eq_true_eq, List.all_eq_true] at h
  exact ⟨h.1.1.1, h.1.1.2, h.1.2, h.2⟩
theorem short_t {l : List Ent} (hb : ∀ e ∈ l, ∀ v ∈ e.2.2.1, v.2.2.1.length < 4294967296) : law39_short l = some (decide (l.length ≤ 30) && l.all shortE) := by
  unfold law39_short
  simp only [cond_dec]
  by_cases h1 : (l.length : Int) > 30
  · rw [if_pos h1, decide_eq_false (by omega)]; rfl
  rw [if_neg h1, decide_eq_true (by omega), Bool.true_and]
  have := loop_all (f := law39_short_l4 l) (l := l) (fun i => ((i : Int), ())) shortE true false (fun i h => by
    unfold law39_short_l4
    simp only [cond_dec]
    rw [if_pos (by omega), atI_lt h]
    simp only [Option.bind_some, shortP_t]
    unfold shortE
    cases hp : (decide (l[i].1.length ≤ 12) && l[i].1.all fun x => decide (x.length ≤ 120)) with
    | false => simp
    | true =>
      simp only [Bool.not_true, cond_false, Bool.true_and]
      by_cases h2 : (l[i].2.2.1.length : Int) > 30
      · rw [if_pos h2, decide_eq_false (by omega)]; rfl
      rw [if_neg h2, decide_eq_true (by omega), Bool.true_and]
      have hv := hb _ (List.getElem_mem h)
      have inner := loop_all (f := law39_short_l9 ((i : Int), ()) l) (l := l[i].2.2.1) (fun k => ((k : Int), ())) rightV (.inl (((i + 1 : Nat) : Int), ())) (.inr false : (Int × Unit) ⊕ Bool) (fun k hk => by
        unfold law39_short_l9
        simp only [atI_lt h, Option.bind_some, cond_dec]
        rw [if_pos (by omega), atI_lt hk]
        simp only [Option.bind_some, refRight9_t (hv _ (List.getElem_mem hk))]
        cases rightV l[i].2.2.1[k] with
        | true => simp only [Bool.not_true, cond_false, if_true]; rw [wrap64 (by omega) (by omega)]; rfl
        | false => rfl) (by
        unfold law39_short_l9
        simp only [atI_lt h, Option.bind_some, cond_dec]
        rw [if_neg (by omega), wrap64 (by omega) (by omega)]; rfl)
      rw [show ((0 : Int), ()) = (((0 : Nat) : Int), ()) from rfl, inner]) (by
    unfold law39_short_l4
    simp only [cond_dec]
    rw [if_neg (by omega)])
  rw [ite_bool] at this
  exact this
end Go.Proofs.YtkoicblnbbncbaaGreatDoor.Q

set_option linter.unusedVariables false
set_option linter.unusedSimpArgs false
set_option maxRecDepth 100000
namespace Go.Proofs.YtkoicblnbbncbaaGreatDoor.Q
open Go.EM Go.TY Go.Proofs Go.Proofs.YtkoicblnbbncbaaGreatDoor.Y Go.Proofs.YtkoicblnbbncbaaGreatDoor.K Go.Proofs.YtkoicblnbbncbaaGreatDoor.L
/-! ### do entries rise -/
def okE (e : Ent) : Bool := decide (1 ≤ e.2.1 ∧ e.2.1 ≤ 3 ∧ checkM e.1 = 0)
def risesAt (l : List Ent) (i : Nat) : Bool :=
  match l[i]? with
  | some e => okE e && (match i with
    | 0 => true
    | j + 1 => match l[j]? with
      | some d => decide (cmpK (keyE d) (keyE e) < 0)
      | none => false)
  | none => false
theorem small_len {e : Ent} (h : smallE e) : ∀ x ∈ e.1, x.length < 1000000 := fun x hx => by have := h.2.1 x hx; omega
open Classical in
theorem right39_t {l : List Ent} (hl : l.length < 1000000) (hs : ∀ e ∈ l, smallE e) : change_Right l = some (if (∀ i, i < l.length → risesAt l i = true) then true else false) := by
  have := loop_allI (f := change_Right_l2 l) l.length (fun i => ((i : Int), ())) (risesAt l) true false (fun i h => by
    unfold change_Right_l2
    simp only [cond_dec]
    rw [if_pos (by omega), atI_lt h]
    have hse := hs _ (List.getElem_mem h)
    unfold risesAt
    rw [List.getElem?_eq_getElem h]
    simp only [Option.bind_some]
    have w1 : IntKind.wrap .i64 ((i : Int) + 1) = ((i + 1 : Nat) : Int) := by rw [wrap64 (by omega) (by omega)]; rfl
    have e1 : (if l[i].2.1 < 1 then some (true, l[i], ()) else some (decide (l[i].2.1 > 3), l[i], ()) : Option (Bool × Ent × Unit)) = some (decide (l[i].2.1 < 1 ∨ l[i].2.1 > 3), l[i], ()) := by
      by_cases h1 : l[i].2.1 < 1
      · rw [if_pos h1, decide_eq_true (by omega)]
      · rw [if_neg h1]
        congr 2
        rw [decide_eq_decide]; omega
    rw [e1]
    simp only [Option.bind_some, check_t (small_len hse)]
    by_cases hk : l[i].2.1 < 1 ∨ l[i].2.1 > 3
    · rw [decide_eq_true hk]
      have : okE l[i] = false := by unfold okE; rw [decide_eq_false]; omega
      simp only [cond_true, Option.bind_some, this, Bool.false_and, Bool.false_eq_true, if_false]
    · rw [decide_eq_false hk]
      simp only [cond_false, Option.bind_some]
      by_cases hc : checkM l[i].1 = 0
      · rw [decide_eq_true hc]
        have hok : okE l[i] = true := by unfold okE; rw [decide_eq_true]; omega
        simp only [Bool.not_true, cond_false, hok, Bool.true_and]
        cases i with
        | zero =>
          rw [if_neg (by omega), w1]
          rfl
        | succ j =>
          rw [if_pos (by omega)]
          have w2 : IntKind.wrap .i64 (((j + 1 : Nat) : Int) - 1) = (j : Int) := by rw [wrap64 (by omega) (by omega)]; omega
          have hj : j < l.length := by omega
          have hsj := hs _ (List.getElem_mem hj)
          rw [w2, atI_lt hj]
          simp only [List.getElem?_eq_getElem hj, Option.bind_some, changeCompare_t (small_low hsj).1]
          by_cases hcmp : cmpK (keyE l[j]) (keyE l[j + 1]) < 0
          · rw [if_neg (by omega), if_pos (by simpa using hcmp), w1]
          · rw [if_pos (by omega), if_neg (by simpa using hcmp)]
      · rw [decide_eq_false hc]
        have hok : okE l[i] = false := by unfold okE; rw [decide_eq_false]; omega
        simp only [Bool.not_false, cond_true, hok, Bool.false_and, Bool.false_eq_true, if_false]) (by
    unfold change_Right_l2
    simp only [cond_dec]
    rw [if_neg (by omega)])
  exact this
open Classical in
theorem refRight39_t {l : List Ent} (hl : l.length < 1000000) (hs : ∀ e ∈ l, smallE e) : ref39_Right l = some (if (∀ i, i < l.length → risesAt l i = true) then true else false) := by
  have := loop_allI (f := ref39_Right_l2 l) l.length (fun i => ((i : Int), ())) (risesAt l) true false (fun i h => by
    unfold ref39_Right_l2
    simp only [cond_dec]
    rw [if_pos (by omega), atI_lt h]
    have hse := hs _ (List.getElem_mem h)
    unfold risesAt
    rw [List.getElem?_eq_getElem h]
    simp only [Option.bind_some, refCheck_t (small_len hse)]
    have w1 : IntKind.wrap .i64 ((i : Int) + 1) = ((i + 1 : Nat) : Int) := by rw [wrap64 (by omega) (by omega)]; rfl
    by_cases hk1 : l[i].2.1 < 1
    · rw [if_pos hk1]
      have : okE l[i] = false := by unfold okE; rw [decide_eq_false]; omega
      simp only [this, Bool.false_and, Bool.false_eq_true, if_false]
    rw [if_neg hk1]
    by_cases hk2 : l[i].2.1 > 3
    · rw [if_pos hk2]
      have : okE l[i] = false := by unfold okE; rw [decide_eq_false]; omega
      simp only [this, Bool.false_and, Bool.false_eq_true, if_false]
    rw [if_neg hk2]
    by_cases hc : checkM l[i].1 = 0
    · rw [decide_eq_true hc]
      have hok : okE l[i] = true := by unfold okE; rw [decide_eq_true]; omega
      simp only [Bool.not_true, cond_false, hok, Bool.true_and]
      cases i with
      | zero =>
        rw [if_neg (by omega), w1]
        rfl
      | succ j =>
        rw [if_pos (by omega)]
        have w2 : IntKind.wrap .i64 (((j + 1 : Nat) : Int) - 1) = (j : Int) := by rw [wrap64 (by omega) (by omega)]; omega
        have hj : j < l.length := by omega
        have hsj := hs _ (List.getElem_mem hj)
        rw [w2, atI_lt hj]
        simp only [List.getElem?_eq_getElem hj, Option.bind_some, refCompare39_t (small_low hsj).1 (small_len hsj)]
        have ho := ck_cmp.one (keyE l[j]) (keyE l[j + 1])
        by_cases hcmp : cmpK (keyE l[j]) (keyE l[j + 1]) < 0
        · have : cmpK (keyE l[j]) (keyE l[j + 1]) = -1 := by omega
          rw [decide_eq_true this, if_pos (by simpa using hcmp), w1]; rfl
        · have : ¬ cmpK (keyE l[j]) (keyE l[j + 1]) = -1 := by omega
          rw [decide_eq_false this, if_neg (by simpa using hcmp)]; rfl
    · rw [decide_eq_false hc]
      have hok : okE l[i] = false := by unfold okE; rw [decide_eq_false]; omega
      simp only [Bool.not_false, cond_true, hok, Bool.false_and, Bool.false_eq_true, if_false]) (by
    unfold ref39_Right_l2
    simp only [cond_dec]
    rw [if_neg (by omega)])
  exact this
theorem rises_of : ∀ {l : List Ent}, (∀ i, (h : i + 1 < l.length) → cmpK (keyE l[i]) (keyE l[i + 1]) < 0) → Rises cmpK keyE l
  | [], _ => List.Pairwise.nil
  | [x], _ => List.pairwise_singleton ..
  | x :: y :: l, h => by
    have ih := rises_of (l := y :: l) (fun i hi => by
      have := h (i + 1) (by simpa using hi)
      simpa using this)
    have h0 := h 0 (by simp)
    simp only [List.getElem_cons_zero, List.getElem_cons_succ, Nat.zero_add] at h0
    refine List.pairwise_cons.2 ⟨fun z hz => ?_, ih⟩
    rcases List.mem_cons.1 hz with rfl | hz
    · exact h0
    · exact ck_cmp.trans _ _ _ h0 ((List.pairwise_cons.1 ih).1 z hz)
theorem rises_at {l : List Ent} (h : ∀ i, i < l.length → risesAt l i = true) : Rises cmpK keyE l ∧ ∀ e ∈ l, okE e = true := by
  refine ⟨rises_of fun i hi => ?_, fun e he => ?_⟩
  · have := h (i + 1) hi
    unfold risesAt at this
    rw [List.getElem?_eq_getElem hi] at this
    simp only [Bool.and_eq_true, List.getElem?_eq_getElem (show i < l.length by omega)] at this
    simpa using this.2
  · obtain ⟨i, hi, rfl⟩ := List.getElem_of_mem he
    have := h i hi
    unfold risesAt at this
    rw [List.getElem?_eq_getElem hi] at this
    simp only [Bool.and_eq_true] at this
    exact this.1
/-! ### what is unlike -/
def zeroE : Ent := ([], 0, [], 0, ())
def sameE (x y : Ent) : Bool := decide (x = y)
def goneC (x : Ent) : Chg := (2, x, zeroE, ())
def madeC (y : Ent) : Chg := (1, zeroE, y, ())
def turnC (x y : Ent) : Chg := (3, x, y, ())
def leafE (c : Chg) : Ent := if c.1 = 1 then c.2.2.1 else c.2.1
def leafK (c : Chg) : Path × Int := keyE (leafE c)
def dM : List Ent → List Ent → List Chg := diffM cmpK keyE sameE goneC madeC turnC
theorem dM_len : ∀ (n : Nat) (a b : List Ent), a.length + b.length ≤ n → (dM a b).length ≤ a.length + b.length := by
  intro n
  induction n with
  | zero =>
    intro a b h
    have e1 : a = [] := List.eq_nil_of_length_eq_zero (by omega)
    have e2 : b = [] := List.eq_nil_of_length_eq_zero (by omega)
    subst e1; subst e2
    simp [dM, diffM]
  | succ n ih =>
    intro a b h
    match a, b, h with
    | [], b, h => simp [dM, diffM]
    | x :: a, [], h => simp [dM, diffM]
    | x :: a, y :: b, h =>
      simp only [List.length_cons] at h
      have i1 := ih a (y :: b) (by simp only [List.length_cons]; omega)
      have i2 := ih (x :: a) b (by simp only [List.length_cons]; omega)
      have i3 := ih a b (by omega)
      simp only [List.length_cons] at i1 i2
      unfold dM at i1 i2 i3 ⊢
      rw [diffM.eq_def]
      simp only
      split
      · simp only [List.length_cons]; omega
      · split
        · simp only [List.length_cons]; omega
        · rw [List.length_append]
          have : (if sameE x y = true then [] else [turnC x y]).length ≤ 1 := by split <;> simp
          simp only [List.length_cons]; omega
theorem sub1 {A : Type} {x : A} {l : List A} : subI (x :: l) 1 ((x :: l).length : Int) = some l := by
  have := subI_from (l := x :: l) (i := 1) (by simp)
  simpa using this
theorem at0 {A : Type} {x : A} {l : List A} : atI (x :: l) 0 = some x := by
  have := atI_nat (l := x :: l) (i := 0)
  simpa using this
theorem diff_loop : ∀ (n : Nat) (a b : List Ent) (o : List Chg), a.length + b.length ≤ n → a.length + b.length + o.length < 1000000 → (∀ e ∈ a, lowE e) → (∀ e ∈ b, lowE e) → loopT change_Diff_l2 (a, b, o, ()) = some (o ++ dM a b) := by
  intro n
  induction n with
  | zero =>
    intro a b o h _ _ _
    have e1 : a = [] := List.eq_nil_of_length_eq_zero (by omega)
    have e2 : b = [] := List.eq_nil_of_length_eq_zero (by omega)
    subst e1; subst e2
    refine loopT_inr ?_
    unfold change_Diff_l2
    simp [dM, diffM]
  | succ n ih =>
    intro a b o h hb la lb
    match a, b, h, hb, la, lb with
    | [], [], h, hb, la, lb =>
      refine loopT_inr ?_
      unfold change_Diff_l2
      simp [dM, diffM]
    | [], y :: b, h, hb, la, lb =>
      simp only [List.length_cons, List.length_nil] at h hb
      rw [loopT_inl (b := ([], b, o ++ [madeC y], ())), ih [] b _ (by simp <;> omega) (by simp <;> omega) (fun e he => by cases he) (fun e he => lb e (List.mem_cons_of_mem _ he))]
      · simp [dM, diffM]
      · unfold change_Diff_l2
        simp only [cond_dec]
        rw [if_neg (by simp), if_pos (by simp <;> omega), bind_join_inl]
        simp only []
        rw [if_neg (by simp <;> omega), if_neg (by simp), bind_join_inl]
        simp only []
        rw [if_neg (by omega), if_pos (by omega), at0]
        simp only [Option.bind_some, cloneE_t (lb y (List.mem_cons_self ..))]
        rw [roomT_lt (by simp <;> omega)]
        simp only [Option.bind_some]
        rw [sub1]
        rfl
    | x :: a, [], h, hb, la, lb =>
      simp only [List.length_cons, List.length_nil] at h hb
      rw [loopT_inl (b := (a, [], o ++ [goneC x], ())), ih a [] _ (by simp <;> omega) (by simp <;> omega) (fun e he => la e (List.mem_cons_of_mem _ he)) (fun e he => by cases he)]
      · cases a <;> simp [dM, diffM]
      · unfold change_Diff_l2
        simp only [cond_dec]
        rw [if_pos (by simp <;> omega), bind_join_inl]
        simp only []
        rw [if_pos (by simp), bind_join_inl]
        simp only []
        rw [if_pos (by omega), at0]
        simp only [Option.bind_some, cloneE_t (la x (List.mem_cons_self ..))]
        rw [roomT_lt (by simp <;> omega)]
        simp only [Option.bind_some]
        rw [sub1]
        rfl
    | x :: a, y :: b, h, hb, la, lb =>
      simp only [List.length_cons] at h hb
      have lx := la x (List.mem_cons_self ..)
      have ly := lb y (List.mem_cons_self ..)
      have la' : ∀ e ∈ a, lowE e := fun e he => la e (List.mem_cons_of_mem _ he)
      have lb' : ∀ e ∈ b, lowE e := fun e he => lb e (List.mem_cons_of_mem _ he)
      have hd : dM (x :: a) (y :: b) = if cmpK (keyE x) (keyE y) < 0 then goneC x :: dM a (y :: b) else if cmpK (keyE x) (keyE y) > 0 then madeC y :: dM (x :: a) b else (if sameE x y then [] else [turnC x y]) ++ dM a b := by
        unfold dM
        rw [diffM.eq_def]
      rw [hd]
      by_cases h1 : cmpK (keyE x) (keyE y) < 0
      · rw [if_pos h1, loopT_inl (b := (a, y :: b, o ++ [goneC x], ())), ih a (y :: b) _ (by simp only [List.length_cons]; omega) (by simp <;> omega) la' lb]
        · simp
        · unfold change_Diff_l2
          simp only [cond_dec]
          rw [if_pos (by simp <;> omega), bind_join_inl]
          simp only []
          rw [if_neg (by simp <;> omega), if_pos (by simp <;> omega), at0, at0]
          simp only [Option.bind_some, changeCompare_t lx.1, joinS]
          rw [if_pos h1]
          simp only [Option.bind_some, cloneE_t lx]
          rw [roomT_lt (by simp <;> omega)]
          simp only [Option.bind_some]
          rw [sub1]
          rfl
      · rw [if_neg h1]
        by_cases h2 : cmpK (keyE x) (keyE y) > 0
        · rw [if_pos h2, loopT_inl (b := (x :: a, b, o ++ [madeC y], ())), ih (x :: a) b _ (by simp only [List.length_cons]; omega) (by simp <;> omega) la lb']
          · simp
          · unfold change_Diff_l2
            simp only [cond_dec]
            rw [if_pos (by simp <;> omega), bind_join_inl]
            simp only []
            rw [if_neg (by simp <;> omega), if_pos (by simp <;> omega), at0, at0]
            simp only [Option.bind_some, changeCompare_t lx.1, joinS]
            rw [if_neg h1, if_pos h2]
            simp only [Option.bind_some, cloneE_t ly]
            rw [roomT_lt (by simp <;> omega)]
            simp only [Option.bind_some]
            rw [sub1]
            rfl
        · rw [if_neg h2, loopT_inl (b := (a, b, o ++ (if sameE x y then [] else [turnC x y]), ())), ih a b _ (by omega) (by
            rw [List.length_append]
            have : (if sameE x y = true then [] else [turnC x y]).length ≤ 1 := by split <;> simp
            omega) la' lb']
          · simp
          · unfold change_Diff_l2
            simp only [cond_dec]
            rw [if_pos (by simp <;> omega), bind_join_inl]
            simp only []
            rw [if_neg (by simp <;> omega), if_pos (by simp <;> omega), at0, at0]
            simp only [Option.bind_some, changeCompare_t lx.1, joinS]
            rw [if_neg h1, if_neg h2]
            simp only [Option.bind_some, changeSame_t lx, cloneE_t lx, cloneE_t ly]
            unfold sameE
            by_cases hxy : x = y
            · simp only [decide_eq_true hxy, Bool.not_true, cond_false, if_true, List.append_nil]
              rw [bind_join_inl, sub1, sub1]
              rfl
            · simp only [decide_eq_false hxy, Bool.not_false, cond_true, Bool.false_eq_true, if_false]
              rw [roomT_lt (by simp <;> omega)]
              simp only [Option.bind_some, joinS]
              rw [sub1, sub1]
              rfl
theorem diff_t {a b : List Ent} (h : a.length + b.length < 1000000) (la : ∀ e ∈ a, lowE e) (lb : ∀ e ∈ b, lowE e) : change_Diff a b = some (dM a b) := by
  have := diff_loop _ a b [] (Nat.le_refl _) (by simpa using h) la lb
  simpa [change_Diff] using this
end Go.Proofs.YtkoicblnbbncbaaGreatDoor.Q

set_option linter.unusedVariables false
set_option linter.unusedSimpArgs false
set_option maxRecDepth 100000
namespace Go.Proofs.YtkoicblnbbncbaaGreatDoor.Q
open Go.EM Go.TY Go.Proofs Go.Proofs.YtkoicblnbbncbaaGreatDoor.Y Go.Proofs.YtkoicblnbbncbaaGreatDoor.K Go.Proofs.YtkoicblnbbncbaaGreatDoor.L
/-- An entry that the reference can compare. -/
def easyE (e : Ent) : Prop := lowE e ∧ ∀ x ∈ e.1, x.length < 1000000
theorem small_easy {e : Ent} (h : smallE e) : easyE e := ⟨small_low h, small_len h⟩
theorem zero_easy : easyE zeroE := ⟨⟨by decide, by decide⟩, fun x hx => by cases hx⟩
theorem find_loop {l : List Ent} {e : Ent} (hl : l.length < 1000000) (hs : ∀ x ∈ l, easyE x) : ∀ (k i : Nat), l.length - i ≤ k → i ≤ l.length →
    ∃ r, loopT (ref39_find_l2 l e) ((i : Int), ()) = some r ∧ ((r < 0 ∧ (l.drop i).find? (fun x => decide (cmpK (keyE x) (keyE e) = 0)) = none) ∨ ∃ (j : Nat) (y : Ent), r = (j : Int) ∧ l[j]? = some y ∧ (l.drop i).find? (fun x => decide (cmpK (keyE x) (keyE e) = 0)) = some y) := by
  intro k
  have fin : ∀ i : Nat, i = l.length → ∃ r, loopT (ref39_find_l2 l e) ((i : Int), ()) = some r ∧ ((r < 0 ∧ (l.drop i).find? (fun x => decide (cmpK (keyE x) (keyE e) = 0)) = none) ∨ ∃ (j : Nat) (y : Ent), r = (j : Int) ∧ l[j]? = some y ∧ (l.drop i).find? (fun x => decide (cmpK (keyE x) (keyE e) = 0)) = some y) := by
    intro i hi
    refine ⟨-1, loopT_inr ?_, .inl ⟨by omega, by rw [List.drop_eq_nil_of_le (by omega)]; rfl⟩⟩
    unfold ref39_find_l2
    simp only [cond_dec]
    rw [if_neg (by omega)]
  induction k with
  | zero => intro i hk hi; exact fin i (by omega)
  | succ k ih =>
    intro i hk hi
    by_cases hlt : i < l.length
    · rw [List.drop_eq_getElem_cons hlt, List.find?_cons]
      have hx := hs _ (List.getElem_mem hlt)
      have turn : ref39_find_l2 l e ((i : Int), ()) = if cmpK (keyE l[i]) (keyE e) = 0 then some (.inr (i : Int)) else some (.inl (((i + 1 : Nat) : Int), ())) := by
        unfold ref39_find_l2
        simp only [cond_dec]
        rw [if_pos (by omega), atI_lt hlt]
        simp only [Option.bind_some, refCompare39_t hx.1.1 hx.2]
        rw [wrap64 (by omega) (by omega)]; rfl
      by_cases hz : cmpK (keyE l[i]) (keyE e) = 0
      · rw [if_pos hz] at turn
        refine ⟨_, loopT_inr turn, .inr ⟨i, l[i], rfl, List.getElem?_eq_getElem hlt, ?_⟩⟩
        rw [decide_eq_true hz]
      · rw [if_neg hz] at turn
        rw [loopT_inl turn, decide_eq_false hz]
        exact ih (i + 1) (by omega) (by omega)
    · exact fin i (by omega)
theorem find_t {l : List Ent} {e : Ent} (hl : l.length < 1000000) (hs : ∀ x ∈ l, easyE x) :
    ∃ r, ref39_find l e = some r ∧ ((r < 0 ∧ l.find? (fun x => decide (cmpK (keyE x) (keyE e) = 0)) = none) ∨ ∃ (j : Nat) (y : Ent), r = (j : Int) ∧ l[j]? = some y ∧ l.find? (fun x => decide (cmpK (keyE x) (keyE e) = 0)) = some y) := by
  have := find_loop (e := e) hl hs l.length 0 (by omega) (by omega)
  simpa [ref39_find] using this
theorem leaf_t (c : Chg) : ref39_Leaf c = some (leafE c) := by
  unfold ref39_Leaf leafE
  simp only [cond_dec]
  by_cases h : c.1 = 1
  · rw [if_pos h, if_pos h]
  · rw [if_neg h, if_neg h]
def insC : Chg → List Chg → List Chg := ins cmpK leafK
theorem insC_cons {v e : Chg} {l : List Chg} : insC v (e :: l) = if cmpK (leafK v) (leafK e) < 0 then v :: e :: l else e :: insC v l := by unfold insC; rw [ins]
theorem insC_len : ∀ {v : Chg} {l : List Chg}, (insC v l).length = l.length + 1
  | v, [] => rfl
  | v, e :: l => by
    rw [insC_cons]
    split
    · rfl
    · simp only [List.length_cons, insC_len]
theorem insert_loop {l : List Chg} {v : Chg} (hl : l.length < 1000000) (hv : easyE (leafE v)) : ∀ (k i : Nat) (laid : Bool) (o : List Chg), l.length - i ≤ k → i ≤ l.length → o.length ≤ 2 * i →
    ((loopT (ref39_insert_l4 l v) (laid, (i : Int), o, ()) : Option ((Bool × List Chg × Unit) ⊕ List Chg)).bind (joinS fun v9 => cond (!v9.1) ((roomT (v9.2.1.length + ([v] : List Chg).length)).bind fun u10 => some (v9.2.1 ++ ([v] : List Chg))) (some v9.2.1))) = some (if laid = true then o ++ l.drop i else o ++ insC v (l.drop i)) := by
  intro k
  have fin : ∀ (i : Nat) (laid : Bool) (o : List Chg), i = l.length → o.length ≤ 2 * i → ((loopT (ref39_insert_l4 l v) (laid, (i : Int), o, ()) : Option ((Bool × List Chg × Unit) ⊕ List Chg)).bind (joinS fun v9 => cond (!v9.1) ((roomT (v9.2.1.length + ([v] : List Chg).length)).bind fun u10 => some (v9.2.1 ++ ([v] : List Chg))) (some v9.2.1))) = some (if laid = true then o ++ l.drop i else o ++ insC v (l.drop i)) := by
    intro i laid o hi ho
    have : loopT (ref39_insert_l4 l v) (laid, (i : Int), o, ()) = some (.inl (laid, o, ())) := by
      refine loopT_inr ?_
      unfold ref39_insert_l4
      simp only [cond_dec]
      rw [if_neg (by omega)]
    rw [this, bind_join_inl, List.drop_eq_nil_of_le (by omega)]
    cases laid with
    | true => simp
    | false =>
      simp only [Bool.not_false, cond_true, Bool.false_eq_true, if_false]
      rw [roomT_lt (by simp <;> omega)]
      rfl
  induction k with
  | zero => intro i laid o hk hi ho; exact fin i laid o (by omega) ho
  | succ k ih =>
    intro i laid o hk hi ho
    by_cases hlt : i < l.length
    · have w1 : IntKind.wrap .i64 ((i : Int) + 1) = ((i + 1 : Nat) : Int) := by rw [wrap64 (by omega) (by omega)]; rfl
      rw [List.drop_eq_getElem_cons hlt]
      cases laid with
      | true =>
        have turn : ref39_insert_l4 l v (true, (i : Int), o, ()) = some (.inl (true, ((i + 1 : Nat) : Int), o ++ [l[i]], ())) := by
          unfold ref39_insert_l4
          simp only [cond_dec]
          rw [if_pos (by omega)]
          simp only [Bool.not_true, cond_false, Option.bind_some, joinS]
          rw [atI_lt hlt]
          simp only [Option.bind_some]
          rw [roomT_lt (by simp <;> omega), w1]
          rfl
        rw [loopT_inl turn, ih (i + 1) true _ (by omega) (by omega) (by simp <;> omega)]
        simp
      | false =>
        simp only [Bool.false_eq_true, if_false]
        rw [insC_cons]
        by_cases hc : cmpK (leafK v) (leafK l[i]) < 0
        · have turn : ref39_insert_l4 l v (false, (i : Int), o, ()) = some (.inl (true, ((i + 1 : Nat) : Int), o ++ [v] ++ [l[i]], ())) := by
            unfold ref39_insert_l4
            simp only [cond_dec]
            rw [if_pos (by omega), atI_lt hlt]
            simp only [Bool.not_false, cond_true, leaf_t, Option.bind_some, refCompare39_t hv.1.1 hv.2]
            rw [if_pos (show cmpK (keyE (leafE v)) (keyE (leafE l[i])) < 0 from hc), roomT_lt (by simp <;> omega)]
            simp only [Option.bind_some, joinS]
            rw [roomT_lt (by simp <;> omega), w1]
            rfl
          rw [loopT_inl turn, ih (i + 1) true _ (by omega) (by omega) (by simp <;> omega), if_pos hc]
          simp
        · have turn : ref39_insert_l4 l v (false, (i : Int), o, ()) = some (.inl (false, ((i + 1 : Nat) : Int), o ++ [l[i]], ())) := by
            unfold ref39_insert_l4
            simp only [cond_dec]
            rw [if_pos (by omega), atI_lt hlt]
            simp only [Bool.not_false, cond_true, leaf_t, Option.bind_some, refCompare39_t hv.1.1 hv.2]
            rw [if_neg (show ¬ cmpK (keyE (leafE v)) (keyE (leafE l[i])) < 0 from hc)]
            simp only [Option.bind_some, joinS]
            rw [roomT_lt (by simp <;> omega), w1]
            rfl
          rw [loopT_inl turn, ih (i + 1) false _ (by omega) (by omega) (by simp <;> omega), if_neg hc]
          simp
    · exact fin i laid o (by omega) ho
theorem insert_t {l : List Chg} {v : Chg} (hl : l.length < 1000000) (hv : easyE (leafE v)) : ref39_insert l v = some (insC v l) := by
  have := insert_loop hl hv l.length 0 false [] (by omega) (by omega) (by simp)
  simpa [ref39_insert] using this
theorem foldE_inl {R X S : Type} {g : S → X → S} {fin : S → R} : ∀ (l : List X) (i : Nat) (s : S), foldE (fun _ x s => .inl (g s x)) fin i l s = fin (l.foldl g s)
  | [], _, s => rfl
  | x :: l, i, s => by simp only [foldE, List.foldl_cons]; exact foldE_inl l (i + 1) (g s x)
def iA (b : List Ent) : List Chg → Ent → List Chg := insA cmpK keyE sameE goneC turnC leafK b
def iB (a : List Ent) : List Chg → Ent → List Chg := insB cmpK keyE madeC leafK a
theorem refDiff_t {a b : List Ent} (ha : a.length ≤ 1000) (hb : b.length ≤ 1000) (ea : ∀ e ∈ a, easyE e) (eb : ∀ e ∈ b, easyE e) : ref39_Diff a b = some (b.foldl (iB a) (a.foldl (iA b) [])) := by
  have l1 := loop_list (f := ref39_Diff_l3 a b) (l := a) (S := List Chg) (fun i o => (o, (i : Int), ())) (fun _ x o => .inl (iA b o x)) (fun o => (.inl (o, ()) : (List Chg × Unit) ⊕ List Chg)) (fun i o => o.length ≤ i) (fun i h o ho => .inl ⟨_, rfl, by
    have hx := ea _ (List.getElem_mem h)
    obtain ⟨r, hr, hcase⟩ := find_t (l := b) (e := a[i]) (by omega) eb
    have w1 : IntKind.wrap .i64 ((i : Int) + 1) = ((i + 1 : Nat) : Int) := by rw [wrap64 (by omega) (by omega)]; rfl
    have turn : ref39_Diff_l3 a b (o, (i : Int), ()) = some (.inl (iA b o a[i], ((i + 1 : Nat) : Int), ())) := by
      unfold ref39_Diff_l3
      simp only [cond_dec]
      rw [if_pos (by omega), atI_lt h]
      simp only [Option.bind_some, hr, w1]
      unfold iA insA oneA
      rcases hcase with ⟨h1, h2⟩ | ⟨j, y, rfl, h1, h2⟩
      · rw [if_pos h1, h2, insert_t (by omega) (show easyE (leafE (2, (a[i].1, a[i].2.1, a[i].2.2.1, a[i].2.2.2.1, ()), ([], 0, [], 0, ()), ())) from hx)]
        rfl
      · rw [if_neg (by omega), h2, atI_nat, h1]
        simp only [Option.bind_some, refSame39_t hx.1]
        by_cases hs : a[i] = y
        · have : sameE a[i] y = true := by unfold sameE; exact decide_eq_true hs
          rw [decide_eq_true hs, this]
          simp
        · have : sameE a[i] y = false := by unfold sameE; exact decide_eq_false hs
          rw [decide_eq_false hs, this]
          simp only [Bool.not_false, cond_true, Bool.false_eq_true, if_false]
          rw [insert_t (by omega) (show easyE (leafE (3, a[i], y, ())) from hx)]
          rfl
    exact turn, by
    unfold iA insA oneA
    split
    · simp only [List.foldl_cons, List.foldl_nil]
      have : (ins cmpK leafK (goneC a[i]) o).length = o.length + 1 := insC_len
      omega
    · split
      · simp; omega
      · simp only [List.foldl_cons, List.foldl_nil]
        have : ∀ v, (ins cmpK leafK v o).length = o.length + 1 := fun v => insC_len
        rw [this]; omega⟩) (fun o ho => by
    unfold ref39_Diff_l3
    simp only [cond_dec]
    rw [if_neg (by omega)]) [] (by simp)
  rw [foldE_inl] at l1
  have hlen : ∀ (l : List Ent) (o : List Chg), (l.foldl (iA b) o).length ≤ o.length + l.length := by
    intro l
    induction l with
    | nil => intro o; simp
    | cons x l ihl =>
      intro o
      rw [List.foldl_cons]
      have h1 := ihl (iA b o x)
      have h2 : (iA b o x).length ≤ o.length + 1 := by
        unfold iA insA oneA
        split
        · simp only [List.foldl_cons, List.foldl_nil]
          have : (ins cmpK leafK (goneC x) o).length = o.length + 1 := insC_len
          omega
        · split
          · simp
          · simp only [List.foldl_cons, List.foldl_nil]
            have : ∀ v, (ins cmpK leafK v o).length = o.length + 1 := fun v => insC_len
            rw [this]; omega
      simp only [List.length_cons]; omega
  have l2 := loop_list (f := ref39_Diff_l11 a b) (l := b) (S := List Chg) (fun i o => (o, (i : Int), ())) (fun _ y o => .inl (iB a o y)) (fun o => o) (fun i o => o.length ≤ 1000 + i) (fun i h o ho => .inl ⟨_, rfl, by
    have hx := eb _ (List.getElem_mem h)
    obtain ⟨r, hr, hcase⟩ := find_t (l := a) (e := b[i]) (by omega) ea
    have w1 : IntKind.wrap .i64 ((i : Int) + 1) = ((i + 1 : Nat) : Int) := by rw [wrap64 (by omega) (by omega)]; rfl
    have turn : ref39_Diff_l11 a b (o, (i : Int), ()) = some (.inl (iB a o b[i], ((i + 1 : Nat) : Int), ())) := by
      unfold ref39_Diff_l11
      simp only [cond_dec]
      rw [if_pos (by omega), atI_lt h]
      simp only [Option.bind_some, hr, w1]
      unfold iB insB
      rcases hcase with ⟨h1, h2⟩ | ⟨j, y, rfl, h1, h2⟩
      · rw [if_pos h1, h2, insert_t (by omega) (show easyE (leafE (1, ([], 0, [], 0, ()), (b[i].1, b[i].2.1, b[i].2.2.1, b[i].2.2.2.1, ()), ())) from hx)]
        rfl
      · rw [if_neg (by omega), h2]
        rfl
    exact turn, by
    unfold iB insB
    split
    · have : (ins cmpK leafK (madeC b[i]) o).length = o.length + 1 := insC_len
      omega
    · omega⟩) (fun o ho => by
    unfold ref39_Diff_l11
    simp only [cond_dec]
    rw [if_neg (by omega)]) (a.foldl (iA b) []) (by
    have := hlen a []
    simp at this ⊢
    omega)
  rw [foldE_inl] at l2
  unfold ref39_Diff
  rw [show ((0 : Int)) = ((0 : Nat) : Int) from rfl, l1, bind_join_inl]
  exact l2
theorem diffs_t {a b : List Ent} (ha : a.length ≤ 1000) (hb : b.length ≤ 1000) (ea : ∀ e ∈ a, easyE e) (eb : ∀ e ∈ b, easyE e) (ra : Rises cmpK keyE a) (rb : Rises cmpK keyE b) : ref39_Diff a b = some (dM a b) := by
  rw [refDiff_t ha hb ea eb]
  congr 1
  exact diffR_eq (key := keyE) (same := sameE) (G := goneC) (M := madeC) (T := turnC) (leaf := leafK) ck_cmp (fun x => rfl) (fun x => rfl) (fun x y => rfl) ra rb
end Go.Proofs.YtkoicblnbbncbaaGreatDoor.Q

set_option linter.unusedVariables false
set_option linter.unusedSimpArgs false
set_option maxRecDepth 100000
namespace Go.Proofs.YtkoicblnbbncbaaGreatDoor.Q
open Go.EM Go.TY Go.Proofs Go.Proofs.YtkoicblnbbncbaaGreatDoor.Y Go.Proofs.YtkoicblnbbncbaaGreatDoor.K Go.Proofs.YtkoicblnbbncbaaGreatDoor.L
/-! ### texts -/
theorem foldE_inlI {R X S : Type} {g : Nat → S → X → S} {fin : S → R} : ∀ (l : List X) (i : Nat) (s : S), foldE (fun i x s => .inl (g i s x)) fin i l s = fin ((l.zipIdx i).foldl (fun s p => g p.2 s p.1) s)
  | [], _, s => rfl
  | x :: l, i, s => by simp only [foldE, List.zipIdx_cons, List.foldl_cons]; exact foldE_inlI l (i + 1) (g i s x)
theorem join_fold {X : Type} {sep : List UInt8} {g : X → List UInt8} : ∀ (l : List X) (i : Nat) (o : List UInt8), 0 < i → (l.zipIdx i).foldl (fun s p => (if p.2 > 0 then s ++ sep else s) ++ g p.1) o = o ++ Lib.joinTail sep (l.map g)
  | [], _, o, _ => by simp [Lib.joinTail]
  | x :: l, i, o, h => by
    simp only [List.zipIdx_cons, List.foldl_cons]
    rw [if_pos h, join_fold l (i + 1) _ (by omega)]
    simp [Lib.joinTail]
theorem join_fold0 {X : Type} {sep : List UInt8} {g : X → List UInt8} (l : List X) : (l.zipIdx 0).foldl (fun s p => (if p.2 > 0 then s ++ sep else s) ++ g p.1) [] = Lib.join (l.map g) sep := by
  cases l with
  | nil => rfl
  | cons x l =>
    simp only [List.zipIdx_cons, List.foldl_cons]
    rw [if_neg (by omega), join_fold l (0 + 1) _ (by omega), List.map_cons, Lib.join_cons]
    simp
theorem tail_len {sep : List UInt8} {m : Nat} : ∀ {l : List (List UInt8)}, (∀ x ∈ l, x.length ≤ m) → (Lib.joinTail sep l).length ≤ l.length * (sep.length + m)
  | [], _ => by simp [Lib.joinTail]
  | x :: l, h => by
    have h1 := h x (List.mem_cons_self ..)
    have h2 := tail_len (sep := sep) (l := l) (fun y hy => h y (List.mem_cons_of_mem _ hy))
    have e : Lib.joinTail sep (x :: l) = sep ++ x ++ Lib.joinTail sep l := by simp [Lib.joinTail]
    rw [e]
    simp only [List.length_append, List.length_cons, Nat.succ_mul]
    omega
theorem join_len {sep : List UInt8} {m : Nat} {l : List (List UInt8)} (h : ∀ x ∈ l, x.length ≤ m) : (Lib.join l sep).length ≤ l.length * (sep.length + m) := by
  cases l with
  | nil => simp [Lib.join_nil]
  | cons x l =>
    have h1 := h x (List.mem_cons_self ..)
    have h2 := tail_len (sep := sep) (l := l) (fun y hy => h y (List.mem_cons_of_mem _ hy))
    rw [Lib.join_cons]
    simp only [List.length_append, List.length_cons, Nat.succ_mul]
    omega
def slashM (s : List UInt8) : List UInt8 := s.flatMap fun b => if b.toNat = 47 ∨ b.toNat = 92 then [92, b] else [b]
theorem slash_len {s : List UInt8} : (slashM s).length ≤ 2 * s.length := by
  induction s with
  | nil => simp [slashM]
  | cons b s ih =>
    unfold slashM at ih ⊢
    rw [List.flatMap_cons, List.length_append, List.length_cons]
    have : (if b.toNat = 47 ∨ b.toNat = 92 then [92, b] else [b]).length ≤ 2 := by split <;> simp
    omega
theorem byte_eq {b : UInt8} {n : Nat} : ((b.toNat : Int) = (n : Int)) ↔ b.toNat = n := by omega
theorem nameQuote_t {s : List UInt8} (hs : s.length < 1000000) : name_Quote s = some (slashM s) := by
  have key : ∀ (k i : Nat) (b : Bool) (o : List UInt8), s.length - i ≤ k → i ≤ s.length → o.length ≤ 2 * i → loopT (name_Quote_l3 s) ((i : Int), bI o, (b, (), ()), ()) = some (o ++ slashM (s.drop i)) := by
    intro k
    have fin : ∀ (i : Nat) (b : Bool) (o : List UInt8), i = s.length → o.length ≤ 2 * i → loopT (name_Quote_l3 s) ((i : Int), bI o, (b, (), ()), ()) = some (o ++ slashM (s.drop i)) := by
      intro i b o hi ho
      refine loopT_inr ?_
      unfold name_Quote_l3
      simp only [cond_dec]
      rw [if_neg (by omega), string_t (by omega), List.drop_eq_nil_of_le (by omega)]
      simp [slashM]
    induction k with
    | zero => intro i b o hk hi ho; exact fin i b o (by omega) ho
    | succ k ih =>
      intro i b o hk hi ho
      by_cases hlt : i < s.length
      · have hl : ∀ o : List UInt8, (bI o).length = o.length := fun o => bI_len
        have tail : ∀ (b : Bool) (o : List UInt8), o.length ≤ 2 * i + 1 → ((strings_Builder_WriteByte ((s[i].toNat : Nat) : Int) (b, (), ()) (bI o)).bind fun q7 => (some (.inl ((IntKind.wrap .i64 ((i : Int) + 1)), q7.2.2.1, q7.2.1, ())) : Option ((Int × List Int × (Bool × Unit × Unit) × Unit) ⊕ List UInt8))) = some (.inl (((i + 1 : Nat) : Int), bI (o ++ [s[i]]), (true, (), ()), ())) := by
          intro b o ho
          rw [writeByte_t (by rw [hl]; omega), wrap64 (by omega) (by omega)]
          simp only [Option.bind_some, bI_app]
          rfl
        have w92 : ∀ (b : Bool), strings_Builder_WriteByte 92 (b, (), ()) (bI o) = some (false, (true, (), ()), bI (o ++ [92]), ()) := by
          intro b
          rw [writeByte_t (by rw [hl]; omega), bI_app]
          rfl
        have hd : slashM (s.drop i) = (if s[i].toNat = 47 ∨ s[i].toNat = 92 then [92, s[i]] else [s[i]]) ++ slashM (s.drop (i + 1)) := by
          rw [List.drop_eq_getElem_cons hlt]
          unfold slashM
          rw [List.flatMap_cons]
        have turn : name_Quote_l3 s ((i : Int), bI o, (b, (), ()), ()) = some (.inl (((i + 1 : Nat) : Int), bI (o ++ (if s[i].toNat = 47 ∨ s[i].toNat = 92 then [92, s[i]] else [s[i]])), (true, (), ()), ())) := by
          unfold name_Quote_l3
          simp only [cond_dec]
          rw [if_pos (by omega), atI_lt hlt]
          simp only [Option.bind_some]
          by_cases h1 : s[i].toNat = 47
          · rw [if_pos (by omega), w92]
            simp only [Option.bind_some, joinS]
            rw [tail _ _ (by simp <;> omega), if_pos (.inl h1), List.append_assoc]
            rfl
          · rw [if_neg (by omega)]
            by_cases h2 : s[i].toNat = 92
            · rw [if_pos (by omega), w92]
              simp only [Option.bind_some, joinS]
              rw [tail _ _ (by simp <;> omega), if_pos (.inr h2), List.append_assoc]
              rfl
            · rw [if_neg (by omega)]
              simp only [Option.bind_some, joinS]
              rw [tail _ _ (by omega), if_neg (by omega)]
        rw [loopT_inl turn, ih (i + 1) true _ (by omega) (by omega) (by
          rw [List.length_append]
          have : (if s[i].toNat = 47 ∨ s[i].toNat = 92 then [92, s[i]] else [s[i]]).length ≤ 2 := by split <;> simp
          omega), hd, List.append_assoc]
      · exact fin i b o (by omega) ho
  have := key s.length 0 false [] (by omega) (by omega) (by simp)
  simpa [name_Quote, bI] using this
theorem refQuote3_t {s : List UInt8} (hs : s.length < 1000000) : ref03_Quote s = some (slashM s) := by
  have := loop_map (f := ref03_Quote_l3 s) (l := s) (fun i o => (o, (i : Int), ())) (fun b => if b.toNat = 47 ∨ b.toNat = 92 then [92, b] else [b]) (fun o => o) 2 (fun b _ => by split <;> simp) (fun i h o ho => by
    unfold ref03_Quote_l3
    simp only [cond_dec]
    have w1 : IntKind.wrap .i64 ((i : Int) + 1) = ((i + 1 : Nat) : Int) := by rw [wrap64 (by omega) (by omega)]; rfl
    have hsub : subI s (i : Int) ((i + 1 : Nat) : Int) = some [s[i]] := by
      rw [subI_nat (by omega) (by omega), List.take_add_one, List.drop_append_of_le_length (by simp; omega)]
      simp [h]
    rw [if_pos (by omega), atI_lt h, w1]
    simp only [Option.bind_some, hsub]
    by_cases h1 : s[i].toNat = 47
    · rw [if_pos (by omega), catT_some (by simp; omega)]
      simp only [Option.bind_some, joinS]
      rw [catT_some (by simp; omega), if_pos (.inl h1), List.append_assoc]
      rfl
    · rw [if_neg (by omega)]
      by_cases h2 : s[i].toNat = 92
      · rw [if_pos (by omega), catT_some (by simp; omega)]
        simp only [Option.bind_some, joinS]
        rw [catT_some (by simp; omega), if_pos (.inr h2), List.append_assoc]
        rfl
      · rw [if_neg (by omega)]
        simp only [Option.bind_some, joinS]
        rw [catT_some (by simp; omega), if_neg (by omega)]
        rfl) (fun o ho => by
    unfold ref03_Quote_l3
    simp only [cond_dec]
    rw [if_neg (by omega)])
  exact this
def pathM (p : Path) : List UInt8 := Lib.join (p.map slashM) [47]
theorem join_t {l : List (List UInt8)} {sep : List UInt8} {m : Nat} (hl : l.length ≤ 1000) (hs : sep.length ≤ 1000) (hm : m ≤ 1000000) (h : ∀ x ∈ l, x.length ≤ m) : strings_Join l sep = some (Lib.join l sep) := by
  unfold strings_Join joinT
  have := join_len (sep := sep) h
  have h2 : l.length * (sep.length + m) ≤ 1000 * 1001000 := Nat.mul_le_mul hl (by omega)
  rw [if_pos ⟨by omega, by omega⟩]
theorem smallP_quote {p : Path} (h : ∀ x ∈ p, x.length ≤ 120) : ∀ x ∈ p.map slashM, x.length ≤ 240 := by
  intro x hx
  rw [List.mem_map] at hx
  obtain ⟨y, hy, rfl⟩ := hx
  have := h y hy
  have := slash_len (s := y)
  omega
theorem pathM_len {p : Path} (h1 : p.length ≤ 12) (h : ∀ x ∈ p, x.length ≤ 120) : (pathM p).length ≤ 3000 := by
  have := join_len (sep := [47]) (smallP_quote h)
  rw [List.length_map] at this
  have h2 : p.length * (([47] : List UInt8).length + 240) ≤ 12 * 241 := Nat.mul_le_mul h1 (by simp)
  unfold pathM
  omega
theorem pathText_t {p : Path} (h1 : p.length ≤ 12) (h : ∀ x ∈ p, x.length ≤ 120) : path_Text p = some (pathM p) := by
  have := loop_list (f := path_Text_l3 p) (l := p) (S := List (List UInt8)) (fun i o => ((i : Int), o, ())) (fun i x o => .inl (o ++ [slashM x])) (fun _ => pathM p) (fun i o => o = (p.take i).map slashM) (fun i hi o ho => .inl ⟨_, rfl, by
    unfold path_Text_l3
    simp only [cond_dec]
    have hq := h _ (List.getElem_mem hi)
    rw [if_pos (by omega), atI_lt hi]
    simp only [Option.bind_some, nameQuote_t (show p[i].length < 1000000 by omega)]
    rw [roomT_lt (by rw [ho]; simp; omega), wrap64 (by omega) (by omega)]
    rfl, by
    rw [ho, List.take_add_one, List.map_append, List.getElem?_eq_getElem hi]
    rfl⟩) (fun o ho => by
    unfold path_Text_l3
    simp only [cond_dec]
    rw [List.take_length] at ho
    subst ho
    rw [if_neg (by omega), join_t (m := 240) (by simp; omega) (by simp) (by omega) (smallP_quote h)]
    rfl) [] (by simp)
  rw [foldE_inl] at this
  exact this
theorem refPathText_t {p : Path} (h1 : p.length ≤ 12) (h : ∀ x ∈ p, x.length ≤ 120) : ref10_Text p = some (pathM p) := by
  have := loop_list (f := ref10_Text_l3 p) (l := p) (S := List UInt8) (fun i o => (o, (i : Int), ())) (fun i x o => .inl ((if i > 0 then o ++ [47] else o) ++ slashM x)) (fun o => o) (fun i o => o.length ≤ 1000 * i) (fun i hi o ho => .inl ⟨_, rfl, by
    unfold ref10_Text_l3
    simp only [cond_dec]
    have hq := h _ (List.getElem_mem hi)
    have hsl := slash_len (s := p[i])
    have w1 : IntKind.wrap .i64 ((i : Int) + 1) = ((i + 1 : Nat) : Int) := by rw [wrap64 (by omega) (by omega)]; rfl
    rw [if_pos (by omega), atI_lt hi]
    simp only [Option.bind_some, refQuote3_t (show p[i].length < 1000000 by omega), w1]
    by_cases h0 : i > 0
    · rw [if_pos (by omega), catT_some (by simp; omega), if_pos h0]
      simp only [Option.bind_some, joinS]
      rw [catT_some (by simp; omega)]
      rfl
    · rw [if_neg (by omega), if_neg h0]
      simp only [Option.bind_some, joinS]
      rw [catT_some (by omega)]
      rfl, by
    have hq := h _ (List.getElem_mem hi)
    have hsl := slash_len (s := p[i])
    rw [List.length_append]
    have : (if i > 0 then o ++ [47] else o).length ≤ o.length + 1 := by split <;> simp
    omega⟩) (fun o ho => by
    unfold ref10_Text_l3
    simp only [cond_dec]
    rw [if_neg (by omega)]) [] (by simp)
  rw [foldE_inlI, join_fold0] at this
  exact this
/-- An entry's line. -/
def valsM (l : List Val) : List UInt8 := Lib.join (l.map textV) [32]
def lineM (e : Ent) : List UInt8 :=
  if e.2.1 = 1 then pathM e.1 ++ [32, 61, 32] ++ valsM e.2.2.1 else if e.2.1 = 2 then pathM e.1 ++ [32, 58, 32] ++ valsM e.2.2.1 else pathM e.1 ++ [32, 35, 32] ++ Lib.itoa e.2.2.2.1
theorem textV_len {v : Val} (h : rightV v = true) : (textV v).length ≤ 1000 := by
  rcases rightV_cases h with ⟨n, rfl, g1, g2⟩ | ⟨s, l, rfl, g1, g2⟩ | rfl | rfl
  · have := itoa_len (n := n) (by omega) (by omega)
    show (Lib.itoa n).length ≤ 1000
    omega
  · have := quote_len s
    show ([34] ++ quoteM s ++ [34]).length ≤ 1000
    simp only [List.length_append, List.length_cons, List.length_nil]; omega
  · decide
  · decide
theorem vals_len {l : List Val} (h : ∀ v ∈ l, rightV v = true) : ∀ x ∈ l.map textV, x.length ≤ 1000 := by
  intro x hx
  rw [List.mem_map] at hx
  obtain ⟨v, hv, rfl⟩ := hx
  exact textV_len (h v hv)
theorem valsM_len {l : List Val} (hl : l.length ≤ 30) (h : ∀ v ∈ l, rightV v = true) : (valsM l).length ≤ 40000 := by
  have := join_len (sep := [32]) (vals_len h)
  rw [List.length_map] at this
  have h2 : l.length * (([32] : List UInt8).length + 1000) ≤ 30 * 1001 := Nat.mul_le_mul hl (by simp)
  unfold valsM
  omega
theorem itoaR_len {n : Int} (h : inR n) : (Lib.itoa n).length ≤ 21 := itoa_len h.1 h.2
theorem lineM_len {e : Ent} (h : smallE e) (hn : inR e.2.2.2.1) : (lineM e).length ≤ 50000 := by
  have h1 := pathM_len h.1 h.2.1
  have h2 := valsM_len h.2.2.1 h.2.2.2
  have h3 := itoaR_len hn
  unfold lineM
  split
  · simp only [List.length_append, List.length_cons, List.length_nil]; omega
  · split <;> simp only [List.length_append, List.length_cons, List.length_nil] <;> omega
theorem viewLine_t {e : Ent} (h : smallE e) (hn : inR e.2.2.2.1) : view_Line e = some (lineM e) := by
  have l1 := loop_list (f := view_Line_l3 e) (l := e.2.2.1) (S := List (List UInt8)) (fun i o => ((i : Int), o, ())) (fun i x o => .inl (o ++ [textV x])) (fun o => (.inl (o, ()) : (List (List UInt8) × Unit) ⊕ List UInt8)) (fun i o => o.length ≤ i) (fun i hi o ho => .inl ⟨_, rfl, by
    unfold view_Line_l3
    simp only [cond_dec]
    have hv := h.2.2.2 _ (List.getElem_mem hi)
    have hl := h.2.2.1
    rw [if_pos (by omega), atI_lt hi]
    simp only [Option.bind_some, valueText_t hv]
    rw [roomT_lt (by simp; omega), wrap64 (by omega) (by omega)]
    rfl, by simp; omega⟩) (fun o ho => by
    unfold view_Line_l3
    simp only [cond_dec]
    rw [if_neg (by omega)]) [] (by simp)
  rw [foldE_inl] at l1
  have fl : ∀ (l : List Val) (o : List (List UInt8)), l.foldl (fun s x => s ++ [textV x]) o = o ++ l.map textV := by
    intro l
    induction l with
    | nil => intro o; simp
    | cons x l ih => intro o; rw [List.foldl_cons, ih]; simp
  rw [fl, List.nil_append] at l1
  have hl := h.2.2.1
  have p1 := pathM_len h.1 h.2.1
  have p2 := valsM_len h.2.2.1 h.2.2.2
  have p3 := itoaR_len hn
  have hj : strings_Join (e.2.2.1.map textV) [32] = some (valsM e.2.2.1) := join_t (m := 1000) (by simp; omega) (by simp) (by omega) (vals_len h.2.2.2)
  unfold view_Line
  rw [show ((0 : Int), ([] : List (List UInt8)), ()) = (((0 : Nat) : Int), [], ()) from rfl, l1, bind_join_inl]
  simp only [hj, Option.bind_some, pathText_t h.1 h.2.1, strItoa_t hn, cond_dec]
  unfold lineM
  by_cases h1 : e.2.1 = 1
  · rw [if_pos h1, if_pos h1, catT_some (by simp; omega)]
    simp only [Option.bind_some]
    rw [catT_some (by simp; omega)]
    rfl
  · rw [if_neg h1, if_neg h1]
    by_cases h2 : e.2.1 = 2
    · rw [if_pos h2, if_pos h2, catT_some (by simp; omega)]
      simp only [Option.bind_some]
      rw [catT_some (by simp; omega)]
      rfl
    · rw [if_neg h2, if_neg h2, catT_some (by simp; omega)]
      simp only [Option.bind_some]
      rw [catT_some (by simp; omega)]
      rfl
theorem refLine_t {e : Ent} (h : smallE e) (hn : inR e.2.2.2.1) : ref18_Line e = some (lineM e) := by
  have l1 := loop_list (f := ref18_Line_l3 e) (l := e.2.2.1) (S := List UInt8) (fun i o => (o, (i : Int), ())) (fun i x o => .inl ((if i > 0 then o ++ [32] else o) ++ textV x)) (fun o => (.inl (o, ()) : (List UInt8 × Unit) ⊕ List UInt8)) (fun i o => o.length ≤ 2000 * i) (fun i hi o ho => .inl ⟨_, rfl, by
    unfold ref18_Line_l3
    simp only [cond_dec]
    have hv := h.2.2.2 _ (List.getElem_mem hi)
    have hl := h.2.2.1
    have ht := textV_len hv
    have w1 : IntKind.wrap .i64 ((i : Int) + 1) = ((i + 1 : Nat) : Int) := by rw [wrap64 (by omega) (by omega)]; rfl
    rw [if_pos (by omega), atI_lt hi]
    simp only [Option.bind_some, refText9_t hv, w1]
    by_cases h0 : i > 0
    · rw [if_pos (by omega), catT_some (by simp; omega), if_pos h0]
      simp only [Option.bind_some, joinS]
      rw [catT_some (by simp; omega)]
      rfl
    · rw [if_neg (by omega), if_neg h0]
      simp only [Option.bind_some, joinS]
      rw [catT_some (by omega)]
      rfl, by
    have hv := h.2.2.2 _ (List.getElem_mem hi)
    have ht := textV_len hv
    rw [List.length_append]
    have : (if i > 0 then o ++ [32] else o).length ≤ o.length + 1 := by split <;> simp
    omega⟩) (fun o ho => by
    unfold ref18_Line_l3
    simp only [cond_dec]
    rw [if_neg (by omega)]) [] (by simp)
  rw [foldE_inlI, join_fold0] at l1
  have p1 := pathM_len h.1 h.2.1
  have p2 := valsM_len h.2.2.1 h.2.2.2
  have p3 := itoaR_len hn
  unfold ref18_Line
  rw [show (([] : List UInt8), (0 : Int), ()) = ([], ((0 : Nat) : Int), ()) from rfl, l1, bind_join_inl]
  have hv : Lib.join (e.2.2.1.map textV) [32] = valsM e.2.2.1 := rfl
  simp only [hv, Option.bind_some, refPathText_t h.1 h.2.1, digits_t hn.1 hn.2, cond_dec]
  unfold lineM
  by_cases h1 : e.2.1 = 1
  · rw [if_pos h1, if_pos h1, catT_some (by simp; omega)]
    simp only [Option.bind_some]
    rw [catT_some (by simp; omega)]
    rfl
  · rw [if_neg h1, if_neg h1]
    by_cases h2 : e.2.1 = 2
    · rw [if_pos h2, if_pos h2, catT_some (by simp; omega)]
      simp only [Option.bind_some]
      rw [catT_some (by simp; omega)]
      rfl
    · rw [if_neg h2, if_neg h2, catT_some (by simp; omega)]
      simp only [Option.bind_some]
      rw [catT_some (by simp; omega)]
      rfl
/-- A change's lines. -/
def linesM (c : Chg) : List UInt8 := (if c.1 = 1 then [] else [45, 32] ++ lineM c.2.1 ++ [10]) ++ (if c.1 = 2 then [] else [43, 32] ++ lineM c.2.2.1 ++ [10])
def fitC (c : Chg) : Prop := (smallE c.2.1 ∧ inR c.2.1.2.2.2.1) ∧ smallE c.2.2.1 ∧ inR c.2.2.1.2.2.2.1
theorem lines_len {c : Chg} (h : fitC c) : (linesM c).length ≤ 200000 := by
  have h1 := lineM_len h.1.1 h.1.2
  have h2 := lineM_len h.2.1 h.2.2
  unfold linesM
  split <;> split <;> simp only [List.length_append, List.length_cons, List.length_nil] <;> omega
theorem writeString_t {s : List UInt8} {v : Bool × Unit × Unit} {o : List UInt8} (hw : o.length + s.length < 4294967000) : strings_Builder_WriteString s v (bI o) = some (((s.length : Int), false, ()), (true, (), ()), bI (o ++ s), ()) := by
  unfold strings_Builder_WriteString
  have h : strings_Builder_copyCheck v (bI o) = some ((), (true, (), ()), bI o, ()) := by
    obtain ⟨b, _, _⟩ := v
    unfold strings_Builder_copyCheck
    cases b <;> rfl
  rw [h]
  simp only [Option.bind_some]
  rw [roomT_lt (by rw [bI_len]; simp; omega), bI_app]
  rfl
theorem changeText_t {l : List Chg} (hl : l.length ≤ 1000) (hf : ∀ c ∈ l, fitC c) : change_Text l = some (l.flatMap linesM) := by
  have := loop_list (f := change_Text_l3 l) (l := l) (S := Bool × List UInt8) (fun i s => ((i : Int), bI s.2, (s.1, (), ()), ())) (fun _ c s => .inl (if c.1 = 1 ∧ c.1 = 2 then s.1 else true, s.2 ++ linesM c)) (fun s => s.2) (fun i s => s.2.length ≤ 200000 * i) (fun i hi s ho => .inl ⟨_, rfl, by
    have hc := hf _ (List.getElem_mem hi)
    have g1 := lineM_len hc.1.1 hc.1.2
    have g2 := lineM_len hc.2.1 hc.2.2
    have w1 : IntKind.wrap .i64 ((i : Int) + 1) = ((i + 1 : Nat) : Int) := by rw [wrap64 (by omega) (by omega)]; rfl
    unfold change_Text_l3
    simp only [cond_dec]
    rw [if_pos (by omega), atI_lt hi]
    have v1 := viewLine_t hc.1.1 hc.1.2
    have v2 := viewLine_t hc.2.1 hc.2.2
    simp only [Option.bind_some, v1, w1]
    generalize l[i] = c at *
    unfold linesM
    rw [if_neg (show ¬ (c.1 = 1 ∧ c.1 = 2) by omega)]
    by_cases h1 : c.1 = 1
    · rw [decide_eq_true h1, if_pos h1, if_neg (show ¬ c.1 = 2 by omega)]
      simp only [Bool.not_true, cond_false, Option.bind_some, joinS]
      rw [decide_eq_false (show ¬ c.1 = 2 by omega)]
      simp only [Bool.not_false, cond_true, v2, Option.bind_some]
      rw [catT_some (by simp; omega)]
      simp only [Option.bind_some]
      rw [catT_some (by simp; omega)]
      simp only [Option.bind_some]
      rw [writeString_t (by simp; omega)]
      rfl
    · rw [decide_eq_false h1, if_neg h1]
      simp only [Bool.not_false, cond_true]
      rw [catT_some (by simp; omega)]
      simp only [Option.bind_some]
      rw [catT_some (by simp; omega)]
      simp only [Option.bind_some]
      rw [writeString_t (by simp; omega)]
      simp only [Option.bind_some, joinS]
      by_cases h2 : c.1 = 2
      · rw [decide_eq_true h2, if_pos h2]
        simp only [Bool.not_true, cond_false, List.append_nil]
      · rw [decide_eq_false h2, if_neg h2]
        simp only [Bool.not_false, cond_true, v2, Option.bind_some]
        rw [catT_some (by simp; omega)]
        simp only [Option.bind_some]
        rw [catT_some (by simp; omega)]
        simp only [Option.bind_some]
        rw [writeString_t (by simp; omega), List.append_assoc s.2]
        rfl, by
    have := lines_len (hf _ (List.getElem_mem hi))
    simp only [List.length_append]; omega⟩) (fun s ho => by
    unfold change_Text_l3
    simp only [cond_dec]
    rw [if_neg (by omega), string_t (by omega)]
    rfl) (false, []) (by simp)
  rw [foldE_inl] at this
  have gen : ∀ (l : List Chg) (s : Bool × List UInt8), (l.foldl (fun (s : Bool × List UInt8) (c : Chg) => (if c.1 = 1 ∧ c.1 = 2 then s.1 else true, s.2 ++ linesM c)) s).2 = s.2 ++ l.flatMap linesM := by
    intro l
    induction l with
    | nil => intro s; simp
    | cons c l ih => intro s; rw [List.foldl_cons, ih]; simp [List.flatMap_cons]
  rw [gen] at this
  exact this
theorem refText39_t {l : List Chg} (hl : l.length ≤ 1000) (hf : ∀ c ∈ l, fitC c) : ref39_Text l = some (l.flatMap linesM) := by
  have := loop_list (f := ref39_Text_l3 l) (l := l) (S := List UInt8) (fun i s => (s, (i : Int), ())) (fun _ c s => .inl (s ++ linesM c)) (fun s => s) (fun i s => s.length ≤ 200000 * i) (fun i hi s ho => .inl ⟨_, rfl, by
    have hc := hf _ (List.getElem_mem hi)
    have g1 := lineM_len hc.1.1 hc.1.2
    have g2 := lineM_len hc.2.1 hc.2.2
    have w1 : IntKind.wrap .i64 ((i : Int) + 1) = ((i + 1 : Nat) : Int) := by rw [wrap64 (by omega) (by omega)]; rfl
    unfold ref39_Text_l3
    simp only [cond_dec]
    rw [if_pos (by omega), atI_lt hi]
    simp only [Option.bind_some, refLine_t hc.1.1 hc.1.2, refLine_t hc.2.1 hc.2.2, w1]
    generalize l[i] = c at *
    unfold linesM
    by_cases h1 : c.1 = 1
    · rw [decide_eq_true h1, if_pos h1, if_neg (show ¬ c.1 = 2 by omega)]
      simp only [Bool.not_true, cond_false, Option.bind_some, joinS]
      rw [decide_eq_false (show ¬ c.1 = 2 by omega)]
      simp only [Bool.not_false, cond_true]
      rw [catT_some (by simp; omega)]
      simp only [Option.bind_some]
      rw [catT_some (by simp; omega)]
      simp only [Option.bind_some]
      rw [catT_some (by simp; omega)]
      simp
    · rw [decide_eq_false h1, if_neg h1]
      simp only [Bool.not_false, cond_true]
      rw [catT_some (by simp; omega)]
      simp only [Option.bind_some]
      rw [catT_some (by simp; omega)]
      simp only [Option.bind_some]
      rw [catT_some (by simp; omega)]
      simp only [Option.bind_some, joinS]
      by_cases h2 : c.1 = 2
      · rw [decide_eq_true h2, if_pos h2]
        simp
      · rw [decide_eq_false h2, if_neg h2]
        simp only [Bool.not_false, cond_true]
        rw [catT_some (by simp; omega)]
        simp only [Option.bind_some]
        rw [catT_some (by simp; omega)]
        simp only [Option.bind_some]
        rw [catT_some (by simp; omega)]
        simp, by
    have := lines_len (hf _ (List.getElem_mem hi))
    simp only [List.length_append]; omega⟩) (fun s ho => by
    unfold ref39_Text_l3
    simp only [cond_dec]
    rw [if_neg (by omega)]) [] (by simp)
  rw [foldE_inl] at this
  have gen : ∀ (l : List Chg) (s : List UInt8), l.foldl (fun s c => s ++ linesM c) s = s ++ l.flatMap linesM := by
    intro l
    induction l with
    | nil => intro s; simp
    | cons c l ih => intro s; rw [List.foldl_cons, ih]; simp [List.flatMap_cons]
  rw [gen] at this
  exact this
/-! ### the law -/
theorem dM_mem : ∀ (n : Nat) (a b : List Ent), a.length + b.length ≤ n → ∀ c ∈ dM a b, (c.2.1 ∈ a ∨ c.2.1 = zeroE) ∧ (c.2.2.1 ∈ b ∨ c.2.2.1 = zeroE) := by
  intro n
  have nilB : ∀ b : List Ent, ∀ c ∈ dM [] b, (c.2.1 ∈ ([] : List Ent) ∨ c.2.1 = zeroE) ∧ (c.2.2.1 ∈ b ∨ c.2.2.1 = zeroE) := by
    intro b c hc
    unfold dM at hc
    rw [diffM.eq_def] at hc
    simp only [List.mem_map] at hc
    obtain ⟨y, hy, rfl⟩ := hc
    exact ⟨.inr rfl, .inl hy⟩
  induction n with
  | zero =>
    intro a b h
    have e1 : a = [] := List.eq_nil_of_length_eq_zero (by omega)
    subst e1
    exact nilB b
  | succ n ih =>
    intro a b h
    match a, b, h with
    | [], b, h => exact nilB b
    | x :: a, [], h =>
      intro c hc
      unfold dM at hc
      rw [diffM.eq_def] at hc
      simp only [List.mem_map] at hc
      obtain ⟨y, hy, rfl⟩ := hc
      exact ⟨.inl hy, .inr rfl⟩
    | x :: a, y :: b, h =>
      simp only [List.length_cons] at h
      intro c hc
      have i1 := ih a (y :: b) (by simp only [List.length_cons]; omega)
      have i2 := ih (x :: a) b (by simp only [List.length_cons]; omega)
      have i3 := ih a b (by omega)
      unfold dM at hc i1 i2 i3
      rw [diffM.eq_def] at hc
      simp only at hc
      split at hc
      · rcases List.mem_cons.1 hc with rfl | hc
        · exact ⟨.inl (List.mem_cons_self ..), .inr rfl⟩
        · have := i1 c hc
          exact ⟨this.1.imp_left (List.mem_cons_of_mem _), this.2⟩
      · split at hc
        · rcases List.mem_cons.1 hc with rfl | hc
          · exact ⟨.inr rfl, .inl (List.mem_cons_self ..)⟩
          · have := i2 c hc
            exact ⟨this.1, this.2.imp_left (List.mem_cons_of_mem _)⟩
        · rcases List.mem_append.1 hc with hc | hc
          · split at hc
            · cases hc
            · simp at hc
              subst hc
              exact ⟨.inl (List.mem_cons_self ..), .inl (List.mem_cons_self ..)⟩
          · have := i3 c hc
            exact ⟨this.1.imp_left (List.mem_cons_of_mem _), this.2.imp_left (List.mem_cons_of_mem _)⟩
open Classical in
theorem good_t {l : List Ent} (hb : ∀ e ∈ l, ∀ v ∈ e.2.2.1, v.2.2.1.length < 4294967296) : ∃ g, law39_Good l = some g ∧ (g = true → l.length ≤ 30 ∧ (∀ e ∈ l, smallE e) ∧ Rises cmpK keyE l ∧ ∀ e ∈ l, okE e = true) := by
  unfold law39_Good
  rw [short_t hb]
  simp only [Option.bind_some]
  cases hs : (decide (l.length ≤ 30) && l.all shortE) with
  | false => exact ⟨false, rfl, fun h => by cases h⟩
  | true =>
    simp only [Bool.and_eq_true, decide_eq_true_eq, List.all_eq_true] at hs
    have hsm : ∀ e ∈ l, smallE e := fun e he => shortE_small (hs.2 e he)
    simp only [cond_true]
    rw [theirs_t (by omega)]
    simp only [Option.bind_some]
    rw [refRight39_t (by omega) hsm]
    refine ⟨_, rfl, fun h => ?_⟩
    split at h
    · rename_i hr
      exact ⟨hs.1, hsm, rises_at hr⟩
    · cases h
theorem zero_fit : smallE zeroE ∧ inR zeroE.2.2.2.1 := by
  refine ⟨⟨by decide, ?_, by decide, ?_⟩, by unfold inR zeroE; simp⟩
  · intro x hx; cases hx
  · intro x hx; cases hx
theorem diffs_law {a b : List Ent} (ha : ∀ e ∈ a, (∀ v ∈ e.2.2.1, v.2.2.1.length < 4294967296) ∧ inR e.2.2.2.1) (hb : ∀ e ∈ b, (∀ v ∈ e.2.2.1, v.2.2.1.length < 4294967296) ∧ inR e.2.2.2.1) : law39_ChangeDiffs a b = some true := by
  unfold law39_ChangeDiffs
  simp only [law39_awake, Option.bind_some, short_t (fun e he => (ha e he).1), short_t (fun e he => (hb e he).1)]
  cases hsa : (decide (a.length ≤ 30) && a.all shortE) with
  | false => rfl
  | true =>
    cases hsb : (decide (b.length ≤ 30) && b.all shortE) with
    | false => rfl
    | true =>
      simp only [Bool.and_eq_true, decide_eq_true_eq, List.all_eq_true] at hsa hsb
      have hsm : ∀ e ∈ a, smallE e := fun e he => shortE_small (hsa.2 e he)
      simp only [Bool.not_true, cond_false]
      rw [right39_t (by omega) hsm, theirs_t (by omega)]
      simp only [Option.bind_some]
      rw [refRight39_t (by omega) hsm]
      simp only [Option.bind_some, beq_self_eq_true, Bool.not_true, cond_false]
      obtain ⟨g1, e1, k1⟩ := good_t (l := a) (fun e he => (ha e he).1)
      obtain ⟨g2, e2, k2⟩ := good_t (l := b) (fun e he => (hb e he).1)
      rw [e1, e2]
      simp only [Option.bind_some]
      cases g1 with
      | false => rfl
      | true =>
        cases g2 with
        | false => rfl
        | true =>
          obtain ⟨la, sa, ra, _⟩ := k1 rfl
          obtain ⟨lb, sb, rb, _⟩ := k2 rfl
          simp only [Bool.not_true, cond_false]
          have hlen := dM_len _ a b (Nat.le_refl _)
          have hmem := dM_mem _ a b (Nat.le_refl _)
          have hfit : ∀ c ∈ dM a b, fitC c := by
            intro c hc
            obtain ⟨h1, h2⟩ := hmem c hc
            refine ⟨?_, ?_⟩
            · rcases h1 with h1 | h1
              · exact ⟨sa _ h1, (ha _ h1).2⟩
              · rw [h1]; exact zero_fit
            · rcases h2 with h2 | h2
              · exact ⟨sb _ h2, (hb _ h2).2⟩
              · rw [h2]; exact zero_fit
          rw [diff_t (by omega) (fun e he => small_low (sa e he)) (fun e he => small_low (sb e he))]
          simp only [Option.bind_some]
          rw [changes_t (by omega), theirs_t (l := b) (by omega)]
          simp only [Option.bind_some]
          rw [diffs_t (by omega) (by omega) (fun e he => small_easy (sa e he)) (fun e he => small_easy (sb e he)) ra rb]
          simp only [Option.bind_some]
          rw [lawSame_t (by omega) (fun c hc => ⟨small_low (hfit c hc).1.1, small_low (hfit c hc).2.1⟩)]
          simp only [Option.bind_some, cond_true]
          rw [changeText_t (by omega) hfit, refText39_t (by omega) hfit]
          simp only [Option.bind_some, decide_true, cond_true]
theorem sum_mem {A : Type} {f : A → Nat} : ∀ {l : List A} {x : A}, x ∈ l → f x ≤ (l.map f).sum
  | y :: l, x, h => by
    simp only [List.map_cons, List.sum_cons]
    rcases List.mem_cons.1 h with rfl | h
    · omega
    · have := sum_mem (f := f) h
      omega
abbrev tyVal : Ty := .agg (.cons (.int .i64) (.cons (.int .i64) (.cons .str .unit)))
abbrev tyEnt : Ty := .agg (.cons (.sl .str) (.cons (.int .i64) (.cons (.sl tyVal) (.cons (.int .i64) .unit))))
theorem ents_ok {l : List Ent} (ho : okV (.sl tyEnt) l) (hl : lenV (.sl tyEnt) l ≤ 1048576) : ∀ e ∈ l, (∀ v ∈ e.2.2.1, v.2.2.1.length < 4294967296) ∧ inR e.2.2.2.1 := by
  intro e he
  have h1 := ho.2 e he
  have h2 : lenV tyEnt e ≤ (l.map (lenV tyEnt)).sum := sum_mem he
  have h3 : lenV (.sl tyEnt) l = l.length + (l.map (lenV tyEnt)).sum := rfl
  refine ⟨fun v hv => ?_, ?_⟩
  · have h4 : lenV tyVal v ≤ (e.2.2.1.map (lenV tyVal)).sum := sum_mem hv
    have h5 : lenV tyEnt e = lenV (.sl .str) e.1 + (0 + ((e.2.2.1.length + (e.2.2.1.map (lenV tyVal)).sum) + (0 + 0))) := rfl
    have h6 : lenV tyVal v = 0 + (0 + (v.2.2.1.length + 0)) := rfl
    omega
  · have h7 := h1.2.2.2.1
    exact h7
theorem changeDiffs_law : ∀ v : law39_ChangeDiffs_T.ps.V, okV law39_ChangeDiffs_T.ps v → lenV law39_ChangeDiffs_T.ps v ≤ 1048576 → law39_ChangeDiffs_T.fn v = some true := fun v ho hl => by
  obtain ⟨a, b, ⟨⟩⟩ := v
  have h1 : okV (.sl tyEnt) a ∧ okV (.sl tyEnt) b ∧ True := ho
  have h2 : lenV (.sl tyEnt) a + (lenV (.sl tyEnt) b + 0) ≤ 1048576 := hl
  have h3 : lenV (.sl tyEnt) a ≤ 1048576 := by omega
  have h4 : lenV (.sl tyEnt) b ≤ 1048576 := by omega
  exact diffs_law (ents_ok h1.1 h3) (ents_ok h1.2.1 h4)
end Go.Proofs.YtkoicblnbbncbaaGreatDoor.Q
