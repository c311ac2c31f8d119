import Derived.Test.YtnafmjbakholcaaDoorQ3
set_option linter.unusedVariables false
set_option linter.unusedSimpArgs false
set_option maxRecDepth 100000
namespace Go.Proofs.YtnafmjbakholcaaDoor.Q
open Go.EM Go.TY Go.Proofs Go.Proofs.YtnafmjbakholcaaDoor.Y
/-- A character, or the sign that there is none: how Go ranges over a text. -/
def decN (l : List UInt8) : Nat × Nat := if (charM l).2 = 0 then (65533, 1) else ((charM l).1.toNat, (charM l).2)
theorem get_at {s : List UInt8} {i : Nat} {b : UInt8} (h : s[i]? = some b) : (⟨s.toArray⟩ : ByteArray).get! i = b := by
  have : (⟨s.toArray⟩ : ByteArray).get! i = s.toArray[i]! := rfl
  rw [this]
  simp [h]
theorem cont_no {s : List UInt8} {i : Nat} (h : s.length ≤ i) : decide (i < (⟨s.toArray⟩ : ByteArray).size) = false := by
  have : (⟨s.toArray⟩ : ByteArray).size = s.length := by simp [ByteArray.size]
  rw [this]; simp; omega
theorem cont_yes {s : List UInt8} {i : Nat} (h : i < s.length) : decide (i < (⟨s.toArray⟩ : ByteArray).size) = true := by
  have : (⟨s.toArray⟩ : ByteArray).size = s.length := by simp [ByteArray.size]
  rw [this]; simp; omega
theorem drop_at {s t : List UInt8} {i k : Nat} {b : UInt8} (h : s.drop i = t) (hb : t[k]? = some b) : s[i + k]? = some b := by
  rw [← h, List.getElem?_drop] at hb; exact hb
theorem drop_len {s t : List UInt8} {i : Nat} (h : s.drop i = t) (hi : i ≤ s.length) : s.length = i + t.length := by
  rw [← h, List.length_drop]; omega
/-- What the model makes of the bytes at a place. -/
def decV (b0 : Nat) (b1 b2 b3 : Option Nat) : Nat × Nat :=
  let cont (b : Option Nat) : Bool := match b with
    | some b => b / 64 == 2
    | none => false
  if b0 < 0x80 then (b0, 1)
  else if b0 / 32 == 6 && cont b1 then
    let c := (b0 % 32) * 64 + b1.getD 0 % 64
    if c ≥ 0x80 then (c, 2) else (65533, 1)
  else if b0 / 16 == 14 && cont b1 && cont b2 then
    let c := (b0 % 16) * 4096 + (b1.getD 0 % 64) * 64 + b2.getD 0 % 64
    if c ≥ 0x800 && Utf8.valid c then (c, 3) else (65533, 1)
  else if b0 / 8 == 30 && cont b1 && cont b2 && cont b3 then
    let c := (b0 % 8) * 262144 + (b1.getD 0 % 64) * 4096 + (b2.getD 0 % 64) * 64 + b3.getD 0 % 64
    if c ≥ 0x10000 && Utf8.valid c then (c, 4) else (65533, 1)
  else (65533, 1)
theorem decode_V {s t : List UInt8} {i : Nat} {a : UInt8} (h : s.drop i = a :: t) (hi : i ≤ s.length) : Utf8.decode ⟨s.toArray⟩ i = decV a.toNat (t[0]?.map (·.toNat)) (t[1]?.map (·.toNat)) (t[2]?.map (·.toNat)) := by
  have hlen := drop_len h hi
  have g0 : (⟨s.toArray⟩ : ByteArray).get! (i + 0) = a := get_at (drop_at h rfl)
  have gk : ∀ k b, t[k]? = some b → (⟨s.toArray⟩ : ByteArray).get! (i + (k + 1)) = b := fun k b hb => get_at (drop_at h (by simpa using hb))
  have cy : ∀ k b, t[k]? = some b → decide (i + (k + 1) < (⟨s.toArray⟩ : ByteArray).size) = true := fun k b hb => cont_yes (by
    rcases Nat.lt_or_ge k t.length with h' | h'
    · simp only [List.length_cons] at hlen; omega
    · rw [List.getElem?_eq_none h'] at hb; cases hb)
  have cn : ∀ k, t[k]? = none → decide (i + (k + 1) < (⟨s.toArray⟩ : ByteArray).size) = false := fun k hb => cont_no (by
    rw [List.getElem?_eq_none_iff] at hb
    simp only [List.length_cons] at hlen; omega)
  unfold Utf8.decode decV
  simp only [g0]
  have e : Utf8.runeError = 65533 := rfl
  cases h1 : t[0]? with
  | none =>
    have c1 := cn 0 h1
    have h2 : t[1]? = none := by rw [List.getElem?_eq_none_iff] at h1 ⊢; omega
    have h3 : t[2]? = none := by rw [List.getElem?_eq_none_iff] at h1 ⊢; omega
    simp only [Nat.zero_add] at c1
    simp [c1, h2, h3, e]
  | some b =>
    have c1 := cy 0 b h1
    have d1 := gk 0 b h1
    simp only [Nat.zero_add] at c1 d1
    cases h2 : t[1]? with
    | none =>
      have c2 := cn 1 h2
      have h3 : t[2]? = none := by rw [List.getElem?_eq_none_iff] at h2 ⊢; omega
      simp only [Nat.reduceAdd] at c2
      simp [c1, c2, d1, h3, e]
    | some c =>
      have c2 := cy 1 c h2
      have d2 := gk 1 c h2
      simp only [Nat.reduceAdd] at c2 d2
      cases h3 : t[2]? with
      | none =>
        have c3 := cn 2 h3
        simp only [Nat.reduceAdd] at c3
        simp [c1, c2, c3, d1, d2, e]
      | some d =>
        have c3 := cy 2 d h3
        have d3 := gk 2 d h3
        simp only [Nat.reduceAdd] at c3 d3
        simp [c1, c2, c3, d1, d2, d3, e]
theorem div64 {b : Nat} : (b / 64 == 2) = decide (128 ≤ b ∧ b ≤ 191) := by
  rw [Bool.eq_iff_iff]; simp; omega
theorem decV_N (a : UInt8) (t : List UInt8) : decV a.toNat (t[0]?.map (·.toNat)) (t[1]?.map (·.toNat)) (t[2]?.map (·.toNat)) = decN (a :: t) := by
  have ha := a.toNat_lt
  unfold decV decN
  by_cases c1 : a.toNat < 128
  · simp [charM, c1]
  have c1' : ¬ a.toNat < 0x80 := c1
  simp only [if_neg c1']
  by_cases c2 : a.toNat / 32 = 6
  · have e2 : (a.toNat / 32 == 6) = true := by simp [c2]
    match t with
    | [] =>
      have e3 : ¬ a.toNat / 16 = 14 := by omega
      have e4 : ¬ a.toNat / 8 = 30 := by omega
      have d3 : ¬ (224 ≤ a.toNat ∧ a.toNat < 240) := by omega
      have d4 : ¬ (240 ≤ a.toNat ∧ a.toNat < 245) := by omega
      simp [charM, c1, e3, e4, d3, d4]
    | b :: t =>
      have hb := b.toNat_lt
      have e3 : ¬ a.toNat / 16 = 14 := by omega
      have e4 : ¬ a.toNat / 8 = 30 := by omega
      have d3 : ¬ (224 ≤ a.toNat ∧ a.toNat < 240) := by omega
      have d4 : ¬ (240 ≤ a.toNat ∧ a.toNat < 245) := by omega
      simp only [List.getElem?_cons_zero, Option.map_some, e2, div64, Bool.true_and, Option.getD_some]
      by_cases hb' : 128 ≤ b.toNat ∧ b.toNat ≤ 191
      · rw [if_pos (by simpa using hb')]
        by_cases c3 : 194 ≤ a.toNat
        · rw [if_pos (by omega)]
          have q : 194 ≤ a.toNat ∧ a.toNat < 224 := by omega
          simp only [charM, if_neg c1, if_pos q, if_pos hb']
          rw [if_neg (by omega)]
          congr 1
          omega
        · rw [if_neg (by omega)]
          have q : ¬ (194 ≤ a.toNat ∧ a.toNat < 224) := by omega
          simp [charM, c1, q, d3, d4]
      · rw [if_neg (by simpa using hb')]
        have x3 : (a.toNat / 16 == 14) = false := by simp [e3]
        have x4 : (a.toNat / 8 == 30) = false := by simp [e4]
        simp only [x3, x4, Bool.false_and, Bool.false_eq_true, if_false]
        by_cases c3 : 194 ≤ a.toNat ∧ a.toNat < 224
        · simp [charM, c1, c3, hb']
        · simp [charM, c1, c3, d3, d4]
  have e2 : (a.toNat / 32 == 6) = false := by simp [c2]
  simp only [e2, Bool.false_and, Bool.false_eq_true, if_false]
  have d2 : ¬ (194 ≤ a.toNat ∧ a.toNat < 224) := by omega
  by_cases c3 : a.toNat / 16 = 14
  · have e3 : (a.toNat / 16 == 14) = true := by simp [c3]
    have d3 : (224 ≤ a.toNat ∧ a.toNat < 240) := by omega
    have x4 : (a.toNat / 8 == 30) = false := by simp; omega
    simp only [e3, x4, Bool.true_and, Bool.false_and, Bool.false_eq_true, if_false]
    match t with
    | [] => simp [charM, c1, d2, d3]
    | [b] => simp [charM, c1, d2, d3]
    | b :: c :: t =>
      have hb := b.toNat_lt
      have hc := c.toNat_lt
      simp only [List.getElem?_cons_zero, List.getElem?_cons_succ, Option.map_some, div64, Option.getD_some]
      by_cases hb' : (128 ≤ b.toNat ∧ b.toNat ≤ 191) ∧ (128 ≤ c.toNat ∧ c.toNat ≤ 191)
      · rw [if_pos (by simp only [Bool.and_eq_true, decide_eq_true_eq]; exact hb')]
        simp only [charM, if_neg c1, if_neg d2, if_pos d3, if_pos hb']
        by_cases hr : 64 * (64 * ((a.toNat : Int) - 224) + b.toNat - 128) + c.toNat - 128 < 2048 ∨ (55296 ≤ 64 * (64 * ((a.toNat : Int) - 224) + b.toNat - 128) + c.toNat - 128 ∧ 64 * (64 * ((a.toNat : Int) - 224) + b.toNat - 128) + c.toNat - 128 ≤ 57343)
        · rw [if_pos hr, if_neg (by
            simp only [Utf8.valid, Bool.and_eq_true, Bool.or_eq_true, decide_eq_true_eq]; omega)]
          rfl
        · rw [if_neg hr, if_pos (by
            simp only [Utf8.valid, Bool.and_eq_true, Bool.or_eq_true, decide_eq_true_eq]; omega), if_neg (by simp)]
          congr 1
          omega
      · rw [if_neg (by simp only [Bool.and_eq_true, decide_eq_true_eq]; exact hb')]
        simp only [charM, if_neg c1, if_neg d2, if_pos d3, if_neg hb']
        rfl
  have e3 : (a.toNat / 16 == 14) = false := by simp [c3]
  have d3 : ¬ (224 ≤ a.toNat ∧ a.toNat < 240) := by omega
  simp only [e3, Bool.false_and, Bool.false_eq_true, if_false]
  by_cases c4 : a.toNat / 8 = 30
  · have e4 : (a.toNat / 8 == 30) = true := by simp [c4]
    simp only [e4, Bool.true_and]
    match t with
    | [] => simp [charM, c1, d2, d3]
    | [b] => simp [charM, c1, d2, d3]
    | [b, c] => simp [charM, c1, d2, d3]
    | b :: c :: d :: t =>
      have hb := b.toNat_lt
      have hc := c.toNat_lt
      have hd := d.toNat_lt
      simp only [List.getElem?_cons_zero, List.getElem?_cons_succ, Option.map_some, div64, Option.getD_some]
      by_cases hb' : (128 ≤ b.toNat ∧ b.toNat ≤ 191) ∧ (128 ≤ c.toNat ∧ c.toNat ≤ 191) ∧ (128 ≤ d.toNat ∧ d.toNat ≤ 191)
      · rw [if_pos (by simp only [Bool.and_eq_true, decide_eq_true_eq]; exact ⟨⟨hb'.1, hb'.2.1⟩, hb'.2.2⟩)]
        by_cases d4 : (240 ≤ a.toNat ∧ a.toNat < 245)
        · simp only [charM, if_neg c1, if_neg d2, if_neg d3, if_pos d4, if_pos hb']
          by_cases hr : 64 * (64 * (64 * ((a.toNat : Int) - 240) + b.toNat - 128) + c.toNat - 128) + d.toNat - 128 < 65536 ∨ 1114111 < 64 * (64 * (64 * ((a.toNat : Int) - 240) + b.toNat - 128) + c.toNat - 128) + d.toNat - 128
          · rw [if_pos hr, if_neg (by
              simp only [Utf8.valid, Bool.and_eq_true, Bool.or_eq_true, decide_eq_true_eq]; omega)]
            rfl
          · rw [if_neg hr, if_pos (by
              simp only [Utf8.valid, Bool.and_eq_true, Bool.or_eq_true, decide_eq_true_eq]; omega), if_neg (by simp)]
            congr 1
            omega
        · rw [if_neg (by
            simp only [Utf8.valid, Bool.and_eq_true, Bool.or_eq_true, decide_eq_true_eq]; omega)]
          simp only [charM, if_neg c1, if_neg d2, if_neg d3, if_neg d4]
          rfl
      · rw [if_neg (by simp only [Bool.and_eq_true, decide_eq_true_eq]; exact fun e => hb' ⟨e.1.1, e.1.2, e.2⟩)]
        by_cases d4 : (240 ≤ a.toNat ∧ a.toNat < 245)
        · simp only [charM, if_neg c1, if_neg d2, if_neg d3, if_pos d4, if_neg hb']
          rfl
        · simp only [charM, if_neg c1, if_neg d2, if_neg d3, if_neg d4]
          rfl
  · have e4 : (a.toNat / 8 == 30) = false := by simp [c4]
    have d4 : ¬ (240 ≤ a.toNat ∧ a.toNat < 245) := by omega
    simp [e4, charM, c1, d2, d3, d4]
/-- How Go ranges over a text: character by character. -/
theorem decode_N {s : List UInt8} {i : Nat} (hi : i < s.length) : Utf8.decode ⟨s.toArray⟩ i = decN (s.drop i) := by
  cases h : s.drop i with
  | nil => have := congrArg List.length h; simp at this; omega
  | cons a t => rw [decode_V h (by omega), decV_N]
end Go.Proofs.YtnafmjbakholcaaDoor.Q
