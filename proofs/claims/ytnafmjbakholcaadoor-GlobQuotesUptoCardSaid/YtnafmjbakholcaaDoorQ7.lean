import Derived.Test.YtnafmjbakholcaaDoorQ3
set_option linter.unusedVariables false
set_option linter.unusedSimpArgs false
set_option maxRecDepth 100000
namespace Go.Proofs.YtnafmjbakholcaaDoor.Q
open Go.EM Go.TY Go.Proofs Go.Proofs.YtnafmjbakholcaaDoor.Y
/-- A character, or the sign that there is none: how Go ranges over a text. -/
def decN (l : List UInt8) : Nat × Nat := if (charM l).2 = 0 then (65533, 1) else ((charM l).1.toNat, (charM l).2)
theorem get_at {s : List UInt8} {i : Nat} {b : UInt8} (h : s[i]? = some b) : (⟨s.toArray⟩ : ByteArray).get! i = b := by
  have : (⟨s.toArray⟩ : ByteArray).get! i = s.toArray[i]! := rfl
  rw [this]
  simp [h]
theorem cont_no {s : List UInt8} {i : Nat} (h : s.length ≤ i) : decide (i < (⟨s.toArray⟩ : ByteArray).size) = false := by
  have : (⟨s.toArray⟩ : ByteArray).size = s.length := by simp [ByteArray.size]
  rw [this]; simp; omega
theorem cont_yes {s : List UInt8} {i : Nat} (h : i < s.length) : decide (i < (⟨s.toArray⟩ : ByteArray).size) = true := by
  have : (⟨s.toArray⟩ : ByteArray).size = s.length := by simp [ByteArray.size]
  rw [this]; simp; omega
theorem drop_at {s t : List UInt8} {i k : Nat} {b : UInt8} (h : s.drop i = t) (hb : t[k]? = some b) : s[i + k]? = some b := by
  rw [← h, List.getElem?_drop] at hb; exact hb
theorem drop_len {s t : List UInt8} {i : Nat} (h : s.drop i = t) (hi : i ≤ s.length) : s.length = i + t.length := by
  rw [← h, List.length_drop]; omega
/-- What the model makes of the bytes at a place. -/
def decV (b0 : Nat) (b1 b2 b3 : Option Nat) : Nat × Nat :=
  let cont (b : Option Nat) : Bool := match b with
    | some b => b / 64 == 2
    | none => false
  if b0 < 0x80 then (b0, 1)
  else if b0 / 32 == 6 && cont b1 then
    let c := (b0 % 32) * 64 + b1.getD 0 % 64
    if c ≥ 0x80 then (c, 2) else (65533, 1)
  else if b0 / 16 == 14 && cont b1 && cont b2 then
    let c := (b0 % 16) * 4096 + (b1.getD 0 % 64) * 64 + b2.getD 0 % 64
    if c ≥ 0x800 && Utf8.valid c then (c, 3) else (65533, 1)
  else if b0 / 8 == 30 && cont b1 && cont b2 && cont b3 then
    let c := (b0 % 8) * 262144 + (b1.getD 0 % 64) * 4096 + (b2.getD 0 % 64) * 64 + b3.getD 0 % 64
    if c ≥ 0x10000 && Utf8.valid c then (c, 4) else (65533, 1)
  else (65533, 1)
theorem decode_V {s t : List UInt8} {i : Nat} {a : UInt8} (h : s.drop i = a :: t) (hi : i ≤ s.length) : Utf8.decode ⟨s.toArray⟩ i = decV a.toNat (t[0]?.map (·.toNat)) (t[1]?.map (·.toNat)) (t[2]?.map (·.toNat)) := by
  have hlen := drop_len h hi
  have g0 : (⟨s.toArray⟩ : ByteArray).get! (i + 0) = a := get_at (drop_at h rfl)
  have gk : ∀ k b, t[k]? = some b → (⟨s.toArray⟩ : ByteArray).get! (i + (k + 1)) = b := fun k b hb => get_at (drop_at h (by simpa using hb))
  have cy : ∀ k b, t[k]? = some b → decide (i + (k + 1) < (⟨s.toArray⟩ : ByteArray).size) = true := fun k b hb => cont_yes (by
    rcases Nat.lt_or_ge k t.length with h' | h'
    · simp only [List.length_cons] at hlen; omega
    · rw [List.getElem?_eq_none h'] at hb; cases hb)
  have cn : ∀ k, t[k]? = none → decide (i + (k + 1) < (⟨s.toArray⟩ : ByteArray).size) = false := fun k hb => cont_no (by
    rw [List.getElem?_eq_none_iff] at hb
    simp only [List.length_cons] at hlen; omega)
  unfold Utf8.decode decV
  simp only [g0]
  have e : Utf8.runeError = 65533 := rfl
  cases h1 : t[0]? with
  | none =>
    have c1 := cn 0 h1
    have h2 : t[1]? = none := by rw [List.getElem?_eq_none_iff] at h1 ⊢; omega
    have h3 : t[2]? = none := by rw [List.getElem?_eq_none_iff] at h1 ⊢; omega
    simp only [Nat.zero_add] at c1
    simp [c1, h2, h3, e]
  | some b =>
    have c1 := cy 0 b h1
    have d1 := gk 0 b h1
    simp only [Nat.zero_add] at c1 d1
    cases h2 : t[1]? with
    | none =>
      have c2 := cn 1 h2
      have h3 : t[2]? = none := by rw [List.getElem?_eq_none_iff] at h2 ⊢; omega
      simp only [Nat.reduceAdd] at c2
      simp [c1, c2, d1, h3, e]
    | some c =>
      have c2 := cy 1 c h2
      have d2 := gk 1 c h2
      simp only [Nat.reduceAdd] at c2 d2
      cases h3 : t[2]? with
      | none =>
        have c3 := cn 2 h3
        simp only [Nat.reduceAdd] at c3
        simp [c1, c2, c3, d1, d2, e]
      | some d =>
        have c3 := cy 2 d h3
        have d3 := gk 2 d h3
        simp only [Nat.reduceAdd] at c3 d3
        simp [c1, c2, c3, d1, d2, d3, e]
theorem div64 {b : Nat} : (b / 64 == 2) = decide (128 ≤ b ∧ b ≤ 191) := by
  rw [Bool.eq_iff_iff]; simp; omega
theorem decV_N (a : UInt8) (t : List UInt8) : decV a.toNat (t[0]?.map (·.toNat)) (t[1]?.map (·.toNat)) (t[2]?.map (·.toNat)) = decN (a :: t) := by
  have ha := a.toNat_lt
  unfold decV decN
  by_cases c1 : a.toNat < 128
  · simp [charM, c1]
  have c1' : ¬ a.toNat < 0x80 := c1
  simp only [if_neg c1']
  by_cases c2 : a.toNat / 32 = 6
  · have e2 : (a.toNat / 32 == 6) = true := by simp [c2]
    match t with
    | [] =>
      have e3 : ¬ a.toNat / 16 = 14 := by omega
      have e4 : ¬ a.toNat / 8 = 30 := by omega
      have d3 : ¬ (224 ≤ a.toNat ∧ a.toNat < 240) := by omega
      have d4 : ¬ (240 ≤ a.toNat ∧ a.toNat < 245) := by omega
      simp [charM, c1, e3, e4, d3, d4]
    | b :: t =>
      have hb := b.toNat_lt
      have e3 : ¬ a.toNat / 16 = 14 := by omega
      have e4 : ¬ a.toNat / 8 = 30 := by omega
      have d3 : ¬ (224 ≤ a.toNat ∧ a.toNat < 240) := by omega
      have d4 : ¬ (240 ≤ a.toNat ∧ a.toNat < 245) := by omega
      simp only [List.getElem?_cons_zero, Option.map_some, e2, div64, Bool.true_and, Option.getD_some]
      by_cases hb' : 128 ≤ b.toNat ∧ b.toNat ≤ 191
      · rw [if_pos (by simpa using hb')]
        by_cases c3 : 194 ≤ a.toNat
        · rw [if_pos (by omega)]
          have q : 194 ≤ a.toNat ∧ a.toNat < 224 := by omega
          simp only [charM, if_neg c1, if_pos q, if_pos hb']
          rw [if_neg (by omega)]
          congr 1
          omega
        · rw [if_neg (by omega)]
          have q : ¬ (194 ≤ a.toNat ∧ a.toNat < 224) := by omega
          simp [charM, c1, q, d3, d4]
      · rw [if_neg (by simpa using hb')]
        have x3 : (a.toNat / 16 == 14) = false := by simp [e3]
        have x4 : (a.toNat / 8 == 30) = false := by simp [e4]
        simp only [x3, x4, Bool.false_and, Bool.false_eq_true, if_false]
        by_cases c3 : 194 ≤ a.toNat ∧ a.toNat < 224
        · simp [charM, c1, c3, hb']
        · simp [charM, c1, c3, d3, d4]
  have e2 : (a.toNat / 32 == 6) = false := by simp [c2]
  simp only [e2, Bool.false_and, Bool.false_eq_true, if_false]
  have d2 : ¬ (194 ≤ a.toNat ∧ a.toNat < 224) := by omega
  by_cases c3 : a.toNat / 16 = 14
  · have e3 : (a.toNat / 16 == 14) = true := by simp [c3]
    have d3 : (224 ≤ a.toNat ∧ a.toNat < 240) := by omega
    have x4 : (a.toNat / 8 == 30) = false := by simp; omega
    simp only [e3, x4, Bool.true_and, Bool.false_and, Bool.false_eq_true, if_false]
    match t with
    | [] => simp [charM, c1, d2, d3]
    | [b] => simp [charM, c1, d2, d3]
    | b :: c :: t =>
      have hb := b.toNat_lt
      have hc := c.toNat_lt
      simp only [List.getElem?_cons_zero, List.getElem?_cons_succ, Option.map_some, div64, Option.getD_some]
      by_cases hb' : (128 ≤ b.toNat ∧ b.toNat ≤ 191) ∧ (128 ≤ c.toNat ∧ c.toNat ≤ 191)
      · rw [if_pos (by simp only [Bool.and_eq_true, decide_eq_true_eq]; exact hb')]
        simp only [charM, if_neg c1, if_neg d2, if_pos d3, if_pos hb']
        by_cases hr : 64 * (64 * ((a.toNat : Int) - 224) + b.toNat - 128) + c.toNat - 128 < 2048 ∨ (55296 ≤ 64 * (64 * ((a.toNat : Int) - 224) + b.toNat - 128) + c.toNat - 128 ∧ 64 * (64 * ((a.toNat : Int) - 224) + b.toNat - 128) + c.toNat - 128 ≤ 57343)
        · rw [if_pos hr, if_neg (by
            simp only [Utf8.valid, Bool.and_eq_true, Bool.or_eq_true, decide_eq_true_eq]; omega)]
          rfl
        · rw [if_neg hr, if_pos (by
            simp only [Utf8.valid, Bool.and_eq_true, Bool.or_eq_true, decide_eq_true_eq]; omega), if_neg (by simp)]
          congr 1
          omega
      · rw [if_neg (by simp only [Bool.and_eq_true, decide_eq_true_eq]; exact hb')]
        simp only [charM, if_neg c1, if_neg d2, if_pos d3, if_neg hb']
        rfl
  have e3 : (a.toNat / 16 == 14) = false := by simp [c3]
  have d3 : ¬ (224 ≤ a.toNat ∧ a.toNat < 240) := by omega
  simp only [e3, Bool.false_and, Bool.false_eq_true, if_false]
  by_cases c4 : a.toNat / 8 = 30
  · have e4 : (a.toNat / 8 == 30) = true := by simp [c4]
    simp only [e4, Bool.true_and]
    match t with
    | [] => simp [charM, c1, d2, d3]
    | [b] => simp [charM, c1, d2, d3]
    | [b, c] => simp [charM, c1, d2, d3]
    | b :: c :: d :: t =>
      have hb := b.toNat_lt
      have hc := c.toNat_lt
      have hd := d.toNat_lt
      simp only [List.getElem?_cons_zero, List.getElem?_cons_succ, Option.map_some, div64, Option.getD_some]
      by_cases hb' : (128 ≤ b.toNat ∧ b.toNat ≤ 191) ∧ (128 ≤ c.toNat ∧ c.toNat ≤ 191) ∧ (128 ≤ d.toNat ∧ d.toNat ≤ 191)
      · rw [if_pos (by simp only [Bool.and_eq_true, decide_eq_true_eq]; exact ⟨⟨hb'.1, hb'.2.1⟩, hb'.2.2⟩)]
        by_cases d4 : (240 ≤ a.toNat ∧ a.toNat < 245)
        · simp only [charM, if_neg c1, if_neg d2, if_neg d3, if_pos d4, if_pos hb']
          by_cases hr : 64 * (64 * (64 * ((a.toNat : Int) - 240) + b.toNat - 128) + c.toNat - 128) + d.toNat - 128 < 65536 ∨ 1114111 < 64 * (64 * (64 * ((a.toNat : Int) - 240) + b.toNat - 128) + c.toNat - 128) + d.toNat - 128
          · rw [if_pos hr, if_neg (by
              simp only [Utf8.valid, Bool.and_eq_true, Bool.or_eq_true, decide_eq_true_eq]; omega)]
            rfl
          · rw [if_neg hr, if_pos (by
              simp only [Utf8.valid, Bool.and_eq_true, Bool.or_eq_true, decide_eq_true_eq]; omega), if_neg (by simp)]
            congr 1
            omega
        · rw [if_neg (by
            simp only [Utf8.valid, Bool.and_eq_true, Bool.or_eq_true, decide_eq_true_eq]; omega)]
          simp only [charM, if_neg c1, if_neg d2, if_neg d3, if_neg d4]
          rfl
      · rw [if_neg (by simp only [Bool.and_eq_true, decide_eq_true_eq]; exact fun e => hb' ⟨e.1.1, e.1.2, e.2⟩)]
        by_cases d4 : (240 ≤ a.toNat ∧ a.toNat < 245)
        · simp only [charM, if_neg c1, if_neg d2, if_neg d3, if_pos d4, if_neg hb']
          rfl
        · simp only [charM, if_neg c1, if_neg d2, if_neg d3, if_neg d4]
          rfl
  · have e4 : (a.toNat / 8 == 30) = false := by simp [c4]
    have d4 : ¬ (240 ≤ a.toNat ∧ a.toNat < 245) := by omega
    simp [e4, charM, c1, d2, d3, d4]
/-- How Go ranges over a text: character by character. -/
theorem decode_N {s : List UInt8} {i : Nat} (hi : i < s.length) : Utf8.decode ⟨s.toArray⟩ i = decN (s.drop i) := by
  cases h : s.drop i with
  | nil => have := congrArg List.length h; simp at this; omega
  | cons a t => rw [decode_V h (by omega), decV_N]
end Go.Proofs.YtnafmjbakholcaaDoor.Q

set_option linter.unusedVariables false
set_option linter.unusedSimpArgs false
set_option maxRecDepth 100000
namespace Go.Proofs.YtnafmjbakholcaaDoor.Q
open Go.EM Go.TY Go.Proofs Go.Proofs.YtnafmjbakholcaaDoor.Y
/-- What is read ahead behind an ASCII byte. -/
noncomputable def ahead1 (s2 : List UInt8) : Option ((List UInt8 × Int × Unit) ⊕ ((List UInt8 × Unit) ⊕ Bool)) :=
 cond (decide ((s2.length : Int) > 8)) ((utf8_word_string s2).bind fun r3 =>
 cond (decide ((IntKind.wrap .u64 ((BitVec.ofInt (IntKind.bits .u64) r3 &&& BitVec.ofInt (IntKind.bits .u64) 9259542123273814144).toNat)) = 0)) (
(subI s2 8 (s2.length : Int)).bind fun s4 =>
 cond (decide ((s4.length : Int) > 16)) ((utf8_word_string s4).bind fun r5 =>
(subI s4 8 (s4.length : Int)).bind fun s6 =>
(utf8_word_string s6).bind fun r7 =>
 cond (decide ((IntKind.wrap .u64 ((BitVec.ofInt (IntKind.bits .u64) (IntKind.wrap .u64 ((BitVec.ofInt (IntKind.bits .u64) r5 ||| BitVec.ofInt (IntKind.bits .u64) r7).toNat)) &&& BitVec.ofInt (IntKind.bits .u64) 9259542123273814144).toNat)) = 0)) (
(subI s4 16 (s4.length : Int)).bind fun s8 =>
 loopT (utf8_ValidString_l9) (s8, ())) (
 some (.inr (.inl (s4, ()))))) (some (.inr (.inl (s4, ()))))) (
 some (.inr (.inl (s2, ()))))) (some (.inr (.inl (s2, ()))))
theorem ahead_b (s4 : List UInt8) : ∃ s', s'.length ≤ s4.length ∧ validM s4 = validM s' ∧
    (cond (decide ((s4.length : Int) > 16)) ((utf8_word_string s4).bind fun r5 =>
(subI s4 8 (s4.length : Int)).bind fun s6 =>
(utf8_word_string s6).bind fun r7 =>
 cond (decide ((IntKind.wrap .u64 ((BitVec.ofInt (IntKind.bits .u64) (IntKind.wrap .u64 ((BitVec.ofInt (IntKind.bits .u64) r5 ||| BitVec.ofInt (IntKind.bits .u64) r7).toNat)) &&& BitVec.ofInt (IntKind.bits .u64) 9259542123273814144).toNat)) = 0)) (
(subI s4 16 (s4.length : Int)).bind fun s8 =>
 loopT (utf8_ValidString_l9) (s8, ())) (
 some (.inr (.inl (s4, ()))))) (some (.inr (.inl (s4, ())))) : Option ((List UInt8 × Int × Unit) ⊕ ((List UInt8 × Unit) ⊕ Bool))) = some (.inr (.inl (s', ()))) := by
  by_cases h : 16 < s4.length
  · obtain ⟨W1, a1, b1, c1⟩ := word_p (s := s4) (by omega)
    obtain ⟨W2, a2, b2, c2⟩ := word_p (s := s4.drop 8) (by simp; omega)
    rw [cond_dec, if_pos (by omega), b1, Option.bind_some, sub_from (i := 8) 8 rfl (show 8 ≤ s4.length by omega), Option.bind_some, b2, Option.bind_some, cond_dec, or64 a1 a2, maskM_int, and64 (orlt a1 a2) maskM_lt]
    by_cases hz : (W1 ||| W2) &&& maskM = 0
    · rw [if_pos (by rw [hz]; rfl), sub_from (i := 16) 16 rfl (show 16 ≤ s4.length by omega), Option.bind_some]
      obtain ⟨s', h1, h2, h3⟩ := loop9 (s4.drop 16).length (s4.drop 16) (Nat.le_refl _)
      obtain ⟨y1, y2⟩ := or_zero hz
      have t2 := take_more (c1 y1) (c2 y2)
      refine ⟨s', by simp only [List.length_drop] at h1; omega, (valid_ascii 16 s4 (by omega) t2).trans h2, h3⟩
    · rw [if_neg (fun e => hz (by exact_mod_cast e))]
      exact ⟨s4, Nat.le_refl _, rfl, rfl⟩
  · rw [cond_dec, if_neg (by omega)]
    exact ⟨s4, Nat.le_refl _, rfl, rfl⟩
theorem ahead_p (s2 : List UInt8) : ∃ s', s'.length ≤ s2.length ∧ validM s2 = validM s' ∧ ahead1 s2 = some (.inr (.inl (s', ()))) := by
  unfold ahead1
  by_cases h : 8 < s2.length
  · obtain ⟨W1, a1, b1, c1⟩ := word_p (s := s2) (by omega)
    rw [cond_dec, if_pos (by omega), b1, Option.bind_some, cond_dec, maskM_int, and64 a1 maskM_lt]
    by_cases hz : W1 &&& maskM = 0
    · rw [if_pos (by rw [hz]; rfl), sub_from (i := 8) 8 rfl (show 8 ≤ s2.length by omega), Option.bind_some]
      obtain ⟨s', h1, h2, h3⟩ := ahead_b (s2.drop 8)
      refine ⟨s', by simp only [List.length_drop] at h1; omega, (valid_ascii 8 s2 (by omega) (c1 hz)).trans h2, h3⟩
    · rw [if_neg (fun e => hz (by exact_mod_cast e))]
      exact ⟨s2, Nat.le_refl _, rfl, rfl⟩
  · rw [cond_dec, if_neg (by omega)]
    exact ⟨s2, Nat.le_refl _, rfl, rfl⟩
theorem turn1_form {a : UInt8} {t : List UInt8} (ha : a.toNat < 128) : ∃ F, utf8_ValidString_l1 (a :: t, ()) = (ahead1 t).bind (joinS F) := by
  have hl : ((a :: t).length : Int) > 0 := by simp only [List.length_cons]; omega
  have hi0 : atI (a :: t) 0 = some a := by simp [atI]
  have h128 : (a.toNat : Int) < 128 := by omega
  have hs : subI (a :: t) 1 ((a :: t).length : Int) = some t := sub_from (i := 1) 1 rfl (by simp)
  refine ⟨?F, ?h⟩
  case h =>
    unfold utf8_ValidString_l1
    rw [cond_dec, if_pos hl, hi0, Option.bind_some, cond_dec, if_pos h128, hs, Option.bind_some]
    exact rfl
theorem valid_t : ∀ (k : Nat) (s : List UInt8), s.length ≤ k → loopT utf8_ValidString_l1 (s, ()) = some (validM s) := by
  intro k
  induction k with
  | zero =>
    intro s hk
    have : s = [] := List.eq_nil_of_length_eq_zero (by omega)
    subst this
    rw [valid_nil]
    refine loopT_inr ?_
    unfold utf8_ValidString_l1
    rw [cond_dec, if_neg (by simp)]
  | succ k ih =>
    intro s hk
    cases s with
    | nil =>
      rw [valid_nil]
      refine loopT_inr ?_
      unfold utf8_ValidString_l1
      rw [cond_dec, if_neg (by simp)]
    | cons a t =>
      simp only [List.length_cons] at hk
      by_cases ha : a.toNat < 128
      · obtain ⟨F, hF⟩ := turn1_form (t := t) ha
        obtain ⟨s', h1, h2, h3⟩ := ahead_p t
        rw [h3] at hF
        have hv : validM (a :: t) = validM t := by
          have := valid_ascii 1 (a :: t) (by simp) (by simp; exact ha)
          simpa using this
        rw [loopT_inl (b := (s', ())) hF, ih s' (by omega), hv, h2]
      · have h := turn1_hi (a := a) (t := t) (by omega)
        rw [valid_step (by simp)]
        by_cases h0 : (charM (a :: t)).2 = 0
        · rw [if_pos h0] at h ⊢
          exact loopT_inr h
        · rw [if_neg h0] at h ⊢
          rw [loopT_inl h]
          exact ih _ (by simp only [List.length_drop, List.length_cons]; omega)
theorem validString_t (s : List UInt8) : utf8_ValidString s = some (validM s) := valid_t s.length s (Nat.le_refl _)

/-! ### how many characters -/
theorem count_loop {s : List UInt8} : ∀ (k i n : Nat) (l : List Int), s.length - i ≤ k → i ≤ s.length → n ≤ i → s.length < 4294967296 → runesM (s.drop i) = some l → loopT (utf8_RuneCountInString_l2 s) ((n : Int), i, ()) = some (((n + l.length : Nat)) : Int) := by
  intro k
  induction k with
  | zero =>
    intro i n l hk hi hn hs hl
    rw [List.drop_eq_nil_of_le (by omega), runesM_nil] at hl
    cases hl
    refine loopT_inr ?_
    unfold utf8_RuneCountInString_l2
    rw [cond_dec, if_neg (by simp only []; omega)]
    simp
  | succ k ih =>
    intro i n l hk hi hn hs hl
    by_cases hlt : i < s.length
    · have hne : s.drop i ≠ [] := fun e => by have := congrArg List.length e; simp at this; omega
      have hle := charM_le (s.drop i)
      simp only [List.length_drop] at hle
      by_cases h0 : (charM (s.drop i)).2 = 0
      · rw [runesM_none hne h0] at hl; cases hl
      · rw [runesM_step hne h0, List.drop_drop, Option.map_eq_some_iff] at hl
        obtain ⟨l', hl', rfl⟩ := hl
        rw [loopT_inl (b := (((n + 1 : Nat) : Int), i + (charM (s.drop i)).2, ()))]
        · rw [ih _ (n + 1) l' (by omega) (by omega) (by omega) hs hl']
          simp only [List.length_cons]; congr 2; omega
        · unfold utf8_RuneCountInString_l2
          rw [cond_dec, if_pos (by simp only []; exact hlt), decode_N hlt]
          simp only [decN, if_neg h0]
          rw [wrap64 (by omega) (by omega)]; rfl
    · rw [List.drop_eq_nil_of_le (by omega), runesM_nil] at hl
      cases hl
      refine loopT_inr ?_
      unfold utf8_RuneCountInString_l2
      rw [cond_dec, if_neg (by simp only []; omega)]
      simp
theorem count_t {s : List UInt8} {l : List Int} (hs : s.length < 4294967296) (hl : runesM s = some l) : utf8_RuneCountInString s = some (l.length : Int) := by
  have := count_loop (s := s) s.length 0 0 l (by omega) (by omega) (by omega) hs (by simpa using hl)
  simpa [utf8_RuneCountInString] using this
end Go.Proofs.YtnafmjbakholcaaDoor.Q

set_option linter.unusedVariables false
set_option linter.unusedSimpArgs false
set_option maxRecDepth 100000
namespace Go.Proofs.YtnafmjbakholcaaDoor.Q
open Go.EM Go.TY Go.Proofs Go.Proofs.YtnafmjbakholcaaDoor.Y
/-! ### []rune(s) -/
theorem runesFrom_t {s : List UInt8} : ∀ (k i : Nat) (l : List Int), s.length - i ≤ k → i ≤ s.length → runesM (s.drop i) = some l → runesFromT s k i = l := by
  intro k
  induction k with
  | zero =>
    intro i l hk hi hl
    rw [List.drop_eq_nil_of_le (by omega), runesM_nil] at hl
    cases hl; rfl
  | succ k ih =>
    intro i l hk hi hl
    by_cases hlt : i < s.length
    · have hne : s.drop i ≠ [] := fun e => by have := congrArg List.length e; simp at this; omega
      have hle := charM_le (s.drop i)
      have hin := charM_int (s.drop i)
      simp only [List.length_drop] at hle
      by_cases h0 : (charM (s.drop i)).2 = 0
      · rw [runesM_none hne h0] at hl; cases hl
      · rw [runesM_step hne h0, List.drop_drop, Option.map_eq_some_iff] at hl
        obtain ⟨l', hl', rfl⟩ := hl
        unfold runesFromT
        rw [if_pos hlt, decode_N hlt]
        simp only [decN, if_neg h0]
        rw [ih _ l' (by omega) (by omega) hl']
        congr 1; omega
    · rw [List.drop_eq_nil_of_le (by omega), runesM_nil] at hl
      cases hl
      unfold runesFromT
      rw [if_neg hlt]
theorem runesT_t {s : List UInt8} {l : List Int} (hl : runesM s = some l) : runesT s = l := runesFrom_t s.length 0 l (by omega) (by omega) (by simpa using hl)
/-! ### the parts of a pattern: characters; -1 any one, -2 any number of any -/
def spec (c : Int) : Bool := decide (c = 42) || decide (c = 63) || decide (c = 92)
theorem special_t (c : Int) : glob_special c = some (spec c) := by
  unfold glob_special spec
  by_cases h1 : c = 42 <;> by_cases h2 : c = 63 <;> by_cases h3 : c = 92 <;> simp [h1, h2, h3]
def partsM : List Int → Option (List Int)
  | [] => some []
  | c :: t =>
    if c = 42 then (partsM t).map fun o => -2 :: o
    else if c = 63 then (partsM t).map fun o => -1 :: o
    else if c = 92 then (match t with
      | [] => none
      | d :: t' => if spec d then (partsM t').map fun o => d :: o else none)
    else (partsM t).map fun o => c :: o
def partOf (c : Int) : Int × Int × Unit := if c = -2 then (2, 0, ()) else if c = -1 then (1, 0, ()) else (0, c, ())
def pat (p : List UInt8) : Option (List Int) := (runesM p).bind fun l => if l.length > 64 then none else partsM l
theorem partsM_cons {c : Int} {t : List Int} : partsM (c :: t) = if c = 42 then (partsM t).map fun o => -2 :: o
    else if c = 63 then (partsM t).map fun o => -1 :: o
    else if c = 92 then (match t with
      | [] => none
      | d :: t' => if spec d then (partsM t').map fun o => d :: o else none)
    else (partsM t).map fun o => c :: o := by rw [partsM.eq_def]
theorem partsM_esc {d : Int} {t : List Int} : partsM (92 :: d :: t) = if spec d then (partsM t).map fun o => d :: o else none := by
  rw [partsM_cons, if_neg (by omega), if_neg (by omega), if_pos rfl]
theorem partsM_plain {c : Int} {t : List Int} (h : spec c = false) : partsM (c :: t) = (partsM t).map fun o => c :: o := by
  simp only [spec, Bool.or_eq_false_iff, decide_eq_false_iff_not] at h
  rw [partsM_cons, if_neg h.1.1, if_neg h.1.2, if_neg h.2]
theorem partsM_star {t : List Int} : partsM (42 :: t) = (partsM t).map fun o => -2 :: o := by rw [partsM_cons, if_pos rfl]
theorem partsM_any {t : List Int} : partsM (63 :: t) = (partsM t).map fun o => -1 :: o := by rw [partsM_cons, if_neg (by omega), if_pos rfl]
theorem spec_ge {c : Int} (h : spec c = true) : c = 42 ∨ c = 63 ∨ c = 92 := by
  simp only [spec, Bool.or_eq_true, decide_eq_true_eq] at h; omega
def partsE (esc : Bool) (l : List Int) : Option (List Int) := if esc then partsM (92 :: l) else partsM l
def partsR (out : List (Int × Int × Unit)) : Option (List Int) → List (Int × Int × Unit) × Bool × Unit
  | some o => (out ++ o.map partOf, true, ())
  | none => ([], false, ())
theorem partsR_map {out : List (Int × Int × Unit)} {c : Int} {x : Option (List Int)} : partsR out (x.map fun o => c :: o) = partsR (out ++ [partOf c]) x := by
  cases x <;> simp [partsR]
theorem parts_loop {s : List UInt8} (hs : s.length < 4294967296) : ∀ (k i : Nat) (esc : Bool) (out : List (Int × Int × Unit)) (l : List Int), s.length - i ≤ k → i ≤ s.length → out.length ≤ i → runesM (s.drop i) = some l →
    (loopT (glob_parts_l6 s) (esc, i, out, ())).bind (joinS fun v10 =>
      cond v10.1 (some ([], false, ())) (some (v10.2.1, true, ()))) = some (partsR out (partsE esc l)) := by
  intro k
  have fin : ∀ (i : Nat) (esc : Bool) (out : List (Int × Int × Unit)) (l : List Int), ¬ i < s.length → runesM (s.drop i) = some l → (loopT (glob_parts_l6 s) (esc, i, out, ())).bind (joinS fun v10 =>
      cond v10.1 (some ([], false, ())) (some (v10.2.1, true, ()))) = some (partsR out (partsE esc l)) := by
    intro i esc out l hi hl
    rw [List.drop_eq_nil_of_le (by omega), runesM_nil] at hl
    cases hl
    rw [loopT_inr (x := .inl (esc, out, ())) (by unfold glob_parts_l6; rw [cond_dec, if_neg hi])]
    cases esc <;> simp [partsE, partsM, partsR]
  induction k with
  | zero => intro i esc out l hk hi ho hl; exact fin i esc out l (by omega) hl
  | succ k ih =>
    intro i esc out l hk hi ho hl
    by_cases hlt : i < s.length
    · have hne : s.drop i ≠ [] := fun e => by have := congrArg List.length e; simp at this; omega
      have hle := charM_le (s.drop i)
      have hin := charM_int (s.drop i)
      simp only [List.length_drop] at hle
      by_cases h0 : (charM (s.drop i)).2 = 0
      · rw [runesM_none hne h0] at hl; cases hl
      · rw [runesM_step hne h0, List.drop_drop, Option.map_eq_some_iff] at hl
        obtain ⟨l', hl', rfl⟩ := hl
        have hd := decode_N hlt
        simp only [decN, if_neg h0] at hd
        have hc : (((charM (s.drop i)).1.toNat : Nat) : Int) = (charM (s.drop i)).1 := by omega
        generalize hcc : (charM (s.drop i)).1 = c at hl' hd hc hin ⊢
        generalize hnn : (charM (s.drop i)).2 = n at hl' hd hle h0 ⊢
        have hroom : roomT (out.length + 1) = some () := roomT_lt (by omega)
        have next : ∀ (e' : Bool) (out' : List (Int × Int × Unit)), out'.length ≤ out.length + 1 → glob_parts_l6 s (esc, i, out, ()) = some (.inl (e', i + n, out', ())) → (loopT (glob_parts_l6 s) (esc, i, out, ())).bind (joinS fun v10 =>
      cond v10.1 (some ([], false, ())) (some (v10.2.1, true, ()))) = some (partsR out' (partsE e' l')) := by
          intro e' out' ho' h
          rw [loopT_inl h]
          exact ih _ _ _ _ (by omega) (by omega) (by omega) hl'
        cases esc with
        | true =>
          by_cases hsp : spec c = true
          · rw [next false (out ++ [partOf c]) (by simp) ?_]
            · simp only [partsE, partsM_esc, hsp, if_true, partsR_map]; simp
            · unfold glob_parts_l6
              rw [cond_dec, if_pos hlt, hd]
              simp only [hc, special_t, Option.bind_some, hsp, cond_true, joinS_inl, Bool.not_true, cond_false, List.length_cons, List.length_nil, hroom]
              have : partOf c = (0, c, ()) := by
                have := spec_ge hsp
                unfold partOf; rw [if_neg (by omega), if_neg (by omega)]
              rw [this]
          · have hsp' : spec c = false := by simpa using hsp
            rw [loopT_inr (x := .inr ([], false, ()))]
            · simp [partsE, partsM_esc, hsp', partsR]
            · unfold glob_parts_l6
              rw [cond_dec, if_pos hlt, hd]
              simp only [hc, special_t, Option.bind_some, hsp', cond_true, joinS_inl, Bool.not_false]
        | false =>
          by_cases hsp : spec c = true
          · have hs3 := spec_ge hsp
            by_cases h92 : c = 92
            · rw [next true out (by omega) ?_]
              · simp only [partsE, h92]; simp
              · unfold glob_parts_l6
                rw [cond_dec, if_pos hlt, hd]
                simp only [hc, special_t, Option.bind_some, hsp, cond_false, joinS_inl, Bool.not_true, cond_dec, if_pos h92]
            · by_cases h63 : c = 63
              · rw [next false (out ++ [partOf (-1)]) (by simp) ?_]
                · simp only [partsE, h63, partsM_any]; rw [if_neg (by simp), if_neg (by simp), partsR_map]
                · unfold glob_parts_l6
                  rw [cond_dec, if_pos hlt, hd]
                  simp only [hc, special_t, Option.bind_some, hsp, cond_false, joinS_inl, Bool.not_true, cond_dec, if_neg h92, if_pos h63, List.length_cons, List.length_nil, hroom]
                  rfl
              · have h42 : c = 42 := by omega
                rw [next false (out ++ [partOf (-2)]) (by simp) ?_]
                · simp only [partsE, h42, partsM_star]; rw [if_neg (by simp), if_neg (by simp), partsR_map]
                · unfold glob_parts_l6
                  rw [cond_dec, if_pos hlt, hd]
                  simp only [hc, special_t, Option.bind_some, hsp, cond_false, joinS_inl, Bool.not_true, cond_dec, if_neg h92, if_neg h63, List.length_cons, List.length_nil, hroom]
                  rfl
          · have hsp' : spec c = false := by simpa using hsp
            rw [next false (out ++ [partOf c]) (by simp) ?_]
            · simp only [partsE, partsM_plain hsp']; rw [if_neg (by simp), if_neg (by simp), partsR_map]
            · unfold glob_parts_l6
              rw [cond_dec, if_pos hlt, hd]
              simp only [hc, special_t, Option.bind_some, hsp', cond_false, joinS_inl, Bool.not_false, cond_true, List.length_cons, List.length_nil, hroom]
              have : partOf c = (0, c, ()) := by
                unfold partOf; rw [if_neg (by omega), if_neg (by omega)]
              rw [this]
    · exact fin i esc out l hlt hl
theorem parts_t {p : List UInt8} (hp : p.length < 4294967296) : glob_parts p = some (partsR [] (pat p)) := by
  unfold glob_parts
  rw [validString_t, Option.bind_some]
  unfold validM pat
  cases hl : runesM p with
  | none => simp [partsR]
  | some l =>
    simp only [Option.isSome_some, Bool.not_true, cond_false, Option.bind_some, count_t hp hl, cond_dec]
    by_cases h : l.length > 64
    · rw [if_pos (by omega), if_pos h]; simp [partsR]
    · rw [if_neg (by omega), if_neg h]
      exact parts_loop hp p.length 0 false [] l (by omega) (by omega) (by simp) (by simpa using hl)
/-! ### the document's parts -/
theorem refParts_loop {r : List Int × Bool × Unit} (hr : r.1.length < 4294967296) : ∀ (k i : Nat) (out : List Int), r.1.length - i ≤ k → i ≤ r.1.length → out.length ≤ i →
    loopT (ref37_Parts_l6 r) ((i : Int), out, ()) = some (match partsM (r.1.drop i) with | some o => (out ++ o, true, ()) | none => ([], false, ())) := by
  intro k
  have fin : ∀ (i : Nat) (out : List Int), ¬ i < r.1.length → loopT (ref37_Parts_l6 r) ((i : Int), out, ()) = some (match partsM (r.1.drop i) with | some o => (out ++ o, true, ()) | none => ([], false, ())) := by
    intro i out hi
    rw [List.drop_eq_nil_of_le (by omega), loopT_inr (x := (out, true, ())) (by unfold ref37_Parts_l6; rw [cond_dec, if_neg (by omega)])]
    simp [partsM]
  induction k using Nat.strongRecOn with
  | _ k ih =>
    intro i out hk hi ho
    by_cases hlt : i < r.1.length
    · obtain ⟨c, hc⟩ : ∃ c, r.1[i]? = some c := ⟨_, List.getElem?_eq_getElem hlt⟩
      have hdr : r.1.drop i = c :: r.1.drop (i + 1) := by
        rw [List.drop_eq_getElem_cons hlt]; rw [List.getElem?_eq_getElem hlt] at hc; cases hc; rfl
      have w1 : IntKind.wrap .i64 ((i : Int) + 1) = ((i + 1 : Nat) : Int) := by rw [wrap64 (by omega) (by omega)]; rfl
      have hroom : roomT (out.length + 1) = some () := roomT_lt (by omega)
      have next : ∀ (x : Int), ref37_Parts_l6 r ((i : Int), out, ()) = some (.inl (((i + 1 : Nat) : Int), out ++ [x], ())) →
          loopT (ref37_Parts_l6 r) ((i : Int), out, ()) = some (match (partsM (r.1.drop (i + 1))).map (fun o => x :: o) with | some o => (out ++ o, true, ()) | none => ([], false, ())) := by
        intro x h
        rw [loopT_inl h, ih (k - 1) (by omega) (i + 1) _ (by omega) (by omega) (by simp; omega)]
        cases partsM (r.1.drop (i + 1)) <;> simp
      rw [hdr]
      by_cases h42 : c = 42
      · rw [h42, partsM_star]
        refine next (-2) ?_
        unfold ref37_Parts_l6
        simp only [cond_dec, atI_nat, hc, Option.bind_some, if_pos (show (i : Int) < (r.1.length : Int) by omega), if_pos h42, List.length_cons, List.length_nil, hroom, w1]
      by_cases h63 : c = 63
      · rw [h63, partsM_any]
        refine next (-1) ?_
        unfold ref37_Parts_l6
        simp only [cond_dec, atI_nat, hc, Option.bind_some, if_pos (show (i : Int) < (r.1.length : Int) by omega), if_neg h42, if_pos h63, List.length_cons, List.length_nil, hroom, w1]
      by_cases h92 : c = 92
      · subst h92
        by_cases hl : i + 1 = r.1.length
        · rw [List.drop_eq_nil_of_le (by omega)]
          rw [loopT_inr (x := ([], false, ()))]
          · simp [partsM]
          · unfold ref37_Parts_l6
            simp only [cond_dec, atI_nat, hc, Option.bind_some, if_pos (show (i : Int) < (r.1.length : Int) by omega), w1, if_pos (show ((i + 1 : Nat) : Int) = (r.1.length : Int) by omega), joinS_inr, if_neg h42, if_neg h63, if_true]
        · obtain ⟨d, hd⟩ : ∃ d, r.1[i + 1]? = some d := ⟨_, List.getElem?_eq_getElem (by omega)⟩
          have hdr2 : r.1.drop (i + 1) = d :: r.1.drop (i + 2) := by
            rw [List.drop_eq_getElem_cons (by omega)]; rw [List.getElem?_eq_getElem (by omega)] at hd; cases hd; rfl
          have w2 : IntKind.wrap .i64 (((i + 1 : Nat) : Int) + 1) = ((i + 2 : Nat) : Int) := by rw [wrap64 (by omega) (by omega)]; omega
          rw [hdr2, partsM_esc]
          by_cases hsp : spec d = true
          · rw [if_pos hsp, loopT_inl (b := (((i + 2 : Nat) : Int), out ++ [d], ()))]
            · rw [ih (k - 2) (by omega) (i + 2) _ (by omega) (by omega) (by simp; omega)]
              cases partsM (r.1.drop (i + 2)) <;> simp
            · have hs3 := spec_ge hsp
              unfold ref37_Parts_l6
              simp only [cond_dec, cond_ndec, atI_nat, hc, hd, Option.bind_some, if_pos (show (i : Int) < (r.1.length : Int) by omega), w1, if_neg (show ¬ ((i + 1 : Nat) : Int) = (r.1.length : Int) by omega), if_neg h42, if_neg h63, if_true, List.length_cons, List.length_nil]
              rcases hs3 with h | h | h <;> subst h <;> simp only [if_true, joinS_inl, Option.bind_some, hroom, w2, ite_self] <;> simp [hroom, w2]
          · have hsp' : spec d = false := by simpa using hsp
            rw [if_neg hsp, loopT_inr (x := ([], false, ()))]
            simp only [spec, Bool.or_eq_false_iff, decide_eq_false_iff_not] at hsp'
            unfold ref37_Parts_l6
            simp only [cond_dec, cond_ndec, atI_nat, hc, hd, Option.bind_some, if_pos (show (i : Int) < (r.1.length : Int) by omega), w1, if_neg (show ¬ ((i + 1 : Nat) : Int) = (r.1.length : Int) by omega), if_neg h42, if_neg h63, if_true, if_neg hsp'.1.1, if_neg hsp'.1.2, if_neg hsp'.2, joinS_inr]
      · rw [partsM_plain (by simp [spec, h42, h63, h92])]
        refine next c ?_
        unfold ref37_Parts_l6
        simp only [cond_dec, atI_nat, hc, Option.bind_some, if_pos (show (i : Int) < (r.1.length : Int) by omega), if_neg h42, if_neg h63, if_neg h92, joinS_inl, List.length_cons, List.length_nil, hroom, w1]
    · exact fin i out hlt
theorem refParts_t {p : List UInt8} (hp : p.length < 4294967296) : ref37_Parts p = some (match pat p with | some o => (o, true, ()) | none => ([], false, ())) := by
  unfold ref37_Parts
  rw [runes_t hp, Option.bind_some]
  unfold runesR pat
  cases hl : runesM p with
  | none => simp
  | some l =>
    simp only [Bool.not_true, cond_false, Option.bind_some, cond_dec, List.nil_append]
    by_cases h : l.length > 64
    · rw [if_pos (by omega), if_pos h]
    · rw [if_neg (by omega), if_neg h]
      have := refParts_loop (r := (l, true, ())) (by simp only []; omega) l.length 0 [] (by simp) (by simp) (by simp)
      simpa using this
theorem runesM_le : ∀ {s : List UInt8} {l : List Int}, runesM s = some l → l.length ≤ s.length := by
  intro s
  induction s using (measure List.length).wf.induction with
  | _ s ih =>
    intro l h
    by_cases hn : s = []
    · subst hn; rw [runesM_nil] at h; cases h; simp
    · by_cases h0 : (charM s).2 = 0
      · rw [runesM_none hn h0] at h; cases h
      · rw [runesM_step hn h0, Option.map_eq_some_iff] at h
        obtain ⟨l', hl', rfl⟩ := h
        have hp : s.length ≠ 0 := fun e => hn (List.eq_nil_of_length_eq_zero e)
        have := ih (s.drop (charM s).2) (by show (s.drop _).length < s.length; simp only [List.length_drop]; omega) hl'
        simp only [List.length_drop] at this
        simp only [List.length_cons]; omega
theorem partsM_len : ∀ (n : Nat) {l o : List Int}, l.length ≤ n → partsM l = some o → o.length ≤ l.length := by
  intro n
  induction n with
  | zero =>
    intro l o hn h
    have : l = [] := List.eq_nil_of_length_eq_zero (by omega)
    subst this
    simp [partsM] at h; subst h; simp
  | succ n ih =>
    intro l o hn h
    cases l with
    | nil => simp [partsM] at h; subst h; simp
    | cons c t =>
      simp only [List.length_cons] at hn
      have key : ∀ {x : Int} {t' : List Int}, t'.length ≤ t.length → ((partsM t').map fun o => x :: o) = some o → o.length ≤ (c :: t).length := by
        intro x t' ht' e
        rw [Option.map_eq_some_iff] at e
        obtain ⟨o', h1, rfl⟩ := e
        have := ih (by omega) h1
        simp only [List.length_cons]; omega
      rw [partsM_cons] at h
      split at h
      · exact key (Nat.le_refl _) h
      · split at h
        · exact key (Nat.le_refl _) h
        · split at h
          · cases t with
            | nil => cases h
            | cons d t' =>
              simp only [] at h
              split at h
              · exact key (by simp) h
              · cases h
          · exact key (Nat.le_refl _) h
theorem partsM_le {l o : List Int} (h : partsM l = some o) : o.length ≤ l.length := partsM_len l.length (Nat.le_refl _) h
theorem pat_le {p : List UInt8} {o : List Int} (h : pat p = some o) : o.length ≤ 64 := by
  unfold pat at h
  rw [Option.bind_eq_some_iff] at h
  obtain ⟨l, h1, h2⟩ := h
  split at h2
  · cases h2
  · have := partsM_le h2; omega
end Go.Proofs.YtnafmjbakholcaaDoor.Q

set_option linter.unusedVariables false
set_option linter.unusedSimpArgs false
set_option maxRecDepth 100000
namespace Go.Proofs.YtnafmjbakholcaaDoor.Q
open Go.EM Go.TY Go.Proofs Go.Proofs.YtnafmjbakholcaaDoor.Y
/-! ### what a pattern matches -/
def one (c : Int) (a : List Int) : Prop := c = -2 ∨ ∃ x, a = [x] ∧ (c = -1 ∨ c = x)
def Mt : List Int → List Int → Prop
  | [], t => t = []
  | c :: o, t => ∃ a b, t = a ++ b ∧ one c a ∧ Mt o b
theorem Mt_app : ∀ {o o' t : List Int}, Mt (o ++ o') t ↔ ∃ a b, t = a ++ b ∧ Mt o a ∧ Mt o' b
  | [], o', t => by
    constructor
    · intro h; exact ⟨[], t, rfl, rfl, h⟩
    · rintro ⟨a, b, rfl, rfl, h⟩; exact h
  | c :: o, o', t => by
    constructor
    · rintro ⟨a, b, rfl, h1, h2⟩
      obtain ⟨a', b', rfl, h3, h4⟩ := Mt_app.1 h2
      exact ⟨a ++ a', b', by simp, ⟨a, a', rfl, h1, h3⟩, h4⟩
    · rintro ⟨a, b, rfl, ⟨a', b', rfl, h1, h2⟩, h3⟩
      exact ⟨a', b' ++ b, by simp, h1, Mt_app.2 ⟨b', b, rfl, h2, h3⟩⟩
theorem one_star {a : List Int} : one (-2) a := Or.inl rfl
theorem Mt_star {o t : List Int} : Mt (-2 :: o) t ↔ ∃ j, Mt o (t.drop j) := by
  constructor
  · rintro ⟨a, b, rfl, h1, h2⟩; exact ⟨a.length, by simpa using h2⟩
  · rintro ⟨j, h⟩; exact ⟨t.take j, t.drop j, by simp, one_star, h⟩
theorem Mt_one {c : Int} {o t : List Int} (hc : c ≠ -2) : Mt (c :: o) t ↔ ∃ x b, t = x :: b ∧ (c = -1 ∨ c = x) ∧ Mt o b := by
  constructor
  · rintro ⟨a, b, rfl, h1, h2⟩
    rcases h1 with h1 | ⟨x, rfl, h1⟩
    · exact absurd h1 hc
    · exact ⟨x, b, rfl, h1, h2⟩
  · rintro ⟨x, b, rfl, h1, h2⟩
    exact ⟨[x], b, rfl, Or.inr ⟨x, rfl, h1⟩, h2⟩
theorem Mt_nil {t : List Int} : Mt [] t ↔ t = [] := Iff.rfl
theorem drop_cons {A : Type} {l : List A} {i : Nat} (h : i < l.length) : l.drop i = l[i] :: l.drop (i + 1) := List.drop_eq_getElem_cons h
/-! ### stars first as few as it goes -/
structure Inv (o t : List Int) (k : Nat) (star : Int) (mark i : Nat) : Prop where
  k_le : k ≤ o.length
  i_le : i ≤ t.length
  no : star < 0 → (Mt o t ↔ Mt (o.drop k) (t.drop i))
  is : ∀ st : Nat, star = (st : Int) → st < k ∧ mark ≤ i ∧ (Mt o t ↔ Mt (-2 :: o.drop (st + 1)) (t.drop mark)) ∧ (Mt (o.drop k) (t.drop i) → Mt (o.drop (st + 1)) (t.drop mark)) ∧ (∀ u, Mt (o.drop (st + 1)) u → Mt (o.drop k) (u.drop (i - mark)))
  le : -1 ≤ star
theorem inv_star {o t : List Int} {k mark i : Nat} {star : Int} (h : Inv o t k star mark i) (hk : k < o.length) (hs : o[k] = -2) : Inv o t (k + 1) k i i := by
  have hd : o.drop k = -2 :: o.drop (k + 1) := by rw [drop_cons hk, hs]
  refine ⟨hk, h.i_le, fun e => by omega, ?_, by omega⟩
  intro st hst
  have : st = k := by omega
  subst this
  refine ⟨by omega, by omega, ?_, fun x => x, fun u hu => by simpa using hu⟩
  by_cases hneg : star < 0
  · rw [h.no hneg, hd]
  · obtain ⟨st, hst⟩ : ∃ st : Nat, star = (st : Int) := ⟨star.toNat, by omega⟩
    obtain ⟨h0, h1, h2, h3, h4⟩ := h.is st hst
    rw [h2, ← hd]
    constructor
    · intro hm
      obtain ⟨j, hj⟩ := Mt_star.1 hm
      have := h4 _ hj
      rw [hd] at this ⊢
      obtain ⟨j', hj'⟩ := Mt_star.1 this
      refine Mt_star.2 ⟨j + j', ?_⟩
      rw [List.drop_drop, List.drop_drop] at hj'
      rw [List.drop_drop]
      have e : i + (j + j') = mark + j + (i - mark) + j' := by omega
      rw [e]
      simpa [Nat.add_assoc, Nat.add_comm, Nat.add_left_comm] using hj'
    · intro hm
      exact Mt_star.2 ⟨0, by simpa using h3 hm⟩
theorem inv_one {o t : List Int} {k mark i : Nat} {star : Int} (h : Inv o t k star mark i) (hk : k < o.length) (hi : i < t.length) (hs : o[k] ≠ -2) (ho : o[k] = -1 ∨ o[k] = t[i]) : Inv o t (k + 1) star mark (i + 1) := by
  have hd : o.drop k = o[k] :: o.drop (k + 1) := drop_cons hk
  have ht : t.drop i = t[i] :: t.drop (i + 1) := drop_cons hi
  have hstep : Mt (o.drop k) (t.drop i) ↔ Mt (o.drop (k + 1)) (t.drop (i + 1)) := by
    rw [hd, ht, Mt_one hs]
    constructor
    · rintro ⟨x, b, h1, h2, h3⟩; cases h1; exact h3
    · intro h1; exact ⟨_, _, rfl, ho, h1⟩
  refine ⟨hk, hi, fun e => (h.no e).trans hstep, ?_, h.le⟩
  intro st hst
  obtain ⟨h0, h1, h2, h3, h4⟩ := h.is st hst
  refine ⟨by omega, by omega, h2, fun x => h3 (hstep.2 x), ?_⟩
  intro u hu
  have := h4 u hu
  rw [hd, Mt_one hs] at this
  obtain ⟨x, b, h5, h6, h7⟩ := this
  have : u.drop (i + 1 - mark) = b := by
    have e : i + 1 - mark = (i - mark) + 1 := by omega
    rw [e, ← List.drop_drop, h5]; rfl
  rw [this]; exact h7
theorem mis {o t : List Int} {k i : Nat} (hi : i < t.length) (hm : ∀ hk : k < o.length, o[k] ≠ -2 ∧ ¬ (o[k] = -1 ∨ o[k] = t[i])) : ¬ Mt (o.drop k) (t.drop i) := by
  rw [drop_cons hi]
  by_cases hk : k < o.length
  · rw [drop_cons hk, Mt_one (hm hk).1]
    rintro ⟨x, b, h1, h2, h3⟩
    cases h1
    exact (hm hk).2 h2
  · rw [List.drop_eq_nil_of_le (by omega), Mt_nil]
    intro e; cases e
theorem inv_mis {o t : List Int} {k mark i st : Nat} (h : Inv o t k st mark i) (hi : i < t.length) (hm : ¬ Mt (o.drop k) (t.drop i)) : Inv o t (st + 1) st (mark + 1) (mark + 1) := by
  obtain ⟨h0, h1, h2, h3, h4⟩ := h.is st rfl
  have hk := h.k_le
  refine ⟨by omega, by omega, fun e => by omega, ?_, by omega⟩
  intro st' hst
  have : st' = st := by omega
  subst this
  refine ⟨by omega, by omega, ?_, fun x => x, fun u hu => by simpa using hu⟩
  rw [h2]
  constructor
  · intro hx
    obtain ⟨j, hj⟩ := Mt_star.1 hx
    cases j with
    | zero =>
      have := h4 _ hj
      rw [List.drop_zero, List.drop_drop] at this
      exact absurd (by have e : mark + (i - mark) = i := by omega
                       rw [e] at this; exact this) hm
    | succ j =>
      refine Mt_star.2 ⟨j, ?_⟩
      rw [List.drop_drop] at hj ⊢
      have e : mark + 1 + j = mark + (j + 1) := by omega
      rw [e]; exact hj
  · intro hx
    obtain ⟨j, hj⟩ := Mt_star.1 hx
    refine Mt_star.2 ⟨j + 1, ?_⟩
    rw [List.drop_drop] at hj ⊢
    have e : mark + (j + 1) = mark + 1 + j := by omega
    rw [e]; exact hj
theorem inv_end {o t : List Int} {k mark i : Nat} {star : Int} (h : Inv o t k star mark i) (hi : i = t.length) : Mt o t ↔ Mt (o.drop k) [] := by
  have hn : t.drop i = [] := List.drop_eq_nil_of_le (by omega)
  by_cases hneg : star < 0
  · rw [h.no hneg, hn]
  · obtain ⟨st, hst⟩ : ∃ st : Nat, star = (st : Int) := ⟨star.toNat, by have := h.le; omega⟩
    obtain ⟨h0, h1, h2, h3, h4⟩ := h.is st hst
    rw [h2, ← hn]
    constructor
    · intro hm
      obtain ⟨j, hj⟩ := Mt_star.1 hm
      have := h4 _ hj
      have e : (((t.drop mark).drop j).drop (i - mark)) = [] := by
        rw [List.drop_drop, List.drop_drop]; exact List.drop_eq_nil_of_le (by omega)
      rw [e] at this
      rw [hn]; exact this
    · intro hm; exact Mt_star.2 ⟨0, by simpa using h3 hm⟩
theorem part_two {c : Int} : (partOf c).1 = 2 ↔ c = -2 := by
  unfold partOf; split
  · simp [*]
  · split <;> simp [*]
theorem part_one {c : Int} : (partOf c).1 = 1 ↔ c = -1 := by
  unfold partOf; split
  · subst_vars; simp
  · split <;> simp [*]
theorem part_c {c : Int} (h : c ≠ -2) (h1 : c ≠ -1) : (partOf c).2.1 = c := by
  unfold partOf; rw [if_neg h, if_neg h1]
theorem at_part {o : List Int} {k : Nat} (hk : k < o.length) : atI (o.map partOf) (k : Int) = some (partOf o[k]) := by
  rw [atI_nat, List.getElem?_map, List.getElem?_eq_getElem hk]; rfl
/-- The end: only stars. -/
theorem tail_loop {o : List Int} (ho : o.length < 4294967296) : ∀ (n k : Nat), o.length - k ≤ n → k ≤ o.length →
    ∃ k' : Nat, loopT (glob_fits_l14 (o.map partOf)) ((k : Int), ()) = some (.inl ((k' : Int), ())) ∧ k' ≤ o.length ∧ (Mt (o.drop k) [] ↔ k' = o.length) := by
  intro n
  induction n with
  | zero =>
    intro k hn hk
    refine ⟨k, loopT_inr ?_, hk, ?_⟩
    · unfold glob_fits_l14
      rw [cond_dec, if_neg (by simp only [List.length_map]; omega)]
    · rw [List.drop_eq_nil_of_le (by omega), Mt_nil]; simp; omega
  | succ n ih =>
    intro k hn hk
    by_cases hlt : k < o.length
    · have hd : o.drop k = o[k] :: o.drop (k + 1) := drop_cons hlt
      by_cases h2 : o[k] = -2
      · obtain ⟨k', h3, h4, h5⟩ := ih (k + 1) (by omega) (by omega)
        refine ⟨k', ?_, h4, ?_⟩
        · rw [loopT_inl (b := (((k + 1 : Nat) : Int), ())), h3]
          unfold glob_fits_l14
          rw [cond_dec, if_pos (by simp only [List.length_map]; omega), at_part hlt, Option.bind_some, cond_dec, if_pos (part_two.2 h2)]
          simp only []
          rw [wrap64 (by omega) (by omega)]; rfl
        · rw [← h5, hd, h2, Mt_star]; simp
      · refine ⟨k, loopT_inr ?_, hk, ?_⟩
        · unfold glob_fits_l14
          rw [cond_dec, if_pos (by simp only [List.length_map]; omega), at_part hlt, Option.bind_some, cond_dec, if_neg (fun e => h2 (part_two.1 e))]
        · rw [hd, Mt_one h2]
          constructor
          · rintro ⟨x, b, h, _⟩; cases h
          · intro e; omega
    · refine ⟨k, loopT_inr ?_, hk, ?_⟩
      · unfold glob_fits_l14
        rw [cond_dec, if_neg (by simp only [List.length_map]; omega)]
      · rw [List.drop_eq_nil_of_le (by omega), Mt_nil]; simp; omega
open Classical in
theorem fits_loop {o t : List Int} (ho : o.length < 4294967296) (ht : t.length < 4294967296) : ∀ (n m k mark i : Nat) (star : Int), t.length - mark ≤ n → o.length - k ≤ m → mark ≤ i → (star < 0 → t.length - i + (o.length - k) ≤ m) → Inv o t k star mark i →
    ((∃ k' : Nat, k' ≤ o.length ∧ loopT (glob_fits_l3 (o.map partOf) t) ((k : Int), star, (mark : Int), (i : Int), ()) = some (.inl ((k' : Int), ())) ∧ (Mt o t ↔ Mt (o.drop k') [])) ∨
    (¬ Mt o t ∧ loopT (glob_fits_l3 (o.map partOf) t) ((k : Int), star, (mark : Int), (i : Int), ()) = some (.inr false))) := by
  intro n
  induction n using Nat.strongRecOn with
  | _ n ihn =>
  intro m
  induction m using Nat.strongRecOn with
  | _ m ihm =>
  intro k mark i star hn hm hmi hsm hI
  by_cases hi : i < t.length
  · have hti : t[i]? = some t[i] := List.getElem?_eq_getElem hi
    -- what is left when nothing goes on
    have miss : ∀ F : (Int × Int × Unit) → Option ((Int × Int × Int × Int × Unit) ⊕ ((Int × Unit) ⊕ Bool)), ¬ Mt (o.drop k) (t.drop i) →
        (star < 0 → glob_fits_l3 (o.map partOf) t ((k : Int), star, (mark : Int), (i : Int), ()) = some (.inr (.inr false))) →
        (¬ star < 0 → glob_fits_l3 (o.map partOf) t ((k : Int), star, (mark : Int), (i : Int), ()) = some (.inl (IntKind.wrap .i64 (star + 1), star, IntKind.wrap .i64 ((mark : Int) + 1), IntKind.wrap .i64 ((mark : Int) + 1), ()))) →
        ((∃ k' : Nat, k' ≤ o.length ∧ loopT (glob_fits_l3 (o.map partOf) t) ((k : Int), star, (mark : Int), (i : Int), ()) = some (.inl ((k' : Int), ())) ∧ (Mt o t ↔ Mt (o.drop k') [])) ∨
    (¬ Mt o t ∧ loopT (glob_fits_l3 (o.map partOf) t) ((k : Int), star, (mark : Int), (i : Int), ()) = some (.inr false))) := by
      intro F hmm h1 h2
      by_cases hs : star < 0
      · exact Or.inr ⟨fun e => hmm ((hI.no hs).1 e), loopT_inr (h1 hs)⟩
      · have hs' := h2 hs
        obtain ⟨st, hst⟩ : ∃ st : Nat, star = (st : Int) := ⟨star.toNat, by omega⟩
        subst hst
        have hk := hI.k_le
        have hst := (hI.is st rfl).1
        rw [wrap64 (by omega) (by omega), wrap64 (by omega) (by omega)] at hs'
        rw [loopT_inl (b := (((st + 1 : Nat) : Int), (st : Int), ((mark + 1 : Nat) : Int), ((mark + 1 : Nat) : Int), ())) hs']
        exact ihn (n - 1) (by omega) _ (st + 1) (mark + 1) (mark + 1) st (by omega) (Nat.le_refl _) (Nat.le_refl _) (fun e => by omega) (inv_mis hI hi hmm)
    by_cases hk : k < o.length
    · by_cases h2 : o[k] = -2
      · rw [loopT_inl (b := (((k + 1 : Nat) : Int), (k : Int), (i : Int), (i : Int), ()))]
        · by_cases hmk : m = 0
          · omega
          · exact ihm (m - 1) (by omega) (k + 1) i i k (by omega) (by omega) (Nat.le_refl _) (fun e => by omega) (inv_star hI hk h2)
        · unfold glob_fits_l3
          simp only [cond_dec, if_pos (show (i : Int) < (t.length : Int) by omega), List.length_map, if_pos (show (k : Int) < (o.length : Int) by omega), at_part hk, Option.bind_some, joinS_inl, joinS_inr, part_two, h2, decide_true, cond_true]
          rw [wrap64 (by omega) (by omega)]; rfl
      · have h3 : ¬ (partOf o[k]).1 = 2 := fun e => h2 (part_two.1 e)
        by_cases h1 : o[k] = -1 ∨ o[k] = t[i]
        · rw [loopT_inl (b := (((k + 1 : Nat) : Int), star, (mark : Int), ((i + 1 : Nat) : Int), ()))]
          · exact ihm (m - 1) (by omega) (k + 1) mark (i + 1) star (by omega) (by omega) (by omega) (fun e => by have := hsm e; omega) (inv_one hI hk hi h2 h1)
          · unfold glob_fits_l3
            simp only [cond_dec, if_pos (show (i : Int) < (t.length : Int) by omega), List.length_map, if_pos (show (k : Int) < (o.length : Int) by omega), at_part hk, Option.bind_some, joinS_inl, joinS_inr, h3, decide_false, cond_false, part_one, atI_nat, hti]
            rw [wrap64 (n := (k : Int) + 1) (by omega) (by omega), wrap64 (n := (i : Int) + 1) (by omega) (by omega)]
            by_cases h4 : o[k] = -1
            · rw [if_pos h4]; rfl
            · rw [if_neg h4, part_c h2 h4, if_pos (by rcases h1 with h | h; exact absurd h h4; exact h)]; rfl
        · have h4 : ¬ o[k] = -1 := fun e => h1 (Or.inl e)
          have h5 : ¬ o[k] = t[i] := fun e => h1 (Or.inr e)
          refine miss (fun _ => none) (mis hi (fun hk' => ⟨h2, h1⟩)) ?_ ?_
          · intro hs
            unfold glob_fits_l3
            simp only [cond_dec, if_pos (show (i : Int) < (t.length : Int) by omega), List.length_map, if_pos (show (k : Int) < (o.length : Int) by omega), at_part hk, Option.bind_some, joinS_inl, joinS_inr, h3, decide_false, cond_false, part_one, atI_nat, hti, if_neg h4, part_c h2 h4, if_neg h5, if_pos hs]
          · intro hs
            unfold glob_fits_l3
            simp only [cond_dec, if_pos (show (i : Int) < (t.length : Int) by omega), List.length_map, if_pos (show (k : Int) < (o.length : Int) by omega), at_part hk, Option.bind_some, joinS_inl, joinS_inr, h3, decide_false, cond_false, part_one, atI_nat, hti, if_neg h4, part_c h2 h4, if_neg h5, if_neg hs]
    · refine miss (fun _ => none) (mis hi (fun hk' => absurd hk' hk)) ?_ ?_
      · intro hs
        unfold glob_fits_l3
        simp only [cond_dec, if_pos (show (i : Int) < (t.length : Int) by omega), List.length_map, if_neg (show ¬ (k : Int) < (o.length : Int) by omega), Option.bind_some, joinS_inl, joinS_inr, cond_false, if_pos hs]
      · intro hs
        unfold glob_fits_l3
        simp only [cond_dec, if_pos (show (i : Int) < (t.length : Int) by omega), List.length_map, if_neg (show ¬ (k : Int) < (o.length : Int) by omega), Option.bind_some, joinS_inl, joinS_inr, cond_false, if_neg hs]
  · refine Or.inl ⟨k, hI.k_le, loopT_inr ?_, inv_end hI (by have := hI.i_le; omega)⟩
    unfold glob_fits_l3
    rw [cond_dec, if_neg (by simp only []; omega)]
open Classical in
theorem fits_t {o t : List Int} (ho : o.length < 4294967296) (ht : t.length < 4294967296) : glob_fits (o.map partOf) t = some (decide (Mt o t)) := by
  have hI : Inv o t 0 (-1) 0 0 := ⟨by omega, by omega, fun _ => by simp, fun st h => by omega, by omega⟩
  unfold glob_fits
  rcases fits_loop ho ht t.length (t.length + o.length) 0 0 0 (-1) (by omega) (by omega) (by omega) (fun _ => by omega) hI with ⟨k', h1, h2, h3⟩ | ⟨h1, h2⟩
  · obtain ⟨k'', h4, h5, h6⟩ := tail_loop ho (o.length - k') k' (Nat.le_refl _) h1
    have h2' : loopT (glob_fits_l3 (o.map partOf) t) (0, -1, 0, 0, ()) = some (.inl ((k' : Int), ())) := h2
    rw [h2', Option.bind_some, joinS_inl, h4, Option.bind_some, joinS_inl]
    simp only [List.length_map]
    congr 1
    rw [decide_eq_decide, h3, h6]
    omega
  · have h2' : loopT (glob_fits_l3 (o.map partOf) t) (0, -1, 0, 0, ()) = some (.inr false) := h2
    rw [h2', Option.bind_some, joinS_inr]
    simp [h1]
end Go.Proofs.YtnafmjbakholcaaDoor.Q
