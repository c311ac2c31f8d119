import Derived.Test.YtnafmjbakholcaaDoorQ4
set_option linter.unusedVariables false
set_option linter.unusedSimpArgs false
set_option maxRecDepth 100000
namespace Go.Proofs.YtnafmjbakholcaaDoor.Q
open Go.EM Go.TY Go.Proofs Go.Proofs.YtnafmjbakholcaaDoor.Y
/-- What is read ahead behind an ASCII byte. -/
noncomputable def ahead1 (s2 : List UInt8) : Option ((List UInt8 × Int × Unit) ⊕ ((List UInt8 × Unit) ⊕ Bool)) :=
 cond (decide ((s2.length : Int) > 8)) ((utf8_word_string s2).bind fun r3 =>
 cond (decide ((IntKind.wrap .u64 ((BitVec.ofInt (IntKind.bits .u64) r3 &&& BitVec.ofInt (IntKind.bits .u64) 9259542123273814144).toNat)) = 0)) (
(subI s2 8 (s2.length : Int)).bind fun s4 =>
 cond (decide ((s4.length : Int) > 16)) ((utf8_word_string s4).bind fun r5 =>
(subI s4 8 (s4.length : Int)).bind fun s6 =>
(utf8_word_string s6).bind fun r7 =>
 cond (decide ((IntKind.wrap .u64 ((BitVec.ofInt (IntKind.bits .u64) (IntKind.wrap .u64 ((BitVec.ofInt (IntKind.bits .u64) r5 ||| BitVec.ofInt (IntKind.bits .u64) r7).toNat)) &&& BitVec.ofInt (IntKind.bits .u64) 9259542123273814144).toNat)) = 0)) (
(subI s4 16 (s4.length : Int)).bind fun s8 =>
 loopT (utf8_ValidString_l9) (s8, ())) (
 some (.inr (.inl (s4, ()))))) (some (.inr (.inl (s4, ()))))) (
 some (.inr (.inl (s2, ()))))) (some (.inr (.inl (s2, ()))))
theorem ahead_b (s4 : List UInt8) : ∃ s', s'.length ≤ s4.length ∧ validM s4 = validM s' ∧
    (cond (decide ((s4.length : Int) > 16)) ((utf8_word_string s4).bind fun r5 =>
(subI s4 8 (s4.length : Int)).bind fun s6 =>
(utf8_word_string s6).bind fun r7 =>
 cond (decide ((IntKind.wrap .u64 ((BitVec.ofInt (IntKind.bits .u64) (IntKind.wrap .u64 ((BitVec.ofInt (IntKind.bits .u64) r5 ||| BitVec.ofInt (IntKind.bits .u64) r7).toNat)) &&& BitVec.ofInt (IntKind.bits .u64) 9259542123273814144).toNat)) = 0)) (
(subI s4 16 (s4.length : Int)).bind fun s8 =>
 loopT (utf8_ValidString_l9) (s8, ())) (
 some (.inr (.inl (s4, ()))))) (some (.inr (.inl (s4, ())))) : Option ((List UInt8 × Int × Unit) ⊕ ((List UInt8 × Unit) ⊕ Bool))) = some (.inr (.inl (s', ()))) := by
  by_cases h : 16 < s4.length
  · obtain ⟨W1, a1, b1, c1⟩ := word_p (s := s4) (by omega)
    obtain ⟨W2, a2, b2, c2⟩ := word_p (s := s4.drop 8) (by simp; omega)
    rw [cond_dec, if_pos (by omega), b1, Option.bind_some, sub_from (i := 8) 8 rfl (show 8 ≤ s4.length by omega), Option.bind_some, b2, Option.bind_some, cond_dec, or64 a1 a2, maskM_int, and64 (orlt a1 a2) maskM_lt]
    by_cases hz : (W1 ||| W2) &&& maskM = 0
    · rw [if_pos (by rw [hz]; rfl), sub_from (i := 16) 16 rfl (show 16 ≤ s4.length by omega), Option.bind_some]
      obtain ⟨s', h1, h2, h3⟩ := loop9 (s4.drop 16).length (s4.drop 16) (Nat.le_refl _)
      obtain ⟨y1, y2⟩ := or_zero hz
      have t2 := take_more (c1 y1) (c2 y2)
      refine ⟨s', by simp only [List.length_drop] at h1; omega, (valid_ascii 16 s4 (by omega) t2).trans h2, h3⟩
    · rw [if_neg (fun e => hz (by exact_mod_cast e))]
      exact ⟨s4, Nat.le_refl _, rfl, rfl⟩
  · rw [cond_dec, if_neg (by omega)]
    exact ⟨s4, Nat.le_refl _, rfl, rfl⟩
theorem ahead_p (s2 : List UInt8) : ∃ s', s'.length ≤ s2.length ∧ validM s2 = validM s' ∧ ahead1 s2 = some (.inr (.inl (s', ()))) := by
  unfold ahead1
  by_cases h : 8 < s2.length
  · obtain ⟨W1, a1, b1, c1⟩ := word_p (s := s2) (by omega)
    rw [cond_dec, if_pos (by omega), b1, Option.bind_some, cond_dec, maskM_int, and64 a1 maskM_lt]
    by_cases hz : W1 &&& maskM = 0
    · rw [if_pos (by rw [hz]; rfl), sub_from (i := 8) 8 rfl (show 8 ≤ s2.length by omega), Option.bind_some]
      obtain ⟨s', h1, h2, h3⟩ := ahead_b (s2.drop 8)
      refine ⟨s', by simp only [List.length_drop] at h1; omega, (valid_ascii 8 s2 (by omega) (c1 hz)).trans h2, h3⟩
    · rw [if_neg (fun e => hz (by exact_mod_cast e))]
      exact ⟨s2, Nat.le_refl _, rfl, rfl⟩
  · rw [cond_dec, if_neg (by omega)]
    exact ⟨s2, Nat.le_refl _, rfl, rfl⟩
theorem turn1_form {a : UInt8} {t : List UInt8} (ha : a.toNat < 128) : ∃ F, utf8_ValidString_l1 (a :: t, ()) = (ahead1 t).bind (joinS F) := by
  have hl : ((a :: t).length : Int) > 0 := by simp only [List.length_cons]; omega
  have hi0 : atI (a :: t) 0 = some a := by simp [atI]
  have h128 : (a.toNat : Int) < 128 := by omega
  have hs : subI (a :: t) 1 ((a :: t).length : Int) = some t := sub_from (i := 1) 1 rfl (by simp)
  refine ⟨?F, ?h⟩
  case h =>
    unfold utf8_ValidString_l1
    rw [cond_dec, if_pos hl, hi0, Option.bind_some, cond_dec, if_pos h128, hs, Option.bind_some]
    exact rfl
theorem valid_t : ∀ (k : Nat) (s : List UInt8), s.length ≤ k → loopT utf8_ValidString_l1 (s, ()) = some (validM s) := by
  intro k
  induction k with
  | zero =>
    intro s hk
    have : s = [] := List.eq_nil_of_length_eq_zero (by omega)
    subst this
    rw [valid_nil]
    refine loopT_inr ?_
    unfold utf8_ValidString_l1
    rw [cond_dec, if_neg (by simp)]
  | succ k ih =>
    intro s hk
    cases s with
    | nil =>
      rw [valid_nil]
      refine loopT_inr ?_
      unfold utf8_ValidString_l1
      rw [cond_dec, if_neg (by simp)]
    | cons a t =>
      simp only [List.length_cons] at hk
      by_cases ha : a.toNat < 128
      · obtain ⟨F, hF⟩ := turn1_form (t := t) ha
        obtain ⟨s', h1, h2, h3⟩ := ahead_p t
        rw [h3] at hF
        have hv : validM (a :: t) = validM t := by
          have := valid_ascii 1 (a :: t) (by simp) (by simp; exact ha)
          simpa using this
        rw [loopT_inl (b := (s', ())) hF, ih s' (by omega), hv, h2]
      · have h := turn1_hi (a := a) (t := t) (by omega)
        rw [valid_step (by simp)]
        by_cases h0 : (charM (a :: t)).2 = 0
        · rw [if_pos h0] at h ⊢
          exact loopT_inr h
        · rw [if_neg h0] at h ⊢
          rw [loopT_inl h]
          exact ih _ (by simp only [List.length_drop, List.length_cons]; omega)
theorem validString_t (s : List UInt8) : utf8_ValidString s = some (validM s) := valid_t s.length s (Nat.le_refl _)

/-! ### how many characters -/
theorem count_loop {s : List UInt8} : ∀ (k i n : Nat) (l : List Int), s.length - i ≤ k → i ≤ s.length → n ≤ i → s.length < 4294967296 → runesM (s.drop i) = some l → loopT (utf8_RuneCountInString_l2 s) ((n : Int), i, ()) = some (((n + l.length : Nat)) : Int) := by
  intro k
  induction k with
  | zero =>
    intro i n l hk hi hn hs hl
    rw [List.drop_eq_nil_of_le (by omega), runesM_nil] at hl
    cases hl
    refine loopT_inr ?_
    unfold utf8_RuneCountInString_l2
    rw [cond_dec, if_neg (by simp only []; omega)]
    simp
  | succ k ih =>
    intro i n l hk hi hn hs hl
    by_cases hlt : i < s.length
    · have hne : s.drop i ≠ [] := fun e => by have := congrArg List.length e; simp at this; omega
      have hle := charM_le (s.drop i)
      simp only [List.length_drop] at hle
      by_cases h0 : (charM (s.drop i)).2 = 0
      · rw [runesM_none hne h0] at hl; cases hl
      · rw [runesM_step hne h0, List.drop_drop, Option.map_eq_some_iff] at hl
        obtain ⟨l', hl', rfl⟩ := hl
        rw [loopT_inl (b := (((n + 1 : Nat) : Int), i + (charM (s.drop i)).2, ()))]
        · rw [ih _ (n + 1) l' (by omega) (by omega) (by omega) hs hl']
          simp only [List.length_cons]; congr 2; omega
        · unfold utf8_RuneCountInString_l2
          rw [cond_dec, if_pos (by simp only []; exact hlt), decode_N hlt]
          simp only [decN, if_neg h0]
          rw [wrap64 (by omega) (by omega)]; rfl
    · rw [List.drop_eq_nil_of_le (by omega), runesM_nil] at hl
      cases hl
      refine loopT_inr ?_
      unfold utf8_RuneCountInString_l2
      rw [cond_dec, if_neg (by simp only []; omega)]
      simp
theorem count_t {s : List UInt8} {l : List Int} (hs : s.length < 4294967296) (hl : runesM s = some l) : utf8_RuneCountInString s = some (l.length : Int) := by
  have := count_loop (s := s) s.length 0 0 l (by omega) (by omega) (by omega) hs (by simpa using hl)
  simpa [utf8_RuneCountInString] using this
end Go.Proofs.YtnafmjbakholcaaDoor.Q
