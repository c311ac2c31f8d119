import Derived.Test.YtnafmjbakholcaaDoorQ9
set_option linter.unusedVariables false
set_option linter.unusedSimpArgs false
set_option maxRecDepth 100000
namespace Go.Proofs.YtnafmjbakholcaaDoor.Q
open Go.EM Go.TY Go.Proofs Go.Proofs.YtnafmjbakholcaaDoor.Y Go.Proofs.YtnafmjbakholcaaDoor.K Go.Proofs.YtnafmjbakholcaaDoor.L
/-! ### characters written -/
def encM (o : List Int) : List UInt8 := o.flatMap fun n => (Utf8.encode n).data.toList
theorem u8_of {n : Nat} {x : UInt8} (h : n = x.toNat) : UInt8.ofNat n = x := by subst h; exact UInt8.ofNat_toNat
def encN (c : Nat) : List UInt8 :=
  if c < 128 then [UInt8.ofNat c]
  else if c < 2048 then [UInt8.ofNat (192 + c / 64), UInt8.ofNat (128 + c % 64)]
  else if c < 65536 then [UInt8.ofNat (224 + c / 4096), UInt8.ofNat (128 + c / 64 % 64), UInt8.ofNat (128 + c % 64)]
  else [UInt8.ofNat (240 + c / 262144), UInt8.ofNat (128 + c / 4096 % 64), UInt8.ofNat (128 + c / 64 % 64), UInt8.ofNat (128 + c % 64)]
theorem enc_N {r : Int} (h : Utf8.valid r = true) : (Utf8.encode r).data.toList = encN r.toNat := by
  unfold Utf8.encode encN
  simp only [h, if_true]
  split
  · rfl
  · split
    · rfl
    · split <;> rfl
theorem valid_of {r : Int} (h0 : 0 ≤ r) (h1 : r ≤ 1114111) (h2 : ¬ (55296 ≤ r ∧ r ≤ 57343)) : Utf8.valid r = true := by
  simp [Utf8.valid]; omega
theorem enc_char {s : List UInt8} (h : (charM s).2 ≠ 0) : (Utf8.encode (charM s).1).data.toList = s.take (charM s).2 := by
  match s with
  | [] => exact absurd rfl h
  | a :: t =>
    have ha := a.toNat_lt
    by_cases c1 : a.toNat < 128
    · have e : charM (a :: t) = ((a.toNat : Int), 1) := by simp only [charM, if_pos c1]
      rw [e, enc_N (valid_of (by omega) (by omega) (by omega))]
      simp only [Int.toNat_natCast, encN, if_pos c1]
      rw [u8_of rfl]; rfl
    by_cases c2 : 194 ≤ a.toNat ∧ a.toNat < 224
    · match t with
      | [] => simp only [charM, if_neg c1, if_pos c2, ne_eq, not_true_eq_false] at h
      | b :: t =>
        by_cases hb : 128 ≤ b.toNat ∧ b.toNat ≤ 191
        · have e : charM (a :: b :: t) = (64 * ((a.toNat : Int) - 192) + b.toNat - 128, 2) := by simp only [charM, if_neg c1, if_pos c2, if_pos hb]
          rw [e, enc_N (valid_of (by simp only []; omega) (by simp only []; omega) (by simp only []; omega))]
          simp only []
          have : (64 * ((a.toNat : Int) - 192) + b.toNat - 128).toNat = 64 * (a.toNat - 192) + (b.toNat - 128) := by omega
          rw [this]
          unfold encN
          rw [if_neg (by omega), if_pos (by omega), u8_of (x := a) (by omega), u8_of (x := b) (by omega)]; rfl
        · simp only [charM, if_neg c1, if_pos c2, if_neg hb, ne_eq, not_true_eq_false] at h
    by_cases c3 : 224 ≤ a.toNat ∧ a.toNat < 240
    · match t with
      | [] => simp only [charM, if_neg c1, if_neg c2, if_pos c3, ne_eq, not_true_eq_false] at h
      | [b] => simp only [charM, if_neg c1, if_neg c2, if_pos c3, ne_eq, not_true_eq_false] at h
      | b :: c :: t =>
        by_cases hb : (128 ≤ b.toNat ∧ b.toNat ≤ 191) ∧ (128 ≤ c.toNat ∧ c.toNat ≤ 191)
        · by_cases hr : 64 * (64 * ((a.toNat : Int) - 224) + b.toNat - 128) + c.toNat - 128 < 2048 ∨ (55296 ≤ 64 * (64 * ((a.toNat : Int) - 224) + b.toNat - 128) + c.toNat - 128 ∧ 64 * (64 * ((a.toNat : Int) - 224) + b.toNat - 128) + c.toNat - 128 ≤ 57343)
          · simp only [charM, if_neg c1, if_neg c2, if_pos c3, if_pos hb, if_pos hr, ne_eq, not_true_eq_false] at h
          · have e : charM (a :: b :: c :: t) = (64 * (64 * ((a.toNat : Int) - 224) + b.toNat - 128) + c.toNat - 128, 3) := by simp only [charM, if_neg c1, if_neg c2, if_pos c3, if_pos hb, if_neg hr]
            rw [e, enc_N (valid_of (by simp only []; omega) (by simp only []; omega) (by simp only []; omega))]
            simp only []
            have : (64 * (64 * ((a.toNat : Int) - 224) + b.toNat - 128) + c.toNat - 128).toNat = 4096 * (a.toNat - 224) + 64 * (b.toNat - 128) + (c.toNat - 128) := by omega
            rw [this]
            unfold encN
            rw [if_neg (by omega), if_neg (by omega), if_pos (by omega), u8_of (x := a) (by omega), u8_of (x := b) (by omega), u8_of (x := c) (by omega)]; rfl
        · simp only [charM, if_neg c1, if_neg c2, if_pos c3, if_neg hb, ne_eq, not_true_eq_false] at h
    by_cases c4 : 240 ≤ a.toNat ∧ a.toNat < 245
    · match t with
      | [] => simp only [charM, if_neg c1, if_neg c2, if_neg c3, if_pos c4, ne_eq, not_true_eq_false] at h
      | [b] => simp only [charM, if_neg c1, if_neg c2, if_neg c3, if_pos c4, ne_eq, not_true_eq_false] at h
      | [b, c] => simp only [charM, if_neg c1, if_neg c2, if_neg c3, if_pos c4, ne_eq, not_true_eq_false] at h
      | b :: c :: d :: t =>
        by_cases hb : (128 ≤ b.toNat ∧ b.toNat ≤ 191) ∧ (128 ≤ c.toNat ∧ c.toNat ≤ 191) ∧ (128 ≤ d.toNat ∧ d.toNat ≤ 191)
        · by_cases hr : 64 * (64 * (64 * ((a.toNat : Int) - 240) + b.toNat - 128) + c.toNat - 128) + d.toNat - 128 < 65536 ∨ 1114111 < 64 * (64 * (64 * ((a.toNat : Int) - 240) + b.toNat - 128) + c.toNat - 128) + d.toNat - 128
          · simp only [charM, if_neg c1, if_neg c2, if_neg c3, if_pos c4, if_pos hb, if_pos hr, ne_eq, not_true_eq_false] at h
          · have e : charM (a :: b :: c :: d :: t) = (64 * (64 * (64 * ((a.toNat : Int) - 240) + b.toNat - 128) + c.toNat - 128) + d.toNat - 128, 4) := by simp only [charM, if_neg c1, if_neg c2, if_neg c3, if_pos c4, if_pos hb, if_neg hr]
            rw [e, enc_N (valid_of (by simp only []; omega) (by simp only []; omega) (by simp only []; omega))]
            simp only []
            have : (64 * (64 * (64 * ((a.toNat : Int) - 240) + b.toNat - 128) + c.toNat - 128) + d.toNat - 128).toNat = 262144 * (a.toNat - 240) + 4096 * (b.toNat - 128) + 64 * (c.toNat - 128) + (d.toNat - 128) := by omega
            rw [this]
            unfold encN
            rw [if_neg (by omega), if_neg (by omega), if_neg (by omega), u8_of (x := a) (by omega), u8_of (x := b) (by omega), u8_of (x := c) (by omega), u8_of (x := d) (by omega)]; rfl
        · simp only [charM, if_neg c1, if_neg c2, if_neg c3, if_pos c4, if_neg hb, ne_eq, not_true_eq_false] at h
    · simp only [charM, if_neg c1, if_neg c2, if_neg c3, if_neg c4, ne_eq, not_true_eq_false] at h
theorem enc_runes : ∀ {s : List UInt8} {t : List Int}, runesM s = some t → encM t = s := by
  intro s
  induction s using (measure List.length).wf.induction with
  | _ s ih =>
    intro l h
    by_cases hn : s = []
    · subst hn; rw [runesM_nil] at h; cases h; rfl
    · by_cases h0 : (charM s).2 = 0
      · rw [runesM_none hn h0] at h; cases h
      · rw [runesM_step hn h0, Option.map_eq_some_iff] at h
        obtain ⟨l', hl', rfl⟩ := h
        have hp : s.length ≠ 0 := fun e => hn (List.eq_nil_of_length_eq_zero e)
        have := ih (s.drop (charM s).2) (by show (s.drop _).length < s.length; simp only [List.length_drop]; omega) hl'
        unfold encM at this ⊢
        rw [List.flatMap_cons, this, enc_char h0, List.take_append_drop]
/-- A character that is some text's. -/
def Good (c : Int) : Prop := ∃ s, (charM s).2 ≠ 0 ∧ (charM s).1 = c
theorem good_runes : ∀ {s : List UInt8} {t : List Int}, runesM s = some t → ∀ c ∈ t, Good c := by
  intro s
  induction s using (measure List.length).wf.induction with
  | _ s ih =>
    intro l h c hc
    by_cases hn : s = []
    · subst hn; rw [runesM_nil] at h; cases h; cases hc
    · by_cases h0 : (charM s).2 = 0
      · rw [runesM_none hn h0] at h; cases h
      · rw [runesM_step hn h0, Option.map_eq_some_iff] at h
        obtain ⟨l', hl', rfl⟩ := h
        have hp : s.length ≠ 0 := fun e => hn (List.eq_nil_of_length_eq_zero e)
        rcases List.mem_cons.1 hc with rfl | hc
        · exact ⟨s, h0, rfl⟩
        · exact ih (s.drop (charM s).2) (by show (s.drop _).length < s.length; simp only [List.length_drop]; omega) hl' c hc
theorem charM_take {s : List UInt8} (h : (charM s).2 ≠ 0) : charM (s.take (charM s).2) = charM s := by
  match s with
  | [] => rfl
  | a :: t =>
    by_cases c1 : a.toNat < 128
    · simp [charM, if_pos c1]
    by_cases c2 : 194 ≤ a.toNat ∧ a.toNat < 224
    · match t with
      | [] => simp only [charM, if_neg c1, if_pos c2, ne_eq, not_true_eq_false] at h
      | b :: t =>
        by_cases hb : 128 ≤ b.toNat ∧ b.toNat ≤ 191
        · have e : charM (a :: b :: t) = (64 * ((a.toNat : Int) - 192) + b.toNat - 128, 2) := by simp only [charM, if_neg c1, if_pos c2, if_pos hb]
          rw [e]
          simp only [List.take_succ_cons, List.take_zero, charM, if_neg c1, if_pos c2, if_pos hb]
        · simp only [charM, if_neg c1, if_pos c2, if_neg hb, ne_eq, not_true_eq_false] at h
    by_cases c3 : 224 ≤ a.toNat ∧ a.toNat < 240
    · match t with
      | [] => simp only [charM, if_neg c1, if_neg c2, if_pos c3, ne_eq, not_true_eq_false] at h
      | [b] => simp only [charM, if_neg c1, if_neg c2, if_pos c3, ne_eq, not_true_eq_false] at h
      | b :: c :: t =>
        by_cases hb : (128 ≤ b.toNat ∧ b.toNat ≤ 191) ∧ (128 ≤ c.toNat ∧ c.toNat ≤ 191)
        · by_cases hr : 64 * (64 * ((a.toNat : Int) - 224) + b.toNat - 128) + c.toNat - 128 < 2048 ∨ (55296 ≤ 64 * (64 * ((a.toNat : Int) - 224) + b.toNat - 128) + c.toNat - 128 ∧ 64 * (64 * ((a.toNat : Int) - 224) + b.toNat - 128) + c.toNat - 128 ≤ 57343)
          · simp only [charM, if_neg c1, if_neg c2, if_pos c3, if_pos hb, if_pos hr, ne_eq, not_true_eq_false] at h
          · have e : charM (a :: b :: c :: t) = (64 * (64 * ((a.toNat : Int) - 224) + b.toNat - 128) + c.toNat - 128, 3) := by simp only [charM, if_neg c1, if_neg c2, if_pos c3, if_pos hb, if_neg hr]
            rw [e]
            simp only [List.take_succ_cons, List.take_zero, charM, if_neg c1, if_neg c2, if_pos c3, if_pos hb, if_neg hr]
        · simp only [charM, if_neg c1, if_neg c2, if_pos c3, if_neg hb, ne_eq, not_true_eq_false] at h
    by_cases c4 : 240 ≤ a.toNat ∧ a.toNat < 245
    · match t with
      | [] => simp only [charM, if_neg c1, if_neg c2, if_neg c3, if_pos c4, ne_eq, not_true_eq_false] at h
      | [b] => simp only [charM, if_neg c1, if_neg c2, if_neg c3, if_pos c4, ne_eq, not_true_eq_false] at h
      | [b, c] => simp only [charM, if_neg c1, if_neg c2, if_neg c3, if_pos c4, ne_eq, not_true_eq_false] at h
      | b :: c :: d :: t =>
        by_cases hb : (128 ≤ b.toNat ∧ b.toNat ≤ 191) ∧ (128 ≤ c.toNat ∧ c.toNat ≤ 191) ∧ (128 ≤ d.toNat ∧ d.toNat ≤ 191)
        · by_cases hr : 64 * (64 * (64 * ((a.toNat : Int) - 240) + b.toNat - 128) + c.toNat - 128) + d.toNat - 128 < 65536 ∨ 1114111 < 64 * (64 * (64 * ((a.toNat : Int) - 240) + b.toNat - 128) + c.toNat - 128) + d.toNat - 128
          · simp only [charM, if_neg c1, if_neg c2, if_neg c3, if_pos c4, if_pos hb, if_pos hr, ne_eq, not_true_eq_false] at h
          · have e : charM (a :: b :: c :: d :: t) = (64 * (64 * (64 * ((a.toNat : Int) - 240) + b.toNat - 128) + c.toNat - 128) + d.toNat - 128, 4) := by simp only [charM, if_neg c1, if_neg c2, if_neg c3, if_pos c4, if_pos hb, if_neg hr]
            rw [e]
            simp only [List.take_succ_cons, List.take_zero, charM, if_neg c1, if_neg c2, if_neg c3, if_pos c4, if_pos hb, if_neg hr]
        · simp only [charM, if_neg c1, if_neg c2, if_neg c3, if_pos c4, if_neg hb, ne_eq, not_true_eq_false] at h
    · simp only [charM, if_neg c1, if_neg c2, if_neg c3, if_neg c4, ne_eq, not_true_eq_false] at h
theorem runes_enc : ∀ {o : List Int}, (∀ c ∈ o, Good c) → runesM (encM o) = some o
  | [], _ => by simp [encM, runesM_nil]
  | c :: o, h => by
    obtain ⟨s, h0, rfl⟩ := h c (List.mem_cons_self ..)
    have ih := runes_enc (o := o) (fun c hc => h c (List.mem_cons_of_mem _ hc))
    have he : encM ((charM s).1 :: o) = s.take (charM s).2 ++ encM o := by
      unfold encM; rw [List.flatMap_cons, enc_char h0]
    have hc : charM (s.take (charM s).2 ++ encM o) = charM s := by
      rw [charM_app (by rw [charM_take h0]; exact h0), charM_take h0]
    have hne : s.take (charM s).2 ++ encM o ≠ [] := fun e => by
      rw [e] at hc
      rw [← hc] at h0
      exact h0 rfl
    rw [he, runesM_step hne (by rw [hc]; exact h0), hc]
    have hl : (s.take (charM s).2).length = (charM s).2 := by rw [List.length_take]; have := charM_le s; omega
    rw [List.drop_append_of_le_length (by omega), List.drop_eq_nil_of_le (by omega), List.nil_append, ih]; rfl
end Go.Proofs.YtnafmjbakholcaaDoor.Q
