import Derived.Test.YtnafmjbakholcaaDoorQ8
import Derived.Test.YtnafmjbakholcaaDoorL
set_option linter.unusedVariables false
set_option linter.unusedSimpArgs false
set_option maxRecDepth 100000
namespace Go.Proofs.YtnafmjbakholcaaDoor.Q
open Go.EM Go.TY Go.Proofs Go.Proofs.YtnafmjbakholcaaDoor.Y Go.Proofs.YtnafmjbakholcaaDoor.K Go.Proofs.YtnafmjbakholcaaDoor.L
/-! ### what is matched -/
theorem part_le {p : List UInt8} : (partsR [] (pat p)).1.length ≤ 64 := by
  cases h : pat p with
  | none => simp [partsR]
  | some o => have := pat_le h; simpa [partsR] using this
open Classical in
theorem match_t {p s : List UInt8} (hp : p.length < 4294967295) (hs : s.length < 4294967295) : glob_Match p s = some (match pat p, runesM s with | some o, some t => decide (Mt o t) | _, _ => false) := by
  unfold glob_Match
  rw [parts_t (by omega), Option.bind_some, validString_t, Option.bind_some]
  cases hpa : pat p with
  | none => simp [partsR]
  | some o =>
    cases hra : runesM s with
    | none => simp [partsR, validM, hra]
    | some t =>
      have h1 := pat_le hpa
      have h2 := runesM_le hra
      simp only [partsR, validM, hra, Option.isSome_some, cond_true, List.nil_append]
      rw [runesT_t hra, fits_t (by omega) (by omega), Option.bind_some]
theorem right_t {p : List UInt8} (hp : p.length < 4294967295) : glob_Right p = some (pat p).isSome := by
  unfold glob_Right
  rw [parts_t (by omega), Option.bind_some]
  cases pat p <;> simp [partsR]
theorem text_t {p : List UInt8} (hp : p.length < 4294967295) : law37_text p = some ((runesM p).isSome && decide (p.length ≤ 100)) := by
  unfold law37_text
  rw [runes_t (by omega), Option.bind_some]
  unfold runesR
  cases runesM p with
  | none => simp
  | some l =>
    simp only [cond_true, Option.isSome_some, Bool.true_and]
    congr 1
    rw [decide_eq_decide]; omega
/-! ### one behind the other -/
theorem charM_app {s u : List UInt8} (h : (charM s).2 ≠ 0) : charM (s ++ u) = charM s := by
  match s with
  | [] => exact absurd rfl h
  | [a] =>
    simp only [charM, List.cons_append, List.nil_append] at h ⊢
    by_cases c1 : a.toNat < 128
    · simp only [if_pos c1]
    · simp only [if_neg c1, ite_self, ne_eq, not_true_eq_false] at h
  | [a, b] =>
    simp only [charM, List.cons_append, List.nil_append] at h ⊢
    by_cases c1 : a.toNat < 128
    · simp only [if_pos c1]
    · by_cases c2 : 194 ≤ a.toNat ∧ a.toNat < 224
      · simp only [if_neg c1, if_pos c2]
      · simp only [if_neg c1, if_neg c2, ite_self, ne_eq, not_true_eq_false] at h
  | [a, b, c] =>
    simp only [charM, List.cons_append, List.nil_append] at h ⊢
    by_cases c1 : a.toNat < 128
    · simp only [if_pos c1]
    · by_cases c2 : 194 ≤ a.toNat ∧ a.toNat < 224
      · simp only [if_neg c1, if_pos c2]
      · by_cases c3 : 224 ≤ a.toNat ∧ a.toNat < 240
        · simp only [if_neg c1, if_neg c2, if_pos c3]
        · simp only [if_neg c1, if_neg c2, if_neg c3, ite_self, ne_eq, not_true_eq_false] at h
  | a :: b :: c :: d :: t => simp only [charM, List.cons_append]
theorem runesM_app : ∀ {s : List UInt8} {l : List Int} {u : List UInt8}, runesM s = some l → runesM (s ++ u) = (runesM u).map fun l' => l ++ l' := by
  intro s
  induction s using (measure List.length).wf.induction with
  | _ s ih =>
    intro l u h
    by_cases hn : s = []
    · subst hn; rw [runesM_nil] at h; cases h; rw [List.nil_append]; cases runesM u <;> rfl
    · by_cases h0 : (charM s).2 = 0
      · rw [runesM_none hn h0] at h; cases h
      · rw [runesM_step hn h0, Option.map_eq_some_iff] at h
        obtain ⟨l', hl', rfl⟩ := h
        have hp : s.length ≠ 0 := fun e => hn (List.eq_nil_of_length_eq_zero e)
        have hle := charM_le s
        have := ih (s.drop (charM s).2) (by show (s.drop _).length < s.length; simp only [List.length_drop]; omega) (u := u) hl'
        rw [runesM_step (s := s ++ u) (by simp [hn]) (by rw [charM_app h0]; exact h0), charM_app h0, List.drop_append_of_le_length hle, this]
        cases runesM u <;> simp
theorem partsM_app : ∀ (n : Nat) {l o l' : List Int}, l.length ≤ n → partsM l = some o → partsM (l ++ l') = (partsM l').map fun o' => o ++ o' := by
  intro n
  have h0 : ∀ {o l' : List Int}, partsM [] = some o → partsM ([] ++ l') = (partsM l').map fun o' => o ++ o' := by
    intro o l' h
    simp [partsM] at h; subst h; simp
  induction n with
  | zero =>
    intro l o l' hn h
    have : l = [] := List.eq_nil_of_length_eq_zero (by omega)
    subst this; exact h0 h
  | succ n ih =>
    intro l o l' hn h
    cases l with
    | nil => exact h0 h
    | cons c t =>
      simp only [List.length_cons] at hn
      have key : ∀ {x : Int} {t' : List Int}, t'.length ≤ t.length → ((partsM t').map fun o => x :: o) = some o → ((partsM (t' ++ l')).map fun o => x :: o) = (partsM l').map fun o' => o ++ o' := by
        intro x t' ht' e
        rw [Option.map_eq_some_iff] at e
        obtain ⟨o', h1, rfl⟩ := e
        rw [ih (by omega) h1]
        cases partsM l' <;> simp
      rw [List.cons_append, partsM_cons]
      rw [partsM_cons] at h
      by_cases c1 : c = 42
      · rw [if_pos c1] at h ⊢; exact key (Nat.le_refl _) h
      · by_cases c2 : c = 63
        · rw [if_neg c1, if_pos c2] at h ⊢; exact key (Nat.le_refl _) h
        · by_cases c3 : c = 92
          · rw [if_neg c1, if_neg c2, if_pos c3] at h ⊢
            cases t with
            | nil => cases h
            | cons d t' =>
              simp only [List.cons_append] at h ⊢
              by_cases hs : spec d = true
              · rw [if_pos hs] at h ⊢; exact key (by simp) h
              · rw [if_neg hs] at h; cases h
          · rw [if_neg c1, if_neg c2, if_neg c3] at h ⊢; exact key (Nat.le_refl _) h
theorem runes_zero {s : List UInt8} {t : List Int} (h : runesM s = some t) : t = [] ↔ s = [] := by
  by_cases hn : s = []
  · subst hn; rw [runesM_nil] at h; cases h; simp
  · by_cases h0 : (charM s).2 = 0
    · rw [runesM_none hn h0] at h; cases h
    · rw [runesM_step hn h0, Option.map_eq_some_iff] at h
      obtain ⟨l', hl', rfl⟩ := h
      simp [hn]
theorem pat_nil : pat [] = some [] := by unfold pat; rw [runesM_nil]; simp [partsM]
theorem runesM_ascii {a : UInt8} {t : List UInt8} (h : a.toNat < 128) : runesM (a :: t) = (runesM t).map fun l => (a.toNat : Int) :: l := by
  have hc : charM (a :: t) = ((a.toNat : Int), 1) := by simp only [charM, if_pos h]
  rw [runesM_step (by simp) (by rw [hc]; simp), hc]; rfl
theorem pat_star : pat [42] = some [-2] := by
  unfold pat
  rw [runesM_ascii (by decide), runesM_nil]
  simp [partsM_cons, partsM]
theorem Mt_all {t : List Int} : Mt [-2] t := Mt_star.2 ⟨t.length, by simp [Mt_nil]⟩
theorem pat_app {p q : List UInt8} {o o' : List Int} (h : pat p = some o) (h' : pat q = some o') : pat (p ++ q) = none ∨ pat (p ++ q) = some (o ++ o') := by
  unfold pat at h h' ⊢
  rw [Option.bind_eq_some_iff] at h h'
  obtain ⟨l, h1, h2⟩ := h
  obtain ⟨l', h3, h4⟩ := h'
  rw [runesM_app h1, h3]
  simp only [Option.map_some, Option.bind_some]
  split at h2
  · cases h2
  · split at h4
    · cases h4
    · split
      · exact Or.inl rfl
      · right
        rw [partsM_app l.length (Nat.le_refl _) h2, h4]; rfl
theorem awake_t : law37_awake = some true := rfl
theorem joins_t {p q s t : List UInt8} (hp : p.length < 4294967295) (hq : q.length < 4294967295) (hs : s.length < 4294967295) (ht : t.length < 4294967295) : law37_GlobJoins p q s t = some true := by
  unfold law37_GlobJoins
  simp only [text_t hp, text_t hq, text_t hs, text_t ht, right_t hp, right_t hq, awake_t, Option.bind_some]
  cases hp1 : (runesM p).isSome && decide (p.length ≤ 100)
  · simp
  cases hq1 : (runesM q).isSome && decide (q.length ≤ 100)
  · simp
  cases hs1 : (runesM s).isSome && decide (s.length ≤ 100)
  · simp
  cases ht1 : (runesM t).isSome && decide (t.length ≤ 100)
  · simp
  simp only [Bool.not_true, cond_false, Option.bind_some]
  simp only [Bool.and_eq_true, decide_eq_true_eq] at hp1 hq1 hs1 ht1
  cases hpp : pat p with
  | none => simp
  | some o =>
    cases hqq : pat q with
    | none => simp
    | some o' =>
      obtain ⟨a, ha⟩ := Option.isSome_iff_exists.1 hs1.1
      obtain ⟨b, hb⟩ := Option.isSome_iff_exists.1 ht1.1
      have hst : runesM (s ++ t) = some (a ++ b) := by rw [runesM_app ha, hb]; rfl
      have hz := runes_zero ha
      simp only [Option.isSome_some, Bool.not_true, cond_false]
      have e1 : (p ++ q).length < 4294967295 := by rw [List.length_append]; omega
      have e2 : (s ++ t).length < 4294967295 := by rw [List.length_append]; omega
      rw [catT_some (by omega), Option.bind_some, catT_some (by omega), right_t e1, match_t hp hs, match_t hq ht, match_t (p := [42]) (by decide) hs, match_t (p := []) (by decide) hs]
      simp only [match_t e1 e2, Option.bind_some]
      simp only [hpp, hqq, ha, hb, hst, pat_nil, pat_star, Option.bind_some, Mt_all, decide_true, cond_true, Mt_nil]
      have hend : ((decide (a = [])) == decide (s = [])) = true := by
        rw [beq_iff_eq, decide_eq_decide]; exact hz
      simp only [hend, cond_true]
      rcases pat_app hpp hqq with hn | hn
      · simp [hn]
      · simp only [hn, Option.isSome_some, cond_true, Option.bind_some]
        by_cases m1 : Mt o a
        · by_cases m2 : Mt o' b
          · have : Mt (o ++ o') (a ++ b) := Mt_app.2 ⟨a, b, rfl, m1, m2⟩
            simp [m1, m2, this]
          · simp [m1, m2]
        · simp [m1]
end Go.Proofs.YtnafmjbakholcaaDoor.Q
