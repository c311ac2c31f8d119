import Derived.Test.YtnafmjbakholcaaDoorQ7
import Derived.Test.YtnafmjbakholcaaDoorL
set_option linter.unusedVariables false
set_option linter.unusedSimpArgs false
set_option maxRecDepth 100000
namespace Go.Proofs.YtnafmjbakholcaaDoor.Q
open Go.EM Go.TY Go.Proofs Go.Proofs.YtnafmjbakholcaaDoor.Y
/-! ### the document's row of truths -/
theorem Mt_last_star {P t : List Int} {i : Nat} : Mt (P ++ [-2]) (t.take (i + 1)) ↔ Mt P (t.take (i + 1)) ∨ Mt (P ++ [-2]) (t.take i) := by
  have key : ∀ i : Nat, Mt (P ++ [-2]) (t.take i) ↔ ∃ j, j ≤ i ∧ Mt P (t.take j) := by
    intro i
    rw [Mt_app]
    constructor
    · rintro ⟨a, b, h1, h2, h3⟩
      by_cases hl : a.length ≤ i
      · refine ⟨a.length, hl, ?_⟩
        have : t.take a.length = a := by
          have := congrArg (List.take a.length) h1
          rw [List.take_take, Nat.min_eq_left hl, List.take_left] at this
          exact this
        rw [this]; exact h2
      · exfalso
        have := congrArg List.length h1
        simp only [List.length_append, List.length_take] at this
        omega
    · rintro ⟨j, hj, h⟩
      refine ⟨t.take j, (t.take i).drop j, ?_, h, ⟨(t.take i).drop j, [], by simp, one_star, rfl⟩⟩
      have := List.take_append_drop j (t.take i)
      rw [List.take_take, Nat.min_eq_left hj] at this
      exact this.symm
  rw [key, key]
  constructor
  · rintro ⟨j, hj, h⟩
    by_cases e : j = i + 1
    · subst e; exact Or.inl h
    · exact Or.inr ⟨j, by omega, h⟩
  · rintro (h | ⟨j, hj, h⟩)
    · exact ⟨i + 1, Nat.le_refl _, h⟩
    · exact ⟨j, by omega, h⟩
theorem Mt_last_star0 {P : List Int} : Mt (P ++ [-2]) [] ↔ Mt P [] := by
  rw [Mt_app]
  constructor
  · rintro ⟨a, b, h1, h2, h3⟩
    have := List.append_eq_nil_iff.1 h1.symm
    rw [this.1] at h2; exact h2
  · intro h; exact ⟨[], [], rfl, h, [], [], rfl, one_star, rfl⟩
theorem Mt_last_one {P t : List Int} {i : Nat} {c : Int} (hc : c ≠ -2) (hi : i < t.length) : Mt (P ++ [c]) (t.take (i + 1)) ↔ Mt P (t.take i) ∧ (c = -1 ∨ c = t[i]) := by
  have e : t.take (i + 1) = t.take i ++ [t[i]] := by rw [List.take_add_one, List.getElem?_eq_getElem hi]; rfl
  rw [Mt_app, e]
  constructor
  · rintro ⟨a, b, h1, h2, h3⟩
    rw [Mt_one hc] at h3
    obtain ⟨x, b', rfl, h4, h5⟩ := h3
    cases (Mt_nil.1 h5)
    obtain ⟨h6, h7⟩ := List.append_inj' h1 rfl
    cases h7
    rw [h6]; exact ⟨h2, h4⟩
  · rintro ⟨h1, h2⟩
    exact ⟨_, _, rfl, h1, (Mt_one hc).2 ⟨_, [], rfl, h2, rfl⟩⟩
theorem Mt_last_one0 {P : List Int} {c : Int} (hc : c ≠ -2) : ¬ Mt (P ++ [c]) [] := by
  rw [Mt_app]
  rintro ⟨a, b, h1, h2, h3⟩
  rw [Mt_one hc] at h3
  obtain ⟨x, b', rfl, h4, h5⟩ := h3
  have := List.append_eq_nil_iff.1 h1.symm
  cases this.2
open Classical in
noncomputable def gM (P t : List Int) (i : Nat) : Bool := decide (Mt P (t.take i))
open Classical in
theorem gM_star {P t : List Int} {i : Nat} : gM (P ++ [-2]) t (i + 1) = (gM P t (i + 1) || gM (P ++ [-2]) t i) := by
  unfold gM
  rw [← Bool.decide_or, decide_eq_decide]; exact Mt_last_star
theorem gM_star0 {P t : List Int} : gM (P ++ [-2]) t 0 = gM P t 0 := by
  unfold gM
  rw [decide_eq_decide, List.take_zero]; exact Mt_last_star0
open Classical in
theorem gM_one {P t : List Int} {i : Nat} {c : Int} (hc : c ≠ -2) (hi : i < t.length) : gM (P ++ [c]) t (i + 1) = (gM P t i && (decide (c = -1) || decide (c = t[i]))) := by
  unfold gM
  rw [← Bool.decide_or, ← Bool.decide_and, decide_eq_decide]; exact Mt_last_one hc hi
theorem gM_one0 {P t : List Int} {c : Int} (hc : c ≠ -2) : gM (P ++ [c]) t 0 = false := by
  unfold gM
  rw [decide_eq_false_iff_not, List.take_zero]; exact Mt_last_one0 hc
def RowM (n : Nat) (f : Nat → Bool) (row : List Bool) : Prop := row.length = n + 1 ∧ ∀ j, j ≤ n → row[j]? = some (f j)
theorem set_row {n i : Nat} {f : Nat → Bool} {nx : List Bool} (h1 : nx.length = n + 1) (h2 : ∀ j, j < i → nx[j]? = some (f j)) (hi : i ≤ n) : (nx.set i (f i)).length = n + 1 ∧ ∀ j, j < i + 1 → (nx.set i (f i))[j]? = some (f j) := by
  refine ⟨by simpa using h1, ?_⟩
  intro j hj
  by_cases e : i = j
  · subst e; rw [List.getElem?_set_self (by omega)]
  · rw [List.getElem?_set_ne e]; exact h2 j (by omega)
theorem inner {o t : List Int} {r1 r2 : List Int × Bool × Unit} (h1 : r1.1 = o) (h2 : r2.1 = t) (ho : o.length < 4294967296) (ht : t.length < 4294967295) {k : Nat} (hk : k < o.length) {y8 : Int × List Bool × Unit} (hy : y8.1 = k) {row : List Bool} (hr : RowM t.length (gM (o.take k) t) row) :
    ∀ (m i : Nat) (nx : List Bool), t.length + 1 - i ≤ m → i ≤ t.length + 1 → nx.length = t.length + 1 → (∀ j, j < i → nx[j]? = some (gM (o.take (k + 1)) t j)) →
      ∃ nx', RowM t.length (gM (o.take (k + 1)) t) nx' ∧ loopT (ref37_Match_l12 y8 r1 r2) ((i : Int), row, nx, ()) = some (.inl (((k + 1 : Nat) : Int), nx', ())) := by
  have hok : o[k]? = some o[k] := List.getElem?_eq_getElem hk
  have htk : o.take (k + 1) = o.take k ++ [o[k]] := by rw [List.take_add_one, hok]; rfl
  have fin : ∀ (i : Nat) (nx : List Bool), ¬ i ≤ t.length → nx.length = t.length + 1 → (∀ j, j < i → nx[j]? = some (gM (o.take (k + 1)) t j)) →
      ∃ nx', RowM t.length (gM (o.take (k + 1)) t) nx' ∧ loopT (ref37_Match_l12 y8 r1 r2) ((i : Int), row, nx, ()) = some (.inl (((k + 1 : Nat) : Int), nx', ())) := by
    intro i nx hi hl hn
    refine ⟨nx, ⟨hl, fun j hj => hn j (by omega)⟩, loopT_inr ?_⟩
    unfold ref37_Match_l12
    rw [cond_dec, if_neg (by rw [h2]; simp only []; omega), hy, wrap64 (by omega) (by omega)]; rfl
  intro m
  induction m with
  | zero => intro i nx hm hi hl hn; exact fin i nx (by omega) hl hn
  | succ m ih =>
    intro i nx hm hi hl hn
    by_cases hlt : i ≤ t.length
    · have go : ref37_Match_l12 y8 r1 r2 ((i : Int), row, nx, ()) = some (.inl (((i + 1 : Nat) : Int), row, nx.set i (gM (o.take (k + 1)) t i), ())) := by
        have w1 : IntKind.wrap .i64 ((i : Int) + 1) = ((i + 1 : Nat) : Int) := by rw [wrap64 (by omega) (by omega)]; rfl
        have hri := hr.2 i hlt
        obtain ⟨b0, hb0⟩ : ∃ b0, nx[i]? = some b0 := ⟨_, List.getElem?_eq_getElem (by omega)⟩
        have hin : inI nx.length (i : Int) = some i := inI_nat (by omega)
        have hir : inI row.length (i : Int) = some i := inI_nat (by have := hr.1; omega)
        unfold ref37_Match_l12
        rw [cond_dec, if_pos (by rw [h2]; simp only []; omega)]
        simp only [hy, h1, h2, atI_nat, hok, Option.bind_some, cond_dec, w1, hri, hin, hir, hb0]
        cases i with
        | zero =>
          simp only [Int.natCast_zero, gt_iff_lt, Int.lt_irrefl, if_false, Option.bind_some, cond_false, htk]
          by_cases hc : o[k] = -2
          · rw [if_pos hc, hc, gM_star0]
            cases gM (o.take k) t 0 <;> rfl
          · rw [if_neg hc, gM_one0 hc]
            have hin0 : inI nx.length 0 = some 0 := hin
            rw [hin0, Option.bind_some, hb0, Option.bind_some]
        | succ i =>
          have hg : ((i + 1 : Nat) : Int) > 0 := by omega
          have w2 : IntKind.wrap .i64 (((i + 1 : Nat) : Int) - 1) = (i : Int) := by rw [wrap64 (by omega) (by omega)]; omega
          have hri' := hr.2 i (by omega)
          have hni := hn i (by omega)
          have hin' : inI nx.length (i : Int) = some i := inI_nat (by omega)
          have hir' : inI row.length (i : Int) = some i := inI_nat (by have := hr.1; omega)
          have hti : t[i]? = some t[i] := List.getElem?_eq_getElem (by omega)
          simp only [if_pos hg, w2, hin', hir', Option.bind_some, hni, hri', atI_nat, hti, hin, hb0]
          by_cases hc : o[k] = -2
          · have hgs : gM (o.take (k + 1)) t (i + 1) = (gM (o.take k) t (i + 1) || gM (o.take (k + 1)) t i) := by rw [htk, hc]; exact gM_star
            rw [if_pos hc, hgs]
            cases gM (o.take k) t (i + 1) <;> rfl
          · have hgs : gM (o.take (k + 1)) t (i + 1) = (gM (o.take k) t i && (decide (o[k] = -1) || decide (o[k] = t[i]))) := by rw [htk]; exact gM_one hc (by omega)
            rw [if_neg hc, hgs]
            cases gM (o.take k) t i
            · rfl
            · by_cases h5 : o[k] = -1
              · simp [h5]
              · simp [h5]
      obtain ⟨a1, a2⟩ := set_row hl hn hlt
      rw [loopT_inl go]
      exact ih (i + 1) _ (by omega) (by omega) a1 a2
    · exact fin i nx hlt hl hn
theorem outer {o t : List Int} {r1 r2 : List Int × Bool × Unit} (h1 : r1.1 = o) (h2 : r2.1 = t) (ho : o.length < 4294967296) (ht : t.length < 4294967295) :
    ∀ (m k : Nat) (row : List Bool), o.length - k ≤ m → k ≤ o.length → RowM t.length (gM (o.take k) t) row →
      ∃ row', RowM t.length (gM o t) row' ∧ loopT (ref37_Match_l8 r1 r2) ((k : Int), row, ()) = some (.inl (row', ())) := by
  have fin : ∀ (k : Nat) (row : List Bool), ¬ k < o.length → RowM t.length (gM (o.take k) t) row →
      ∃ row', RowM t.length (gM o t) row' ∧ loopT (ref37_Match_l8 r1 r2) ((k : Int), row, ()) = some (.inl (row', ())) := by
    intro k row hk hr
    refine ⟨row, by rw [List.take_of_length_le (by omega)] at hr; exact hr, loopT_inr ?_⟩
    unfold ref37_Match_l8
    rw [cond_dec, if_neg (by rw [h1]; simp only []; omega)]
  intro m
  induction m with
  | zero => intro k row hm hk hr; exact fin k row (by omega) hr
  | succ m ih =>
    intro k row hm hk hr
    by_cases hlt : k < o.length
    · have w : IntKind.wrap .i64 ((t.length : Int) + 1) = ((t.length + 1 : Nat) : Int) := by rw [wrap64 (by omega) (by omega)]; rfl
      obtain ⟨nx', a1, a2⟩ := inner h1 h2 ho ht hlt (y8 := ((k : Int), row, ())) rfl hr (t.length + 1) 0 (List.replicate (t.length + 1) false) (by omega) (by omega) (by simp) (by intro j hj; omega)
      obtain ⟨row', b1, b2⟩ := ih (k + 1) nx' (by omega) (by omega) a1
      refine ⟨row', b1, ?_⟩
      rw [loopT_inl (b := (((k + 1 : Nat) : Int), nx', ())), b2]
      unfold ref37_Match_l8
      rw [cond_dec, if_pos (by rw [h1]; simp only []; omega), h2, w, mkT_nat (by omega), Option.bind_some, Int.toNat_natCast]
      exact a2
    · exact fin k row hlt hr
open Classical in
theorem refMatch_t {p s : List UInt8} (hp : p.length < 4294967295) (hs : s.length < 4294967295) : ref37_Match p s = some (match pat p, runesM s with | some o, some t => decide (Mt o t) | _, _ => false) := by
  unfold ref37_Match
  rw [refParts_t (by omega), Option.bind_some, runes_t (by omega), Option.bind_some]
  unfold runesR
  cases hpa : pat p with
  | none => simp
  | some o =>
    cases hra : runesM s with
    | none => simp
    | some t =>
      have ho : o.length < 4294967296 := by
        have := pat_le hpa; omega
      have ht : t.length < 4294967295 := by have := runesM_le hra; omega
      have w : IntKind.wrap .i64 ((t.length : Int) + 1) = ((t.length + 1 : Nat) : Int) := by rw [wrap64 (by omega) (by omega)]; rfl
      have h0 : ∀ P : List Int, gM [] t 0 = true := by intro _; unfold gM; rw [decide_eq_true_eq, List.take_zero]; exact rfl
      have hrow : RowM t.length (gM (o.take 0) t) ((List.replicate (t.length + 1) false).set 0 true) := by
        refine ⟨by simp, ?_⟩
        intro j hj
        cases j with
        | zero => rw [List.getElem?_set_self (by simp), List.take_zero, h0 []]
        | succ j =>
          rw [List.getElem?_set_ne (by omega), List.getElem?_replicate, if_pos (by omega)]
          congr 1
          unfold gM
          rw [eq_comm, decide_eq_false_iff_not, List.take_zero, Mt_nil]
          intro e
          have := congrArg List.length e
          simp only [List.length_take, List.length_nil] at this
          omega
      obtain ⟨row', b1, b2⟩ := outer (r1 := (o, true, ())) (r2 := (t, true, ())) rfl rfl ho ht o.length 0 _ (by simp only []; omega) (by simp only []; omega) hrow
      simp only [Bool.not_true, cond_false, List.nil_append]
      rw [w, mkT_nat (by omega), Option.bind_some, Int.toNat_natCast, List.length_replicate]
      have i0 : inI (t.length + 1) 0 = some 0 := inI_nat (i := 0) (by omega)
      rw [i0, Option.bind_some, List.getElem?_replicate, if_pos (by omega), Option.bind_some]
      have b2' : loopT (ref37_Match_l8 (o, true, ()) (t, true, ())) (0, (List.replicate (t.length + 1) false).set 0 true, ()) = some (.inl (row', ())) := b2
      rw [b2', Option.bind_some, joinS_inl]
      simp only []
      rw [inI_nat (by have := b1.1; simp only [] at this ⊢; omega), Option.bind_some, b1.2 _ (Nat.le_refl _), Option.bind_some]
      unfold gM
      rw [List.take_length]
end Go.Proofs.YtnafmjbakholcaaDoor.Q

set_option linter.unusedVariables false
set_option linter.unusedSimpArgs false
set_option maxRecDepth 100000
namespace Go.Proofs.YtnafmjbakholcaaDoor.Q
open Go.EM Go.TY Go.Proofs Go.Proofs.YtnafmjbakholcaaDoor.Y Go.Proofs.YtnafmjbakholcaaDoor.K Go.Proofs.YtnafmjbakholcaaDoor.L
/-! ### what is matched -/
theorem part_le {p : List UInt8} : (partsR [] (pat p)).1.length ≤ 64 := by
  cases h : pat p with
  | none => simp [partsR]
  | some o => have := pat_le h; simpa [partsR] using this
open Classical in
theorem match_t {p s : List UInt8} (hp : p.length < 4294967295) (hs : s.length < 4294967295) : glob_Match p s = some (match pat p, runesM s with | some o, some t => decide (Mt o t) | _, _ => false) := by
  unfold glob_Match
  rw [parts_t (by omega), Option.bind_some, validString_t, Option.bind_some]
  cases hpa : pat p with
  | none => simp [partsR]
  | some o =>
    cases hra : runesM s with
    | none => simp [partsR, validM, hra]
    | some t =>
      have h1 := pat_le hpa
      have h2 := runesM_le hra
      simp only [partsR, validM, hra, Option.isSome_some, cond_true, List.nil_append]
      rw [runesT_t hra, fits_t (by omega) (by omega), Option.bind_some]
theorem right_t {p : List UInt8} (hp : p.length < 4294967295) : glob_Right p = some (pat p).isSome := by
  unfold glob_Right
  rw [parts_t (by omega), Option.bind_some]
  cases pat p <;> simp [partsR]
theorem text_t {p : List UInt8} (hp : p.length < 4294967295) : law37_text p = some ((runesM p).isSome && decide (p.length ≤ 100)) := by
  unfold law37_text
  rw [runes_t (by omega), Option.bind_some]
  unfold runesR
  cases runesM p with
  | none => simp
  | some l =>
    simp only [cond_true, Option.isSome_some, Bool.true_and]
    congr 1
    rw [decide_eq_decide]; omega
/-! ### one behind the other -/
theorem charM_app {s u : List UInt8} (h : (charM s).2 ≠ 0) : charM (s ++ u) = charM s := by
  match s with
  | [] => exact absurd rfl h
  | [a] =>
    simp only [charM, List.cons_append, List.nil_append] at h ⊢
    by_cases c1 : a.toNat < 128
    · simp only [if_pos c1]
    · simp only [if_neg c1, ite_self, ne_eq, not_true_eq_false] at h
  | [a, b] =>
    simp only [charM, List.cons_append, List.nil_append] at h ⊢
    by_cases c1 : a.toNat < 128
    · simp only [if_pos c1]
    · by_cases c2 : 194 ≤ a.toNat ∧ a.toNat < 224
      · simp only [if_neg c1, if_pos c2]
      · simp only [if_neg c1, if_neg c2, ite_self, ne_eq, not_true_eq_false] at h
  | [a, b, c] =>
    simp only [charM, List.cons_append, List.nil_append] at h ⊢
    by_cases c1 : a.toNat < 128
    · simp only [if_pos c1]
    · by_cases c2 : 194 ≤ a.toNat ∧ a.toNat < 224
      · simp only [if_neg c1, if_pos c2]
      · by_cases c3 : 224 ≤ a.toNat ∧ a.toNat < 240
        · simp only [if_neg c1, if_neg c2, if_pos c3]
        · simp only [if_neg c1, if_neg c2, if_neg c3, ite_self, ne_eq, not_true_eq_false] at h
  | a :: b :: c :: d :: t => simp only [charM, List.cons_append]
theorem runesM_app : ∀ {s : List UInt8} {l : List Int} {u : List UInt8}, runesM s = some l → runesM (s ++ u) = (runesM u).map fun l' => l ++ l' := by
  intro s
  induction s using (measure List.length).wf.induction with
  | _ s ih =>
    intro l u h
    by_cases hn : s = []
    · subst hn; rw [runesM_nil] at h; cases h; rw [List.nil_append]; cases runesM u <;> rfl
    · by_cases h0 : (charM s).2 = 0
      · rw [runesM_none hn h0] at h; cases h
      · rw [runesM_step hn h0, Option.map_eq_some_iff] at h
        obtain ⟨l', hl', rfl⟩ := h
        have hp : s.length ≠ 0 := fun e => hn (List.eq_nil_of_length_eq_zero e)
        have hle := charM_le s
        have := ih (s.drop (charM s).2) (by show (s.drop _).length < s.length; simp only [List.length_drop]; omega) (u := u) hl'
        rw [runesM_step (s := s ++ u) (by simp [hn]) (by rw [charM_app h0]; exact h0), charM_app h0, List.drop_append_of_le_length hle, this]
        cases runesM u <;> simp
theorem partsM_app : ∀ (n : Nat) {l o l' : List Int}, l.length ≤ n → partsM l = some o → partsM (l ++ l') = (partsM l').map fun o' => o ++ o' := by
  intro n
  have h0 : ∀ {o l' : List Int}, partsM [] = some o → partsM ([] ++ l') = (partsM l').map fun o' => o ++ o' := by
    intro o l' h
    simp [partsM] at h; subst h; simp
  induction n with
  | zero =>
    intro l o l' hn h
    have : l = [] := List.eq_nil_of_length_eq_zero (by omega)
    subst this; exact h0 h
  | succ n ih =>
    intro l o l' hn h
    cases l with
    | nil => exact h0 h
    | cons c t =>
      simp only [List.length_cons] at hn
      have key : ∀ {x : Int} {t' : List Int}, t'.length ≤ t.length → ((partsM t').map fun o => x :: o) = some o → ((partsM (t' ++ l')).map fun o => x :: o) = (partsM l').map fun o' => o ++ o' := by
        intro x t' ht' e
        rw [Option.map_eq_some_iff] at e
        obtain ⟨o', h1, rfl⟩ := e
        rw [ih (by omega) h1]
        cases partsM l' <;> simp
      rw [List.cons_append, partsM_cons]
      rw [partsM_cons] at h
      by_cases c1 : c = 42
      · rw [if_pos c1] at h ⊢; exact key (Nat.le_refl _) h
      · by_cases c2 : c = 63
        · rw [if_neg c1, if_pos c2] at h ⊢; exact key (Nat.le_refl _) h
        · by_cases c3 : c = 92
          · rw [if_neg c1, if_neg c2, if_pos c3] at h ⊢
            cases t with
            | nil => cases h
            | cons d t' =>
              simp only [List.cons_append] at h ⊢
              by_cases hs : spec d = true
              · rw [if_pos hs] at h ⊢; exact key (by simp) h
              · rw [if_neg hs] at h; cases h
          · rw [if_neg c1, if_neg c2, if_neg c3] at h ⊢; exact key (Nat.le_refl _) h
theorem runes_zero {s : List UInt8} {t : List Int} (h : runesM s = some t) : t = [] ↔ s = [] := by
  by_cases hn : s = []
  · subst hn; rw [runesM_nil] at h; cases h; simp
  · by_cases h0 : (charM s).2 = 0
    · rw [runesM_none hn h0] at h; cases h
    · rw [runesM_step hn h0, Option.map_eq_some_iff] at h
      obtain ⟨l', hl', rfl⟩ := h
      simp [hn]
theorem pat_nil : pat [] = some [] := by unfold pat; rw [runesM_nil]; simp [partsM]
theorem runesM_ascii {a : UInt8} {t : List UInt8} (h : a.toNat < 128) : runesM (a :: t) = (runesM t).map fun l => (a.toNat : Int) :: l := by
  have hc : charM (a :: t) = ((a.toNat : Int), 1) := by simp only [charM, if_pos h]
  rw [runesM_step (by simp) (by rw [hc]; simp), hc]; rfl
theorem pat_star : pat [42] = some [-2] := by
  unfold pat
  rw [runesM_ascii (by decide), runesM_nil]
  simp [partsM_cons, partsM]
theorem Mt_all {t : List Int} : Mt [-2] t := Mt_star.2 ⟨t.length, by simp [Mt_nil]⟩
theorem pat_app {p q : List UInt8} {o o' : List Int} (h : pat p = some o) (h' : pat q = some o') : pat (p ++ q) = none ∨ pat (p ++ q) = some (o ++ o') := by
  unfold pat at h h' ⊢
  rw [Option.bind_eq_some_iff] at h h'
  obtain ⟨l, h1, h2⟩ := h
  obtain ⟨l', h3, h4⟩ := h'
  rw [runesM_app h1, h3]
  simp only [Option.map_some, Option.bind_some]
  split at h2
  · cases h2
  · split at h4
    · cases h4
    · split
      · exact Or.inl rfl
      · right
        rw [partsM_app l.length (Nat.le_refl _) h2, h4]; rfl
theorem awake_t : law37_awake = some true := rfl
theorem joins_t {p q s t : List UInt8} (hp : p.length < 4294967295) (hq : q.length < 4294967295) (hs : s.length < 4294967295) (ht : t.length < 4294967295) : law37_GlobJoins p q s t = some true := by
  unfold law37_GlobJoins
  simp only [text_t hp, text_t hq, text_t hs, text_t ht, right_t hp, right_t hq, awake_t, Option.bind_some]
  cases hp1 : (runesM p).isSome && decide (p.length ≤ 100)
  · simp
  cases hq1 : (runesM q).isSome && decide (q.length ≤ 100)
  · simp
  cases hs1 : (runesM s).isSome && decide (s.length ≤ 100)
  · simp
  cases ht1 : (runesM t).isSome && decide (t.length ≤ 100)
  · simp
  simp only [Bool.not_true, cond_false, Option.bind_some]
  simp only [Bool.and_eq_true, decide_eq_true_eq] at hp1 hq1 hs1 ht1
  cases hpp : pat p with
  | none => simp
  | some o =>
    cases hqq : pat q with
    | none => simp
    | some o' =>
      obtain ⟨a, ha⟩ := Option.isSome_iff_exists.1 hs1.1
      obtain ⟨b, hb⟩ := Option.isSome_iff_exists.1 ht1.1
      have hst : runesM (s ++ t) = some (a ++ b) := by rw [runesM_app ha, hb]; rfl
      have hz := runes_zero ha
      simp only [Option.isSome_some, Bool.not_true, cond_false]
      have e1 : (p ++ q).length < 4294967295 := by rw [List.length_append]; omega
      have e2 : (s ++ t).length < 4294967295 := by rw [List.length_append]; omega
      rw [catT_some (by omega), Option.bind_some, catT_some (by omega), right_t e1, match_t hp hs, match_t hq ht, match_t (p := [42]) (by decide) hs, match_t (p := []) (by decide) hs]
      simp only [match_t e1 e2, Option.bind_some]
      simp only [hpp, hqq, ha, hb, hst, pat_nil, pat_star, Option.bind_some, Mt_all, decide_true, cond_true, Mt_nil]
      have hend : ((decide (a = [])) == decide (s = [])) = true := by
        rw [beq_iff_eq, decide_eq_decide]; exact hz
      simp only [hend, cond_true]
      rcases pat_app hpp hqq with hn | hn
      · simp [hn]
      · simp only [hn, Option.isSome_some, cond_true, Option.bind_some]
        by_cases m1 : Mt o a
        · by_cases m2 : Mt o' b
          · have : Mt (o ++ o') (a ++ b) := Mt_app.2 ⟨a, b, rfl, m1, m2⟩
            simp [m1, m2, this]
          · simp [m1, m2]
        · simp [m1]
end Go.Proofs.YtnafmjbakholcaaDoor.Q

set_option linter.unusedVariables false
set_option linter.unusedSimpArgs false
set_option maxRecDepth 100000
namespace Go.Proofs.YtnafmjbakholcaaDoor.Q
open Go.EM Go.TY Go.Proofs Go.Proofs.YtnafmjbakholcaaDoor.Y Go.Proofs.YtnafmjbakholcaaDoor.K Go.Proofs.YtnafmjbakholcaaDoor.L
/-! ### characters written -/
def encM (o : List Int) : List UInt8 := o.flatMap fun n => (Utf8.encode n).data.toList
theorem u8_of {n : Nat} {x : UInt8} (h : n = x.toNat) : UInt8.ofNat n = x := by subst h; exact UInt8.ofNat_toNat
def encN (c : Nat) : List UInt8 :=
  if c < 128 then [UInt8.ofNat c]
  else if c < 2048 then [UInt8.ofNat (192 + c / 64), UInt8.ofNat (128 + c % 64)]
  else if c < 65536 then [UInt8.ofNat (224 + c / 4096), UInt8.ofNat (128 + c / 64 % 64), UInt8.ofNat (128 + c % 64)]
  else [UInt8.ofNat (240 + c / 262144), UInt8.ofNat (128 + c / 4096 % 64), UInt8.ofNat (128 + c / 64 % 64), UInt8.ofNat (128 + c % 64)]
theorem enc_N {r : Int} (h : Utf8.valid r = true) : (Utf8.encode r).data.toList = encN r.toNat := by
  unfold Utf8.encode encN
  simp only [h, if_true]
  split
  · rfl
  · split
    · rfl
    · split <;> rfl
theorem valid_of {r : Int} (h0 : 0 ≤ r) (h1 : r ≤ 1114111) (h2 : ¬ (55296 ≤ r ∧ r ≤ 57343)) : Utf8.valid r = true := by
  simp [Utf8.valid]; omega
theorem enc_char {s : List UInt8} (h : (charM s).2 ≠ 0) : (Utf8.encode (charM s).1).data.toList = s.take (charM s).2 := by
  match s with
  | [] => exact absurd rfl h
  | a :: t =>
    have ha := a.toNat_lt
    by_cases c1 : a.toNat < 128
    · have e : charM (a :: t) = ((a.toNat : Int), 1) := by simp only [charM, if_pos c1]
      rw [e, enc_N (valid_of (by omega) (by omega) (by omega))]
      simp only [Int.toNat_natCast, encN, if_pos c1]
      rw [u8_of rfl]; rfl
    by_cases c2 : 194 ≤ a.toNat ∧ a.toNat < 224
    · match t with
      | [] => simp only [charM, if_neg c1, if_pos c2, ne_eq, not_true_eq_false] at h
      | b :: t =>
        by_cases hb : 128 ≤ b.toNat ∧ b.toNat ≤ 191
        · have e : charM (a :: b :: t) = (64 * ((a.toNat : Int) - 192) + b.toNat - 128, 2) := by simp only [charM, if_neg c1, if_pos c2, if_pos hb]
          rw [e, enc_N (valid_of (by simp only []; omega) (by simp only []; omega) (by simp only []; omega))]
          simp only []
          have : (64 * ((a.toNat : Int) - 192) + b.toNat - 128).toNat = 64 * (a.toNat - 192) + (b.toNat - 128) := by omega
          rw [this]
          unfold encN
          rw [if_neg (by omega), if_pos (by omega), u8_of (x := a) (by omega), u8_of (x := b) (by omega)]; rfl
        · simp only [charM, if_neg c1, if_pos c2, if_neg hb, ne_eq, not_true_eq_false] at h
    by_cases c3 : 224 ≤ a.toNat ∧ a.toNat < 240
    · match t with
      | [] => simp only [charM, if_neg c1, if_neg c2, if_pos c3, ne_eq, not_true_eq_false] at h
      | [b] => simp only [charM, if_neg c1, if_neg c2, if_pos c3, ne_eq, not_true_eq_false] at h
      | b :: c :: t =>
        by_cases hb : (128 ≤ b.toNat ∧ b.toNat ≤ 191) ∧ (128 ≤ c.toNat ∧ c.toNat ≤ 191)
        · by_cases hr : 64 * (64 * ((a.toNat : Int) - 224) + b.toNat - 128) + c.toNat - 128 < 2048 ∨ (55296 ≤ 64 * (64 * ((a.toNat : Int) - 224) + b.toNat - 128) + c.toNat - 128 ∧ 64 * (64 * ((a.toNat : Int) - 224) + b.toNat - 128) + c.toNat - 128 ≤ 57343)
          · simp only [charM, if_neg c1, if_neg c2, if_pos c3, if_pos hb, if_pos hr, ne_eq, not_true_eq_false] at h
          · have e : charM (a :: b :: c :: t) = (64 * (64 * ((a.toNat : Int) - 224) + b.toNat - 128) + c.toNat - 128, 3) := by simp only [charM, if_neg c1, if_neg c2, if_pos c3, if_pos hb, if_neg hr]
            rw [e, enc_N (valid_of (by simp only []; omega) (by simp only []; omega) (by simp only []; omega))]
            simp only []
            have : (64 * (64 * ((a.toNat : Int) - 224) + b.toNat - 128) + c.toNat - 128).toNat = 4096 * (a.toNat - 224) + 64 * (b.toNat - 128) + (c.toNat - 128) := by omega
            rw [this]
            unfold encN
            rw [if_neg (by omega), if_neg (by omega), if_pos (by omega), u8_of (x := a) (by omega), u8_of (x := b) (by omega), u8_of (x := c) (by omega)]; rfl
        · simp only [charM, if_neg c1, if_neg c2, if_pos c3, if_neg hb, ne_eq, not_true_eq_false] at h
    by_cases c4 : 240 ≤ a.toNat ∧ a.toNat < 245
    · match t with
      | [] => simp only [charM, if_neg c1, if_neg c2, if_neg c3, if_pos c4, ne_eq, not_true_eq_false] at h
      | [b] => simp only [charM, if_neg c1, if_neg c2, if_neg c3, if_pos c4, ne_eq, not_true_eq_false] at h
      | [b, c] => simp only [charM, if_neg c1, if_neg c2, if_neg c3, if_pos c4, ne_eq, not_true_eq_false] at h
      | b :: c :: d :: t =>
        by_cases hb : (128 ≤ b.toNat ∧ b.toNat ≤ 191) ∧ (128 ≤ c.toNat ∧ c.toNat ≤ 191) ∧ (128 ≤ d.toNat ∧ d.toNat ≤ 191)
        · by_cases hr : 64 * (64 * (64 * ((a.toNat : Int) - 240) + b.toNat - 128) + c.toNat - 128) + d.toNat - 128 < 65536 ∨ 1114111 < 64 * (64 * (64 * ((a.toNat : Int) - 240) + b.toNat - 128) + c.toNat - 128) + d.toNat - 128
          · simp only [charM, if_neg c1, if_neg c2, if_neg c3, if_pos c4, if_pos hb, if_pos hr, ne_eq, not_true_eq_false] at h
          · have e : charM (a :: b :: c :: d :: t) = (64 * (64 * (64 * ((a.toNat : Int) - 240) + b.toNat - 128) + c.toNat - 128) + d.toNat - 128, 4) := by simp only [charM, if_neg c1, if_neg c2, if_neg c3, if_pos c4, if_pos hb, if_neg hr]
            rw [e, enc_N (valid_of (by simp only []; omega) (by simp only []; omega) (by simp only []; omega))]
            simp only []
            have : (64 * (64 * (64 * ((a.toNat : Int) - 240) + b.toNat - 128) + c.toNat - 128) + d.toNat - 128).toNat = 262144 * (a.toNat - 240) + 4096 * (b.toNat - 128) + 64 * (c.toNat - 128) + (d.toNat - 128) := by omega
            rw [this]
            unfold encN
            rw [if_neg (by omega), if_neg (by omega), if_neg (by omega), u8_of (x := a) (by omega), u8_of (x := b) (by omega), u8_of (x := c) (by omega), u8_of (x := d) (by omega)]; rfl
        · simp only [charM, if_neg c1, if_neg c2, if_neg c3, if_pos c4, if_neg hb, ne_eq, not_true_eq_false] at h
    · simp only [charM, if_neg c1, if_neg c2, if_neg c3, if_neg c4, ne_eq, not_true_eq_false] at h
theorem enc_runes : ∀ {s : List UInt8} {t : List Int}, runesM s = some t → encM t = s := by
  intro s
  induction s using (measure List.length).wf.induction with
  | _ s ih =>
    intro l h
    by_cases hn : s = []
    · subst hn; rw [runesM_nil] at h; cases h; rfl
    · by_cases h0 : (charM s).2 = 0
      · rw [runesM_none hn h0] at h; cases h
      · rw [runesM_step hn h0, Option.map_eq_some_iff] at h
        obtain ⟨l', hl', rfl⟩ := h
        have hp : s.length ≠ 0 := fun e => hn (List.eq_nil_of_length_eq_zero e)
        have := ih (s.drop (charM s).2) (by show (s.drop _).length < s.length; simp only [List.length_drop]; omega) hl'
        unfold encM at this ⊢
        rw [List.flatMap_cons, this, enc_char h0, List.take_append_drop]
/-- A character that is some text's. -/
def Good (c : Int) : Prop := ∃ s, (charM s).2 ≠ 0 ∧ (charM s).1 = c
theorem good_runes : ∀ {s : List UInt8} {t : List Int}, runesM s = some t → ∀ c ∈ t, Good c := by
  intro s
  induction s using (measure List.length).wf.induction with
  | _ s ih =>
    intro l h c hc
    by_cases hn : s = []
    · subst hn; rw [runesM_nil] at h; cases h; cases hc
    · by_cases h0 : (charM s).2 = 0
      · rw [runesM_none hn h0] at h; cases h
      · rw [runesM_step hn h0, Option.map_eq_some_iff] at h
        obtain ⟨l', hl', rfl⟩ := h
        have hp : s.length ≠ 0 := fun e => hn (List.eq_nil_of_length_eq_zero e)
        rcases List.mem_cons.1 hc with rfl | hc
        · exact ⟨s, h0, rfl⟩
        · exact ih (s.drop (charM s).2) (by show (s.drop _).length < s.length; simp only [List.length_drop]; omega) hl' c hc
theorem charM_take {s : List UInt8} (h : (charM s).2 ≠ 0) : charM (s.take (charM s).2) = charM s := by
  match s with
  | [] => rfl
  | a :: t =>
    by_cases c1 : a.toNat < 128
    · simp [charM, if_pos c1]
    by_cases c2 : 194 ≤ a.toNat ∧ a.toNat < 224
    · match t with
      | [] => simp only [charM, if_neg c1, if_pos c2, ne_eq, not_true_eq_false] at h
      | b :: t =>
        by_cases hb : 128 ≤ b.toNat ∧ b.toNat ≤ 191
        · have e : charM (a :: b :: t) = (64 * ((a.toNat : Int) - 192) + b.toNat - 128, 2) := by simp only [charM, if_neg c1, if_pos c2, if_pos hb]
          rw [e]
          simp only [List.take_succ_cons, List.take_zero, charM, if_neg c1, if_pos c2, if_pos hb]
        · simp only [charM, if_neg c1, if_pos c2, if_neg hb, ne_eq, not_true_eq_false] at h
    by_cases c3 : 224 ≤ a.toNat ∧ a.toNat < 240
    · match t with
      | [] => simp only [charM, if_neg c1, if_neg c2, if_pos c3, ne_eq, not_true_eq_false] at h
      | [b] => simp only [charM, if_neg c1, if_neg c2, if_pos c3, ne_eq, not_true_eq_false] at h
      | b :: c :: t =>
        by_cases hb : (128 ≤ b.toNat ∧ b.toNat ≤ 191) ∧ (128 ≤ c.toNat ∧ c.toNat ≤ 191)
        · by_cases hr : 64 * (64 * ((a.toNat : Int) - 224) + b.toNat - 128) + c.toNat - 128 < 2048 ∨ (55296 ≤ 64 * (64 * ((a.toNat : Int) - 224) + b.toNat - 128) + c.toNat - 128 ∧ 64 * (64 * ((a.toNat : Int) - 224) + b.toNat - 128) + c.toNat - 128 ≤ 57343)
          · simp only [charM, if_neg c1, if_neg c2, if_pos c3, if_pos hb, if_pos hr, ne_eq, not_true_eq_false] at h
          · have e : charM (a :: b :: c :: t) = (64 * (64 * ((a.toNat : Int) - 224) + b.toNat - 128) + c.toNat - 128, 3) := by simp only [charM, if_neg c1, if_neg c2, if_pos c3, if_pos hb, if_neg hr]
            rw [e]
            simp only [List.take_succ_cons, List.take_zero, charM, if_neg c1, if_neg c2, if_pos c3, if_pos hb, if_neg hr]
        · simp only [charM, if_neg c1, if_neg c2, if_pos c3, if_neg hb, ne_eq, not_true_eq_false] at h
    by_cases c4 : 240 ≤ a.toNat ∧ a.toNat < 245
    · match t with
      | [] => simp only [charM, if_neg c1, if_neg c2, if_neg c3, if_pos c4, ne_eq, not_true_eq_false] at h
      | [b] => simp only [charM, if_neg c1, if_neg c2, if_neg c3, if_pos c4, ne_eq, not_true_eq_false] at h
      | [b, c] => simp only [charM, if_neg c1, if_neg c2, if_neg c3, if_pos c4, ne_eq, not_true_eq_false] at h
      | b :: c :: d :: t =>
        by_cases hb : (128 ≤ b.toNat ∧ b.toNat ≤ 191) ∧ (128 ≤ c.toNat ∧ c.toNat ≤ 191) ∧ (128 ≤ d.toNat ∧ d.toNat ≤ 191)
        · by_cases hr : 64 * (64 * (64 * ((a.toNat : Int) - 240) + b.toNat - 128) + c.toNat - 128) + d.toNat - 128 < 65536 ∨ 1114111 < 64 * (64 * (64 * ((a.toNat : Int) - 240) + b.toNat - 128) + c.toNat - 128) + d.toNat - 128
          · simp only [charM, if_neg c1, if_neg c2, if_neg c3, if_pos c4, if_pos hb, if_pos hr, ne_eq, not_true_eq_false] at h
          · have e : charM (a :: b :: c :: d :: t) = (64 * (64 * (64 * ((a.toNat : Int) - 240) + b.toNat - 128) + c.toNat - 128) + d.toNat - 128, 4) := by simp only [charM, if_neg c1, if_neg c2, if_neg c3, if_pos c4, if_pos hb, if_neg hr]
            rw [e]
            simp only [List.take_succ_cons, List.take_zero, charM, if_neg c1, if_neg c2, if_neg c3, if_pos c4, if_pos hb, if_neg hr]
        · simp only [charM, if_neg c1, if_neg c2, if_neg c3, if_pos c4, if_neg hb, ne_eq, not_true_eq_false] at h
    · simp only [charM, if_neg c1, if_neg c2, if_neg c3, if_neg c4, ne_eq, not_true_eq_false] at h
theorem runes_enc : ∀ {o : List Int}, (∀ c ∈ o, Good c) → runesM (encM o) = some o
  | [], _ => by simp [encM, runesM_nil]
  | c :: o, h => by
    obtain ⟨s, h0, rfl⟩ := h c (List.mem_cons_self ..)
    have ih := runes_enc (o := o) (fun c hc => h c (List.mem_cons_of_mem _ hc))
    have he : encM ((charM s).1 :: o) = s.take (charM s).2 ++ encM o := by
      unfold encM; rw [List.flatMap_cons, enc_char h0]
    have hc : charM (s.take (charM s).2 ++ encM o) = charM s := by
      rw [charM_app (by rw [charM_take h0]; exact h0), charM_take h0]
    have hne : s.take (charM s).2 ++ encM o ≠ [] := fun e => by
      rw [e] at hc
      rw [← hc] at h0
      exact h0 rfl
    rw [he, runesM_step hne (by rw [hc]; exact h0), hc]
    have hl : (s.take (charM s).2).length = (charM s).2 := by rw [List.length_take]; have := charM_le s; omega
    rw [List.drop_append_of_le_length (by omega), List.drop_eq_nil_of_le (by omega), List.nil_append, ih]; rfl
end Go.Proofs.YtnafmjbakholcaaDoor.Q

set_option linter.unusedVariables false
set_option linter.unusedSimpArgs false
set_option maxRecDepth 100000
namespace Go.Proofs.YtnafmjbakholcaaDoor.Q
open Go.EM Go.TY Go.Proofs Go.Proofs.YtnafmjbakholcaaDoor.Y Go.Proofs.YtnafmjbakholcaaDoor.K Go.Proofs.YtnafmjbakholcaaDoor.L
/-! ### a pattern that matches one text -/
def wildM (o : List Int) : Bool := o.any fun c => decide (c < 0)
theorem wild_cons {c : Int} {o : List Int} : wildM (c :: o) = (decide (c < 0) || wildM o) := rfl
theorem wild_app {o o' : List Int} : wildM (o ++ o') = (wildM o || wildM o') := by unfold wildM; rw [List.any_append]
/-- What the parts are. -/
def Part (c : Int) : Prop := c = -2 ∨ c = -1 ∨ Good c
theorem good_ge {c : Int} (h : Good c) : 0 ≤ c := by
  obtain ⟨s, h0, rfl⟩ := h
  exact (charM_int s).1
theorem parts_part : ∀ (n : Nat) {l o : List Int}, l.length ≤ n → (∀ c ∈ l, Good c) → partsM l = some o → ∀ c ∈ o, Part c := by
  intro n
  have h0 : ∀ {o : List Int}, partsM [] = some o → ∀ c ∈ o, Part c := by
    intro o h c hc
    simp [partsM] at h; subst h; cases hc
  induction n with
  | zero =>
    intro l o hn hg h
    have : l = [] := List.eq_nil_of_length_eq_zero (by omega)
    subst this; exact h0 h
  | succ n ih =>
    intro l o hn hg h
    cases l with
    | nil => exact h0 h
    | cons c t =>
      simp only [List.length_cons] at hn
      have key : ∀ {x : Int} {t' : List Int}, Part x → t'.length ≤ t.length → (∀ c ∈ t', Good c) → ((partsM t').map fun o => x :: o) = some o → ∀ c ∈ o, Part c := by
        intro x t' hx ht' hg' e
        rw [Option.map_eq_some_iff] at e
        obtain ⟨o', h1, rfl⟩ := e
        intro y hy
        rcases List.mem_cons.1 hy with rfl | hy
        · exact hx
        · exact ih (by omega) hg' h1 y hy
      have gt : ∀ c ∈ t, Good c := fun c hc => hg c (List.mem_cons_of_mem _ hc)
      rw [partsM_cons] at h
      split at h
      · exact key (Or.inl rfl) (Nat.le_refl _) gt h
      · split at h
        · exact key (Or.inr (Or.inl rfl)) (Nat.le_refl _) gt h
        · split at h
          · cases t with
            | nil => cases h
            | cons d t' =>
              simp only [] at h
              split at h
              · exact key (Or.inr (Or.inr (gt d (List.mem_cons_self ..)))) (by simp) (fun c hc => gt c (List.mem_cons_of_mem _ hc)) h
              · cases h
          · exact key (Or.inr (Or.inr (hg c (List.mem_cons_self ..)))) (Nat.le_refl _) gt h
theorem pat_part {p : List UInt8} {o : List Int} (h : pat p = some o) : ∀ c ∈ o, Part c := by
  unfold pat at h
  rw [Option.bind_eq_some_iff] at h
  obtain ⟨l, h1, h2⟩ := h
  split at h2
  · cases h2
  · exact parts_part l.length (Nat.le_refl _) (good_runes h1) h2
theorem part_zero {c : Int} : (partOf c).1 = 0 ↔ ¬ (c = -2 ∨ c = -1) := by
  unfold partOf; split
  · subst_vars; simp
  · split <;> simp [*]
theorem lit_loop {o : List Int} {b : Bool} (ho : o.length < 4294967296) (hp : ∀ c ∈ o, Part c) : ∀ (k i : Nat) (out : List Int), o.length - i ≤ k → i ≤ o.length → out.length ≤ i →
    loopT (glob_Literal_l4 (o.map partOf, b, ())) ((i : Int), out, ()) = some (if wildM (o.drop i) then .inr ([], false, ()) else .inl (out ++ o.drop i, ())) := by
  intro k
  have fin : ∀ (i : Nat) (out : List Int), ¬ i < o.length → loopT (glob_Literal_l4 (o.map partOf, b, ())) ((i : Int), out, ()) = some (if wildM (o.drop i) then .inr ([], false, ()) else .inl (out ++ o.drop i, ())) := by
    intro i out hi
    rw [List.drop_eq_nil_of_le (by omega)]
    refine loopT_inr ?_
    unfold glob_Literal_l4
    rw [cond_dec, if_neg (by simp only [List.length_map]; omega)]
    simp [wildM]
  induction k with
  | zero => intro i out hk hi ho'; exact fin i out (by omega)
  | succ k ih =>
    intro i out hk hi ho'
    by_cases hlt : i < o.length
    · have hd : o.drop i = o[i] :: o.drop (i + 1) := drop_cons hlt
      have hpi := hp o[i] (List.getElem_mem hlt)
      rw [hd, wild_cons]
      by_cases hw : o[i] = -2 ∨ o[i] = -1
      · refine loopT_inr ?_
        unfold glob_Literal_l4
        rw [cond_dec, if_pos (by simp only [List.length_map]; omega), at_part hlt, Option.bind_some, cond_ndec, if_neg (fun e => part_zero.1 e hw)]
        have : decide (o[i] < 0) = true := decide_eq_true (by omega)
        simp [this]
      · have hg : Good o[i] := by
          rcases hpi with h | h | h
          · exact absurd (Or.inl h) hw
          · exact absurd (Or.inr h) hw
          · exact h
        have h0 := good_ge hg
        have hp' : (partOf o[i]).2.1 = o[i] := part_c (fun e => hw (Or.inl e)) (fun e => hw (Or.inr e))
        rw [loopT_inl (b := (((i + 1 : Nat) : Int), out ++ [o[i]], ())), ih _ _ (by omega) (by omega) (by simp; omega)]
        · have : decide (o[i] < 0) = false := decide_eq_false (by omega)
          rw [this, Bool.false_or]
          simp
        · unfold glob_Literal_l4
          rw [cond_dec, if_pos (by simp only [List.length_map]; omega), at_part hlt, Option.bind_some, cond_ndec, if_pos (part_zero.2 hw), hp']
          simp only [List.length_cons, List.length_nil]
          rw [roomT_lt (by omega), Option.bind_some, wrap64 (by omega) (by omega)]; rfl
    · exact fin i out hlt
theorem literal_t {p : List UInt8} (hp : p.length < 4294967295) : glob_Literal p = some (match pat p with | some o => if wildM o then ([], false, ()) else (encM o, true, ()) | none => ([], false, ())) := by
  unfold glob_Literal
  rw [parts_t (by omega), Option.bind_some]
  cases h : pat p with
  | none =>
    have := lit_loop (o := []) (b := false) (by simp) (fun c hc => by cases hc) 0 0 [] (by simp) (by simp) (by simp)
    simp only [List.map_nil, List.drop_nil] at this
    have e : partsR [] none = ([], false, ()) := rfl
    rw [e]
    have this' : loopT (glob_Literal_l4 ([], false, ())) (0, [], ()) = some (.inl ([], ())) := by simpa [wildM] using this
    rw [this', Option.bind_some]; rfl
  | some o =>
    have hl := pat_le h
    have := lit_loop (o := o) (b := true) (by omega) (pat_part h) o.length 0 [] (by simp) (by simp) (by simp)
    have e : partsR [] (some o) = (o.map partOf, true, ()) := by simp [partsR]
    rw [e]
    have this' : loopT (glob_Literal_l4 (o.map partOf, true, ())) (0, [], ()) = some (if wildM o then .inr ([], false, ()) else .inl (o, ())) := by simpa using this
    rw [this', Option.bind_some]
    cases hw : wildM o <;> simp [hw, encM]
theorem Mt_lit : ∀ {o t : List Int}, wildM o = false → (Mt o t ↔ t = o)
  | [], t, _ => Iff.rfl
  | c :: o, t, h => by
    rw [wild_cons, Bool.or_eq_false_iff, decide_eq_false_iff_not] at h
    rw [Mt_one (by omega)]
    constructor
    · rintro ⟨x, b, rfl, h1, h2⟩
      have := (Mt_lit h.2).1 h2
      rcases h1 with h1 | rfl
      · omega
      · rw [this]
    · rintro rfl
      exact ⟨c, o, rfl, Or.inr rfl, (Mt_lit h.2).2 rfl⟩
/-! ### GlobLiteral -/
theorem wild_loop {r : List Int × Bool × Unit} (hr : r.1.length < 4294967296) : ∀ (k i : Nat) (w : Bool), r.1.length - i ≤ k → i ≤ r.1.length →
    loopT (law37_GlobLiteral_l6 r) (w, (i : Int), ()) = some (.inl (w || wildM (r.1.drop i), ())) := by
  intro k
  have fin : ∀ (i : Nat) (w : Bool), ¬ i < r.1.length → loopT (law37_GlobLiteral_l6 r) (w, (i : Int), ()) = some (.inl (w || wildM (r.1.drop i), ())) := by
    intro i w hi
    rw [List.drop_eq_nil_of_le (by omega)]
    refine loopT_inr ?_
    unfold law37_GlobLiteral_l6
    rw [cond_dec, if_neg (by simp only []; omega)]
    simp [wildM]
  induction k with
  | zero => intro i w hk hi; exact fin i w (by omega)
  | succ k ih =>
    intro i w hk hi
    by_cases hlt : i < r.1.length
    · have w1 : IntKind.wrap .i64 ((i : Int) + 1) = ((i + 1 : Nat) : Int) := by rw [wrap64 (by omega) (by omega)]; rfl
      rw [loopT_inl (b := (w || decide (r.1[i] < 0), ((i + 1 : Nat) : Int), ())), ih _ _ (by omega) (by omega), drop_cons hlt, wild_cons, Bool.or_assoc]
      unfold law37_GlobLiteral_l6
      simp only [cond_dec, if_pos (show (i : Int) < (r.1.length : Int) by omega), w1, atI_nat, List.getElem?_eq_getElem hlt, Option.bind_some]
      cases w <;> simp
    · exact fin i w hlt
theorem enc_nil_iff {o : List Int} (h : ∀ c ∈ o, Good c) : encM o = [] ↔ o = [] := by
  constructor
  · intro e
    have := runes_enc h
    rw [e, runesM_nil] at this
    exact (Option.some.inj this).symm
  · rintro rfl; rfl
theorem enc_le : ∀ (o : List Int), (encM o).length ≤ 4 * o.length
  | [] => by simp [encM]
  | c :: o => by
    have := enc_le o
    have h4 : (Utf8.encode c).data.toList.length ≤ 4 := by
      unfold Utf8.encode
      simp only []
      repeat' split
      all_goals simp
    unfold encM at this ⊢
    rw [List.flatMap_cons, List.length_append, List.length_cons]
    omega
open Classical in
theorem globLiteral_t {p s : List UInt8} : law37_GlobLiteral p s = some true := by
  unfold law37_GlobLiteral
  simp only [awake_t, Option.bind_some, cond_dec]
  by_cases hp : p.length > 200
  · rw [if_pos (by omega)]
  rw [if_neg (by omega)]
  by_cases hs : s.length > 200
  · rw [if_pos (by omega)]
  rw [if_neg (by omega), refParts_t (by omega), Option.bind_some, literal_t (by omega)]
  cases h : pat p with
  | none =>
    have hl := wild_loop (r := ([], false, ())) (by simp) 0 0 false (by simp) (by simp)
    have hl' : loopT (law37_GlobLiteral_l6 ([], false, ())) (false, 0, ()) = some (.inl (false, ())) := by simpa [wildM] using hl
    simp only [hl', Option.bind_some, joinS_inl]
    simp
  | some o =>
    have ho := pat_le h
    have hl := wild_loop (r := (o, true, ())) (by simp only []; omega) o.length 0 false (by simp) (by simp)
    have hl' : loopT (law37_GlobLiteral_l6 (o, true, ())) (false, 0, ()) = some (.inl (wildM o, ())) := by simpa using hl
    simp only [hl', Option.bind_some, joinS_inl]
    cases hw : wildM o with
    | true => simp
    | false =>
      have hg : ∀ c ∈ o, Good c := by
        intro c hc
        rcases pat_part h c hc with e | e | e
        · have : wildM o = true := List.any_eq_true.2 ⟨c, hc, decide_eq_true (by omega)⟩
          rw [hw] at this; cases this
        · have : wildM o = true := List.any_eq_true.2 ⟨c, hc, decide_eq_true (by omega)⟩
          rw [hw] at this; cases this
        · exact e
      have hle := enc_le o
      have hm1 : glob_Match p (encM o) = some true := by
        rw [match_t (by omega) (by omega), h, runes_enc hg]
        simp only []
        congr 1
        exact decide_eq_true ((Mt_lit hw).2 rfl)
      have hm2 : glob_Match p s = some (decide (s = encM o)) := by
        rw [match_t (by omega) (by omega), h]
        cases hr : runesM s with
        | none =>
          simp only []
          congr 1
          rw [eq_comm, decide_eq_false_iff_not]
          rintro rfl
          rw [runes_enc hg] at hr; cases hr
        | some t =>
          simp only []
          congr 1
          rw [decide_eq_decide, Mt_lit hw]
          constructor
          · rintro rfl; exact (enc_runes hr).symm
          · rintro rfl; rw [runes_enc hg] at hr; exact (Option.some.inj hr).symm
      simp [hm1, hm2]
end Go.Proofs.YtnafmjbakholcaaDoor.Q
