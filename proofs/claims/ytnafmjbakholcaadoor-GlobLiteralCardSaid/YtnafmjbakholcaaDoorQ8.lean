import Derived.Test.YtnafmjbakholcaaDoorQ7
set_option linter.unusedVariables false
set_option linter.unusedSimpArgs false
set_option maxRecDepth 100000
namespace Go.Proofs.YtnafmjbakholcaaDoor.Q
open Go.EM Go.TY Go.Proofs Go.Proofs.YtnafmjbakholcaaDoor.Y
/-! ### the document's row of truths -/
theorem Mt_last_star {P t : List Int} {i : Nat} : Mt (P ++ [-2]) (t.take (i + 1)) ↔ Mt P (t.take (i + 1)) ∨ Mt (P ++ [-2]) (t.take i) := by
  have key : ∀ i : Nat, Mt (P ++ [-2]) (t.take i) ↔ ∃ j, j ≤ i ∧ Mt P (t.take j) := by
    intro i
    rw [Mt_app]
    constructor
    · rintro ⟨a, b, h1, h2, h3⟩
      by_cases hl : a.length ≤ i
      · refine ⟨a.length, hl, ?_⟩
        have : t.take a.length = a := by
          have := congrArg (List.take a.length) h1
          rw [List.take_take, Nat.min_eq_left hl, List.take_left] at this
          exact this
        rw [this]; exact h2
      · exfalso
        have := congrArg List.length h1
        simp only [List.length_append, List.length_take] at this
        omega
    · rintro ⟨j, hj, h⟩
      refine ⟨t.take j, (t.take i).drop j, ?_, h, ⟨(t.take i).drop j, [], by simp, one_star, rfl⟩⟩
      have := List.take_append_drop j (t.take i)
      rw [List.take_take, Nat.min_eq_left hj] at this
      exact this.symm
  rw [key, key]
  constructor
  · rintro ⟨j, hj, h⟩
    by_cases e : j = i + 1
    · subst e; exact Or.inl h
    · exact Or.inr ⟨j, by omega, h⟩
  · rintro (h | ⟨j, hj, h⟩)
    · exact ⟨i + 1, Nat.le_refl _, h⟩
    · exact ⟨j, by omega, h⟩
theorem Mt_last_star0 {P : List Int} : Mt (P ++ [-2]) [] ↔ Mt P [] := by
  rw [Mt_app]
  constructor
  · rintro ⟨a, b, h1, h2, h3⟩
    have := List.append_eq_nil_iff.1 h1.symm
    rw [this.1] at h2; exact h2
  · intro h; exact ⟨[], [], rfl, h, [], [], rfl, one_star, rfl⟩
theorem Mt_last_one {P t : List Int} {i : Nat} {c : Int} (hc : c ≠ -2) (hi : i < t.length) : Mt (P ++ [c]) (t.take (i + 1)) ↔ Mt P (t.take i) ∧ (c = -1 ∨ c = t[i]) := by
  have e : t.take (i + 1) = t.take i ++ [t[i]] := by rw [List.take_add_one, List.getElem?_eq_getElem hi]; rfl
  rw [Mt_app, e]
  constructor
  · rintro ⟨a, b, h1, h2, h3⟩
    rw [Mt_one hc] at h3
    obtain ⟨x, b', rfl, h4, h5⟩ := h3
    cases (Mt_nil.1 h5)
    obtain ⟨h6, h7⟩ := List.append_inj' h1 rfl
    cases h7
    rw [h6]; exact ⟨h2, h4⟩
  · rintro ⟨h1, h2⟩
    exact ⟨_, _, rfl, h1, (Mt_one hc).2 ⟨_, [], rfl, h2, rfl⟩⟩
theorem Mt_last_one0 {P : List Int} {c : Int} (hc : c ≠ -2) : ¬ Mt (P ++ [c]) [] := by
  rw [Mt_app]
  rintro ⟨a, b, h1, h2, h3⟩
  rw [Mt_one hc] at h3
  obtain ⟨x, b', rfl, h4, h5⟩ := h3
  have := List.append_eq_nil_iff.1 h1.symm
  cases this.2
open Classical in
noncomputable def gM (P t : List Int) (i : Nat) : Bool := decide (Mt P (t.take i))
open Classical in
theorem gM_star {P t : List Int} {i : Nat} : gM (P ++ [-2]) t (i + 1) = (gM P t (i + 1) || gM (P ++ [-2]) t i) := by
  unfold gM
  rw [← Bool.decide_or, decide_eq_decide]; exact Mt_last_star
theorem gM_star0 {P t : List Int} : gM (P ++ [-2]) t 0 = gM P t 0 := by
  unfold gM
  rw [decide_eq_decide, List.take_zero]; exact Mt_last_star0
open Classical in
theorem gM_one {P t : List Int} {i : Nat} {c : Int} (hc : c ≠ -2) (hi : i < t.length) : gM (P ++ [c]) t (i + 1) = (gM P t i && (decide (c = -1) || decide (c = t[i]))) := by
  unfold gM
  rw [← Bool.decide_or, ← Bool.decide_and, decide_eq_decide]; exact Mt_last_one hc hi
theorem gM_one0 {P t : List Int} {c : Int} (hc : c ≠ -2) : gM (P ++ [c]) t 0 = false := by
  unfold gM
  rw [decide_eq_false_iff_not, List.take_zero]; exact Mt_last_one0 hc
def RowM (n : Nat) (f : Nat → Bool) (row : List Bool) : Prop := row.length = n + 1 ∧ ∀ j, j ≤ n → row[j]? = some (f j)
theorem set_row {n i : Nat} {f : Nat → Bool} {nx : List Bool} (h1 : nx.length = n + 1) (h2 : ∀ j, j < i → nx[j]? = some (f j)) (hi : i ≤ n) : (nx.set i (f i)).length = n + 1 ∧ ∀ j, j < i + 1 → (nx.set i (f i))[j]? = some (f j) := by
  refine ⟨by simpa using h1, ?_⟩
  intro j hj
  by_cases e : i = j
  · subst e; rw [List.getElem?_set_self (by omega)]
  · rw [List.getElem?_set_ne e]; exact h2 j (by omega)
theorem inner {o t : List Int} {r1 r2 : List Int × Bool × Unit} (h1 : r1.1 = o) (h2 : r2.1 = t) (ho : o.length < 4294967296) (ht : t.length < 4294967295) {k : Nat} (hk : k < o.length) {y8 : Int × List Bool × Unit} (hy : y8.1 = k) {row : List Bool} (hr : RowM t.length (gM (o.take k) t) row) :
    ∀ (m i : Nat) (nx : List Bool), t.length + 1 - i ≤ m → i ≤ t.length + 1 → nx.length = t.length + 1 → (∀ j, j < i → nx[j]? = some (gM (o.take (k + 1)) t j)) →
      ∃ nx', RowM t.length (gM (o.take (k + 1)) t) nx' ∧ loopT (ref37_Match_l12 y8 r1 r2) ((i : Int), row, nx, ()) = some (.inl (((k + 1 : Nat) : Int), nx', ())) := by
  have hok : o[k]? = some o[k] := List.getElem?_eq_getElem hk
  have htk : o.take (k + 1) = o.take k ++ [o[k]] := by rw [List.take_add_one, hok]; rfl
  have fin : ∀ (i : Nat) (nx : List Bool), ¬ i ≤ t.length → nx.length = t.length + 1 → (∀ j, j < i → nx[j]? = some (gM (o.take (k + 1)) t j)) →
      ∃ nx', RowM t.length (gM (o.take (k + 1)) t) nx' ∧ loopT (ref37_Match_l12 y8 r1 r2) ((i : Int), row, nx, ()) = some (.inl (((k + 1 : Nat) : Int), nx', ())) := by
    intro i nx hi hl hn
    refine ⟨nx, ⟨hl, fun j hj => hn j (by omega)⟩, loopT_inr ?_⟩
    unfold ref37_Match_l12
    rw [cond_dec, if_neg (by rw [h2]; simp only []; omega), hy, wrap64 (by omega) (by omega)]; rfl
  intro m
  induction m with
  | zero => intro i nx hm hi hl hn; exact fin i nx (by omega) hl hn
  | succ m ih =>
    intro i nx hm hi hl hn
    by_cases hlt : i ≤ t.length
    · have go : ref37_Match_l12 y8 r1 r2 ((i : Int), row, nx, ()) = some (.inl (((i + 1 : Nat) : Int), row, nx.set i (gM (o.take (k + 1)) t i), ())) := by
        have w1 : IntKind.wrap .i64 ((i : Int) + 1) = ((i + 1 : Nat) : Int) := by rw [wrap64 (by omega) (by omega)]; rfl
        have hri := hr.2 i hlt
        obtain ⟨b0, hb0⟩ : ∃ b0, nx[i]? = some b0 := ⟨_, List.getElem?_eq_getElem (by omega)⟩
        have hin : inI nx.length (i : Int) = some i := inI_nat (by omega)
        have hir : inI row.length (i : Int) = some i := inI_nat (by have := hr.1; omega)
        unfold ref37_Match_l12
        rw [cond_dec, if_pos (by rw [h2]; simp only []; omega)]
        simp only [hy, h1, h2, atI_nat, hok, Option.bind_some, cond_dec, w1, hri, hin, hir, hb0]
        cases i with
        | zero =>
          simp only [Int.natCast_zero, gt_iff_lt, Int.lt_irrefl, if_false, Option.bind_some, cond_false, htk]
          by_cases hc : o[k] = -2
          · rw [if_pos hc, hc, gM_star0]
            cases gM (o.take k) t 0 <;> rfl
          · rw [if_neg hc, gM_one0 hc]
            have hin0 : inI nx.length 0 = some 0 := hin
            rw [hin0, Option.bind_some, hb0, Option.bind_some]
        | succ i =>
          have hg : ((i + 1 : Nat) : Int) > 0 := by omega
          have w2 : IntKind.wrap .i64 (((i + 1 : Nat) : Int) - 1) = (i : Int) := by rw [wrap64 (by omega) (by omega)]; omega
          have hri' := hr.2 i (by omega)
          have hni := hn i (by omega)
          have hin' : inI nx.length (i : Int) = some i := inI_nat (by omega)
          have hir' : inI row.length (i : Int) = some i := inI_nat (by have := hr.1; omega)
          have hti : t[i]? = some t[i] := List.getElem?_eq_getElem (by omega)
          simp only [if_pos hg, w2, hin', hir', Option.bind_some, hni, hri', atI_nat, hti, hin, hb0]
          by_cases hc : o[k] = -2
          · have hgs : gM (o.take (k + 1)) t (i + 1) = (gM (o.take k) t (i + 1) || gM (o.take (k + 1)) t i) := by rw [htk, hc]; exact gM_star
            rw [if_pos hc, hgs]
            cases gM (o.take k) t (i + 1) <;> rfl
          · have hgs : gM (o.take (k + 1)) t (i + 1) = (gM (o.take k) t i && (decide (o[k] = -1) || decide (o[k] = t[i]))) := by rw [htk]; exact gM_one hc (by omega)
            rw [if_neg hc, hgs]
            cases gM (o.take k) t i
            · rfl
            · by_cases h5 : o[k] = -1
              · simp [h5]
              · simp [h5]
      obtain ⟨a1, a2⟩ := set_row hl hn hlt
      rw [loopT_inl go]
      exact ih (i + 1) _ (by omega) (by omega) a1 a2
    · exact fin i nx hlt hl hn
theorem outer {o t : List Int} {r1 r2 : List Int × Bool × Unit} (h1 : r1.1 = o) (h2 : r2.1 = t) (ho : o.length < 4294967296) (ht : t.length < 4294967295) :
    ∀ (m k : Nat) (row : List Bool), o.length - k ≤ m → k ≤ o.length → RowM t.length (gM (o.take k) t) row →
      ∃ row', RowM t.length (gM o t) row' ∧ loopT (ref37_Match_l8 r1 r2) ((k : Int), row, ()) = some (.inl (row', ())) := by
  have fin : ∀ (k : Nat) (row : List Bool), ¬ k < o.length → RowM t.length (gM (o.take k) t) row →
      ∃ row', RowM t.length (gM o t) row' ∧ loopT (ref37_Match_l8 r1 r2) ((k : Int), row, ()) = some (.inl (row', ())) := by
    intro k row hk hr
    refine ⟨row, by rw [List.take_of_length_le (by omega)] at hr; exact hr, loopT_inr ?_⟩
    unfold ref37_Match_l8
    rw [cond_dec, if_neg (by rw [h1]; simp only []; omega)]
  intro m
  induction m with
  | zero => intro k row hm hk hr; exact fin k row (by omega) hr
  | succ m ih =>
    intro k row hm hk hr
    by_cases hlt : k < o.length
    · have w : IntKind.wrap .i64 ((t.length : Int) + 1) = ((t.length + 1 : Nat) : Int) := by rw [wrap64 (by omega) (by omega)]; rfl
      obtain ⟨nx', a1, a2⟩ := inner h1 h2 ho ht hlt (y8 := ((k : Int), row, ())) rfl hr (t.length + 1) 0 (List.replicate (t.length + 1) false) (by omega) (by omega) (by simp) (by intro j hj; omega)
      obtain ⟨row', b1, b2⟩ := ih (k + 1) nx' (by omega) (by omega) a1
      refine ⟨row', b1, ?_⟩
      rw [loopT_inl (b := (((k + 1 : Nat) : Int), nx', ())), b2]
      unfold ref37_Match_l8
      rw [cond_dec, if_pos (by rw [h1]; simp only []; omega), h2, w, mkT_nat (by omega), Option.bind_some, Int.toNat_natCast]
      exact a2
    · exact fin k row hlt hr
open Classical in
theorem refMatch_t {p s : List UInt8} (hp : p.length < 4294967295) (hs : s.length < 4294967295) : ref37_Match p s = some (match pat p, runesM s with | some o, some t => decide (Mt o t) | _, _ => false) := by
  unfold ref37_Match
  rw [refParts_t (by omega), Option.bind_some, runes_t (by omega), Option.bind_some]
  unfold runesR
  cases hpa : pat p with
  | none => simp
  | some o =>
    cases hra : runesM s with
    | none => simp
    | some t =>
      have ho : o.length < 4294967296 := by
        have := pat_le hpa; omega
      have ht : t.length < 4294967295 := by have := runesM_le hra; omega
      have w : IntKind.wrap .i64 ((t.length : Int) + 1) = ((t.length + 1 : Nat) : Int) := by rw [wrap64 (by omega) (by omega)]; rfl
      have h0 : ∀ P : List Int, gM [] t 0 = true := by intro _; unfold gM; rw [decide_eq_true_eq, List.take_zero]; exact rfl
      have hrow : RowM t.length (gM (o.take 0) t) ((List.replicate (t.length + 1) false).set 0 true) := by
        refine ⟨by simp, ?_⟩
        intro j hj
        cases j with
        | zero => rw [List.getElem?_set_self (by simp), List.take_zero, h0 []]
        | succ j =>
          rw [List.getElem?_set_ne (by omega), List.getElem?_replicate, if_pos (by omega)]
          congr 1
          unfold gM
          rw [eq_comm, decide_eq_false_iff_not, List.take_zero, Mt_nil]
          intro e
          have := congrArg List.length e
          simp only [List.length_take, List.length_nil] at this
          omega
      obtain ⟨row', b1, b2⟩ := outer (r1 := (o, true, ())) (r2 := (t, true, ())) rfl rfl ho ht o.length 0 _ (by simp only []; omega) (by simp only []; omega) hrow
      simp only [Bool.not_true, cond_false, List.nil_append]
      rw [w, mkT_nat (by omega), Option.bind_some, Int.toNat_natCast, List.length_replicate]
      have i0 : inI (t.length + 1) 0 = some 0 := inI_nat (i := 0) (by omega)
      rw [i0, Option.bind_some, List.getElem?_replicate, if_pos (by omega), Option.bind_some]
      have b2' : loopT (ref37_Match_l8 (o, true, ()) (t, true, ())) (0, (List.replicate (t.length + 1) false).set 0 true, ()) = some (.inl (row', ())) := b2
      rw [b2', Option.bind_some, joinS_inl]
      simp only []
      rw [inI_nat (by have := b1.1; simp only [] at this ⊢; omega), Option.bind_some, b1.2 _ (Nat.le_refl _), Option.bind_some]
      unfold gM
      rw [List.take_length]
end Go.Proofs.YtnafmjbakholcaaDoor.Q
