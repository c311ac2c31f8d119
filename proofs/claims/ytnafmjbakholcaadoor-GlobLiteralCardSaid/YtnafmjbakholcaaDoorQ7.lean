import Derived.Test.YtnafmjbakholcaaDoorQ6
set_option linter.unusedVariables false
set_option linter.unusedSimpArgs false
set_option maxRecDepth 100000
namespace Go.Proofs.YtnafmjbakholcaaDoor.Q
open Go.EM Go.TY Go.Proofs Go.Proofs.YtnafmjbakholcaaDoor.Y
/-! ### what a pattern matches -/
def one (c : Int) (a : List Int) : Prop := c = -2 ∨ ∃ x, a = [x] ∧ (c = -1 ∨ c = x)
def Mt : List Int → List Int → Prop
  | [], t => t = []
  | c :: o, t => ∃ a b, t = a ++ b ∧ one c a ∧ Mt o b
theorem Mt_app : ∀ {o o' t : List Int}, Mt (o ++ o') t ↔ ∃ a b, t = a ++ b ∧ Mt o a ∧ Mt o' b
  | [], o', t => by
    constructor
    · intro h; exact ⟨[], t, rfl, rfl, h⟩
    · rintro ⟨a, b, rfl, rfl, h⟩; exact h
  | c :: o, o', t => by
    constructor
    · rintro ⟨a, b, rfl, h1, h2⟩
      obtain ⟨a', b', rfl, h3, h4⟩ := Mt_app.1 h2
      exact ⟨a ++ a', b', by simp, ⟨a, a', rfl, h1, h3⟩, h4⟩
    · rintro ⟨a, b, rfl, ⟨a', b', rfl, h1, h2⟩, h3⟩
      exact ⟨a', b' ++ b, by simp, h1, Mt_app.2 ⟨b', b, rfl, h2, h3⟩⟩
theorem one_star {a : List Int} : one (-2) a := Or.inl rfl
theorem Mt_star {o t : List Int} : Mt (-2 :: o) t ↔ ∃ j, Mt o (t.drop j) := by
  constructor
  · rintro ⟨a, b, rfl, h1, h2⟩; exact ⟨a.length, by simpa using h2⟩
  · rintro ⟨j, h⟩; exact ⟨t.take j, t.drop j, by simp, one_star, h⟩
theorem Mt_one {c : Int} {o t : List Int} (hc : c ≠ -2) : Mt (c :: o) t ↔ ∃ x b, t = x :: b ∧ (c = -1 ∨ c = x) ∧ Mt o b := by
  constructor
  · rintro ⟨a, b, rfl, h1, h2⟩
    rcases h1 with h1 | ⟨x, rfl, h1⟩
    · exact absurd h1 hc
    · exact ⟨x, b, rfl, h1, h2⟩
  · rintro ⟨x, b, rfl, h1, h2⟩
    exact ⟨[x], b, rfl, Or.inr ⟨x, rfl, h1⟩, h2⟩
theorem Mt_nil {t : List Int} : Mt [] t ↔ t = [] := Iff.rfl
theorem drop_cons {A : Type} {l : List A} {i : Nat} (h : i < l.length) : l.drop i = l[i] :: l.drop (i + 1) := List.drop_eq_getElem_cons h
/-! ### stars first as few as it goes -/
structure Inv (o t : List Int) (k : Nat) (star : Int) (mark i : Nat) : Prop where
  k_le : k ≤ o.length
  i_le : i ≤ t.length
  no : star < 0 → (Mt o t ↔ Mt (o.drop k) (t.drop i))
  is : ∀ st : Nat, star = (st : Int) → st < k ∧ mark ≤ i ∧ (Mt o t ↔ Mt (-2 :: o.drop (st + 1)) (t.drop mark)) ∧ (Mt (o.drop k) (t.drop i) → Mt (o.drop (st + 1)) (t.drop mark)) ∧ (∀ u, Mt (o.drop (st + 1)) u → Mt (o.drop k) (u.drop (i - mark)))
  le : -1 ≤ star
theorem inv_star {o t : List Int} {k mark i : Nat} {star : Int} (h : Inv o t k star mark i) (hk : k < o.length) (hs : o[k] = -2) : Inv o t (k + 1) k i i := by
  have hd : o.drop k = -2 :: o.drop (k + 1) := by rw [drop_cons hk, hs]
  refine ⟨hk, h.i_le, fun e => by omega, ?_, by omega⟩
  intro st hst
  have : st = k := by omega
  subst this
  refine ⟨by omega, by omega, ?_, fun x => x, fun u hu => by simpa using hu⟩
  by_cases hneg : star < 0
  · rw [h.no hneg, hd]
  · obtain ⟨st, hst⟩ : ∃ st : Nat, star = (st : Int) := ⟨star.toNat, by omega⟩
    obtain ⟨h0, h1, h2, h3, h4⟩ := h.is st hst
    rw [h2, ← hd]
    constructor
    · intro hm
      obtain ⟨j, hj⟩ := Mt_star.1 hm
      have := h4 _ hj
      rw [hd] at this ⊢
      obtain ⟨j', hj'⟩ := Mt_star.1 this
      refine Mt_star.2 ⟨j + j', ?_⟩
      rw [List.drop_drop, List.drop_drop] at hj'
      rw [List.drop_drop]
      have e : i + (j + j') = mark + j + (i - mark) + j' := by omega
      rw [e]
      simpa [Nat.add_assoc, Nat.add_comm, Nat.add_left_comm] using hj'
    · intro hm
      exact Mt_star.2 ⟨0, by simpa using h3 hm⟩
theorem inv_one {o t : List Int} {k mark i : Nat} {star : Int} (h : Inv o t k star mark i) (hk : k < o.length) (hi : i < t.length) (hs : o[k] ≠ -2) (ho : o[k] = -1 ∨ o[k] = t[i]) : Inv o t (k + 1) star mark (i + 1) := by
  have hd : o.drop k = o[k] :: o.drop (k + 1) := drop_cons hk
  have ht : t.drop i = t[i] :: t.drop (i + 1) := drop_cons hi
  have hstep : Mt (o.drop k) (t.drop i) ↔ Mt (o.drop (k + 1)) (t.drop (i + 1)) := by
    rw [hd, ht, Mt_one hs]
    constructor
    · rintro ⟨x, b, h1, h2, h3⟩; cases h1; exact h3
    · intro h1; exact ⟨_, _, rfl, ho, h1⟩
  refine ⟨hk, hi, fun e => (h.no e).trans hstep, ?_, h.le⟩
  intro st hst
  obtain ⟨h0, h1, h2, h3, h4⟩ := h.is st hst
  refine ⟨by omega, by omega, h2, fun x => h3 (hstep.2 x), ?_⟩
  intro u hu
  have := h4 u hu
  rw [hd, Mt_one hs] at this
  obtain ⟨x, b, h5, h6, h7⟩ := this
  have : u.drop (i + 1 - mark) = b := by
    have e : i + 1 - mark = (i - mark) + 1 := by omega
    rw [e, ← List.drop_drop, h5]; rfl
  rw [this]; exact h7
theorem mis {o t : List Int} {k i : Nat} (hi : i < t.length) (hm : ∀ hk : k < o.length, o[k] ≠ -2 ∧ ¬ (o[k] = -1 ∨ o[k] = t[i])) : ¬ Mt (o.drop k) (t.drop i) := by
  rw [drop_cons hi]
  by_cases hk : k < o.length
  · rw [drop_cons hk, Mt_one (hm hk).1]
    rintro ⟨x, b, h1, h2, h3⟩
    cases h1
    exact (hm hk).2 h2
  · rw [List.drop_eq_nil_of_le (by omega), Mt_nil]
    intro e; cases e
theorem inv_mis {o t : List Int} {k mark i st : Nat} (h : Inv o t k st mark i) (hi : i < t.length) (hm : ¬ Mt (o.drop k) (t.drop i)) : Inv o t (st + 1) st (mark + 1) (mark + 1) := by
  obtain ⟨h0, h1, h2, h3, h4⟩ := h.is st rfl
  have hk := h.k_le
  refine ⟨by omega, by omega, fun e => by omega, ?_, by omega⟩
  intro st' hst
  have : st' = st := by omega
  subst this
  refine ⟨by omega, by omega, ?_, fun x => x, fun u hu => by simpa using hu⟩
  rw [h2]
  constructor
  · intro hx
    obtain ⟨j, hj⟩ := Mt_star.1 hx
    cases j with
    | zero =>
      have := h4 _ hj
      rw [List.drop_zero, List.drop_drop] at this
      exact absurd (by have e : mark + (i - mark) = i := by omega
                       rw [e] at this; exact this) hm
    | succ j =>
      refine Mt_star.2 ⟨j, ?_⟩
      rw [List.drop_drop] at hj ⊢
      have e : mark + 1 + j = mark + (j + 1) := by omega
      rw [e]; exact hj
  · intro hx
    obtain ⟨j, hj⟩ := Mt_star.1 hx
    refine Mt_star.2 ⟨j + 1, ?_⟩
    rw [List.drop_drop] at hj ⊢
    have e : mark + (j + 1) = mark + 1 + j := by omega
    rw [e]; exact hj
theorem inv_end {o t : List Int} {k mark i : Nat} {star : Int} (h : Inv o t k star mark i) (hi : i = t.length) : Mt o t ↔ Mt (o.drop k) [] := by
  have hn : t.drop i = [] := List.drop_eq_nil_of_le (by omega)
  by_cases hneg : star < 0
  · rw [h.no hneg, hn]
  · obtain ⟨st, hst⟩ : ∃ st : Nat, star = (st : Int) := ⟨star.toNat, by have := h.le; omega⟩
    obtain ⟨h0, h1, h2, h3, h4⟩ := h.is st hst
    rw [h2, ← hn]
    constructor
    · intro hm
      obtain ⟨j, hj⟩ := Mt_star.1 hm
      have := h4 _ hj
      have e : (((t.drop mark).drop j).drop (i - mark)) = [] := by
        rw [List.drop_drop, List.drop_drop]; exact List.drop_eq_nil_of_le (by omega)
      rw [e] at this
      rw [hn]; exact this
    · intro hm; exact Mt_star.2 ⟨0, by simpa using h3 hm⟩
theorem part_two {c : Int} : (partOf c).1 = 2 ↔ c = -2 := by
  unfold partOf; split
  · simp [*]
  · split <;> simp [*]
theorem part_one {c : Int} : (partOf c).1 = 1 ↔ c = -1 := by
  unfold partOf; split
  · subst_vars; simp
  · split <;> simp [*]
theorem part_c {c : Int} (h : c ≠ -2) (h1 : c ≠ -1) : (partOf c).2.1 = c := by
  unfold partOf; rw [if_neg h, if_neg h1]
theorem at_part {o : List Int} {k : Nat} (hk : k < o.length) : atI (o.map partOf) (k : Int) = some (partOf o[k]) := by
  rw [atI_nat, List.getElem?_map, List.getElem?_eq_getElem hk]; rfl
/-- The end: only stars. -/
theorem tail_loop {o : List Int} (ho : o.length < 4294967296) : ∀ (n k : Nat), o.length - k ≤ n → k ≤ o.length →
    ∃ k' : Nat, loopT (glob_fits_l14 (o.map partOf)) ((k : Int), ()) = some (.inl ((k' : Int), ())) ∧ k' ≤ o.length ∧ (Mt (o.drop k) [] ↔ k' = o.length) := by
  intro n
  induction n with
  | zero =>
    intro k hn hk
    refine ⟨k, loopT_inr ?_, hk, ?_⟩
    · unfold glob_fits_l14
      rw [cond_dec, if_neg (by simp only [List.length_map]; omega)]
    · rw [List.drop_eq_nil_of_le (by omega), Mt_nil]; simp; omega
  | succ n ih =>
    intro k hn hk
    by_cases hlt : k < o.length
    · have hd : o.drop k = o[k] :: o.drop (k + 1) := drop_cons hlt
      by_cases h2 : o[k] = -2
      · obtain ⟨k', h3, h4, h5⟩ := ih (k + 1) (by omega) (by omega)
        refine ⟨k', ?_, h4, ?_⟩
        · rw [loopT_inl (b := (((k + 1 : Nat) : Int), ())), h3]
          unfold glob_fits_l14
          rw [cond_dec, if_pos (by simp only [List.length_map]; omega), at_part hlt, Option.bind_some, cond_dec, if_pos (part_two.2 h2)]
          simp only []
          rw [wrap64 (by omega) (by omega)]; rfl
        · rw [← h5, hd, h2, Mt_star]; simp
      · refine ⟨k, loopT_inr ?_, hk, ?_⟩
        · unfold glob_fits_l14
          rw [cond_dec, if_pos (by simp only [List.length_map]; omega), at_part hlt, Option.bind_some, cond_dec, if_neg (fun e => h2 (part_two.1 e))]
        · rw [hd, Mt_one h2]
          constructor
          · rintro ⟨x, b, h, _⟩; cases h
          · intro e; omega
    · refine ⟨k, loopT_inr ?_, hk, ?_⟩
      · unfold glob_fits_l14
        rw [cond_dec, if_neg (by simp only [List.length_map]; omega)]
      · rw [List.drop_eq_nil_of_le (by omega), Mt_nil]; simp; omega
open Classical in
theorem fits_loop {o t : List Int} (ho : o.length < 4294967296) (ht : t.length < 4294967296) : ∀ (n m k mark i : Nat) (star : Int), t.length - mark ≤ n → o.length - k ≤ m → mark ≤ i → (star < 0 → t.length - i + (o.length - k) ≤ m) → Inv o t k star mark i →
    ((∃ k' : Nat, k' ≤ o.length ∧ loopT (glob_fits_l3 (o.map partOf) t) ((k : Int), star, (mark : Int), (i : Int), ()) = some (.inl ((k' : Int), ())) ∧ (Mt o t ↔ Mt (o.drop k') [])) ∨
    (¬ Mt o t ∧ loopT (glob_fits_l3 (o.map partOf) t) ((k : Int), star, (mark : Int), (i : Int), ()) = some (.inr false))) := by
  intro n
  induction n using Nat.strongRecOn with
  | _ n ihn =>
  intro m
  induction m using Nat.strongRecOn with
  | _ m ihm =>
  intro k mark i star hn hm hmi hsm hI
  by_cases hi : i < t.length
  · have hti : t[i]? = some t[i] := List.getElem?_eq_getElem hi
    -- what is left when nothing goes on
    have miss : ∀ F : (Int × Int × Unit) → Option ((Int × Int × Int × Int × Unit) ⊕ ((Int × Unit) ⊕ Bool)), ¬ Mt (o.drop k) (t.drop i) →
        (star < 0 → glob_fits_l3 (o.map partOf) t ((k : Int), star, (mark : Int), (i : Int), ()) = some (.inr (.inr false))) →
        (¬ star < 0 → glob_fits_l3 (o.map partOf) t ((k : Int), star, (mark : Int), (i : Int), ()) = some (.inl (IntKind.wrap .i64 (star + 1), star, IntKind.wrap .i64 ((mark : Int) + 1), IntKind.wrap .i64 ((mark : Int) + 1), ()))) →
        ((∃ k' : Nat, k' ≤ o.length ∧ loopT (glob_fits_l3 (o.map partOf) t) ((k : Int), star, (mark : Int), (i : Int), ()) = some (.inl ((k' : Int), ())) ∧ (Mt o t ↔ Mt (o.drop k') [])) ∨
    (¬ Mt o t ∧ loopT (glob_fits_l3 (o.map partOf) t) ((k : Int), star, (mark : Int), (i : Int), ()) = some (.inr false))) := by
      intro F hmm h1 h2
      by_cases hs : star < 0
      · exact Or.inr ⟨fun e => hmm ((hI.no hs).1 e), loopT_inr (h1 hs)⟩
      · have hs' := h2 hs
        obtain ⟨st, hst⟩ : ∃ st : Nat, star = (st : Int) := ⟨star.toNat, by omega⟩
        subst hst
        have hk := hI.k_le
        have hst := (hI.is st rfl).1
        rw [wrap64 (by omega) (by omega), wrap64 (by omega) (by omega)] at hs'
        rw [loopT_inl (b := (((st + 1 : Nat) : Int), (st : Int), ((mark + 1 : Nat) : Int), ((mark + 1 : Nat) : Int), ())) hs']
        exact ihn (n - 1) (by omega) _ (st + 1) (mark + 1) (mark + 1) st (by omega) (Nat.le_refl _) (Nat.le_refl _) (fun e => by omega) (inv_mis hI hi hmm)
    by_cases hk : k < o.length
    · by_cases h2 : o[k] = -2
      · rw [loopT_inl (b := (((k + 1 : Nat) : Int), (k : Int), (i : Int), (i : Int), ()))]
        · by_cases hmk : m = 0
          · omega
          · exact ihm (m - 1) (by omega) (k + 1) i i k (by omega) (by omega) (Nat.le_refl _) (fun e => by omega) (inv_star hI hk h2)
        · unfold glob_fits_l3
          simp only [cond_dec, if_pos (show (i : Int) < (t.length : Int) by omega), List.length_map, if_pos (show (k : Int) < (o.length : Int) by omega), at_part hk, Option.bind_some, joinS_inl, joinS_inr, part_two, h2, decide_true, cond_true]
          rw [wrap64 (by omega) (by omega)]; rfl
      · have h3 : ¬ (partOf o[k]).1 = 2 := fun e => h2 (part_two.1 e)
        by_cases h1 : o[k] = -1 ∨ o[k] = t[i]
        · rw [loopT_inl (b := (((k + 1 : Nat) : Int), star, (mark : Int), ((i + 1 : Nat) : Int), ()))]
          · exact ihm (m - 1) (by omega) (k + 1) mark (i + 1) star (by omega) (by omega) (by omega) (fun e => by have := hsm e; omega) (inv_one hI hk hi h2 h1)
          · unfold glob_fits_l3
            simp only [cond_dec, if_pos (show (i : Int) < (t.length : Int) by omega), List.length_map, if_pos (show (k : Int) < (o.length : Int) by omega), at_part hk, Option.bind_some, joinS_inl, joinS_inr, h3, decide_false, cond_false, part_one, atI_nat, hti]
            rw [wrap64 (n := (k : Int) + 1) (by omega) (by omega), wrap64 (n := (i : Int) + 1) (by omega) (by omega)]
            by_cases h4 : o[k] = -1
            · rw [if_pos h4]; rfl
            · rw [if_neg h4, part_c h2 h4, if_pos (by rcases h1 with h | h; exact absurd h h4; exact h)]; rfl
        · have h4 : ¬ o[k] = -1 := fun e => h1 (Or.inl e)
          have h5 : ¬ o[k] = t[i] := fun e => h1 (Or.inr e)
          refine miss (fun _ => none) (mis hi (fun hk' => ⟨h2, h1⟩)) ?_ ?_
          · intro hs
            unfold glob_fits_l3
            simp only [cond_dec, if_pos (show (i : Int) < (t.length : Int) by omega), List.length_map, if_pos (show (k : Int) < (o.length : Int) by omega), at_part hk, Option.bind_some, joinS_inl, joinS_inr, h3, decide_false, cond_false, part_one, atI_nat, hti, if_neg h4, part_c h2 h4, if_neg h5, if_pos hs]
          · intro hs
            unfold glob_fits_l3
            simp only [cond_dec, if_pos (show (i : Int) < (t.length : Int) by omega), List.length_map, if_pos (show (k : Int) < (o.length : Int) by omega), at_part hk, Option.bind_some, joinS_inl, joinS_inr, h3, decide_false, cond_false, part_one, atI_nat, hti, if_neg h4, part_c h2 h4, if_neg h5, if_neg hs]
    · refine miss (fun _ => none) (mis hi (fun hk' => absurd hk' hk)) ?_ ?_
      · intro hs
        unfold glob_fits_l3
        simp only [cond_dec, if_pos (show (i : Int) < (t.length : Int) by omega), List.length_map, if_neg (show ¬ (k : Int) < (o.length : Int) by omega), Option.bind_some, joinS_inl, joinS_inr, cond_false, if_pos hs]
      · intro hs
        unfold glob_fits_l3
        simp only [cond_dec, if_pos (show (i : Int) < (t.length : Int) by omega), List.length_map, if_neg (show ¬ (k : Int) < (o.length : Int) by omega), Option.bind_some, joinS_inl, joinS_inr, cond_false, if_neg hs]
  · refine Or.inl ⟨k, hI.k_le, loopT_inr ?_, inv_end hI (by have := hI.i_le; omega)⟩
    unfold glob_fits_l3
    rw [cond_dec, if_neg (by simp only []; omega)]
open Classical in
theorem fits_t {o t : List Int} (ho : o.length < 4294967296) (ht : t.length < 4294967296) : glob_fits (o.map partOf) t = some (decide (Mt o t)) := by
  have hI : Inv o t 0 (-1) 0 0 := ⟨by omega, by omega, fun _ => by simp, fun st h => by omega, by omega⟩
  unfold glob_fits
  rcases fits_loop ho ht t.length (t.length + o.length) 0 0 0 (-1) (by omega) (by omega) (by omega) (fun _ => by omega) hI with ⟨k', h1, h2, h3⟩ | ⟨h1, h2⟩
  · obtain ⟨k'', h4, h5, h6⟩ := tail_loop ho (o.length - k') k' (Nat.le_refl _) h1
    have h2' : loopT (glob_fits_l3 (o.map partOf) t) (0, -1, 0, 0, ()) = some (.inl ((k' : Int), ())) := h2
    rw [h2', Option.bind_some, joinS_inl, h4, Option.bind_some, joinS_inl]
    simp only [List.length_map]
    congr 1
    rw [decide_eq_decide, h3, h6]
    omega
  · have h2' : loopT (glob_fits_l3 (o.map partOf) t) (0, -1, 0, 0, ()) = some (.inr false) := h2
    rw [h2', Option.bind_some, joinS_inr]
    simp [h1]
end Go.Proofs.YtnafmjbakholcaaDoor.Q
