import Derived.Test.YtnafmjbakholcaaDoorQ10
set_option linter.unusedVariables false
set_option linter.unusedSimpArgs false
set_option maxRecDepth 100000
namespace Go.Proofs.YtnafmjbakholcaaDoor.Q
open Go.EM Go.TY Go.Proofs Go.Proofs.YtnafmjbakholcaaDoor.Y Go.Proofs.YtnafmjbakholcaaDoor.K Go.Proofs.YtnafmjbakholcaaDoor.L
/-! ### a pattern that matches one text -/
def wildM (o : List Int) : Bool := o.any fun c => decide (c < 0)
theorem wild_cons {c : Int} {o : List Int} : wildM (c :: o) = (decide (c < 0) || wildM o) := rfl
theorem wild_app {o o' : List Int} : wildM (o ++ o') = (wildM o || wildM o') := by unfold wildM; rw [List.any_append]
/-- What the parts are. -/
def Part (c : Int) : Prop := c = -2 ∨ c = -1 ∨ Good c
theorem good_ge {c : Int} (h : Good c) : 0 ≤ c := by
  obtain ⟨s, h0, rfl⟩ := h
  exact (charM_int s).1
theorem parts_part : ∀ (n : Nat) {l o : List Int}, l.length ≤ n → (∀ c ∈ l, Good c) → partsM l = some o → ∀ c ∈ o, Part c := by
  intro n
  have h0 : ∀ {o : List Int}, partsM [] = some o → ∀ c ∈ o, Part c := by
    intro o h c hc
    simp [partsM] at h; subst h; cases hc
  induction n with
  | zero =>
    intro l o hn hg h
    have : l = [] := List.eq_nil_of_length_eq_zero (by omega)
    subst this; exact h0 h
  | succ n ih =>
    intro l o hn hg h
    cases l with
    | nil => exact h0 h
    | cons c t =>
      simp only [List.length_cons] at hn
      have key : ∀ {x : Int} {t' : List Int}, Part x → t'.length ≤ t.length → (∀ c ∈ t', Good c) → ((partsM t').map fun o => x :: o) = some o → ∀ c ∈ o, Part c := by
        intro x t' hx ht' hg' e
        rw [Option.map_eq_some_iff] at e
        obtain ⟨o', h1, rfl⟩ := e
        intro y hy
        rcases List.mem_cons.1 hy with rfl | hy
        · exact hx
        · exact ih (by omega) hg' h1 y hy
      have gt : ∀ c ∈ t, Good c := fun c hc => hg c (List.mem_cons_of_mem _ hc)
      rw [partsM_cons] at h
      split at h
      · exact key (Or.inl rfl) (Nat.le_refl _) gt h
      · split at h
        · exact key (Or.inr (Or.inl rfl)) (Nat.le_refl _) gt h
        · split at h
          · cases t with
            | nil => cases h
            | cons d t' =>
              simp only [] at h
              split at h
              · exact key (Or.inr (Or.inr (gt d (List.mem_cons_self ..)))) (by simp) (fun c hc => gt c (List.mem_cons_of_mem _ hc)) h
              · cases h
          · exact key (Or.inr (Or.inr (hg c (List.mem_cons_self ..)))) (Nat.le_refl _) gt h
theorem pat_part {p : List UInt8} {o : List Int} (h : pat p = some o) : ∀ c ∈ o, Part c := by
  unfold pat at h
  rw [Option.bind_eq_some_iff] at h
  obtain ⟨l, h1, h2⟩ := h
  split at h2
  · cases h2
  · exact parts_part l.length (Nat.le_refl _) (good_runes h1) h2
theorem part_zero {c : Int} : (partOf c).1 = 0 ↔ ¬ (c = -2 ∨ c = -1) := by
  unfold partOf; split
  · subst_vars; simp
  · split <;> simp [*]
theorem lit_loop {o : List Int} {b : Bool} (ho : o.length < 4294967296) (hp : ∀ c ∈ o, Part c) : ∀ (k i : Nat) (out : List Int), o.length - i ≤ k → i ≤ o.length → out.length ≤ i →
    loopT (glob_Literal_l4 (o.map partOf, b, ())) ((i : Int), out, ()) = some (if wildM (o.drop i) then .inr ([], false, ()) else .inl (out ++ o.drop i, ())) := by
  intro k
  have fin : ∀ (i : Nat) (out : List Int), ¬ i < o.length → loopT (glob_Literal_l4 (o.map partOf, b, ())) ((i : Int), out, ()) = some (if wildM (o.drop i) then .inr ([], false, ()) else .inl (out ++ o.drop i, ())) := by
    intro i out hi
    rw [List.drop_eq_nil_of_le (by omega)]
    refine loopT_inr ?_
    unfold glob_Literal_l4
    rw [cond_dec, if_neg (by simp only [List.length_map]; omega)]
    simp [wildM]
  induction k with
  | zero => intro i out hk hi ho'; exact fin i out (by omega)
  | succ k ih =>
    intro i out hk hi ho'
    by_cases hlt : i < o.length
    · have hd : o.drop i = o[i] :: o.drop (i + 1) := drop_cons hlt
      have hpi := hp o[i] (List.getElem_mem hlt)
      rw [hd, wild_cons]
      by_cases hw : o[i] = -2 ∨ o[i] = -1
      · refine loopT_inr ?_
        unfold glob_Literal_l4
        rw [cond_dec, if_pos (by simp only [List.length_map]; omega), at_part hlt, Option.bind_some, cond_ndec, if_neg (fun e => part_zero.1 e hw)]
        have : decide (o[i] < 0) = true := decide_eq_true (by omega)
        simp [this]
      · have hg : Good o[i] := by
          rcases hpi with h | h | h
          · exact absurd (Or.inl h) hw
          · exact absurd (Or.inr h) hw
          · exact h
        have h0 := good_ge hg
        have hp' : (partOf o[i]).2.1 = o[i] := part_c (fun e => hw (Or.inl e)) (fun e => hw (Or.inr e))
        rw [loopT_inl (b := (((i + 1 : Nat) : Int), out ++ [o[i]], ())), ih _ _ (by omega) (by omega) (by simp; omega)]
        · have : decide (o[i] < 0) = false := decide_eq_false (by omega)
          rw [this, Bool.false_or]
          simp
        · unfold glob_Literal_l4
          rw [cond_dec, if_pos (by simp only [List.length_map]; omega), at_part hlt, Option.bind_some, cond_ndec, if_pos (part_zero.2 hw), hp']
          simp only [List.length_cons, List.length_nil]
          rw [roomT_lt (by omega), Option.bind_some, wrap64 (by omega) (by omega)]; rfl
    · exact fin i out hlt
theorem literal_t {p : List UInt8} (hp : p.length < 4294967295) : glob_Literal p = some (match pat p with | some o => if wildM o then ([], false, ()) else (encM o, true, ()) | none => ([], false, ())) := by
  unfold glob_Literal
  rw [parts_t (by omega), Option.bind_some]
  cases h : pat p with
  | none =>
    have := lit_loop (o := []) (b := false) (by simp) (fun c hc => by cases hc) 0 0 [] (by simp) (by simp) (by simp)
    simp only [List.map_nil, List.drop_nil] at this
    have e : partsR [] none = ([], false, ()) := rfl
    rw [e]
    have this' : loopT (glob_Literal_l4 ([], false, ())) (0, [], ()) = some (.inl ([], ())) := by simpa [wildM] using this
    rw [this', Option.bind_some]; rfl
  | some o =>
    have hl := pat_le h
    have := lit_loop (o := o) (b := true) (by omega) (pat_part h) o.length 0 [] (by simp) (by simp) (by simp)
    have e : partsR [] (some o) = (o.map partOf, true, ()) := by simp [partsR]
    rw [e]
    have this' : loopT (glob_Literal_l4 (o.map partOf, true, ())) (0, [], ()) = some (if wildM o then .inr ([], false, ()) else .inl (o, ())) := by simpa using this
    rw [this', Option.bind_some]
    cases hw : wildM o <;> simp [hw, encM]
theorem Mt_lit : ∀ {o t : List Int}, wildM o = false → (Mt o t ↔ t = o)
  | [], t, _ => Iff.rfl
  | c :: o, t, h => by
    rw [wild_cons, Bool.or_eq_false_iff, decide_eq_false_iff_not] at h
    rw [Mt_one (by omega)]
    constructor
    · rintro ⟨x, b, rfl, h1, h2⟩
      have := (Mt_lit h.2).1 h2
      rcases h1 with h1 | rfl
      · omega
      · rw [this]
    · rintro rfl
      exact ⟨c, o, rfl, Or.inr rfl, (Mt_lit h.2).2 rfl⟩
/-! ### GlobLiteral -/
theorem wild_loop {r : List Int × Bool × Unit} (hr : r.1.length < 4294967296) : ∀ (k i : Nat) (w : Bool), r.1.length - i ≤ k → i ≤ r.1.length →
    loopT (law37_GlobLiteral_l6 r) (w, (i : Int), ()) = some (.inl (w || wildM (r.1.drop i), ())) := by
  intro k
  have fin : ∀ (i : Nat) (w : Bool), ¬ i < r.1.length → loopT (law37_GlobLiteral_l6 r) (w, (i : Int), ()) = some (.inl (w || wildM (r.1.drop i), ())) := by
    intro i w hi
    rw [List.drop_eq_nil_of_le (by omega)]
    refine loopT_inr ?_
    unfold law37_GlobLiteral_l6
    rw [cond_dec, if_neg (by simp only []; omega)]
    simp [wildM]
  induction k with
  | zero => intro i w hk hi; exact fin i w (by omega)
  | succ k ih =>
    intro i w hk hi
    by_cases hlt : i < r.1.length
    · have w1 : IntKind.wrap .i64 ((i : Int) + 1) = ((i + 1 : Nat) : Int) := by rw [wrap64 (by omega) (by omega)]; rfl
      rw [loopT_inl (b := (w || decide (r.1[i] < 0), ((i + 1 : Nat) : Int), ())), ih _ _ (by omega) (by omega), drop_cons hlt, wild_cons, Bool.or_assoc]
      unfold law37_GlobLiteral_l6
      simp only [cond_dec, if_pos (show (i : Int) < (r.1.length : Int) by omega), w1, atI_nat, List.getElem?_eq_getElem hlt, Option.bind_some]
      cases w <;> simp
    · exact fin i w hlt
theorem enc_nil_iff {o : List Int} (h : ∀ c ∈ o, Good c) : encM o = [] ↔ o = [] := by
  constructor
  · intro e
    have := runes_enc h
    rw [e, runesM_nil] at this
    exact (Option.some.inj this).symm
  · rintro rfl; rfl
theorem enc_le : ∀ (o : List Int), (encM o).length ≤ 4 * o.length
  | [] => by simp [encM]
  | c :: o => by
    have := enc_le o
    have h4 : (Utf8.encode c).data.toList.length ≤ 4 := by
      unfold Utf8.encode
      simp only []
      repeat' split
      all_goals simp
    unfold encM at this ⊢
    rw [List.flatMap_cons, List.length_append, List.length_cons]
    omega
open Classical in
theorem globLiteral_t {p s : List UInt8} : law37_GlobLiteral p s = some true := by
  unfold law37_GlobLiteral
  simp only [awake_t, Option.bind_some, cond_dec]
  by_cases hp : p.length > 200
  · rw [if_pos (by omega)]
  rw [if_neg (by omega)]
  by_cases hs : s.length > 200
  · rw [if_pos (by omega)]
  rw [if_neg (by omega), refParts_t (by omega), Option.bind_some, literal_t (by omega)]
  cases h : pat p with
  | none =>
    have hl := wild_loop (r := ([], false, ())) (by simp) 0 0 false (by simp) (by simp)
    have hl' : loopT (law37_GlobLiteral_l6 ([], false, ())) (false, 0, ()) = some (.inl (false, ())) := by simpa [wildM] using hl
    simp only [hl', Option.bind_some, joinS_inl]
    simp
  | some o =>
    have ho := pat_le h
    have hl := wild_loop (r := (o, true, ())) (by simp only []; omega) o.length 0 false (by simp) (by simp)
    have hl' : loopT (law37_GlobLiteral_l6 (o, true, ())) (false, 0, ()) = some (.inl (wildM o, ())) := by simpa using hl
    simp only [hl', Option.bind_some, joinS_inl]
    cases hw : wildM o with
    | true => simp
    | false =>
      have hg : ∀ c ∈ o, Good c := by
        intro c hc
        rcases pat_part h c hc with e | e | e
        · have : wildM o = true := List.any_eq_true.2 ⟨c, hc, decide_eq_true (by omega)⟩
          rw [hw] at this; cases this
        · have : wildM o = true := List.any_eq_true.2 ⟨c, hc, decide_eq_true (by omega)⟩
          rw [hw] at this; cases this
        · exact e
      have hle := enc_le o
      have hm1 : glob_Match p (encM o) = some true := by
        rw [match_t (by omega) (by omega), h, runes_enc hg]
        simp only []
        congr 1
        exact decide_eq_true ((Mt_lit hw).2 rfl)
      have hm2 : glob_Match p s = some (decide (s = encM o)) := by
        rw [match_t (by omega) (by omega), h]
        cases hr : runesM s with
        | none =>
          simp only []
          congr 1
          rw [eq_comm, decide_eq_false_iff_not]
          rintro rfl
          rw [runes_enc hg] at hr; cases hr
        | some t =>
          simp only []
          congr 1
          rw [decide_eq_decide, Mt_lit hw]
          constructor
          · rintro rfl; exact (enc_runes hr).symm
          · rintro rfl; rw [runes_enc hg] at hr; exact (Option.some.inj hr).symm
      simp [hm1, hm2]
end Go.Proofs.YtnafmjbakholcaaDoor.Q
