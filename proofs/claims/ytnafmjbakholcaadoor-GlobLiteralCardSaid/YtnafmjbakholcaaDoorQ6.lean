import Derived.Test.YtnafmjbakholcaaDoorQ5
set_option linter.unusedVariables false
set_option linter.unusedSimpArgs false
set_option maxRecDepth 100000
namespace Go.Proofs.YtnafmjbakholcaaDoor.Q
open Go.EM Go.TY Go.Proofs Go.Proofs.YtnafmjbakholcaaDoor.Y
/-! ### []rune(s) -/
theorem runesFrom_t {s : List UInt8} : ∀ (k i : Nat) (l : List Int), s.length - i ≤ k → i ≤ s.length → runesM (s.drop i) = some l → runesFromT s k i = l := by
  intro k
  induction k with
  | zero =>
    intro i l hk hi hl
    rw [List.drop_eq_nil_of_le (by omega), runesM_nil] at hl
    cases hl; rfl
  | succ k ih =>
    intro i l hk hi hl
    by_cases hlt : i < s.length
    · have hne : s.drop i ≠ [] := fun e => by have := congrArg List.length e; simp at this; omega
      have hle := charM_le (s.drop i)
      have hin := charM_int (s.drop i)
      simp only [List.length_drop] at hle
      by_cases h0 : (charM (s.drop i)).2 = 0
      · rw [runesM_none hne h0] at hl; cases hl
      · rw [runesM_step hne h0, List.drop_drop, Option.map_eq_some_iff] at hl
        obtain ⟨l', hl', rfl⟩ := hl
        unfold runesFromT
        rw [if_pos hlt, decode_N hlt]
        simp only [decN, if_neg h0]
        rw [ih _ l' (by omega) (by omega) hl']
        congr 1; omega
    · rw [List.drop_eq_nil_of_le (by omega), runesM_nil] at hl
      cases hl
      unfold runesFromT
      rw [if_neg hlt]
theorem runesT_t {s : List UInt8} {l : List Int} (hl : runesM s = some l) : runesT s = l := runesFrom_t s.length 0 l (by omega) (by omega) (by simpa using hl)
/-! ### the parts of a pattern: characters; -1 any one, -2 any number of any -/
def spec (c : Int) : Bool := decide (c = 42) || decide (c = 63) || decide (c = 92)
theorem special_t (c : Int) : glob_special c = some (spec c) := by
  unfold glob_special spec
  by_cases h1 : c = 42 <;> by_cases h2 : c = 63 <;> by_cases h3 : c = 92 <;> simp [h1, h2, h3]
def partsM : List Int → Option (List Int)
  | [] => some []
  | c :: t =>
    if c = 42 then (partsM t).map fun o => -2 :: o
    else if c = 63 then (partsM t).map fun o => -1 :: o
    else if c = 92 then (match t with
      | [] => none
      | d :: t' => if spec d then (partsM t').map fun o => d :: o else none)
    else (partsM t).map fun o => c :: o
def partOf (c : Int) : Int × Int × Unit := if c = -2 then (2, 0, ()) else if c = -1 then (1, 0, ()) else (0, c, ())
def pat (p : List UInt8) : Option (List Int) := (runesM p).bind fun l => if l.length > 64 then none else partsM l
theorem partsM_cons {c : Int} {t : List Int} : partsM (c :: t) = if c = 42 then (partsM t).map fun o => -2 :: o
    else if c = 63 then (partsM t).map fun o => -1 :: o
    else if c = 92 then (match t with
      | [] => none
      | d :: t' => if spec d then (partsM t').map fun o => d :: o else none)
    else (partsM t).map fun o => c :: o := by rw [partsM.eq_def]
theorem partsM_esc {d : Int} {t : List Int} : partsM (92 :: d :: t) = if spec d then (partsM t).map fun o => d :: o else none := by
  rw [partsM_cons, if_neg (by omega), if_neg (by omega), if_pos rfl]
theorem partsM_plain {c : Int} {t : List Int} (h : spec c = false) : partsM (c :: t) = (partsM t).map fun o => c :: o := by
  simp only [spec, Bool.or_eq_false_iff, decide_eq_false_iff_not] at h
  rw [partsM_cons, if_neg h.1.1, if_neg h.1.2, if_neg h.2]
theorem partsM_star {t : List Int} : partsM (42 :: t) = (partsM t).map fun o => -2 :: o := by rw [partsM_cons, if_pos rfl]
theorem partsM_any {t : List Int} : partsM (63 :: t) = (partsM t).map fun o => -1 :: o := by rw [partsM_cons, if_neg (by omega), if_pos rfl]
theorem spec_ge {c : Int} (h : spec c = true) : c = 42 ∨ c = 63 ∨ c = 92 := by
  simp only [spec, Bool.or_eq_true, decide_eq_true_eq] at h; omega
def partsE (esc : Bool) (l : List Int) : Option (List Int) := if esc then partsM (92 :: l) else partsM l
def partsR (out : List (Int × Int × Unit)) : Option (List Int) → List (Int × Int × Unit) × Bool × Unit
  | some o => (out ++ o.map partOf, true, ())
  | none => ([], false, ())
theorem partsR_map {out : List (Int × Int × Unit)} {c : Int} {x : Option (List Int)} : partsR out (x.map fun o => c :: o) = partsR (out ++ [partOf c]) x := by
  cases x <;> simp [partsR]
theorem parts_loop {s : List UInt8} (hs : s.length < 4294967296) : ∀ (k i : Nat) (esc : Bool) (out : List (Int × Int × Unit)) (l : List Int), s.length - i ≤ k → i ≤ s.length → out.length ≤ i → runesM (s.drop i) = some l →
    (loopT (glob_parts_l6 s) (esc, i, out, ())).bind (joinS fun v10 =>
      cond v10.1 (some ([], false, ())) (some (v10.2.1, true, ()))) = some (partsR out (partsE esc l)) := by
  intro k
  have fin : ∀ (i : Nat) (esc : Bool) (out : List (Int × Int × Unit)) (l : List Int), ¬ i < s.length → runesM (s.drop i) = some l → (loopT (glob_parts_l6 s) (esc, i, out, ())).bind (joinS fun v10 =>
      cond v10.1 (some ([], false, ())) (some (v10.2.1, true, ()))) = some (partsR out (partsE esc l)) := by
    intro i esc out l hi hl
    rw [List.drop_eq_nil_of_le (by omega), runesM_nil] at hl
    cases hl
    rw [loopT_inr (x := .inl (esc, out, ())) (by unfold glob_parts_l6; rw [cond_dec, if_neg hi])]
    cases esc <;> simp [partsE, partsM, partsR]
  induction k with
  | zero => intro i esc out l hk hi ho hl; exact fin i esc out l (by omega) hl
  | succ k ih =>
    intro i esc out l hk hi ho hl
    by_cases hlt : i < s.length
    · have hne : s.drop i ≠ [] := fun e => by have := congrArg List.length e; simp at this; omega
      have hle := charM_le (s.drop i)
      have hin := charM_int (s.drop i)
      simp only [List.length_drop] at hle
      by_cases h0 : (charM (s.drop i)).2 = 0
      · rw [runesM_none hne h0] at hl; cases hl
      · rw [runesM_step hne h0, List.drop_drop, Option.map_eq_some_iff] at hl
        obtain ⟨l', hl', rfl⟩ := hl
        have hd := decode_N hlt
        simp only [decN, if_neg h0] at hd
        have hc : (((charM (s.drop i)).1.toNat : Nat) : Int) = (charM (s.drop i)).1 := by omega
        generalize hcc : (charM (s.drop i)).1 = c at hl' hd hc hin ⊢
        generalize hnn : (charM (s.drop i)).2 = n at hl' hd hle h0 ⊢
        have hroom : roomT (out.length + 1) = some () := roomT_lt (by omega)
        have next : ∀ (e' : Bool) (out' : List (Int × Int × Unit)), out'.length ≤ out.length + 1 → glob_parts_l6 s (esc, i, out, ()) = some (.inl (e', i + n, out', ())) → (loopT (glob_parts_l6 s) (esc, i, out, ())).bind (joinS fun v10 =>
      cond v10.1 (some ([], false, ())) (some (v10.2.1, true, ()))) = some (partsR out' (partsE e' l')) := by
          intro e' out' ho' h
          rw [loopT_inl h]
          exact ih _ _ _ _ (by omega) (by omega) (by omega) hl'
        cases esc with
        | true =>
          by_cases hsp : spec c = true
          · rw [next false (out ++ [partOf c]) (by simp) ?_]
            · simp only [partsE, partsM_esc, hsp, if_true, partsR_map]; simp
            · unfold glob_parts_l6
              rw [cond_dec, if_pos hlt, hd]
              simp only [hc, special_t, Option.bind_some, hsp, cond_true, joinS_inl, Bool.not_true, cond_false, List.length_cons, List.length_nil, hroom]
              have : partOf c = (0, c, ()) := by
                have := spec_ge hsp
                unfold partOf; rw [if_neg (by omega), if_neg (by omega)]
              rw [this]
          · have hsp' : spec c = false := by simpa using hsp
            rw [loopT_inr (x := .inr ([], false, ()))]
            · simp [partsE, partsM_esc, hsp', partsR]
            · unfold glob_parts_l6
              rw [cond_dec, if_pos hlt, hd]
              simp only [hc, special_t, Option.bind_some, hsp', cond_true, joinS_inl, Bool.not_false]
        | false =>
          by_cases hsp : spec c = true
          · have hs3 := spec_ge hsp
            by_cases h92 : c = 92
            · rw [next true out (by omega) ?_]
              · simp only [partsE, h92]; simp
              · unfold glob_parts_l6
                rw [cond_dec, if_pos hlt, hd]
                simp only [hc, special_t, Option.bind_some, hsp, cond_false, joinS_inl, Bool.not_true, cond_dec, if_pos h92]
            · by_cases h63 : c = 63
              · rw [next false (out ++ [partOf (-1)]) (by simp) ?_]
                · simp only [partsE, h63, partsM_any]; rw [if_neg (by simp), if_neg (by simp), partsR_map]
                · unfold glob_parts_l6
                  rw [cond_dec, if_pos hlt, hd]
                  simp only [hc, special_t, Option.bind_some, hsp, cond_false, joinS_inl, Bool.not_true, cond_dec, if_neg h92, if_pos h63, List.length_cons, List.length_nil, hroom]
                  rfl
              · have h42 : c = 42 := by omega
                rw [next false (out ++ [partOf (-2)]) (by simp) ?_]
                · simp only [partsE, h42, partsM_star]; rw [if_neg (by simp), if_neg (by simp), partsR_map]
                · unfold glob_parts_l6
                  rw [cond_dec, if_pos hlt, hd]
                  simp only [hc, special_t, Option.bind_some, hsp, cond_false, joinS_inl, Bool.not_true, cond_dec, if_neg h92, if_neg h63, List.length_cons, List.length_nil, hroom]
                  rfl
          · have hsp' : spec c = false := by simpa using hsp
            rw [next false (out ++ [partOf c]) (by simp) ?_]
            · simp only [partsE, partsM_plain hsp']; rw [if_neg (by simp), if_neg (by simp), partsR_map]
            · unfold glob_parts_l6
              rw [cond_dec, if_pos hlt, hd]
              simp only [hc, special_t, Option.bind_some, hsp', cond_false, joinS_inl, Bool.not_false, cond_true, List.length_cons, List.length_nil, hroom]
              have : partOf c = (0, c, ()) := by
                unfold partOf; rw [if_neg (by omega), if_neg (by omega)]
              rw [this]
    · exact fin i esc out l hlt hl
theorem parts_t {p : List UInt8} (hp : p.length < 4294967296) : glob_parts p = some (partsR [] (pat p)) := by
  unfold glob_parts
  rw [validString_t, Option.bind_some]
  unfold validM pat
  cases hl : runesM p with
  | none => simp [partsR]
  | some l =>
    simp only [Option.isSome_some, Bool.not_true, cond_false, Option.bind_some, count_t hp hl, cond_dec]
    by_cases h : l.length > 64
    · rw [if_pos (by omega), if_pos h]; simp [partsR]
    · rw [if_neg (by omega), if_neg h]
      exact parts_loop hp p.length 0 false [] l (by omega) (by omega) (by simp) (by simpa using hl)
/-! ### the document's parts -/
theorem refParts_loop {r : List Int × Bool × Unit} (hr : r.1.length < 4294967296) : ∀ (k i : Nat) (out : List Int), r.1.length - i ≤ k → i ≤ r.1.length → out.length ≤ i →
    loopT (ref37_Parts_l6 r) ((i : Int), out, ()) = some (match partsM (r.1.drop i) with | some o => (out ++ o, true, ()) | none => ([], false, ())) := by
  intro k
  have fin : ∀ (i : Nat) (out : List Int), ¬ i < r.1.length → loopT (ref37_Parts_l6 r) ((i : Int), out, ()) = some (match partsM (r.1.drop i) with | some o => (out ++ o, true, ()) | none => ([], false, ())) := by
    intro i out hi
    rw [List.drop_eq_nil_of_le (by omega), loopT_inr (x := (out, true, ())) (by unfold ref37_Parts_l6; rw [cond_dec, if_neg (by omega)])]
    simp [partsM]
  induction k using Nat.strongRecOn with
  | _ k ih =>
    intro i out hk hi ho
    by_cases hlt : i < r.1.length
    · obtain ⟨c, hc⟩ : ∃ c, r.1[i]? = some c := ⟨_, List.getElem?_eq_getElem hlt⟩
      have hdr : r.1.drop i = c :: r.1.drop (i + 1) := by
        rw [List.drop_eq_getElem_cons hlt]; rw [List.getElem?_eq_getElem hlt] at hc; cases hc; rfl
      have w1 : IntKind.wrap .i64 ((i : Int) + 1) = ((i + 1 : Nat) : Int) := by rw [wrap64 (by omega) (by omega)]; rfl
      have hroom : roomT (out.length + 1) = some () := roomT_lt (by omega)
      have next : ∀ (x : Int), ref37_Parts_l6 r ((i : Int), out, ()) = some (.inl (((i + 1 : Nat) : Int), out ++ [x], ())) →
          loopT (ref37_Parts_l6 r) ((i : Int), out, ()) = some (match (partsM (r.1.drop (i + 1))).map (fun o => x :: o) with | some o => (out ++ o, true, ()) | none => ([], false, ())) := by
        intro x h
        rw [loopT_inl h, ih (k - 1) (by omega) (i + 1) _ (by omega) (by omega) (by simp; omega)]
        cases partsM (r.1.drop (i + 1)) <;> simp
      rw [hdr]
      by_cases h42 : c = 42
      · rw [h42, partsM_star]
        refine next (-2) ?_
        unfold ref37_Parts_l6
        simp only [cond_dec, atI_nat, hc, Option.bind_some, if_pos (show (i : Int) < (r.1.length : Int) by omega), if_pos h42, List.length_cons, List.length_nil, hroom, w1]
      by_cases h63 : c = 63
      · rw [h63, partsM_any]
        refine next (-1) ?_
        unfold ref37_Parts_l6
        simp only [cond_dec, atI_nat, hc, Option.bind_some, if_pos (show (i : Int) < (r.1.length : Int) by omega), if_neg h42, if_pos h63, List.length_cons, List.length_nil, hroom, w1]
      by_cases h92 : c = 92
      · subst h92
        by_cases hl : i + 1 = r.1.length
        · rw [List.drop_eq_nil_of_le (by omega)]
          rw [loopT_inr (x := ([], false, ()))]
          · simp [partsM]
          · unfold ref37_Parts_l6
            simp only [cond_dec, atI_nat, hc, Option.bind_some, if_pos (show (i : Int) < (r.1.length : Int) by omega), w1, if_pos (show ((i + 1 : Nat) : Int) = (r.1.length : Int) by omega), joinS_inr, if_neg h42, if_neg h63, if_true]
        · obtain ⟨d, hd⟩ : ∃ d, r.1[i + 1]? = some d := ⟨_, List.getElem?_eq_getElem (by omega)⟩
          have hdr2 : r.1.drop (i + 1) = d :: r.1.drop (i + 2) := by
            rw [List.drop_eq_getElem_cons (by omega)]; rw [List.getElem?_eq_getElem (by omega)] at hd; cases hd; rfl
          have w2 : IntKind.wrap .i64 (((i + 1 : Nat) : Int) + 1) = ((i + 2 : Nat) : Int) := by rw [wrap64 (by omega) (by omega)]; omega
          rw [hdr2, partsM_esc]
          by_cases hsp : spec d = true
          · rw [if_pos hsp, loopT_inl (b := (((i + 2 : Nat) : Int), out ++ [d], ()))]
            · rw [ih (k - 2) (by omega) (i + 2) _ (by omega) (by omega) (by simp; omega)]
              cases partsM (r.1.drop (i + 2)) <;> simp
            · have hs3 := spec_ge hsp
              unfold ref37_Parts_l6
              simp only [cond_dec, cond_ndec, atI_nat, hc, hd, Option.bind_some, if_pos (show (i : Int) < (r.1.length : Int) by omega), w1, if_neg (show ¬ ((i + 1 : Nat) : Int) = (r.1.length : Int) by omega), if_neg h42, if_neg h63, if_true, List.length_cons, List.length_nil]
              rcases hs3 with h | h | h <;> subst h <;> simp only [if_true, joinS_inl, Option.bind_some, hroom, w2, ite_self] <;> simp [hroom, w2]
          · have hsp' : spec d = false := by simpa using hsp
            rw [if_neg hsp, loopT_inr (x := ([], false, ()))]
            simp only [spec, Bool.or_eq_false_iff, decide_eq_false_iff_not] at hsp'
            unfold ref37_Parts_l6
            simp only [cond_dec, cond_ndec, atI_nat, hc, hd, Option.bind_some, if_pos (show (i : Int) < (r.1.length : Int) by omega), w1, if_neg (show ¬ ((i + 1 : Nat) : Int) = (r.1.length : Int) by omega), if_neg h42, if_neg h63, if_true, if_neg hsp'.1.1, if_neg hsp'.1.2, if_neg hsp'.2, joinS_inr]
      · rw [partsM_plain (by simp [spec, h42, h63, h92])]
        refine next c ?_
        unfold ref37_Parts_l6
        simp only [cond_dec, atI_nat, hc, Option.bind_some, if_pos (show (i : Int) < (r.1.length : Int) by omega), if_neg h42, if_neg h63, if_neg h92, joinS_inl, List.length_cons, List.length_nil, hroom, w1]
    · exact fin i out hlt
theorem refParts_t {p : List UInt8} (hp : p.length < 4294967296) : ref37_Parts p = some (match pat p with | some o => (o, true, ()) | none => ([], false, ())) := by
  unfold ref37_Parts
  rw [runes_t hp, Option.bind_some]
  unfold runesR pat
  cases hl : runesM p with
  | none => simp
  | some l =>
    simp only [Bool.not_true, cond_false, Option.bind_some, cond_dec, List.nil_append]
    by_cases h : l.length > 64
    · rw [if_pos (by omega), if_pos h]
    · rw [if_neg (by omega), if_neg h]
      have := refParts_loop (r := (l, true, ())) (by simp only []; omega) l.length 0 [] (by simp) (by simp) (by simp)
      simpa using this
theorem runesM_le : ∀ {s : List UInt8} {l : List Int}, runesM s = some l → l.length ≤ s.length := by
  intro s
  induction s using (measure List.length).wf.induction with
  | _ s ih =>
    intro l h
    by_cases hn : s = []
    · subst hn; rw [runesM_nil] at h; cases h; simp
    · by_cases h0 : (charM s).2 = 0
      · rw [runesM_none hn h0] at h; cases h
      · rw [runesM_step hn h0, Option.map_eq_some_iff] at h
        obtain ⟨l', hl', rfl⟩ := h
        have hp : s.length ≠ 0 := fun e => hn (List.eq_nil_of_length_eq_zero e)
        have := ih (s.drop (charM s).2) (by show (s.drop _).length < s.length; simp only [List.length_drop]; omega) hl'
        simp only [List.length_drop] at this
        simp only [List.length_cons]; omega
theorem partsM_len : ∀ (n : Nat) {l o : List Int}, l.length ≤ n → partsM l = some o → o.length ≤ l.length := by
  intro n
  induction n with
  | zero =>
    intro l o hn h
    have : l = [] := List.eq_nil_of_length_eq_zero (by omega)
    subst this
    simp [partsM] at h; subst h; simp
  | succ n ih =>
    intro l o hn h
    cases l with
    | nil => simp [partsM] at h; subst h; simp
    | cons c t =>
      simp only [List.length_cons] at hn
      have key : ∀ {x : Int} {t' : List Int}, t'.length ≤ t.length → ((partsM t').map fun o => x :: o) = some o → o.length ≤ (c :: t).length := by
        intro x t' ht' e
        rw [Option.map_eq_some_iff] at e
        obtain ⟨o', h1, rfl⟩ := e
        have := ih (by omega) h1
        simp only [List.length_cons]; omega
      rw [partsM_cons] at h
      split at h
      · exact key (Nat.le_refl _) h
      · split at h
        · exact key (Nat.le_refl _) h
        · split at h
          · cases t with
            | nil => cases h
            | cons d t' =>
              simp only [] at h
              split at h
              · exact key (by simp) h
              · cases h
          · exact key (Nat.le_refl _) h
theorem partsM_le {l o : List Int} (h : partsM l = some o) : o.length ≤ l.length := partsM_len l.length (Nat.le_refl _) h
theorem pat_le {p : List UInt8} {o : List Int} (h : pat p = some o) : o.length ≤ 64 := by
  unfold pat at h
  rw [Option.bind_eq_some_iff] at h
  obtain ⟨l, h1, h2⟩ := h
  split at h2
  · cases h2
  · have := partsM_le h2; omega
end Go.Proofs.YtnafmjbakholcaaDoor.Q
