/- Parts of values, and values told of another type: what they are of the abstract machine's. -/
import Derived.Test.YtnafmjbakholcaaDoorT1
set_option linter.unusedVariables false
set_option linter.unusedSimpArgs false
namespace Go.TY
open Go.EM
section
variable {Γ : Ctx}

theorem isB_eq {a b : Bool} (h : isB a b = true) : a = b := by cases a <;> cases b <;> first | rfl | cases h
theorem R_modeV : ∀ {t : Ty} {v : t.V} {l : List AVal} (c d : Bool), t.isAgg = false → t.isV = true → R Γ t v c l → R Γ t v d l
  | .int k, v, l, c, d, _, _, h => by simpa only [R] using h
  | .bool, v, l, c, d, _, _, h => by simpa only [R] using h
  | .str, v, l, c, d, _, _, h => by simpa only [R] using h
  | .sl t, v, l, c, d, _, _, h => by simpa only [R] using h
  | .agg t, v, l, c, d, h, _, _ => by cases h
  | .arr n t, v, l, c, d, h, _, _ => by cases h
  | .tup t, v, l, c, d, _, _, h => by simpa only [R] using h
  | .unit, v, l, c, d, _, h, _ => by cases h
  | .cons t ts, v, l, c, d, _, h, _ => by cases h
  | .nilsl, v, l, c, d, _, _, h => by simpa only [R] using h
  | .nilp, v, l, c, d, _, _, h => by simpa only [R] using h
  | .undef, v, l, c, d, _, _, h => by simpa only [R] using h
  | .any, v, l, c, d, _, _, h => by simpa only [R] using h
  | .own id, v, l, c, d, _, _, h => by simpa only [R] using h
  | .it id, v, l, c, d, _, _, h => by simpa only [R] using h
  | .bx id off, v, l, c, d, _, _, h => by simpa only [R] using h
  | .ptr id off, v, l, c, d, _, _, h => by simpa only [R] using h
  | .rp t off, v, l, c, d, _, _, h => by simpa only [R] using h
/-- A value whose cells these are. -/
theorem R_ofCells {t : Ty} {v : t.V} {l : List AVal} (hv : t.isV = true) (h : R Γ t v true l) : ∃ a, a.cells = l ∧ R Γ t v false [a] ∧ (t.isAgg = true → a = .agg l) ∧ (t.isAgg = false → l = [a]) := by
  cases ha : t.isAgg with
  | true =>
    cases t <;> first | (cases ha; done) | exact ⟨.agg l, rfl, ⟨l, rfl, h⟩, fun _ => rfl, fun h => by cases h⟩
  | false =>
    have h' := R_modeV true false ha hv h
    obtain ⟨a, rfl⟩ := R_one hv h'
    refine ⟨a, ?_, h', (fun h => absurd h (by simp)), fun _ => rfl⟩
    have hc := R_cells hv h'
    have := R_len hc
    cases t <;> simp only [R] at h' <;> first
      | (cases ha; done)
      | (cases hv; done)
      | (cases h'; rfl)
      | skip
    case sl => rcases h' with ⟨_, e⟩ | ⟨_, _, _, e, _⟩ <;> cases e <;> rfl
    case tup => obtain ⟨_, e, _⟩ := h'; cases e; rfl
    case any => obtain ⟨b, e, hb⟩ := h'; cases e; cases a <;> first | rfl | cases hb
    case own => split at h' <;> first | (cases h'; rfl) | exact h'.elim
    case it => obtain ⟨_, _, e⟩ := h'; cases e; rfl
    case bx => obtain ⟨_, _, _, e⟩ := h'; cases e; rfl
    case ptr => obtain ⟨_, _, _, _, e⟩ := h'; cases e; rfl
    case rp => obtain ⟨_, _, _, e⟩ := h'; cases e; rfl

def pickA (cs : List AVal) (off n : Nat) (ag : Bool) : Option AVal := cond ag (cond (Nat.ble (off + n) cs.length) (some (.agg ((cs.drop off).take n))) none) (cs[off]?)
theorem pickA_here {t : Ty} {v : t.V} {l1 l2 : List AVal} {n : Nat} {ag : Bool} (hv : t.isV = true) (hn : t.size = n) (ha : ag = t.isAgg) (h : R Γ t v true l1) : ∃ a, R Γ t v false [a] ∧ pickA (l1 ++ l2) 0 n ag = some a := by
  obtain ⟨a, hc, hr, h1, h2⟩ := R_ofCells hv h
  refine ⟨a, hr, ?_⟩
  subst ha
  have hl := R_len h
  cases hb : t.isAgg with
  | true =>
    simp only [pickA, cond_true, Nat.zero_add, List.drop_zero]
    have : Nat.ble n (l1 ++ l2).length = true := by rw [Nat.ble_eq]; simp; omega
    rw [this, cond_true, h1 hb]
    congr 2
    rw [List.take_append_of_le_length (by omega), List.take_of_length_le (by omega)]
  | false =>
    simp only [pickA, cond_false]
    rw [h2 hb]; rfl
theorem pickA_right {l1 l2 : List AVal} {off n : Nat} {ag : Bool} (h : l1.length ≤ off) : pickA (l1 ++ l2) off n ag = pickA l2 (off - l1.length) n ag := by
  unfold pickA
  cases ag with
  | true =>
    simp only [cond_true, List.length_append]
    have e : Nat.ble (off + n) (l1.length + l2.length) = Nat.ble (off - l1.length + n) l2.length := by
      rw [Bool.eq_iff_iff, Nat.ble_eq, Nat.ble_eq]; omega
    rw [e, List.drop_append_of_le_length_or h]
  | false =>
    simp only [cond_false]
    rw [List.getElem?_append_right h]
where
  List.drop_append_of_le_length_or {l1 l2 : List AVal} {off : Nat} (h : l1.length ≤ off) : (l1 ++ l2).drop off = l2.drop (off - l1.length) := by
    rw [List.drop_append, List.drop_eq_nil_of_le h, List.nil_append]
theorem pickA_left {l1 l2 : List AVal} {off n : Nat} {ag : Bool} {a : AVal} (h : pickA l1 off n ag = some a) : pickA (l1 ++ l2) off n ag = some a := by
  unfold pickA at h ⊢
  cases ag with
  | true =>
    simp only [cond_true] at h ⊢
    cases hb : Nat.ble (off + n) l1.length with
    | false => rw [hb] at h; cases h
    | true =>
      rw [hb] at h
      rw [Nat.ble_eq] at hb
      have : Nat.ble (off + n) (l1 ++ l2).length = true := by rw [Nat.ble_eq]; simp; omega
      rw [this, ← h]
      simp only [cond_true]
      rw [List.drop_append_of_le_length (by omega), List.take_append_of_le_length (by simp; omega)]
  | false =>
    simp only [cond_false] at h ⊢
    have hlt : off < l1.length := by
      rcases Nat.lt_or_ge off l1.length with h' | h'
      · exact h'
      · rw [List.getElem?_eq_none h'] at h; cases h
    rw [List.getElem?_append_left hlt]; exact h
theorem part_R : ∀ {t : Ty} {v : t.V} {cs : List AVal} {off n : Nat} {ag : Bool} {w : TV}, R Γ t v true cs → partT t v off n ag = some w → w.t.isV = true → ∃ a, R Γ w.t w.v false [a] ∧ pickA cs off n ag = some a
  | .cons t ts, v, cs, off, n, ag, w, h, hp, hv => by
    simp only [R] at h
    obtain ⟨l1, l2, rfl, h1, h2⟩ := h
    have hl := R_len h1
    simp only [partT] at hp
    cases hb : Nat.ble (off + 1) t.size with
    | true =>
      rw [hb, cond_true] at hp
      cases hc : (Nat.beq off 0 && Nat.beq t.size n && isB ag t.isAgg) with
      | true =>
        rw [hc, cond_true] at hp
        simp only [Bool.and_eq_true, Nat.beq_eq] at hc
        cases hp
        obtain ⟨⟨rfl, hn⟩, ha⟩ := hc
        exact pickA_here hv hn (isB_eq ha) h1
      | false =>
        rw [hc, cond_false] at hp
        obtain ⟨a, ha, hp⟩ := part_R h1 hp hv
        exact ⟨a, ha, pickA_left hp⟩
    | false =>
      rw [hb, cond_false] at hp
      obtain ⟨a, ha, hp⟩ := part_R h2 hp hv
      have hge : l1.length ≤ off := by
        rcases Nat.lt_or_ge off t.size with h' | h'
        · have : Nat.ble (off + 1) t.size = true := by rw [Nat.ble_eq]; omega
          rw [this] at hb; cases hb
        · omega
      refine ⟨a, ha, ?_⟩
      rw [pickA_right hge, hl]; exact hp
  | .agg t, v, cs, off, n, ag, w, h, hp, hv => by
    simp only [R] at h
    simp only [partT] at hp
    exact part_R (t := t) h hp hv
  | .int k, v, cs, off, n, ag, w, h, hp, hv => by cases hp
  | .bool, v, cs, off, n, ag, w, h, hp, hv => by cases hp
  | .str, v, cs, off, n, ag, w, h, hp, hv => by cases hp
  | .sl t, v, cs, off, n, ag, w, h, hp, hv => by cases hp
  | .arr _ t, v, cs, off, n, ag, w, h, hp, hv => by cases hp
  | .tup t, v, cs, off, n, ag, w, h, hp, hv => by cases hp
  | .unit, v, cs, off, n, ag, w, h, hp, hv => by cases hp
  | .nilsl, v, cs, off, n, ag, w, h, hp, hv => by cases hp
  | .nilp, v, cs, off, n, ag, w, h, hp, hv => by cases hp
  | .undef, v, cs, off, n, ag, w, h, hp, hv => by cases hp
  | .any, v, cs, off, n, ag, w, h, hp, hv => by cases hp
  | .own id, v, cs, off, n, ag, w, h, hp, hv => by cases hp
  | .it id, v, cs, off, n, ag, w, h, hp, hv => by cases hp
  | .bx id o, v, cs, off, n, ag, w, h, hp, hv => by cases hp
  | .ptr id o, v, cs, off, n, ag, w, h, hp, hv => by cases hp
  | .rp t o, v, cs, off, n, ag, w, h, hp, hv => by cases hp
theorem partTop_R {w0 : TV} {cs : List AVal} {off n : Nat} {ag : Bool} {w : TV} (h : R Γ w0.t w0.v true cs) (hp : partTop w0 off n ag = some w) (hv : w.t.isV = true) : ∃ a, R Γ w.t w.v false [a] ∧ pickA cs off n ag = some a := by
  unfold partTop at hp
  cases hc : (Nat.beq off 0 && Nat.beq w0.t.size n && isB ag w0.t.isAgg) with
  | true =>
    rw [hc, cond_true] at hp
    simp only [Bool.and_eq_true, Nat.beq_eq] at hc
    cases hp
    obtain ⟨⟨rfl, hn⟩, ha⟩ := hc
    have := pickA_here (l2 := []) hv hn (isB_eq ha) h
    simpa using this
  | false =>
    rw [hc, cond_false] at hp
    exact part_R h hp hv
theorem partP_R {P : Program} {ft : TypeId} {w0 : TV} {cs : List AVal} {off : Nat} {w : TV} (h : R Γ w0.t w0.v true cs) (hp : partP P ft w0 off = some w) : w.t.isV = true ∧ ∃ a, R Γ w.t w.v false [a] ∧ partA P ft cs off = some a := by
  unfold partP at hp
  unfold partA
  split at hp
  · rename_i n d hn hd
    simp only [hn, hd]
    rw [Option.bind_eq_some_iff] at hp
    obtain ⟨x, h1, h2⟩ := hp
    cases hv : x.t.isV with
    | false => rw [hv] at h2; cases h2
    | true =>
      rw [hv] at h2
      cases h2
      obtain ⟨a, ha, hq⟩ := partTop_R h h1 hv
      exact ⟨hv, a, ha, hq⟩
  · cases hp

/-! ### a part put anew -/
theorem put_here {l1 l2 wc : List AVal} (h : wc.length = l1.length) : (l1 ++ l2).take 0 ++ wc ++ (l1 ++ l2).drop (0 + wc.length) = wc ++ l2 := by
  simp [h]
theorem put_left {l1 l2 wc : List AVal} {off : Nat} (h : off + wc.length ≤ l1.length) : (l1 ++ l2).take off ++ wc ++ (l1 ++ l2).drop (off + wc.length) = (l1.take off ++ wc ++ l1.drop (off + wc.length)) ++ l2 := by
  rw [List.take_append_of_le_length (by omega), List.drop_append_of_le_length h]
  simp only [List.append_assoc]
theorem put_right {l1 l2 wc : List AVal} {off : Nat} (h : l1.length ≤ off) : (l1 ++ l2).take off ++ wc ++ (l1 ++ l2).drop (off + wc.length) = l1 ++ (l2.take (off - l1.length) ++ wc ++ l2.drop (off - l1.length + wc.length)) := by
  rw [List.take_append, List.take_of_length_le h, List.drop_append, List.drop_eq_nil_of_le (by omega), List.nil_append]
  simp only [List.append_assoc]
  congr 4
  omega
structure PutOk (t : Ty) (off : Nat) (w x : TV) : Prop where
  size : x.t.size = t.size
  le : off + w.t.size ≤ t.size
  row : w.t.okRow = true → t.okRow = true → x.t.okRow = true
  agg : x.t.isAgg = t.isAgg
  isV : w.t.isV = true → x.t.isV = t.isV
theorem isV_of_agg {t u : Ty} (h : t.isAgg = u.isAgg) (ha : u.isAgg = true) : t.isV = true := by
  rw [ha] at h
  cases t <;> first | rfl | cases h
theorem put_R : ∀ {t : Ty} {v : t.V} {cs : List AVal} {off : Nat} {w x : TV} {wc : List AVal}, R Γ t v true cs → putT t v off w = some x → w.t.isV = true → t.okRow = true → R Γ w.t w.v true wc →
    R Γ x.t x.v true (cs.take off ++ wc ++ cs.drop (off + wc.length)) ∧ PutOk t off w x
  | .cons t ts, v, cs, off, w, x, wc, h, hp, hv, hk, hw => by
    simp only [R] at h
    obtain ⟨l1, l2, rfl, h1, h2⟩ := h
    have hl := R_len h1
    have hlw := R_len hw
    simp only [Ty.okRow, Bool.and_eq_true] at hk
    simp only [putT] at hp
    cases hb : Nat.ble (off + 1) t.size with
    | true =>
      rw [hb, cond_true] at hp
      rw [Nat.ble_eq] at hb
      cases hc : (Nat.beq off 0 && Nat.beq t.size w.t.size && isB w.t.isAgg t.isAgg) with
      | true =>
        rw [hc, cond_true] at hp
        simp only [Bool.and_eq_true, Nat.beq_eq] at hc
        obtain ⟨⟨rfl, hn⟩, ha⟩ := hc
        cases hp
        constructor
        · rw [put_here (by omega)]
          exact ⟨wc, l2, rfl, hw, h2⟩
        · exact ⟨by simp only [Ty.size]; omega, by simp only [Ty.size]; omega, fun a b => by simp only [Ty.okRow, Bool.and_eq_true] at b ⊢; exact ⟨⟨hv, a⟩, b.2⟩, rfl, fun _ => rfl⟩
      | false =>
        rw [hc, cond_false, Option.map_eq_some_iff] at hp
        obtain ⟨y, hy, rfl⟩ := hp
        obtain ⟨g1, g2⟩ := put_R h1 hy hv hk.1.2 hw
        have hle := g2.le
        constructor
        · rw [put_left (by omega)]
          exact ⟨_, l2, rfl, g1, h2⟩
        · exact ⟨by simp only [Ty.size, g2.size], by simp only [Ty.size]; omega, fun a b => by
            simp only [Ty.okRow, Bool.and_eq_true] at b ⊢
            exact ⟨⟨(g2.isV hv).trans b.1.1, g2.row a b.1.2⟩, b.2⟩, rfl, fun _ => rfl⟩
    | false =>
      rw [hb, cond_false, Option.map_eq_some_iff] at hp
      obtain ⟨y, hy, rfl⟩ := hp
      have hge : t.size ≤ off := by
        rcases Nat.lt_or_ge off t.size with h' | h'
        · have : Nat.ble (off + 1) t.size = true := by rw [Nat.ble_eq]; omega
          rw [this] at hb; cases hb
        · exact h'
      obtain ⟨g1, g2⟩ := put_R h2 hy hv hk.2 hw
      have hle := g2.le
      constructor
      · rw [put_right (by omega), hl]
        exact ⟨l1, _, rfl, h1, g1⟩
      · exact ⟨by simp only [Ty.size, g2.size], by simp only [Ty.size]; omega, fun a b => by
          simp only [Ty.okRow, Bool.and_eq_true] at b ⊢
          exact ⟨b.1, g2.row a b.2⟩, rfl, fun _ => rfl⟩
  | .agg t, v, cs, off, w, x, wc, h, hp, hv, hk, hw => by
    simp only [R] at h
    simp only [Ty.okRow, Bool.and_eq_true] at hk
    simp only [putT, Option.map_eq_some_iff] at hp
    obtain ⟨y, hy, rfl⟩ := hp
    obtain ⟨g1, g2⟩ := put_R (t := t) h hy hv hk.2 hw
    refine ⟨g1, ⟨g2.size, g2.le, fun a b => ?_, rfl, fun _ => rfl⟩⟩
    simp only [Ty.okRow, Bool.and_eq_true] at b ⊢
    exact ⟨by rw [g2.isV hv]; exact b.1, g2.row a b.2⟩
  | .int k, v, cs, off, w, x, wc, h, hp, _, _, hw => by cases hp
  | .bool, v, cs, off, w, x, wc, h, hp, _, _, hw => by cases hp
  | .str, v, cs, off, w, x, wc, h, hp, _, _, hw => by cases hp
  | .sl t, v, cs, off, w, x, wc, h, hp, _, _, hw => by cases hp
  | .arr _ t, v, cs, off, w, x, wc, h, hp, _, _, hw => by cases hp
  | .tup t, v, cs, off, w, x, wc, h, hp, _, _, hw => by cases hp
  | .unit, v, cs, off, w, x, wc, h, hp, _, _, hw => by cases hp
  | .nilsl, v, cs, off, w, x, wc, h, hp, _, _, hw => by cases hp
  | .nilp, v, cs, off, w, x, wc, h, hp, _, _, hw => by cases hp
  | .undef, v, cs, off, w, x, wc, h, hp, _, _, hw => by cases hp
  | .any, v, cs, off, w, x, wc, h, hp, _, _, hw => by cases hp
  | .own id, v, cs, off, w, x, wc, h, hp, _, _, hw => by cases hp
  | .it id, v, cs, off, w, x, wc, h, hp, _, _, hw => by cases hp
  | .bx id o, v, cs, off, w, x, wc, h, hp, _, _, hw => by cases hp
  | .ptr id o, v, cs, off, w, x, wc, h, hp, _, _, hw => by cases hp
  | .rp t o, v, cs, off, w, x, wc, h, hp, _, _, hw => by cases hp
/-- What is put in a value of one cell or more. -/
theorem putTop_R {u w x : TV} {a b : AVal} {off : Nat} (hu : R Γ u.t u.v false [a]) (huv : u.t.isV = true) (huk : u.t.okRow = true) (hw : R Γ w.t w.v false [b]) (hv : w.t.isV = true) (hp : putTop u off w = some x) :
    R Γ x.t x.v false [putCells a off b] ∧ x.t.isV = true ∧ (w.t.okRow = true → x.t.okRow = true) ∧ x.t.size = u.t.size ∧ off + b.cells.length ≤ a.cells.length ∧ (a.isAgg = true ∨ b.isAgg = false) := by
  have hca := R_cells huv hu
  have hcb := R_cells hv hw
  have hla := R_len hca
  have hlb := R_len hcb
  have haa := R_agg huv hu
  have hab := R_agg hv hw
  unfold putTop at hp
  cases hc : (Nat.beq off 0 && Nat.beq u.t.size w.t.size && isB w.t.isAgg u.t.isAgg) with
  | true =>
    rw [hc, cond_true] at hp
    simp only [Bool.and_eq_true, Nat.beq_eq] at hc
    obtain ⟨⟨rfl, hn⟩, ha⟩ := hc
    cases hp
    have ha := isB_eq ha
    have hpc : putCells a 0 b = b := by
      unfold putCells
      cases a with
      | agg cs =>
        simp only [List.take_zero, List.nil_append, Nat.zero_add]
        have hd : cs.drop b.cells.length = [] := List.drop_eq_nil_of_le (by simp only [AVal.cells] at hla; omega)
        simp only [hd, List.append_nil]
        have : b.isAgg = true := by rw [← hab, ha, haa]; rfl
        cases b <;> first | rfl | cases this
      | _ => rfl
    rw [hpc]
    refine ⟨hw, hv, fun h => h, by omega, by omega, ?_⟩
    cases hb : b.isAgg with
    | true => left; rw [← haa, ← ha, hab, hb]
    | false => right; rfl
  | false =>
    rw [hc, cond_false] at hp
    cases hg : u.t.isAgg with
    | false => rw [hg] at hp; cases hp
    | true =>
      rw [hg, cond_true] at hp
      obtain ⟨t, v⟩ := u
      cases t <;> try (first | (cases hg; done) | (cases hp; done))
      rename_i t
      simp only [R] at hu
      obtain ⟨cs, e, hu⟩ := hu
      cases e
      obtain ⟨g1, g2⟩ := put_R (t := .agg t) (v := v) (cs := cs) hu hp hv huk hcb
      have hagg := g2.agg
      have hxv : x.t.isV = true := by have := g2.isV hv; rw [this]; rfl
      have hxa : x.t.isAgg = true := hagg
      refine ⟨?_, hxv, fun h => g2.row h huk, g2.size, ?_, .inl rfl⟩
      · obtain ⟨xt, xv⟩ := x
        cases xt <;> first | (cases hxa; done) | exact ⟨_, rfl, g1⟩
      · have := g2.le
        have hz : (AVal.agg cs).cells = cs := rfl
        rw [hz] at hla ⊢
        rw [hlb, hla]; exact this
end
end Go.TY
