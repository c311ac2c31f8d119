import Derived.Test.YtnafmjbakholcaaDoorQ11
import Derived.Test.YtnafmjbakholcaaDoorT13
set_option linter.unusedVariables false
set_option linter.unusedSimpArgs false
set_option maxRecDepth 100000
namespace Go.Proofs.YtnafmjbakholcaaDoor.Q
open Go.EM Go.TY Go.Proofs Go.Proofs.YtnafmjbakholcaaDoor.Y Go.Proofs.YtnafmjbakholcaaDoor.K Go.Proofs.YtnafmjbakholcaaDoor.L
/-! ### what is quoted -/
def specB (b : UInt8) : Bool := decide (b.toNat = 42) || decide (b.toNat = 63) || decide (b.toNat = 92)
def quoteM (s : List UInt8) : List UInt8 := s.flatMap fun b => if specB b then [92, b] else [b]
def escM (t : List Int) : List Int := t.flatMap fun c => if spec c then [92, c] else [c]
theorem quote_cons {b : UInt8} {s : List UInt8} : quoteM (b :: s) = (if specB b then [92, b] else [b]) ++ quoteM s := by unfold quoteM; rw [List.flatMap_cons]
theorem quote_app {s t : List UInt8} : quoteM (s ++ t) = quoteM s ++ quoteM t := by unfold quoteM; rw [List.flatMap_append]
theorem quote_len : ∀ (s : List UInt8), (quoteM s).length ≤ 2 * s.length
  | [] => by simp [quoteM]
  | b :: s => by
    have := quote_len s
    rw [quote_cons, List.length_append, List.length_cons]
    split <;> simp <;> omega
theorem esc_cons {c : Int} {t : List Int} : escM (c :: t) = (if spec c then [92, c] else [c]) ++ escM t := by unfold escM; rw [List.flatMap_cons]
/-- Bytes of 128 at least are none of the three. -/
theorem quote_high : ∀ (s : List UInt8), (∀ b ∈ s, 128 ≤ b.toNat) → quoteM s = s
  | [], _ => rfl
  | b :: s, h => by
    have h1 := h b (List.mem_cons_self ..)
    have : specB b = false := by
      simp only [specB, Bool.or_eq_false_iff, decide_eq_false_iff_not]; omega
    rw [quote_cons, this, quote_high s (fun x hx => h x (List.mem_cons_of_mem _ hx))]; rfl
theorem spec_byte {a : UInt8} : spec (a.toNat : Int) = specB a := by
  unfold spec specB
  have h1 : decide ((a.toNat : Int) = 42) = decide (a.toNat = 42) := by rw [decide_eq_decide]; omega
  have h2 : decide ((a.toNat : Int) = 63) = decide (a.toNat = 63) := by rw [decide_eq_decide]; omega
  have h3 : decide ((a.toNat : Int) = 92) = decide (a.toNat = 92) := by rw [decide_eq_decide]; omega
  rw [h1, h2, h3]
theorem enc_high {n : Nat} (h : 128 ≤ n) (h2 : n ≤ 1114111) : ∀ b ∈ encN n, 128 ≤ b.toNat := by
  have e : ∀ n : Nat, 128 ≤ n → n < 256 → 128 ≤ (UInt8.ofNat n).toNat := by
    intro n h1 h2
    rw [UInt8.toNat_ofNat_of_lt' (by simpa using h2)]; exact h1
  intro b hb
  unfold encN at hb
  rw [if_neg (by omega)] at hb
  split at hb
  · simp only [List.mem_cons, List.mem_nil_iff, or_false] at hb
    rcases hb with rfl | rfl <;> exact e _ (by omega) (by omega)
  · split at hb
    · simp only [List.mem_cons, List.mem_nil_iff, or_false] at hb
      rcases hb with rfl | rfl | rfl <;> exact e _ (by omega) (by omega)
    · simp only [List.mem_cons, List.mem_nil_iff, or_false] at hb
      rcases hb with rfl | rfl | rfl | rfl <;> exact e _ (by omega) (by omega)
theorem runes_head {s u : List UInt8} (h0 : (charM s).2 ≠ 0) : runesM (s.take (charM s).2 ++ u) = (runesM u).map fun l => (charM s).1 :: l := by
  have hc : charM (s.take (charM s).2 ++ u) = charM s := by
    rw [charM_app (by rw [charM_take h0]; exact h0), charM_take h0]
  have hne : s.take (charM s).2 ++ u ≠ [] := fun e => by
    rw [e] at hc
    rw [← hc] at h0
    exact h0 rfl
  have hl : (s.take (charM s).2).length = (charM s).2 := by rw [List.length_take]; have := charM_le s; omega
  rw [runesM_step hne (by rw [hc]; exact h0), hc, List.drop_append_of_le_length (by omega), List.drop_eq_nil_of_le (by omega), List.nil_append]
theorem charM_valid {s : List UInt8} (h0 : (charM s).2 ≠ 0) : s.take (charM s).2 = encN (charM s).1.toNat := by
  have hi := charM_int s
  have he := enc_char h0
  by_cases hv : Utf8.valid (charM s).1 = true
  · rw [← he, enc_N hv]
  · exfalso
    have hs : 55296 ≤ (charM s).1 ∧ (charM s).1 ≤ 57343 := by
      simp [Utf8.valid] at hv; omega
    have h3 : (charM s).2 = 3 ∨ (charM s).2 ≠ 3 := by omega
    revert hs h0
    unfold charM
    repeat' split
    all_goals (try simp only [])
    all_goals (try split)
    all_goals (try simp only [])
    all_goals omega
theorem runes_quote : ∀ {s : List UInt8} {t : List Int}, runesM s = some t → runesM (quoteM s) = some (escM t) := by
  intro s
  induction s using (measure List.length).wf.induction with
  | _ s ih =>
    intro l h
    by_cases hn : s = []
    · subst hn; rw [runesM_nil] at h; cases h; exact runesM_nil
    · by_cases h0 : (charM s).2 = 0
      · rw [runesM_none hn h0] at h; cases h
      · rw [runesM_step hn h0, Option.map_eq_some_iff] at h
        obtain ⟨l', hl', rfl⟩ := h
        have hp : s.length ≠ 0 := fun e => hn (List.eq_nil_of_length_eq_zero e)
        have ih' := ih (s.drop (charM s).2) (by show (s.drop _).length < s.length; simp only [List.length_drop]; omega) hl'
        have hi := charM_int s
        have hv := charM_valid h0
        have hq : quoteM s = quoteM (s.take (charM s).2) ++ quoteM (s.drop (charM s).2) := by rw [← quote_app, List.take_append_drop]
        rw [hq, esc_cons]
        by_cases hc : (charM s).1.toNat < 128
        · have hb : encN (charM s).1.toNat = [UInt8.ofNat (charM s).1.toNat] := by unfold encN; rw [if_pos hc]
          have ht : (UInt8.ofNat (charM s).1.toNat).toNat = (charM s).1.toNat := UInt8.toNat_ofNat_of_lt' (by show _ < 256; omega)
          rw [hv, hb]
          generalize hbb : UInt8.ofNat (charM s).1.toNat = b at ht ⊢
          have hcb : (charM s).1 = (b.toNat : Int) := by omega
          rw [hcb, spec_byte, quote_cons]
          have hnil : quoteM [] = [] := rfl
          rw [hnil, List.append_nil]
          cases specB b with
          | true =>
            simp only [if_true, List.cons_append, List.nil_append]
            rw [runesM_ascii (by decide), runesM_ascii (by omega), ih']; rfl
          | false =>
            simp only [Bool.false_eq_true, if_false, List.cons_append, List.nil_append]
            rw [runesM_ascii (by omega), ih']; rfl
        · have hsp : spec (charM s).1 = false := by
            simp only [spec, Bool.or_eq_false_iff, decide_eq_false_iff_not]; omega
          rw [quote_high _ (by rw [hv]; exact enc_high (by omega) (by omega)), runes_head h0, ih', hsp]; rfl
theorem parts_esc : ∀ (t : List Int), partsM (escM t) = some t
  | [] => by simp [escM, partsM]
  | c :: t => by
    rw [esc_cons]
    cases h : spec c with
    | true =>
      simp only [if_true, List.cons_append, List.nil_append]
      rw [partsM_esc, if_pos h, parts_esc t]; rfl
    | false =>
      simp only [Bool.false_eq_true, if_false, List.cons_append, List.nil_append]
      rw [partsM_plain h, parts_esc t]; rfl
/-- What is quoted is a pattern that matches that alone, if it is none too long. -/
theorem pat_quote {s : List UInt8} {t : List Int} (h : runesM s = some t) : pat (quoteM s) = if (escM t).length > 64 then none else some t := by
  unfold pat
  rw [runes_quote h, Option.bind_some, parts_esc]
theorem wild_runes {s : List UInt8} {t : List Int} (h : runesM s = some t) : wildM t = false := by
  cases hw : wildM t with
  | false => rfl
  | true =>
    obtain ⟨c, hc, hd⟩ := List.any_eq_true.1 hw
    have := good_ge (good_runes h c hc)
    have := of_decide_eq_true hd
    omega
/-! ### the document's -/
theorem refQuote_loop {s : List UInt8} (hs : s.length < 4294967296) : ∀ (k i : Nat) (out : List UInt8), s.length - i ≤ k → i ≤ s.length → out.length ≤ 2 * i → loopT (ref37_Quote_l3 s) (out, (i : Int), ()) = some (out ++ quoteM (s.drop i)) := by
  intro k
  have fin : ∀ (i : Nat) (out : List UInt8), ¬ i < s.length → loopT (ref37_Quote_l3 s) (out, (i : Int), ()) = some (out ++ quoteM (s.drop i)) := by
    intro i out hi
    rw [List.drop_eq_nil_of_le (by omega)]
    refine loopT_inr ?_
    unfold ref37_Quote_l3
    rw [cond_dec, if_neg (by simp only []; omega)]
    simp [quoteM]
  induction k with
  | zero => intro i out hk hi ho; exact fin i out (by omega)
  | succ k ih =>
    intro i out hk hi ho
    by_cases hlt : i < s.length
    · have hd : s.drop i = s[i] :: s.drop (i + 1) := drop_cons hlt
      have w1 : IntKind.wrap .i64 ((i : Int) + 1) = ((i + 1 : Nat) : Int) := by rw [wrap64 (by omega) (by omega)]; rfl
      have hsub : subI s (i : Int) ((i + 1 : Nat) : Int) = some [s[i]] := by
        rw [subI_nat (by omega) (by omega), List.drop_take, hd]
        have e : i + 1 - i = 1 := by omega
        rw [e]; rfl
      have hbl : (if specB s[i] then ([92, s[i]] : List UInt8) else [s[i]]).length ≤ 2 := by split <;> simp
      rw [loopT_inl (b := (out ++ (if specB s[i] then [92, s[i]] else [s[i]]), ((i + 1 : Nat) : Int), ())), ih _ _ (by omega) (by omega) (by rw [List.length_append]; omega), hd, quote_cons, List.append_assoc]
      unfold ref37_Quote_l3
      have hc1 : catT out [92] = some (out ++ [92]) := catT_some (by simp; omega)
      have hc2 : ∀ (o : List UInt8), o.length ≤ 2 * i + 1 → catT o [s[i]] = some (o ++ [s[i]]) := fun o h => catT_some (by simp; omega)
      simp only [cond_dec, if_pos (show (i : Int) < (s.length : Int) by omega), atI_nat, List.getElem?_eq_getElem hlt, Option.bind_some, w1, hsub, hc1]
      have e1 : ((s[i].toNat : Int) = 42) ↔ s[i].toNat = 42 := by omega
      have e2 : ((s[i].toNat : Int) = 63) ↔ s[i].toNat = 63 := by omega
      have e3 : ((s[i].toNat : Int) = 92) ↔ s[i].toNat = 92 := by omega
      simp only [e1, e2, e3, specB]
      have hl1 : (out ++ [92] : List UInt8).length ≤ 2 * i + 1 := by simp; omega
      by_cases h1 : s[i].toNat = 42
      · simp [h1, hc2 _ hl1]
      · by_cases h2 : s[i].toNat = 63
        · simp [h1, h2, hc2 _ hl1]
        · by_cases h3 : s[i].toNat = 92
          · simp [h1, h2, h3, hc2 _ hl1]
          · simp [h1, h2, h3, hc2 out (by omega)]
    · exact fin i out hlt
theorem refQuote_t {s : List UInt8} (hs : s.length < 4294967296) : ref37_Quote s = some (quoteM s) := by
  have := refQuote_loop hs s.length 0 [] (by omega) (by omega) (by simp)
  simpa [ref37_Quote] using this
end Go.Proofs.YtnafmjbakholcaaDoor.Q

set_option linter.unusedVariables false
set_option linter.unusedSimpArgs false
set_option maxRecDepth 100000
namespace Go.Proofs.YtnafmjbakholcaaDoor.Q
open Go.EM Go.TY Go.Proofs Go.Proofs.YtnafmjbakholcaaDoor.Y Go.Proofs.YtnafmjbakholcaaDoor.K Go.Proofs.YtnafmjbakholcaaDoor.L
/-! ### a text that is built -/
def bI (s : List UInt8) : List Int := s.map fun b => (b.toNat : Int)
theorem bI_app {s t : List UInt8} : bI (s ++ t) = bI s ++ bI t := by simp [bI]
theorem bI_len {s : List UInt8} : (bI s).length = s.length := by simp [bI]
theorem bI_back {s : List UInt8} : ((bI s).map fun n => UInt8.ofNat n.toNat) = s := by
  unfold bI
  rw [List.map_map]
  conv => rhs; rw [← List.map_id s]
  congr 1
  funext b
  simp
theorem wrapW8 {n : Int} : IntKind.wrap .u8 n = n % 256 := by
  simp [IntKind.wrap, IntKind.signed, IntKind.bits]
theorem wrapW32 {n : Int} (h : 0 ≤ n) (h2 : n < 4294967296) : IntKind.wrap .u32 n = n := by
  simp [IntKind.wrap, IntKind.signed, IntKind.bits]; omega
theorem low_all : ∀ x : Fin 256, (IntKind.wrap .u8 ((BitVec.ofInt (IntKind.bits .u8) 128 ||| BitVec.ofInt (IntKind.bits .u8) (IntKind.wrap .u8 ((BitVec.ofInt (IntKind.bits .u8) ((x.val : Nat) : Int) &&& BitVec.ofInt (IntKind.bits .u8) 63).toNat : Nat))).toNat : Nat)) = ((128 + x.val % 64 : Nat) : Int) := by decide +kernel
theorem low_t {c : Int} : (IntKind.wrap .u8 ((BitVec.ofInt (IntKind.bits .u8) 128 ||| BitVec.ofInt (IntKind.bits .u8) (IntKind.wrap .u8 ((BitVec.ofInt (IntKind.bits .u8) (IntKind.wrap .u8 c) &&& BitVec.ofInt (IntKind.bits .u8) 63).toNat : Nat))).toNat : Nat)) = 128 + c % 64 := by
  have h0 : 0 ≤ c % 256 := by omega
  have h1 : c % 256 < 256 := by omega
  have := low_all ⟨(c % 256).toNat, by omega⟩
  simp only at this
  rw [show (((c % 256).toNat : Nat) : Int) = c % 256 by omega] at this
  rw [wrapW8 (n := c), this]
  omega
theorem top_all : (∀ x : Fin 32, (IntKind.wrap .u8 ((BitVec.ofInt (IntKind.bits .u8) 192 ||| BitVec.ofInt (IntKind.bits .u8) (IntKind.wrap .u8 ((x.val : Nat) : Int))).toNat : Nat)) = ((192 + x.val : Nat) : Int)) ∧ (∀ x : Fin 16, (IntKind.wrap .u8 ((BitVec.ofInt (IntKind.bits .u8) 224 ||| BitVec.ofInt (IntKind.bits .u8) (IntKind.wrap .u8 ((x.val : Nat) : Int))).toNat : Nat)) = ((224 + x.val : Nat) : Int)) ∧ (∀ x : Fin 8, (IntKind.wrap .u8 ((BitVec.ofInt (IntKind.bits .u8) 240 ||| BitVec.ofInt (IntKind.bits .u8) (IntKind.wrap .u8 ((x.val : Nat) : Int))).toNat : Nat)) = ((240 + x.val : Nat) : Int)) := by decide +kernel
theorem top2 {x : Int} (h : 0 ≤ x) (h2 : x < 32) : (IntKind.wrap .u8 ((BitVec.ofInt (IntKind.bits .u8) 192 ||| BitVec.ofInt (IntKind.bits .u8) (IntKind.wrap .u8 x)).toNat : Nat)) = 192 + x := by
  have := top_all.1 ⟨x.toNat, by omega⟩
  simp only at this
  rw [show ((x.toNat : Nat) : Int) = x by omega] at this
  rw [this]; omega
theorem top3 {x : Int} (h : 0 ≤ x) (h2 : x < 16) : (IntKind.wrap .u8 ((BitVec.ofInt (IntKind.bits .u8) 224 ||| BitVec.ofInt (IntKind.bits .u8) (IntKind.wrap .u8 x)).toNat : Nat)) = 224 + x := by
  have := top_all.2.1 ⟨x.toNat, by omega⟩
  simp only at this
  rw [show ((x.toNat : Nat) : Int) = x by omega] at this
  rw [this]; omega
theorem top4 {x : Int} (h : 0 ≤ x) (h2 : x < 8) : (IntKind.wrap .u8 ((BitVec.ofInt (IntKind.bits .u8) 240 ||| BitVec.ofInt (IntKind.bits .u8) (IntKind.wrap .u8 x)).toNat : Nat)) = 240 + x := by
  have := top_all.2.2 ⟨x.toNat, by omega⟩
  simp only at this
  rw [show ((x.toNat : Nat) : Int) = x by omega] at this
  rw [this]; omega
theorem shr_t {c : Int} {n : Int} {k : Nat} (hn : n = (k : Int)) (hk : k ≤ 32) : shrT .i32 c n = some (c / (2 ^ k : Nat)) := by
  subst hn
  unfold shrT
  rw [if_neg (by omega)]
  congr 1
  rw [Int.toNat_natCast, Int.fdiv_eq_ediv_of_nonneg _ (by exact_mod_cast Nat.zero_le _)]
  have : min k (IntKind.bits .i32) = k := by show min k 32 = k; omega
  rw [this]
  norm_cast
/-- A character that can be written. -/
def Char0 (c : Int) : Prop := 0 ≤ c ∧ c ≤ 1114111 ∧ ¬ (55296 ≤ c ∧ c ≤ 57343)
theorem bI_of {l : List Nat} (h : ∀ n ∈ l, n < 256) : bI (l.map UInt8.ofNat) = l.map fun (n : Nat) => (n : Int) := by
  unfold bI
  rw [List.map_map]
  refine List.map_congr_left fun n hn => ?_
  simp only [Function.comp]
  rw [UInt8.toNat_ofNat_of_lt' (by simpa using h n hn)]
theorem append_t {c : Int} {w : List Int} (hc : Char0 c) (hw : w.length < 4294967000) : utf8_AppendRune c w = some ((), w ++ bI (encN c.toNat), ()) := by
  obtain ⟨h0, h1, h2⟩ := hc
  obtain ⟨n, rfl⟩ : ∃ n : Nat, c = (n : Int) := ⟨c.toNat, by omega⟩
  unfold utf8_AppendRune
  rw [Int.toNat_natCast]
  simp only [cond_dec, wrapW32 (n := (n : Int)) (by omega) (by omega)]
  by_cases c1 : n < 128
  · rw [if_pos (by omega), roomT_lt (by simp; omega), Option.bind_some]
    unfold encN
    rw [if_pos c1, wrapW8]
    have e : [UInt8.ofNat n] = [n].map UInt8.ofNat := rfl
    rw [e, bI_of (by intro m hm; simp at hm; omega)]
    simp only [List.map_cons, List.map_nil]
    rw [show (n : Int) % 256 = n by omega]
  rw [if_neg (by omega)]
  have room : ∀ l : List Int, l.length ≤ 4 → roomT (w.length + l.length) = some () := fun l hl => roomT_lt (by omega)
  have key : utf8_appendRuneNonASCII (n : Int) w = some ((), w ++ bI (encN n), ()) := by
    unfold utf8_appendRuneNonASCII encN
    rw [if_neg c1]
    simp only [cond_dec, wrapW32 (n := (n : Int)) (by omega) (by omega), shr_t (n := 6) (k := 6) rfl (by omega), shr_t (n := 12) (k := 12) rfl (by omega), shr_t (n := 18) (k := 18) rfl (by omega), Option.bind_some]
    by_cases c2 : n < 2048
    · rw [if_pos (by omega), if_pos c2, room _ (by simp), Option.bind_some, low_t, top2 (by omega) (by omega)]
      have e : [UInt8.ofNat (192 + n / 64), UInt8.ofNat (128 + n % 64)] = [192 + n / 64, 128 + n % 64].map UInt8.ofNat := rfl
      rw [e, bI_of (by intro m hm; simp at hm; omega)]
      simp only [List.map_cons, List.map_nil, show ((2 ^ 6 : Nat) : Int) = 64 from rfl, show ((2 ^ 12 : Nat) : Int) = 4096 from rfl, show ((2 ^ 18 : Nat) : Int) = 262144 from rfl, Int.natCast_add, Int.natCast_ediv, Int.natCast_emod, Int.cast_ofNat_Int]
    rw [if_neg (by omega), if_neg c2]
    by_cases c3 : n < 65536
    · have hA : ((if (n : Int) < 55296 then some (Sum.inl (decide ((n : Int) < 55296), w, ())) else
          (if 57343 < (n : Int) then some (decide ((n : Int) ≤ 65535), w, ()) else some (false, w, ())).bind fun v3 => some (Sum.inl (v3.1, v3.2.1, ()))) : Option ((Bool × List Int × Unit) ⊕ (Unit × List Int × Unit))) = some (.inl (true, w, ())) := by
        by_cases g : (n : Int) < 55296
        · rw [if_pos g]; simp [g]
        · rw [if_neg g, if_pos (by omega)]; simp; omega
      rw [hA, bind_join_inl, if_pos c3]
      simp only [cond_true]
      rw [room _ (by simp), Option.bind_some, low_t, low_t, top3 (by omega) (by omega)]
      have e : [UInt8.ofNat (224 + n / 4096), UInt8.ofNat (128 + n / 64 % 64), UInt8.ofNat (128 + n % 64)] = [224 + n / 4096, 128 + n / 64 % 64, 128 + n % 64].map UInt8.ofNat := rfl
      rw [e, bI_of (by intro m hm; simp at hm; omega)]
      simp only [List.map_cons, List.map_nil, show ((2 ^ 6 : Nat) : Int) = 64 from rfl, show ((2 ^ 12 : Nat) : Int) = 4096 from rfl, show ((2 ^ 18 : Nat) : Int) = 262144 from rfl, Int.natCast_add, Int.natCast_ediv, Int.natCast_emod, Int.cast_ofNat_Int]
    · have hA : ((if (n : Int) < 55296 then some (Sum.inl (decide ((n : Int) < 55296), w, ())) else
          (if 57343 < (n : Int) then some (decide ((n : Int) ≤ 65535), w, ()) else some (false, w, ())).bind fun v3 => some (Sum.inl (v3.1, v3.2.1, ()))) : Option ((Bool × List Int × Unit) ⊕ (Unit × List Int × Unit))) = some (.inl (false, w, ())) := by
        rw [if_neg (by omega), if_pos (by omega)]; simp; omega
      rw [hA, bind_join_inl, if_neg c3]
      simp only [cond_false]
      rw [if_pos (by omega), if_pos (by omega), room _ (by simp), Option.bind_some, low_t, low_t, low_t, top4 (by omega) (by omega)]
      have e : [UInt8.ofNat (240 + n / 262144), UInt8.ofNat (128 + n / 4096 % 64), UInt8.ofNat (128 + n / 64 % 64), UInt8.ofNat (128 + n % 64)] = [240 + n / 262144, 128 + n / 4096 % 64, 128 + n / 64 % 64, 128 + n % 64].map UInt8.ofNat := rfl
      rw [e, bI_of (by intro m hm; simp at hm; omega)]
      simp only [List.map_cons, List.map_nil, show ((2 ^ 6 : Nat) : Int) = 64 from rfl, show ((2 ^ 12 : Nat) : Int) = 4096 from rfl, show ((2 ^ 18 : Nat) : Int) = 262144 from rfl, Int.natCast_add, Int.natCast_ediv, Int.natCast_emod, Int.cast_ofNat_Int]
  rw [key]; rfl
theorem writeRune_t {c : Int} {v : Bool × Unit × Unit} {w : List Int} (hc : Char0 c) (hw : w.length < 4294967000) : ∃ n, strings_Builder_WriteRune c v w = some ((n, (), ()), (true, (), ()), w ++ bI (encN c.toNat), ()) := by
  unfold strings_Builder_WriteRune
  have h : strings_Builder_copyCheck v w = some ((), (true, (), ()), w, ()) := by
    obtain ⟨b, _, _⟩ := v
    unfold strings_Builder_copyCheck
    cases b <;> rfl
  rw [h]
  simp only [Option.bind_some, append_t hc hw]
  exact ⟨_, rfl⟩
theorem string_t {v : Bool × Unit × Unit} {s : List UInt8} (hs : s.length < 4294967296) : strings_Builder_String v (bI s) = some (s, v, ()) := by
  unfold strings_Builder_String
  cases s with
  | nil => rfl
  | cons b s =>
    have : (bI (b :: s)).isEmpty = false := rfl
    rw [this, cond_false, bI_back]
    have : wholeN 0 (bI (b :: s)).length ((bI (b :: s)).length : Int) = some () := by
      unfold wholeN
      rw [bI_len, if_pos ⟨rfl, rfl, by simp only [List.length_cons]; omega, by omega⟩]
    rw [this]; rfl
end Go.Proofs.YtnafmjbakholcaaDoor.Q

set_option linter.unusedVariables false
set_option linter.unusedSimpArgs false
set_option maxRecDepth 100000
namespace Go.Proofs.YtnafmjbakholcaaDoor.Q
open Go.EM Go.TY Go.Proofs Go.Proofs.YtnafmjbakholcaaDoor.Y Go.Proofs.YtnafmjbakholcaaDoor.K Go.Proofs.YtnafmjbakholcaaDoor.L
/-! ### quoted by the program -/
theorem charM_char0 {s : List UInt8} (h0 : (charM s).2 ≠ 0) : Char0 (charM s).1 := by
  have hi := charM_int s
  refine ⟨hi.1, hi.2, ?_⟩
  intro hs
  revert hs h0
  unfold charM
  repeat' split
  all_goals (try simp only [])
  all_goals (try split)
  all_goals (try simp only [])
  all_goals omega
theorem quote_step {s : List UInt8} (h0 : (charM s).2 ≠ 0) : quoteM s = (if spec (charM s).1 then [92] else []) ++ encN (charM s).1.toNat ++ quoteM (s.drop (charM s).2) := by
  have hi := charM_int s
  have hv := charM_valid h0
  have hq : quoteM s = quoteM (s.take (charM s).2) ++ quoteM (s.drop (charM s).2) := by rw [← quote_app, List.take_append_drop]
  rw [hq]
  congr 1
  by_cases hc : (charM s).1.toNat < 128
  · have hb : encN (charM s).1.toNat = [UInt8.ofNat (charM s).1.toNat] := by unfold encN; rw [if_pos hc]
    have ht : (UInt8.ofNat (charM s).1.toNat).toNat = (charM s).1.toNat := UInt8.toNat_ofNat_of_lt' (by show _ < 256; omega)
    rw [hv, hb]
    generalize hbb : UInt8.ofNat (charM s).1.toNat = b at ht ⊢
    have hcb : (charM s).1 = (b.toNat : Int) := by omega
    rw [hcb, spec_byte, quote_cons]
    have hnil : quoteM [] = [] := rfl
    rw [hnil, List.append_nil]
    cases specB b <;> rfl
  · have hsp : spec (charM s).1 = false := by
      simp only [spec, Bool.or_eq_false_iff, decide_eq_false_iff_not]; omega
    rw [quote_high _ (by rw [hv]; exact enc_high (by omega) (by omega)), hsp, hv]; rfl
theorem encN_len {n : Nat} : 1 ≤ (encN n).length ∧ (encN n).length ≤ 4 := by
  unfold encN
  repeat' split
  all_goals simp
theorem char92 : Char0 92 := ⟨by omega, by omega, by omega⟩
theorem enc92 : encN (92 : Int).toNat = [92] := by rfl
theorem quote_loop {s : List UInt8} (hs : s.length < 1000000) : ∀ (k i : Nat) (out : List UInt8) (b : Bool) (l : List Int), s.length - i ≤ k → i ≤ s.length → out.length ≤ 5 * i → runesM (s.drop i) = some l →
    loopT (glob_Quote_l3 s) (bI out, (b, (), ()), i, ()) = some (out ++ quoteM (s.drop i)) := by
  intro k
  have fin : ∀ (i : Nat) (out : List UInt8) (b : Bool), ¬ i < s.length → out.length ≤ 5 * s.length → loopT (glob_Quote_l3 s) (bI out, (b, (), ()), i, ()) = some (out ++ quoteM (s.drop i)) := by
    intro i out b hi ho
    refine loopT_inr ?_
    unfold glob_Quote_l3
    rw [cond_dec, if_neg (by simp only []; exact hi), string_t (by omega), List.drop_eq_nil_of_le (by omega)]
    simp [quoteM]
  induction k with
  | zero => intro i out b l hk hi ho hl; exact fin i out b (by omega) (by omega)
  | succ k ih =>
    intro i out b l hk hi ho hl
    by_cases hlt : i < s.length
    · have hne : s.drop i ≠ [] := fun e => by have := congrArg List.length e; simp at this; omega
      have hle := charM_le (s.drop i)
      simp only [List.length_drop] at hle
      by_cases h0 : (charM (s.drop i)).2 = 0
      · rw [runesM_none hne h0] at hl; cases hl
      · rw [runesM_step hne h0, List.drop_drop, Option.map_eq_some_iff] at hl
        obtain ⟨l', hl', rfl⟩ := hl
        have hc := charM_char0 h0
        have hstep := quote_step h0
        rw [List.drop_drop] at hstep
        have hen := encN_len (n := (charM (s.drop i)).1.toNat)
        have turn : glob_Quote_l3 s (bI out, (b, (), ()), i, ()) = some (.inl (bI (out ++ ((if spec (charM (s.drop i)).1 then [92] else []) ++ encN (charM (s.drop i)).1.toNat)), (true, (), ()), i + (charM (s.drop i)).2, ())) := by
          unfold glob_Quote_l3
          rw [cond_dec, if_pos (by simp only []; exact hlt)]
          have hnat : (((charM (s.drop i)).1.toNat : Nat) : Int) = (charM (s.drop i)).1 := by have := charM_int (s.drop i); omega
          simp only [decode_N hlt, decN, if_neg h0, hnat, special_t, Option.bind_some]
          cases hsp : spec (charM (s.drop i)).1 with
          | true =>
            simp only [cond_true, if_true]
            obtain ⟨n1, e1⟩ := writeRune_t (v := (b, (), ())) (w := bI out) char92 (by rw [bI_len]; omega)
            rw [e1]
            simp only [Option.bind_some]
            obtain ⟨n2, e2⟩ := writeRune_t (v := (true, (), ())) (w := bI out ++ bI (encN (92 : Int).toNat)) hc (by rw [List.length_append, bI_len, bI_len, enc92]; simp only [List.length_cons, List.length_nil]; omega)
            rw [e2]
            simp only [Option.bind_some]
            rw [enc92, ← bI_app, ← bI_app, List.append_assoc]
          | false =>
            simp only [cond_false, Bool.false_eq_true, if_false, List.nil_append]
            obtain ⟨n1, e1⟩ := writeRune_t (v := (b, (), ())) (w := bI out) hc (by rw [bI_len]; omega)
            rw [e1]
            simp only [Option.bind_some]
            rw [← bI_app]
        rw [loopT_inl turn, ih _ _ _ l' (by omega) (by omega) ?_ hl', hstep]
        · simp only [List.append_assoc]
        · have h1 : (if spec (charM (s.drop i)).1 then ([92] : List UInt8) else []).length ≤ 1 := by split <;> simp
          have h5 : ((if spec (charM (s.drop i)).1 then ([92] : List UInt8) else []) ++ encN (charM (s.drop i)).1.toNat).length ≤ 5 * (charM (s.drop i)).2 := by
            rw [List.length_append]; omega
          rw [List.length_append]
          omega
    · exact fin i out b (by omega) (by omega)
theorem quote_t {s : List UInt8} {l : List Int} (hs : s.length < 1000000) (hl : runesM s = some l) : glob_Quote s = some (quoteM s) := by
  have := quote_loop hs s.length 0 [] false l (by omega) (by omega) (by simp) (by simpa using hl)
  simpa [glob_Quote, bI] using this
theorem globTells_t {p s : List UInt8} : law37_GlobTells p s = some true := by
  unfold law37_GlobTells
  simp only [cond_dec, awake_t, Option.bind_some]
  by_cases h1 : (p.length : Int) > 200
  · rw [if_pos h1]
  rw [if_neg h1]
  by_cases h2 : (s.length : Int) > 200
  · rw [if_pos h2]
  rw [if_neg h2]
  rw [refParts_t (by omega), right_t (by omega), match_t (by omega) (by omega), refMatch_t (by omega) (by omega), text_t (by omega), refQuote_t (by omega)]
  simp only [Option.bind_some]
  have main : ∀ b : Bool, ((some ((b == b), ()) : Option (Bool × Unit)).bind fun v7 => cond v7.1 (cond (!((runesM s).isSome && decide (s.length ≤ 100))) (some true) ((glob_Quote s).bind fun r10 => if r10 = quoteM s then some true else some false)) (some false)) = some true := by
    intro b
    simp only [Option.bind_some, beq_self_eq_true, cond_true]
    cases hr : runesM s with
    | none => simp
    | some l =>
      rw [quote_t (by omega) hr]
      by_cases h3 : s.length ≤ 100 <;> simp [h3]
  cases pat p with
  | none => exact main _
  | some o => exact main _
theorem globQuotes_t {s t : List UInt8} (hs : s.length < 4294967295) (ht : t.length < 4294967295) : law37_GlobQuotes s t = some true := by
  unfold law37_GlobQuotes
  rw [text_t hs, text_t ht]
  simp only [Option.bind_some, awake_t]
  cases hr : runesM s with
  | none => simp
  | some a =>
    by_cases h1 : s.length ≤ 100
    · cases hq : runesM t with
      | none => simp [h1]
      | some b =>
        by_cases h2 : t.length ≤ 100
        · have hl := quote_len s
          rw [quote_t (by omega) hr]
          simp only [Option.bind_some]
          rw [literal_t (by omega), right_t (by omega), match_t (by omega) (by omega), pat_quote hr, hq]
          simp only [Option.bind_some, h1, h2]
          by_cases h3 : (escM a).length > 64
          · simp [h3]
          · have hw := wild_runes hr
            have he := enc_runes hr
            simp only [if_neg h3, hw, Bool.false_eq_true, if_false, he]
            have hm : (b = a) ↔ (s = t) := by
              constructor
              · intro e; rw [← enc_runes hr, ← enc_runes hq, e]
              · intro e; rw [e, hq] at hr; exact Option.some.inj hr
            have hd := (Mt_lit (t := b) hw).trans hm
            simp [hd]
        · simp [h1, h2]
    · simp [h1]
end Go.Proofs.YtnafmjbakholcaaDoor.Q

set_option linter.unusedVariables false
namespace Go.Proofs.YtnafmjbakholcaaDoor.Q
open Go.EM Go.TY Go.Proofs Go.Proofs.YtnafmjbakholcaaDoor.Y Go.Proofs.YtnafmjbakholcaaDoor.K Go.Proofs.YtnafmjbakholcaaDoor.L
theorem strs2 {Γ : Ctx} {a b : List UInt8} : R Γ (.cons .str (.cons .str .unit)) (a, b, ()) false [.str a, .str b] := by
  simp only [R]
  exact ⟨[.str a], [.str b], rfl, rfl, [.str b], [], rfl, rfl, rfl⟩
theorem tells_F {a b : List UInt8} : law37_GlobTells_F [.str a, .str b] = some (.bool true) := by
  obtain ⟨r, h1, h2⟩ := law37_GlobTells_ok.run (a, b, ()) true [.str a, .str b] globTells_t strs2
  rw [h1, R_bool h2]
theorem quotes_F {a b : List UInt8} (ha : a.length < 4294967295) (hb : b.length < 4294967295) : law37_GlobQuotes_F [.str a, .str b] = some (.bool true) := by
  obtain ⟨r, h1, h2⟩ := law37_GlobQuotes_ok.run (a, b, ()) true [.str a, .str b] (globQuotes_t ha hb) strs2
  rw [h1, R_bool h2]
end Go.Proofs.YtnafmjbakholcaaDoor.Q
