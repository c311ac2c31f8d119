import Derived.Test.YtnafmjbakholcaaDoorL
set_option linter.unusedVariables false
set_option linter.unusedSimpArgs false
set_option maxRecDepth 100000
namespace Go.Proofs.YtnafmjbakholcaaDoor.Q
open Go.EM Go.TY Go.Proofs Go.Proofs.YtnafmjbakholcaaDoor.Y
/-- A character of a text, and how many bytes it has; none: 0. -/
def charM : List UInt8 → Int × Nat
  | [] => (0, 0)
  | a :: t =>
    if a.toNat < 128 then (a.toNat, 1)
    else if 194 ≤ a.toNat ∧ a.toNat < 224 then (match t with
      | b :: _ => if 128 ≤ b.toNat ∧ b.toNat ≤ 191 then (64 * ((a.toNat : Int) - 192) + b.toNat - 128, 2) else (0, 0)
      | _ => (0, 0))
    else if 224 ≤ a.toNat ∧ a.toNat < 240 then (match t with
      | b :: c :: _ => if (128 ≤ b.toNat ∧ b.toNat ≤ 191) ∧ (128 ≤ c.toNat ∧ c.toNat ≤ 191) then
          let r : Int := 64 * (64 * ((a.toNat : Int) - 224) + b.toNat - 128) + c.toNat - 128
          if r < 2048 ∨ (55296 ≤ r ∧ r ≤ 57343) then (0, 0) else (r, 3)
        else (0, 0)
      | _ => (0, 0))
    else if 240 ≤ a.toNat ∧ a.toNat < 245 then (match t with
      | b :: c :: d :: _ => if (128 ≤ b.toNat ∧ b.toNat ≤ 191) ∧ (128 ≤ c.toNat ∧ c.toNat ≤ 191) ∧ (128 ≤ d.toNat ∧ d.toNat ≤ 191) then
          let r : Int := 64 * (64 * (64 * ((a.toNat : Int) - 240) + b.toNat - 128) + c.toNat - 128) + d.toNat - 128
          if r < 65536 ∨ 1114111 < r then (0, 0) else (r, 4)
        else (0, 0)
      | _ => (0, 0))
    else (0, 0)
/-- One turn of Char. -/
theorem turn17 {s : List UInt8} {q : Int × Int × Int × Unit} {x : Int} {i : Nat} {b : UInt8} (hi : (i : Int) < q.2.1) (hi4 : i ≤ 4) (h : s[i]? = some b) (hx : 0 ≤ x) (hx2 : x ≤ 100000000) :
    ref03_Char_l17 s q (x, (i : Int), ()) = if 128 ≤ b.toNat ∧ b.toNat ≤ 191 then some (.inl (64 * x + b.toNat - 128, ((i + 1 : Nat) : Int), ())) else some (.inr (.inr (0, 0, ()))) := by
  have hb : b.toNat < 256 := b.toNat_lt
  simp only [ref03_Char_l17, atI_nat, h, Option.bind_some, cond_dec, if_pos hi]
  rw [wrap64 (n := 64 * x) (by omega) (by omega), wrap64 (n := (b.toNat : Int)) (by omega) (by omega), wrap64 (n := 64 * x + b.toNat) (by omega) (by omega), wrap64 (n := 64 * x + b.toNat - 128) (by omega) (by omega), wrap64 (n := (i : Int) + 1) (by omega) (by omega)]
  by_cases h1 : b.toNat < 128
  · rw [if_pos (by omega), if_neg (by omega)]
  · rw [if_neg (by omega)]
    by_cases h2 : b.toNat > 191
    · rw [if_pos (by omega), if_neg (by omega)]
    · rw [if_neg (by omega), if_pos (by omega)]; rfl
theorem stop17 {s : List UInt8} {q : Int × Int × Int × Unit} {x : Int} {i : Nat} (hi : ¬ (i : Int) < q.2.1) : ref03_Char_l17 s q (x, (i : Int), ()) = some (.inr (.inl (x, ()))) := by
  simp only [ref03_Char_l17, cond_dec, if_neg hi]
theorem loop17_2 {a b : UInt8} {t : List UInt8} {l : Int} {c x : Int} (hx : 0 ≤ x) (hx2 : x ≤ 1000) :
    loopT (ref03_Char_l17 (a :: b :: t) (c, 2, l, ())) (x, 1, ()) = if 128 ≤ b.toNat ∧ b.toNat ≤ 191 then some (.inl (64 * x + b.toNat - 128, ())) else some (.inr (0, 0, ())) := by
  have h := turn17 (s := a :: b :: t) (q := (c, 2, l, ())) (i := 1) (b := b) (x := x) (by simp) (by omega) rfl hx (by omega)
  by_cases hb : 128 ≤ b.toNat ∧ b.toNat ≤ 191
  · rw [if_pos hb] at h ⊢
    exact (loopT_inl h).trans (loopT_inr (stop17 (by simp)))
  · rw [if_neg hb] at h ⊢
    exact loopT_inr h
theorem loop17_3 {a b d : UInt8} {t : List UInt8} {l : Int} {c x : Int} (hx : 0 ≤ x) (hx2 : x ≤ 1000) :
    loopT (ref03_Char_l17 (a :: b :: d :: t) (c, 3, l, ())) (x, 1, ()) = if (128 ≤ b.toNat ∧ b.toNat ≤ 191) ∧ (128 ≤ d.toNat ∧ d.toNat ≤ 191) then some (.inl (64 * (64 * x + b.toNat - 128) + d.toNat - 128, ())) else some (.inr (0, 0, ())) := by
  have hb' := b.toNat_lt
  have h := turn17 (s := a :: b :: d :: t) (q := (c, 3, l, ())) (i := 1) (b := b) (x := x) (by simp) (by omega) rfl hx (by omega)
  by_cases hb : 128 ≤ b.toNat ∧ b.toNat ≤ 191
  · rw [if_pos hb] at h
    have h2 := turn17 (s := a :: b :: d :: t) (q := (c, 3, l, ())) (i := 2) (b := d) (x := 64 * x + b.toNat - 128) (by simp) (by omega) rfl (by omega) (by omega)
    by_cases hd : 128 ≤ d.toNat ∧ d.toNat ≤ 191
    · rw [if_pos hd] at h2
      rw [if_pos ⟨hb, hd⟩]
      exact ((loopT_inl h).trans (loopT_inl h2)).trans (loopT_inr (stop17 (by simp)))
    · rw [if_neg hd] at h2
      rw [if_neg (fun e => hd e.2)]
      exact (loopT_inl h).trans (loopT_inr h2)
  · rw [if_neg hb] at h
    rw [if_neg (fun e => hb e.1)]
    exact loopT_inr h
theorem loop17_4 {a b d e : UInt8} {t : List UInt8} {l : Int} {c x : Int} (hx : 0 ≤ x) (hx2 : x ≤ 1000) :
    loopT (ref03_Char_l17 (a :: b :: d :: e :: t) (c, 4, l, ())) (x, 1, ()) = if (128 ≤ b.toNat ∧ b.toNat ≤ 191) ∧ (128 ≤ d.toNat ∧ d.toNat ≤ 191) ∧ (128 ≤ e.toNat ∧ e.toNat ≤ 191) then some (.inl (64 * (64 * (64 * x + b.toNat - 128) + d.toNat - 128) + e.toNat - 128, ())) else some (.inr (0, 0, ())) := by
  have hb' := b.toNat_lt
  have hd' := d.toNat_lt
  have h := turn17 (s := a :: b :: d :: e :: t) (q := (c, 4, l, ())) (i := 1) (b := b) (x := x) (by simp) (by omega) rfl hx (by omega)
  by_cases hb : 128 ≤ b.toNat ∧ b.toNat ≤ 191
  · rw [if_pos hb] at h
    have h2 := turn17 (s := a :: b :: d :: e :: t) (q := (c, 4, l, ())) (i := 2) (b := d) (x := 64 * x + b.toNat - 128) (by simp) (by omega) rfl (by omega) (by omega)
    by_cases hd : 128 ≤ d.toNat ∧ d.toNat ≤ 191
    · rw [if_pos hd] at h2
      have h3 := turn17 (s := a :: b :: d :: e :: t) (q := (c, 4, l, ())) (i := 3) (b := e) (x := 64 * (64 * x + b.toNat - 128) + d.toNat - 128) (by simp) (by omega) rfl (by omega) (by omega)
      by_cases he : 128 ≤ e.toNat ∧ e.toNat ≤ 191
      · rw [if_pos he] at h3
        rw [if_pos ⟨hb, hd, he⟩]
        exact (((loopT_inl h).trans (loopT_inl h2)).trans (loopT_inl h3)).trans (loopT_inr (stop17 (by simp)))
      · rw [if_neg he] at h3
        rw [if_neg (fun q => he q.2.2)]
        exact ((loopT_inl h).trans (loopT_inl h2)).trans (loopT_inr h3)
    · rw [if_neg hd] at h2
      rw [if_neg (fun q => hd q.2.1)]
      exact (loopT_inl h).trans (loopT_inr h2)
  · rw [if_neg hb] at h
    rw [if_neg (fun q => hb q.1)]
    exact loopT_inr h
theorem char_t (s : List UInt8) : ref03_Char s = some ((charM s).1, ((charM s).2 : Int), ()) := by
  cases s with
  | nil => simp [ref03_Char, charM]
  | cons a t =>
    have ha : a.toNat < 256 := a.toNat_lt
    have h0 : ¬ (((a :: t).length : Int) = 0) := by simp only [List.length_cons]; omega
    have hi : atI (a :: t) 0 = some a := by simp [atI]
    unfold ref03_Char
    simp only [cond_dec, if_neg h0, hi, Option.bind_some, and_join, ite_and2, ite_or2]
    rw [wrap64 (n := (a.toNat : Int)) (by omega) (by omega)]
    by_cases c1 : a.toNat < 128
    · rw [if_pos (by omega)]
      simp only [bind_join_inr, charM, if_pos c1]; rfl
    rw [if_neg (by omega)]
    by_cases c2 : 194 ≤ a.toNat ∧ a.toNat < 224
    · rw [if_pos (by omega), wrap64 (by omega) (by omega)]
      simp only [bind_join_inl]
      match t with
      | [] => simp [charM, c1, c2]
      | b :: t =>
        rw [if_neg (by simp only [List.length_cons]; omega), loop17_2 (by omega) (by omega)]
        by_cases hb : 128 ≤ b.toNat ∧ b.toNat ≤ 191
        · rw [if_pos hb]
          simp only [bind_join_inl]
          rw [guard_join, if_neg (by omega)]
          simp only [charM, c1, c2, hb, if_true, if_false, and_self]; rfl
        · rw [if_neg hb]
          simp only [bind_join_inr]
          simp [charM, c1, c2, hb]
    rw [if_neg (by omega)]
    by_cases c3 : 224 ≤ a.toNat ∧ a.toNat < 240
    · rw [if_pos (by omega), wrap64 (by omega) (by omega)]
      simp only [bind_join_inl]
      match t with
      | [] => simp [charM, c1, c2, c3]
      | [b] => simp [charM, c1, c2, c3]
      | b :: c :: t =>
        have hb := b.toNat_lt
        have hc := c.toNat_lt
        rw [if_neg (by simp only [List.length_cons]; omega), loop17_3 (by omega) (by omega)]
        by_cases hb' : (128 ≤ b.toNat ∧ b.toNat ≤ 191) ∧ (128 ≤ c.toNat ∧ c.toNat ≤ 191)
        · rw [if_pos hb']
          simp only [bind_join_inl]
          rw [guard_join]
          simp only [charM, c1, c2, c3, hb', if_true, if_false, and_self]
          by_cases hr : 64 * (64 * ((a.toNat : Int) - 224) + b.toNat - 128) + c.toNat - 128 < 2048 ∨ (55296 ≤ 64 * (64 * ((a.toNat : Int) - 224) + b.toNat - 128) + c.toNat - 128 ∧ 64 * (64 * ((a.toNat : Int) - 224) + b.toNat - 128) + c.toNat - 128 ≤ 57343)
          · rw [if_pos (by omega), if_pos hr]; rfl
          · rw [if_neg (by omega), if_neg hr]; rfl
        · rw [if_neg hb']
          simp only [bind_join_inr]
          simp [charM, c1, c2, c3, hb']
    rw [if_neg (by omega)]
    by_cases c4 : 240 ≤ a.toNat ∧ a.toNat < 245
    · rw [if_pos (by omega), wrap64 (by omega) (by omega)]
      simp only [bind_join_inl]
      match t with
      | [] => simp [charM, c1, c2, c3, c4]
      | [b] => simp [charM, c1, c2, c3, c4]
      | [b, c] => simp [charM, c1, c2, c3, c4]
      | b :: c :: d :: t =>
        have hb := b.toNat_lt
        have hc := c.toNat_lt
        have hd := d.toNat_lt
        rw [if_neg (by simp only [List.length_cons]; omega), loop17_4 (by omega) (by omega)]
        by_cases hb' : (128 ≤ b.toNat ∧ b.toNat ≤ 191) ∧ (128 ≤ c.toNat ∧ c.toNat ≤ 191) ∧ (128 ≤ d.toNat ∧ d.toNat ≤ 191)
        · rw [if_pos hb']
          simp only [bind_join_inl]
          rw [guard_join]
          simp only [charM, c1, c2, c3, c4, hb', if_true, if_false, and_self]
          by_cases hr : 64 * (64 * (64 * ((a.toNat : Int) - 240) + b.toNat - 128) + c.toNat - 128) + d.toNat - 128 < 65536 ∨ 1114111 < 64 * (64 * (64 * ((a.toNat : Int) - 240) + b.toNat - 128) + c.toNat - 128) + d.toNat - 128
          · rw [if_pos (by omega), if_pos hr]; rfl
          · rw [if_neg (by omega), if_neg hr]; rfl
        · rw [if_neg hb']
          simp only [bind_join_inr]
          simp [charM, c1, c2, c3, c4, hb']
    rw [if_neg (by omega)]
    simp only [bind_join_inr]
    simp [charM, c1, c2, c3, c4]
theorem charM_le (s : List UInt8) : (charM s).2 ≤ s.length := by
  unfold charM
  repeat' split
  all_goals (try simp only [])
  all_goals (try split)
  all_goals (try simp only [List.length_cons])
  all_goals omega
theorem charM_four {s : List UInt8} : (charM s).2 ≤ 4 := by
  unfold charM
  repeat' split
  all_goals (try simp only [])
  all_goals (try split)
  all_goals omega
theorem charM_int (s : List UInt8) : 0 ≤ (charM s).1 ∧ (charM s).1 ≤ 1114111 := by
  unfold charM
  repeat' split
  all_goals (try simp only [])
  all_goals (try split)
  all_goals (try simp only [])
  all_goals omega
/-- The characters of a text; none: some bytes are none's. -/
def runesM (s : List UInt8) : Option (List Int) :=
  if h : s = [] then some []
  else if h0 : (charM s).2 = 0 then none
  else (runesM (s.drop (charM s).2)).map fun l => (charM s).1 :: l
termination_by s.length
decreasing_by
  have : s.length ≠ 0 := fun e => h (List.eq_nil_of_length_eq_zero e)
  simp only [List.length_drop]; omega
theorem runesM_nil : runesM [] = some [] := by rw [runesM, dif_pos rfl]
theorem runesM_none {s : List UInt8} (h : s ≠ []) (h0 : (charM s).2 = 0) : runesM s = none := by rw [runesM, dif_neg h, dif_pos h0]
theorem runesM_step {s : List UInt8} (h : s ≠ []) (h0 : (charM s).2 ≠ 0) : runesM s = (runesM (s.drop (charM s).2)).map fun l => (charM s).1 :: l := by rw [runesM, dif_neg h, dif_neg h0]
def runesR (s : List UInt8) (out : List Int) : List Int × Bool × Unit :=
  match runesM s with
  | some m => (out ++ m, true, ())
  | none => ([], false, ())
theorem runes_loop {s : List UInt8} (hs : s.length < 4294967296) : ∀ (k i : Nat) (l : List Int), s.length - i ≤ k → i ≤ s.length → l.length ≤ i → loopT (ref03_Runes_l3 s) ((i : Int), l, ()) = some (runesR (s.drop i) l) := by
  intro k
  have fin : ∀ (i : Nat) (l : List Int), ¬ i < s.length → loopT (ref03_Runes_l3 s) ((i : Int), l, ()) = some (runesR (s.drop i) l) := by
    intro i l hi
    rw [List.drop_eq_nil_of_le (by omega), loopT_inr (x := (l, true, ())) (by simp only [ref03_Runes_l3, cond_dec]; rw [if_neg (by omega)])]
    simp [runesR, runesM_nil]
  induction k with
  | zero => intro i l hk hi hl; exact fin i l (by omega)
  | succ k ih =>
    intro i l hk hi hl
    by_cases hlt : i < s.length
    · have hne : s.drop i ≠ [] := fun e => by have := congrArg List.length e; simp at this; omega
      have hle := charM_le (s.drop i)
      simp only [List.length_drop] at hle
      by_cases h0 : (charM (s.drop i)).2 = 0
      · rw [loopT_inr (x := ([], false, ()))]
        · simp only [runesR, runesM_none hne h0]
        · simp only [ref03_Runes_l3, cond_dec]
          rw [if_pos (by omega), subI_from (by omega)]
          simp only [Option.bind_some, char_t]
          rw [if_pos (by omega)]
      · rw [loopT_inl (b := (((i + (charM (s.drop i)).2 : Nat) : Int), l ++ [(charM (s.drop i)).1], ()))]
        · rw [ih _ _ (by omega) (by omega) (by simp; omega)]
          simp only [runesR, runesM_step hne h0, List.drop_drop]
          cases runesM (s.drop (i + (charM (s.drop i)).2)) <;> simp
        · simp only [ref03_Runes_l3, cond_dec]
          rw [if_pos (by omega), subI_from (by omega)]
          simp only [Option.bind_some, char_t]
          rw [if_neg (by omega), roomT_lt (by simp; omega)]
          simp only [Option.bind_some]
          rw [wrap64 (by omega) (by omega)]
          simp
    · exact fin i l hlt
theorem runes_t {s : List UInt8} (hs : s.length < 4294967296) : ref03_Runes s = some (runesR s []) := by
  have := runes_loop hs s.length 0 [] (by omega) (by omega) (by simp)
  simpa [ref03_Runes] using this
end Go.Proofs.YtnafmjbakholcaaDoor.Q

set_option linter.unusedVariables false
set_option linter.unusedSimpArgs false
set_option maxRecDepth 100000
namespace Go.Proofs.YtnafmjbakholcaaDoor.Q
open Go.EM Go.TY Go.Proofs Go.Proofs.YtnafmjbakholcaaDoor.Y
/-! ### words of eight bytes -/
def two64 : Nat := 18446744073709551616
theorem wrapN {n : Nat} (h : n < 18446744073709551616) : IntKind.wrap .u64 (n : Int) = n := wrapU64 (by omega) (by omega)
theorem or64 {a b : Nat} (ha : a < 18446744073709551616) (hb : b < 18446744073709551616) : IntKind.wrap .u64 ((BitVec.ofInt (IntKind.bits .u64) (a : Int) ||| BitVec.ofInt (IntKind.bits .u64) (b : Int)).toNat : Nat) = ((a ||| b : Nat) : Int) := by
  have h1 : (BitVec.ofInt 64 (a : Int) ||| BitVec.ofInt 64 (b : Int)).toNat = a ||| b := by
    rw [BitVec.toNat_or, BitVec.ofInt_natCast, BitVec.ofInt_natCast, BitVec.toNat_ofNat, BitVec.toNat_ofNat, Nat.mod_eq_of_lt (by omega), Nat.mod_eq_of_lt (by omega)]
  have h2 : a ||| b < 2 ^ 64 := Nat.or_lt_two_pow (by omega) (by omega)
  have e : IntKind.bits .u64 = 64 := rfl
  rw [e, h1, wrapN (by omega)]
theorem and64 {a b : Nat} (ha : a < 18446744073709551616) (hb : b < 18446744073709551616) : IntKind.wrap .u64 ((BitVec.ofInt (IntKind.bits .u64) (a : Int) &&& BitVec.ofInt (IntKind.bits .u64) (b : Int)).toNat : Nat) = ((a &&& b : Nat) : Int) := by
  have h1 : (BitVec.ofInt 64 (a : Int) &&& BitVec.ofInt 64 (b : Int)).toNat = a &&& b := by
    rw [BitVec.toNat_and, BitVec.ofInt_natCast, BitVec.ofInt_natCast, BitVec.toNat_ofNat, BitVec.toNat_ofNat, Nat.mod_eq_of_lt (by omega), Nat.mod_eq_of_lt (by omega)]
  have h2 : a &&& b < 2 ^ 64 := Nat.and_lt_two_pow _ (by omega)
  have e : IntKind.bits .u64 = 64 := rfl
  rw [e, h1, wrapN (by omega)]
theorem pow_le {k : Nat} (hk : k ≤ 56) : 2 ^ k ≤ 2 ^ 56 := Nat.pow_le_pow_right (by omega) hk
theorem byte_pow {a k : Nat} (ha : a < 256) (hk : k ≤ 56) : a * 2 ^ k < 18446744073709551616 := by
  calc a * 2 ^ k ≤ 255 * 2 ^ 56 := Nat.mul_le_mul (by omega) (pow_le hk)
    _ < 18446744073709551616 := by decide
theorem shl64 {a : Nat} (k : Nat) {n : Int} (hn : n = (k : Int)) (ha : a < 256) (hk : k ≤ 56) : shlT .u64 (IntKind.wrap .u64 (a : Int)) n = some ((a * 2 ^ k : Nat) : Int) := by
  subst hn
  rw [wrapN (by omega)]
  have hmin : min ((k : Int).toNat) (IntKind.bits .u64) = k := by simp [IntKind.bits]; omega
  unfold shlT
  rw [if_neg (by omega), hmin]
  have : ((a : Int) * 2 ^ k) = ((a * 2 ^ k : Nat) : Int) := by push_cast; rfl
  rw [this, wrapN (byte_pow ha hk)]
def wordM (a b c d e f g h : Nat) : Nat := a ||| b * 2 ^ 8 ||| c * 2 ^ 16 ||| d * 2 ^ 24 ||| e * 2 ^ 32 ||| f * 2 ^ 40 ||| g * 2 ^ 48 ||| h * 2 ^ 56
theorem orlt {a b : Nat} (ha : a < 18446744073709551616) (hb : b < 18446744073709551616) : a ||| b < 18446744073709551616 := Nat.or_lt_two_pow (n := 64) ha hb
theorem word_t (a b c d e f g h : UInt8) (t : List UInt8) : utf8_word_string (a :: b :: c :: d :: e :: f :: g :: h :: t) = some ((wordM a.toNat b.toNat c.toNat d.toNat e.toNat f.toNat g.toNat h.toNat : Nat) : Int) := by
  have ha := a.toNat_lt; have hb := b.toNat_lt; have hc := c.toNat_lt; have hd := d.toNat_lt; have he := e.toNat_lt; have hf := f.toNat_lt; have hg := g.toNat_lt; have hh := h.toNat_lt
  have z : ∀ {x : UInt8} {k : Nat}, k ≤ 56 → x.toNat * 2 ^ k < 18446744073709551616 := fun hk => byte_pow (UInt8.toNat_lt _) hk
  have w0 : a.toNat < 18446744073709551616 := by omega
  have w1 := orlt w0 (z (x := b) (k := 8) (by omega))
  have w2 := orlt w1 (z (x := c) (k := 16) (by omega))
  have w3 := orlt w2 (z (x := d) (k := 24) (by omega))
  have w4 := orlt w3 (z (x := e) (k := 32) (by omega))
  have w5 := orlt w4 (z (x := f) (k := 40) (by omega))
  have w6 := orlt w5 (z (x := g) (k := 48) (by omega))
  unfold utf8_word_string
  have i : ∀ (n : Nat) (x : UInt8), (a :: b :: c :: d :: e :: f :: g :: h :: t)[n]? = some x → atI (a :: b :: c :: d :: e :: f :: g :: h :: t) (n : Int) = some x := fun n x hx => by rw [atI_nat]; exact hx
  have i0 := i 0 a rfl; have i1 := i 1 b rfl; have i2 := i 2 c rfl; have i3 := i 3 d rfl; have i4 := i 4 e rfl; have i5 := i 5 f rfl; have i6 := i 6 g rfl; have i7 := i 7 h rfl
  simp only [Int.natCast_zero, Int.natCast_one, Int.cast_ofNat_Int] at i0 i1 i2 i3 i4 i5 i6 i7
  simp only [i0, i1, i2, i3, i4, i5, i6, i7, Option.bind_some, shl64 (n := 8) 8 rfl (UInt8.toNat_lt b) (by omega), shl64 (n := 16) 16 rfl (UInt8.toNat_lt c) (by omega), shl64 (n := 24) 24 rfl (UInt8.toNat_lt d) (by omega), shl64 (n := 32) 32 rfl (UInt8.toNat_lt e) (by omega), shl64 (n := 40) 40 rfl (UInt8.toNat_lt f) (by omega), shl64 (n := 48) 48 rfl (UInt8.toNat_lt g) (by omega), shl64 (n := 56) 56 rfl (UInt8.toNat_lt h) (by omega)]
  rw [wrapN w0, or64 w0 (z (by omega)), or64 w1 (z (by omega)), or64 w2 (z (by omega)), or64 w3 (z (by omega)), or64 w4 (z (by omega)), or64 w5 (z (by omega)), or64 w6 (z (by omega))]
  rfl
def maskM : Nat := 9259542123273814144
theorem byte_bit {x k : Nat} (h : 128 ≤ x) (h2 : x < 256) : Nat.testBit (x * 2 ^ k) (k + 7) = true := by
  rw [Nat.testBit_mul_two_pow]
  have : x.testBit 7 = true := by
    rw [Nat.testBit_eq_decide_div_mod_eq]
    simp; omega
  simp [this]
theorem and_zero_bit {a b i : Nat} (h : a &&& b = 0) (hb : Nat.testBit b i = true) : Nat.testBit a i = false := by
  have : Nat.testBit (a &&& b) i = false := by rw [h]; simp
  rw [Nat.testBit_and, hb, Bool.and_true] at this
  exact this
theorem word_ascii {a b c d e f g h : Nat} (ha : a < 256) (hb : b < 256) (hc : c < 256) (hd : d < 256) (he : e < 256) (hf : f < 256) (hg : g < 256) (hh : h < 256)
    (hz : wordM a b c d e f g h &&& maskM = 0) : a < 128 ∧ b < 128 ∧ c < 128 ∧ d < 128 ∧ e < 128 ∧ f < 128 ∧ g < 128 ∧ h < 128 := by
  have key : ∀ k, Nat.testBit maskM (k + 7) = true → Nat.testBit (wordM a b c d e f g h) (k + 7) = false := fun k hk => and_zero_bit hz hk
  have k0 := key 0 (by decide)
  have k1 := key 8 (by decide)
  have k2 := key 16 (by decide)
  have k3 := key 24 (by decide)
  have k4 := key 32 (by decide)
  have k5 := key 40 (by decide)
  have k6 := key 48 (by decide)
  have k7 := key 56 (by decide)
  simp only [wordM, Nat.testBit_or, Bool.or_eq_false_iff] at k0 k1 k2 k3 k4 k5 k6 k7
  have no : ∀ x k, x < 256 → Nat.testBit (x * 2 ^ k) (k + 7) = false → x < 128 := by
    intro x k hx hk
    rcases Nat.lt_or_ge x 128 with h | h
    · exact h
    · rw [byte_bit h hx] at hk; cases hk
  have n0 : a < 128 := no a 0 ha (by simpa using k0.1.1.1.1.1.1.1)
  exact ⟨n0, no b 8 hb k1.1.1.1.1.1.1.2, no c 16 hc k2.1.1.1.1.1.2, no d 24 hd k3.1.1.1.1.2, no e 32 he k4.1.1.1.2, no f 40 hf k5.1.1.2, no g 48 hg k6.1.2, no h 56 hh k7.2⟩
/-- Eight bytes are a word; where it meets no mask all are ASCII. -/
theorem word_p {s : List UInt8} (hs : 8 ≤ s.length) : ∃ W : Nat, W < 18446744073709551616 ∧ utf8_word_string s = some (W : Int) ∧ (W &&& maskM = 0 → ∀ b ∈ s.take 8, b.toNat < 128) := by
  match s, hs with
  | a :: b :: c :: d :: e :: f :: g :: h :: t, _ =>
    have ha := a.toNat_lt; have hb := b.toNat_lt; have hc := c.toNat_lt; have hd := d.toNat_lt; have he := e.toNat_lt; have hf := f.toNat_lt; have hg := g.toNat_lt; have hh := h.toNat_lt
    have z : ∀ {x : UInt8} {k : Nat}, k ≤ 56 → x.toNat * 2 ^ k < 18446744073709551616 := fun hk => byte_pow (UInt8.toNat_lt _) hk
    refine ⟨wordM a.toNat b.toNat c.toNat d.toNat e.toNat f.toNat g.toNat h.toNat, ?_, word_t a b c d e f g h t, fun hz x hx => ?_⟩
    · unfold wordM
      exact orlt (orlt (orlt (orlt (orlt (orlt (orlt (by omega) (z (by omega))) (z (by omega))) (z (by omega))) (z (by omega))) (z (by omega))) (z (by omega))) (z (by omega))
    · have := word_ascii (by omega) (by omega) (by omega) (by omega) (by omega) (by omega) (by omega) (by omega) hz
      simp only [List.take_succ_cons, List.take_zero, List.mem_cons, List.mem_nil_iff, or_false] at hx
      rcases hx with rfl | rfl | rfl | rfl | rfl | rfl | rfl | rfl <;> omega
def validM (s : List UInt8) : Bool := (runesM s).isSome
theorem valid_nil : validM [] = true := by unfold validM; rw [runesM_nil]; rfl
theorem valid_step {s : List UInt8} (hne : s ≠ []) : validM s = (if (charM s).2 = 0 then false else validM (s.drop (charM s).2)) := by
  unfold validM
  split
  · rename_i h; rw [runesM_none hne h]; rfl
  · rename_i h; rw [runesM_step hne h]; cases runesM (s.drop (charM s).2) <;> rfl
theorem valid_ascii : ∀ (n : Nat) (s : List UInt8), n ≤ s.length → (∀ b ∈ s.take n, b.toNat < 128) → validM s = validM (s.drop n)
  | 0, s, _, _ => rfl
  | n + 1, [], h, _ => by simp at h
  | n + 1, a :: t, h, hb => by
    have h1 : a.toNat < 128 := hb a (by simp)
    have hc : charM (a :: t) = ((a.toNat : Int), 1) := by simp only [charM, if_pos h1]
    rw [valid_step (by simp), hc]
    simp only [Nat.one_ne_zero, if_false, List.drop_succ_cons, List.drop_zero]
    exact valid_ascii n t (by simpa using h) (fun b hm => hb b (by simp [hm]))
theorem maskM_int : (9259542123273814144 : Int) = ((maskM : Nat) : Int) := rfl
theorem maskM_lt : maskM < 18446744073709551616 := by unfold maskM; omega
theorem or_zero {a b m : Nat} (h : (a ||| b) &&& m = 0) : a &&& m = 0 ∧ b &&& m = 0 := by
  rw [Nat.and_or_distrib_right] at h
  exact Nat.or_eq_zero_iff.1 h
theorem take_more {s : List UInt8} {n m : Nat} (h1 : ∀ b ∈ s.take n, b.toNat < 128) (h2 : ∀ b ∈ (s.drop n).take m, b.toNat < 128) : ∀ b ∈ s.take (n + m), b.toNat < 128 := by
  intro b hb
  rw [List.take_add, List.mem_append] at hb
  exact hb.elim (h1 b) (h2 b)
theorem sub_from {s : List UInt8} (n : Nat) {i : Int} (hi : i = (n : Int)) (h : n ≤ s.length) : subI s i (s.length : Int) = some (s.drop n) := by subst hi; exact subI_from h
/-- A turn of the fast loop. -/
theorem turn9 (s : List UInt8) : (32 < s.length ∧ validM s = validM (s.drop 32) ∧ utf8_ValidString_l9 (s, ()) = some (.inl (s.drop 32, ()))) ∨ utf8_ValidString_l9 (s, ()) = some (.inr (.inr (.inl (s, ())))) := by
  by_cases h : 32 < s.length
  · obtain ⟨W1, a1, b1, c1⟩ := word_p (s := s) (by omega)
    obtain ⟨W2, a2, b2, c2⟩ := word_p (s := s.drop 8) (by simp; omega)
    obtain ⟨W3, a3, b3, c3⟩ := word_p (s := s.drop 16) (by simp; omega)
    obtain ⟨W4, a4, b4, c4⟩ := word_p (s := s.drop 24) (by simp; omega)
    have run : utf8_ValidString_l9 (s, ()) = if ((((W1 ||| W2) ||| (W3 ||| W4)) &&& maskM : Nat) : Int) = 0 then some (.inl (s.drop 32, ())) else some (.inr (.inr (.inl (s, ())))) := by
      unfold utf8_ValidString_l9
      simp only [cond_dec, b1, Option.bind_some, sub_from (i := 8) 8 rfl (show 8 ≤ s.length by omega), b2, sub_from (i := 16) 16 rfl (show 16 ≤ s.length by omega), b3, sub_from (i := 24) 24 rfl (show 24 ≤ s.length by omega), b4, sub_from (i := 32) 32 rfl (show 32 ≤ s.length by omega)]
      rw [if_pos (by omega), or64 a1 a2, or64 a3 a4, or64 (orlt a1 a2) (orlt a3 a4), maskM_int, and64 (orlt (orlt a1 a2) (orlt a3 a4)) maskM_lt]
    by_cases hz : ((W1 ||| W2) ||| (W3 ||| W4)) &&& maskM = 0
    · left
      rw [if_pos (by rw [hz]; rfl)] at run
      refine ⟨h, ?_, run⟩
      obtain ⟨y1, y2⟩ := or_zero hz
      obtain ⟨z1, z2⟩ := or_zero y1
      obtain ⟨z3, z4⟩ := or_zero y2
      have t2 := take_more (c1 z1) (c2 z2)
      have t3 := take_more t2 (c3 z3)
      have t4 := take_more t3 (c4 z4)
      exact valid_ascii 32 s (by omega) t4
    · right
      rw [if_neg (fun e => hz (by exact_mod_cast e))] at run
      exact run
  · right
    unfold utf8_ValidString_l9
    simp only [cond_dec]
    rw [if_neg (by omega)]
theorem loop9 : ∀ (k : Nat) (s : List UInt8), s.length ≤ k → ∃ s', s'.length ≤ s.length ∧ validM s = validM s' ∧ loopT utf8_ValidString_l9 (s, ()) = some (.inr (.inl (s', ()))) := by
  intro k
  induction k with
  | zero =>
    intro s hk
    rcases turn9 s with ⟨h, _⟩ | h
    · omega
    · exact ⟨s, Nat.le_refl _, rfl, loopT_inr h⟩
  | succ k ih =>
    intro s hk
    rcases turn9 s with ⟨h, hv, hr⟩ | h
    · obtain ⟨s', h1, h2, h3⟩ := ih (s.drop 32) (by simp; omega)
      refine ⟨s', ?_, hv.trans h2, (loopT_inl hr).trans h3⟩
      simp only [List.length_drop] at h1; omega
    · exact ⟨s, Nat.le_refl _, rfl, loopT_inr h⟩
/-! ### tables -/
def firstM (a : Nat) : Int :=
  if a < 128 then 240 else if a < 194 then 241 else if a < 224 then 2 else if a = 224 then 19 else if a < 237 then 3 else if a = 237 then 35 else if a < 240 then 3 else if a = 240 then 52 else if a < 244 then 4 else if a = 244 then 68 else 241
theorem first_all : (List.range 256).all (fun a => decide (tabFirst[a]? = some (firstM a))) = true := by kernel_rfl
theorem first_at {a : Nat} (h : a < 256) : atI tabFirst (a : Int) = some (firstM a) := by
  rw [atI_nat]
  have := first_all
  rw [List.all_eq_true] at this
  exact of_decide_eq_true (this a (List.mem_range.2 h))
/-- The class of a first byte: how many bytes, and the second one's range. -/
theorem cls2 {x : Int} (hx : x = 2 ∨ x = 3 ∨ x = 19 ∨ x = 35 ∨ x = 4 ∨ x = 52 ∨ x = 68 ∨ x = 241) : ∃ n lo hi k, IntKind.wrap .i64 (IntKind.wrap .u8 ((BitVec.ofInt (IntKind.bits .u8) x &&& BitVec.ofInt (IntKind.bits .u8) 7).toNat)) = n ∧ shrT .u8 x 4 = some k ∧ atI tabAccept k = some (lo, hi, ()) ∧
    ((x = 2 ∧ n = 2 ∧ lo = 128 ∧ hi = 191) ∨ (x = 3 ∧ n = 3 ∧ lo = 128 ∧ hi = 191) ∨ (x = 19 ∧ n = 3 ∧ lo = 160 ∧ hi = 191) ∨ (x = 35 ∧ n = 3 ∧ lo = 128 ∧ hi = 159) ∨ (x = 4 ∧ n = 4 ∧ lo = 128 ∧ hi = 191) ∨ (x = 52 ∧ n = 4 ∧ lo = 144 ∧ hi = 191) ∨ (x = 68 ∧ n = 4 ∧ lo = 128 ∧ hi = 143) ∨ (x = 241 ∧ n = 1)) := by
  rcases hx with rfl | rfl | rfl | rfl | rfl | rfl | rfl | rfl
  · exact ⟨2, 128, 191, 0, by decide, by decide, by decide, .inl ⟨rfl, rfl, rfl, rfl⟩⟩
  · exact ⟨3, 128, 191, 0, by decide, by decide, by decide, .inr (.inl ⟨rfl, rfl, rfl, rfl⟩)⟩
  · exact ⟨3, 160, 191, 1, by decide, by decide, by decide, .inr (.inr (.inl ⟨rfl, rfl, rfl, rfl⟩))⟩
  · exact ⟨3, 128, 159, 2, by decide, by decide, by decide, .inr (.inr (.inr (.inl ⟨rfl, rfl, rfl, rfl⟩)))⟩
  · exact ⟨4, 128, 191, 0, by decide, by decide, by decide, .inr (.inr (.inr (.inr (.inl ⟨rfl, rfl, rfl, rfl⟩))))⟩
  · exact ⟨4, 144, 191, 3, by decide, by decide, by decide, .inr (.inr (.inr (.inr (.inr (.inl ⟨rfl, rfl, rfl, rfl⟩)))))⟩
  · exact ⟨4, 128, 143, 4, by decide, by decide, by decide, .inr (.inr (.inr (.inr (.inr (.inr (.inl ⟨rfl, rfl, rfl, rfl⟩))))))⟩
  · exact ⟨1, 0, 0, 15, by decide, by decide, by decide, .inr (.inr (.inr (.inr (.inr (.inr (.inr ⟨rfl, rfl⟩))))))⟩
end Go.Proofs.YtnafmjbakholcaaDoor.Q

set_option linter.unusedVariables false
set_option linter.unusedSimpArgs false
set_option maxRecDepth 100000
namespace Go.Proofs.YtnafmjbakholcaaDoor.Q
open Go.EM Go.TY Go.Proofs Go.Proofs.YtnafmjbakholcaaDoor.Y
abbrev VR := (List UInt8 × Unit) ⊕ Bool
theorem at1 {a b : UInt8} {t : List UInt8} : atI (a :: b :: t) 1 = some b := by simp [atI]
theorem at2 {a b c : UInt8} {t : List UInt8} : atI (a :: b :: c :: t) 2 = some c := by simp [atI]
theorem at3 {a b c d : UInt8} {t : List UInt8} : atI (a :: b :: c :: d :: t) 3 = some d := by simp [atI]
theorem sub2 {a b : UInt8} {t : List UInt8} : subI (a :: b :: t) 2 ((a :: b :: t).length : Int) = some t := sub_from (i := 2) 2 rfl (by simp)
theorem sub3 {a b c : UInt8} {t : List UInt8} : subI (a :: b :: c :: t) 3 ((a :: b :: c :: t).length : Int) = some t := sub_from (i := 3) 3 rfl (by simp)
theorem sub4 {a b c d : UInt8} {t : List UInt8} : subI (a :: b :: c :: d :: t) 4 ((a :: b :: c :: d :: t).length : Int) = some t := sub_from (i := 4) 4 rfl (by simp)
/-- What the main loop does of a first byte that is not ASCII. -/
def slowM (n lo hi : Int) (s : List UInt8) : VR :=
  if n = 2 then (match s with
    | _ :: b :: t => if lo ≤ (b.toNat : Int) ∧ (b.toNat : Int) ≤ hi then .inl (t, ()) else .inr false
    | _ => .inr false)
  else if n = 3 then (match s with
    | _ :: b :: c :: t => if (lo ≤ (b.toNat : Int) ∧ (b.toNat : Int) ≤ hi) ∧ (128 ≤ c.toNat ∧ c.toNat ≤ 191) then .inl (t, ()) else .inr false
    | _ => .inr false)
  else if n = 4 then (match s with
    | _ :: b :: c :: d :: t => if (lo ≤ (b.toNat : Int) ∧ (b.toNat : Int) ≤ hi) ∧ (128 ≤ c.toNat ∧ c.toNat ≤ 191) ∧ (128 ≤ d.toNat ∧ d.toNat ≤ 191) then .inl (t, ()) else .inr false
    | _ => .inr false)
  else .inr false
set_option maxHeartbeats 1000000 in
theorem turn1_slow {a : UInt8} {t : List UInt8} {x n lo hi k : Int} (ha : 128 ≤ a.toNat) (hx : firstM a.toNat = x)
    (hn : IntKind.wrap .i64 (IntKind.wrap .u8 ((BitVec.ofInt (IntKind.bits .u8) x &&& BitVec.ofInt (IntKind.bits .u8) 7).toNat)) = n) (hk : shrT .u8 x 4 = some k) (hr : atI tabAccept k = some (lo, hi, ())) :
    utf8_ValidString_l1 (a :: t, ()) = some (slowM n lo hi (a :: t)) := by
  have hl : ((a :: t).length : Int) > 0 := by simp only [List.length_cons]; omega
  have hi0 : atI (a :: t) 0 = some a := by simp [atI]
  have h128 : ¬ (a.toNat : Int) < 128 := by omega
  have hf := first_at (a := a.toNat) a.toNat_lt
  rw [hx] at hf
  unfold utf8_ValidString_l1
  generalize tabFirst = T at hf ⊢
  generalize tabAccept = TA at hr ⊢
  simp only [cond_dec, if_pos hl, hi0, Option.bind_some, if_neg h128, bind_join_inl, joinS_inl]
  rw [hf, Option.bind_some, hk, Option.bind_some, hr, Option.bind_some, hn]
  clear hn hk hf hr hx
  unfold slowM
  by_cases h2 : n = 2
  · simp only [if_pos h2]
    match t with
    | [] => simp
    | b :: t =>
      rw [if_neg (by simp only [List.length_cons]; omega)]
      simp only [at1, Option.bind_some, sub2]
      by_cases c1 : (b.toNat : Int) < lo
      · rw [if_pos c1, if_neg (by omega)]
      · rw [if_neg c1]
        by_cases c2 : hi < (b.toNat : Int)
        · rw [if_pos c2, if_neg (by omega)]
        · rw [if_neg c2, if_pos (by omega)]
  simp only [if_neg h2]
  by_cases h3 : n = 3
  · simp only [if_pos h3]
    match t with
    | [] => simp
    | [b] => simp
    | b :: c :: t =>
      rw [if_neg (by simp only [List.length_cons]; omega)]
      simp only [at1, at2, Option.bind_some, sub3, cond_dec]
      by_cases c1 : (b.toNat : Int) < lo
      · rw [if_pos c1, if_neg (by omega)]
      · rw [if_neg c1]
        by_cases c2 : hi < (b.toNat : Int)
        · rw [if_pos c2, if_neg (by omega)]
        · rw [if_neg c2]
          by_cases c3 : (c.toNat : Int) < 128
          · rw [if_pos c3, if_neg (by omega)]
          · rw [if_neg c3]
            by_cases c4 : 191 < (c.toNat : Int)
            · rw [if_pos c4, if_neg (by omega)]
            · rw [if_neg c4, if_pos (by omega)]
  simp only [if_neg h3]
  by_cases h4 : n = 4
  · simp only [if_pos h4]
    match t with
    | [] => simp
    | [b] => simp
    | [b, c] => simp
    | b :: c :: d :: t =>
      rw [if_neg (by simp only [List.length_cons]; omega)]
      simp only [at1, at2, at3, Option.bind_some, sub4, cond_dec]
      by_cases c1 : (b.toNat : Int) < lo
      · simp only [if_pos c1, Option.bind_some, cond_true]
        rw [if_neg (by omega)]
      · simp only [if_neg c1, Option.bind_some, cond_dec]
        by_cases c2 : hi < (b.toNat : Int)
        · simp only [if_pos c2, Option.bind_some, cond_true]
          rw [if_neg (by omega)]
        · simp only [if_neg c2, Option.bind_some, cond_dec]
          by_cases c3 : (c.toNat : Int) < 128
          · simp only [if_pos c3]
            rw [if_neg (by omega)]
          · simp only [if_neg c3]
            by_cases c4 : 191 < (c.toNat : Int)
            · rw [if_pos c4, if_neg (by omega)]
            · rw [if_neg c4]
              by_cases c5 : (d.toNat : Int) < 128
              · rw [if_pos c5, if_neg (by omega)]
              · rw [if_neg c5]
                by_cases c6 : 191 < (d.toNat : Int)
                · rw [if_pos c6, if_neg (by omega)]
                · rw [if_neg c6, if_pos (by omega)]
  simp only [if_neg h4]
theorem firstM_cls {a : Nat} (h : 128 ≤ a) (h2 : a < 256) : (firstM a = 2 ∧ 194 ≤ a ∧ a < 224) ∨ (firstM a = 3 ∧ 225 ≤ a ∧ a < 240 ∧ a ≠ 237) ∨ (firstM a = 19 ∧ a = 224) ∨ (firstM a = 35 ∧ a = 237) ∨ (firstM a = 4 ∧ 241 ≤ a ∧ a < 244) ∨ (firstM a = 52 ∧ a = 240) ∨ (firstM a = 68 ∧ a = 244) ∨ (firstM a = 241 ∧ (a < 194 ∨ 245 ≤ a)) := by
  unfold firstM
  repeat' split
  all_goals omega
theorem three {a : UInt8} {t : List UInt8} {n lo hi : Int} (c1 : ¬ a.toNat < 128) (k : n = 3) (h : 224 ≤ a.toNat ∧ a.toNat < 240)
    (hr : ∀ b c : Int, 128 ≤ b ∧ b ≤ 191 → 128 ≤ c ∧ c ≤ 191 → ((lo ≤ b ∧ b ≤ hi) ↔ ¬ (64 * (64 * ((a.toNat : Int) - 224) + b - 128) + c - 128 < 2048 ∨ (55296 ≤ 64 * (64 * ((a.toNat : Int) - 224) + b - 128) + c - 128 ∧ 64 * (64 * ((a.toNat : Int) - 224) + b - 128) + c - 128 ≤ 57343)))) (hlo : 128 ≤ lo := by omega) (hhi : hi ≤ 191 := by omega) :
    slowM n lo hi (a :: t) = if (charM (a :: t)).2 = 0 then .inr false else .inl ((a :: t).drop (charM (a :: t)).2, ()) := by
  subst k
  have d2 : ¬ (194 ≤ a.toNat ∧ a.toNat < 224) := by omega
  match t with
  | [] => simp [slowM, charM, c1, d2, h]
  | [b] => simp [slowM, charM, c1, d2, h]
  | b :: c :: t =>
    simp only [slowM, charM, if_neg c1, if_neg d2, if_pos h, if_true, show ¬ (3 : Int) = 2 by omega, if_false]
    by_cases hb : (128 ≤ b.toNat ∧ b.toNat ≤ 191) ∧ (128 ≤ c.toNat ∧ c.toNat ≤ 191)
    · have := hr b.toNat c.toNat (by omega) (by omega)
      rw [if_pos hb]
      by_cases hq : lo ≤ (b.toNat : Int) ∧ (b.toNat : Int) ≤ hi
      · rw [if_pos ⟨hq, hb.2⟩, if_neg (this.1 hq)]; rfl
      · rw [if_neg (fun e => hq e.1), if_pos (Classical.not_not.1 (fun e => hq (this.2 e)))]; rfl
    · rw [if_neg hb, if_neg (by omega)]; rfl
theorem four {a : UInt8} {t : List UInt8} {n lo hi : Int} (c1 : ¬ a.toNat < 128) (k : n = 4) (h : 240 ≤ a.toNat ∧ a.toNat < 245)
    (hr : ∀ b c d : Int, 128 ≤ b ∧ b ≤ 191 → 128 ≤ c ∧ c ≤ 191 ∧ 128 ≤ d ∧ d ≤ 191 → ((lo ≤ b ∧ b ≤ hi) ↔ ¬ (64 * (64 * (64 * ((a.toNat : Int) - 240) + b - 128) + c - 128) + d - 128 < 65536 ∨ 1114111 < 64 * (64 * (64 * ((a.toNat : Int) - 240) + b - 128) + c - 128) + d - 128))) (hlo : 128 ≤ lo := by omega) (hhi : hi ≤ 191 := by omega) :
    slowM n lo hi (a :: t) = if (charM (a :: t)).2 = 0 then .inr false else .inl ((a :: t).drop (charM (a :: t)).2, ()) := by
  subst k
  have d2 : ¬ (194 ≤ a.toNat ∧ a.toNat < 224) := by omega
  have d3 : ¬ (224 ≤ a.toNat ∧ a.toNat < 240) := by omega
  match t with
  | [] => simp [slowM, charM, c1, d2, d3, h]
  | [b] => simp [slowM, charM, c1, d2, d3, h]
  | [b, c] => simp [slowM, charM, c1, d2, d3, h]
  | b :: c :: d :: t =>
    simp only [slowM, charM, if_neg c1, if_neg d2, if_neg d3, if_pos h, if_true, show ¬ (4 : Int) = 2 by omega, show ¬ (4 : Int) = 3 by omega, if_false]
    by_cases hb : (128 ≤ b.toNat ∧ b.toNat ≤ 191) ∧ (128 ≤ c.toNat ∧ c.toNat ≤ 191) ∧ (128 ≤ d.toNat ∧ d.toNat ≤ 191)
    · have := hr b.toNat c.toNat d.toNat (by omega) (by omega)
      rw [if_pos hb]
      by_cases hq : lo ≤ (b.toNat : Int) ∧ (b.toNat : Int) ≤ hi
      · rw [if_pos ⟨hq, hb.2⟩, if_neg (this.1 hq)]; rfl
      · rw [if_neg (fun e => hq e.1), if_pos (Classical.not_not.1 (fun e => hq (this.2 e)))]; rfl
    · rw [if_neg hb, if_neg (by omega)]; rfl
/-- A turn of the main loop, at a byte that is not ASCII: as Char has it. -/
theorem turn1_hi {a : UInt8} {t : List UInt8} (ha : 128 ≤ a.toNat) : utf8_ValidString_l1 (a :: t, ()) = some (if (charM (a :: t)).2 = 0 then .inr false else .inl ((a :: t).drop (charM (a :: t)).2, ())) := by
  have hlt := a.toNat_lt
  have hc := firstM_cls ha hlt
  obtain ⟨n, lo, hi, k, g1, g2, g2', g3⟩ := cls2 (x := firstM a.toNat) (by omega)
  rw [turn1_slow ha rfl g1 g2 g2']
  congr 1
  have c1 : ¬ a.toNat < 128 := by omega
  rcases hc with ⟨e, k1, k2⟩ | ⟨e, k1, k2, k3⟩ | ⟨e, k1⟩ | ⟨e, k1⟩ | ⟨e, k1, k2⟩ | ⟨e, k1⟩ | ⟨e, k1⟩ | ⟨e, k1⟩
  · have : n = 2 ∧ lo = 128 ∧ hi = 191 := by omega
    obtain ⟨rfl, rfl, rfl⟩ := this
    match t with
    | [] => simp [slowM, charM, c1, k1, k2]
    | b :: t =>
      simp only [slowM, charM, if_neg c1, if_pos (And.intro k1 k2), if_true]
      by_cases hb : 128 ≤ b.toNat ∧ b.toNat ≤ 191
      · rw [if_pos (by omega), if_pos hb]; rfl
      · rw [if_neg (by omega), if_neg hb]; rfl
  · exact three (lo := lo) (hi := hi) (n := n) c1 (by omega) (by omega) (by intro b c h1 h2; omega)
  · exact three (lo := lo) (hi := hi) (n := n) c1 (by omega) (by omega) (by intro b c h1 h2; omega)
  · exact three (lo := lo) (hi := hi) (n := n) c1 (by omega) (by omega) (by intro b c h1 h2; omega)
  · exact four (lo := lo) (hi := hi) (n := n) c1 (by omega) (by omega) (by intro b c d h1 h2; omega)
  · exact four (lo := lo) (hi := hi) (n := n) c1 (by omega) (by omega) (by intro b c d h1 h2; omega)
  · exact four (lo := lo) (hi := hi) (n := n) c1 (by omega) (by omega) (by intro b c d h1 h2; omega)
  · have hn : n = 1 := by omega
    subst hn
    have d2 : ¬ (194 ≤ a.toNat ∧ a.toNat < 224) := by omega
    have d3 : ¬ (224 ≤ a.toNat ∧ a.toNat < 240) := by omega
    have d4 : ¬ (240 ≤ a.toNat ∧ a.toNat < 245) := by omega
    simp [slowM, charM, c1, d2, d3, d4]
end Go.Proofs.YtnafmjbakholcaaDoor.Q
