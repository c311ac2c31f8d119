import Derived.Test.YtgfpkhlabdcbmaaGreatDoorW
import Derived.Test.YtgfpkhlabdcbmaaGreatDoorT14
import Derived.Test.YtgfpkhlabdcbmaaGreatDoorT29
set_option linter.unusedVariables false
set_option linter.unusedSimpArgs false
set_option maxRecDepth 100000
namespace Go.Proofs.YtgfpkhlabdcbmaaGreatDoor.Q
open Go.EM Go.TY Go.Proofs Go.Proofs.YtgfpkhlabdcbmaaGreatDoor.Y
def charM : List UInt8 → Int × Nat
 | [] => (0, 0)
 | a :: t =>
   if a.toNat < 128 then (a.toNat, 1)
   else if 194 ≤ a.toNat ∧ a.toNat < 224 then (match t with
     | b :: _ => if 128 ≤ b.toNat ∧ b.toNat ≤ 191 then (64 * ((a.toNat : Int) - 192) + b.toNat - 128, 2) else (0, 0)
     | _ => (0, 0))
   else if 224 ≤ a.toNat ∧ a.toNat < 240 then (match t with
     | b :: c :: _ => if (128 ≤ b.toNat ∧ b.toNat ≤ 191) ∧ (128 ≤ c.toNat ∧ c.toNat ≤ 191) then
         let r : Int := 64 * (64 * ((a.toNat : Int) - 224) + b.toNat - 128) + c.toNat - 128
         if r < 2048 ∨ (55296 ≤ r ∧ r ≤ 57343) then (0, 0) else (r, 3)
       else (0, 0)
     | _ => (0, 0))
   else if 240 ≤ a.toNat ∧ a.toNat < 245 then (match t with
     | b :: c :: d :: _ => if (128 ≤ b.toNat ∧ b.toNat ≤ 191) ∧ (128 ≤ c.toNat ∧ c.toNat ≤ 191) ∧ (128 ≤ d.toNat ∧ d.toNat ≤ 191) then
         let r : Int := 64 * (64 * (64 * ((a.toNat : Int) - 240) + b.toNat - 128) + c.toNat - 128) + d.toNat - 128
         if r < 65536 ∨ 1114111 < r then (0, 0) else (r, 4)
       else (0, 0)
     | _ => (0, 0))
   else (0, 0)
theorem turn17 {s : List UInt8} {q : Int × Int × Int × Unit} {x : Int} {i : Nat} {b : UInt8} (hi : (i : Int) < q.2.1) (hi4 : i ≤ 4) (h : s[i]? = some b) (hx : 0 ≤ x) (hx2 : x ≤ 100000000) :
   zcb_l17 s q (x, (i : Int), ()) = if 128 ≤ b.toNat ∧ b.toNat ≤ 191 then some (.inl (64 * x + b.toNat - 128, ((i + 1 : Nat) : Int), ())) else some (.inr (.inr (0, 0, ()))) := by
 have hb : b.toNat < 256 := b.toNat_lt
 simp only [zcb_l17, atI_nat, h, zb, cond_dec, zp hi]
 rw [wrap64 (n := 64 * x) (by omega) (by omega), wrap64 (n := (b.toNat : Int)) (by omega) (by omega), wrap64 (n := 64 * x + b.toNat) (by omega) (by omega), wrap64 (n := 64 * x + b.toNat - 128) (by omega) (by omega), wrap64 (n := (i : Int) + 1) (by omega) (by omega)]
 by_cases h1 : b.toNat < 128
 · rw [zp (by omega), zn (by omega)]
 · rw [zn (by omega)]
   by_cases h2 : b.toNat > 191
   · rw [zp (by omega), zn (by omega)]
   · rw [zn (by omega), zp (by omega)]; rfl
theorem stop17 {s : List UInt8} {q : Int × Int × Int × Unit} {x : Int} {i : Nat} (hi : ¬ (i : Int) < q.2.1) : zcb_l17 s q (x, (i : Int), ()) = some (.inr (.inl (x, ()))) := by
 simp only [zcb_l17, cond_dec, zn hi]
theorem loop17_2 {a b : UInt8} {t : List UInt8} {l : Int} {c x : Int} (hx : 0 ≤ x) (hx2 : x ≤ 1000) :
   loopT (zcb_l17 (a :: b :: t) (c, 2, l, ())) (x, 1, ()) = if 128 ≤ b.toNat ∧ b.toNat ≤ 191 then some (.inl (64 * x + b.toNat - 128, ())) else some (.inr (0, 0, ())) := by
 have h := turn17 (s := a :: b :: t) (q := (c, 2, l, ())) (i := 1) (b := b) (x := x) (by simp) (by omega) rfl hx (by omega)
 by_cases hb : 128 ≤ b.toNat ∧ b.toNat ≤ 191
 · rw [zp hb] at h ⊢
   exact (loopT_inl h).trans (loopT_inr (stop17 (by simp)))
 · rw [zn hb] at h ⊢
   exact loopT_inr h
theorem loop17_3 {a b d : UInt8} {t : List UInt8} {l : Int} {c x : Int} (hx : 0 ≤ x) (hx2 : x ≤ 1000) :
   loopT (zcb_l17 (a :: b :: d :: t) (c, 3, l, ())) (x, 1, ()) = if (128 ≤ b.toNat ∧ b.toNat ≤ 191) ∧ (128 ≤ d.toNat ∧ d.toNat ≤ 191) then some (.inl (64 * (64 * x + b.toNat - 128) + d.toNat - 128, ())) else some (.inr (0, 0, ())) := by
 have hb' := b.toNat_lt
 have h := turn17 (s := a :: b :: d :: t) (q := (c, 3, l, ())) (i := 1) (b := b) (x := x) (by simp) (by omega) rfl hx (by omega)
 by_cases hb : 128 ≤ b.toNat ∧ b.toNat ≤ 191
 · rw [zp hb] at h
   have h2 := turn17 (s := a :: b :: d :: t) (q := (c, 3, l, ())) (i := 2) (b := d) (x := 64 * x + b.toNat - 128) (by simp) (by omega) rfl (by omega) (by omega)
   by_cases hd : 128 ≤ d.toNat ∧ d.toNat ≤ 191
   · rw [zp hd] at h2
     rw [zp ⟨hb, hd⟩]
     exact ((loopT_inl h).trans (loopT_inl h2)).trans (loopT_inr (stop17 (by simp)))
   · rw [zn hd] at h2
     rw [zn (fun e => hd e.2)]
     exact (loopT_inl h).trans (loopT_inr h2)
 · rw [zn hb] at h
   rw [zn (fun e => hb e.1)]
   exact loopT_inr h
theorem loop17_4 {a b d e : UInt8} {t : List UInt8} {l : Int} {c x : Int} (hx : 0 ≤ x) (hx2 : x ≤ 1000) :
   loopT (zcb_l17 (a :: b :: d :: e :: t) (c, 4, l, ())) (x, 1, ()) = if (128 ≤ b.toNat ∧ b.toNat ≤ 191) ∧ (128 ≤ d.toNat ∧ d.toNat ≤ 191) ∧ (128 ≤ e.toNat ∧ e.toNat ≤ 191) then some (.inl (64 * (64 * (64 * x + b.toNat - 128) + d.toNat - 128) + e.toNat - 128, ())) else some (.inr (0, 0, ())) := by
 have hb' := b.toNat_lt
 have hd' := d.toNat_lt
 have h := turn17 (s := a :: b :: d :: e :: t) (q := (c, 4, l, ())) (i := 1) (b := b) (x := x) (by simp) (by omega) rfl hx (by omega)
 by_cases hb : 128 ≤ b.toNat ∧ b.toNat ≤ 191
 · rw [zp hb] at h
   have h2 := turn17 (s := a :: b :: d :: e :: t) (q := (c, 4, l, ())) (i := 2) (b := d) (x := 64 * x + b.toNat - 128) (by simp) (by omega) rfl (by omega) (by omega)
   by_cases hd : 128 ≤ d.toNat ∧ d.toNat ≤ 191
   · rw [zp hd] at h2
     have h3 := turn17 (s := a :: b :: d :: e :: t) (q := (c, 4, l, ())) (i := 3) (b := e) (x := 64 * (64 * x + b.toNat - 128) + d.toNat - 128) (by simp) (by omega) rfl (by omega) (by omega)
     by_cases he : 128 ≤ e.toNat ∧ e.toNat ≤ 191
     · rw [zp he] at h3
       rw [zp ⟨hb, hd, he⟩]
       exact (((loopT_inl h).trans (loopT_inl h2)).trans (loopT_inl h3)).trans (loopT_inr (stop17 (by simp)))
     · rw [zn he] at h3
       rw [zn (fun q => he q.2.2)]
       exact ((loopT_inl h).trans (loopT_inl h2)).trans (loopT_inr h3)
   · rw [zn hd] at h2
     rw [zn (fun q => hd q.2.1)]
     exact (loopT_inl h).trans (loopT_inr h2)
 · rw [zn hb] at h
   rw [zn (fun q => hb q.1)]
   exact loopT_inr h
theorem char_t (s : List UInt8) : zcb s = some ((charM s).1, ((charM s).2 : Int), ()) := by
 cases s with
 | nil => simp [zcb, charM]
 | cons a t =>
   have ha : a.toNat < 256 := a.toNat_lt
   have h0 : ¬ (((a :: t).length : Int) = 0) := by simp only [zl]; omega
   have hi : atI (a :: t) 0 = some a := by simp [atI]
   unfold zcb
   simp only [cond_dec, zn h0, hi, zb, and_join, ite_and2, ite_or2]
   rw [wrap64 (n := (a.toNat : Int)) (by omega) (by omega)]
   by_cases c1 : a.toNat < 128
   · rw [zp (by omega)]
     simp only [bind_join_inr, charM, zp c1]; rfl
   rw [zn (by omega)]
   by_cases c2 : 194 ≤ a.toNat ∧ a.toNat < 224
   · rw [zp (by omega), wrap64 (by omega) (by omega)]
     simp only [bind_join_inl]
     match t with
     | [] => simp [charM, c1, c2]
     | b :: t =>
       rw [zn (by simp only [zl]; omega), loop17_2 (by omega) (by omega)]
       by_cases hb : 128 ≤ b.toNat ∧ b.toNat ≤ 191
       · rw [zp hb]
         simp only [bind_join_inl]
         rw [guard_join, zn (by omega)]
         simp only [charM, c1, c2, hb, if_true, if_false, and_self]; rfl
       · rw [zn hb]
         simp only [bind_join_inr]
         simp [charM, c1, c2, hb]
   rw [zn (by omega)]
   by_cases c3 : 224 ≤ a.toNat ∧ a.toNat < 240
   · rw [zp (by omega), wrap64 (by omega) (by omega)]
     simp only [bind_join_inl]
     match t with
     | [] => simp [charM, c1, c2, c3]
     | [b] => simp [charM, c1, c2, c3]
     | b :: c :: t =>
       have hb := b.toNat_lt
       have hc := c.toNat_lt
       rw [zn (by simp only [zl]; omega), loop17_3 (by omega) (by omega)]
       by_cases hb' : (128 ≤ b.toNat ∧ b.toNat ≤ 191) ∧ (128 ≤ c.toNat ∧ c.toNat ≤ 191)
       · rw [zp hb']
         simp only [bind_join_inl]
         rw [guard_join]
         simp only [charM, c1, c2, c3, hb', if_true, if_false, and_self]
         by_cases hr : 64 * (64 * ((a.toNat : Int) - 224) + b.toNat - 128) + c.toNat - 128 < 2048 ∨ (55296 ≤ 64 * (64 * ((a.toNat : Int) - 224) + b.toNat - 128) + c.toNat - 128 ∧ 64 * (64 * ((a.toNat : Int) - 224) + b.toNat - 128) + c.toNat - 128 ≤ 57343)
         · rw [zp (by omega), zp hr]; rfl
         · rw [zn (by omega), zn hr]; rfl
       · rw [zn hb']
         simp only [bind_join_inr]
         simp [charM, c1, c2, c3, hb']
   rw [zn (by omega)]
   by_cases c4 : 240 ≤ a.toNat ∧ a.toNat < 245
   · rw [zp (by omega), wrap64 (by omega) (by omega)]
     simp only [bind_join_inl]
     match t with
     | [] => simp [charM, c1, c2, c3, c4]
     | [b] => simp [charM, c1, c2, c3, c4]
     | [b, c] => simp [charM, c1, c2, c3, c4]
     | b :: c :: d :: t =>
       have hb := b.toNat_lt
       have hc := c.toNat_lt
       have hd := d.toNat_lt
       rw [zn (by simp only [zl]; omega), loop17_4 (by omega) (by omega)]
       by_cases hb' : (128 ≤ b.toNat ∧ b.toNat ≤ 191) ∧ (128 ≤ c.toNat ∧ c.toNat ≤ 191) ∧ (128 ≤ d.toNat ∧ d.toNat ≤ 191)
       · rw [zp hb']
         simp only [bind_join_inl]
         rw [guard_join]
         simp only [charM, c1, c2, c3, c4, hb', if_true, if_false, and_self]
         by_cases hr : 64 * (64 * (64 * ((a.toNat : Int) - 240) + b.toNat - 128) + c.toNat - 128) + d.toNat - 128 < 65536 ∨ 1114111 < 64 * (64 * (64 * ((a.toNat : Int) - 240) + b.toNat - 128) + c.toNat - 128) + d.toNat - 128
         · rw [zp (by omega), zp hr]; rfl
         · rw [zn (by omega), zn hr]; rfl
       · rw [zn hb']
         simp only [bind_join_inr]
         simp [charM, c1, c2, c3, c4, hb']
   rw [zn (by omega)]
   simp only [bind_join_inr]
   simp [charM, c1, c2, c3, c4]
theorem charM_le (s : List UInt8) : (charM s).2 ≤ s.length := by
 unfold charM
 repeat' split
 all_goals (try simp only [])
 all_goals (try split)
 all_goals (try simp only [zl])
 all_goals omega
theorem charM_int (s : List UInt8) : 0 ≤ (charM s).1 ∧ (charM s).1 ≤ 1114111 := by
 unfold charM
 repeat' split
 all_goals (try simp only [])
 all_goals (try split)
 all_goals (try simp only [])
 all_goals omega
def runesM (s : List UInt8) : Option (List Int) :=
 if h : s = [] then some []
 else if h0 : (charM s).2 = 0 then none
 else (runesM (s.drop (charM s).2)).map fun l => (charM s).1 :: l
termination_by s.length
decreasing_by
 have : s.length ≠ 0 := fun e => h (List.eq_nil_of_length_eq_zero e)
 simp only [List.length_drop]; omega
theorem runesM_nil : runesM [] = some [] := by rw [runesM, dif_pos rfl]
theorem runesM_none {s : List UInt8} (h : s ≠ []) (h0 : (charM s).2 = 0) : runesM s = none := by rw [runesM, dif_neg h, dif_pos h0]
theorem runesM_step {s : List UInt8} (h : s ≠ []) (h0 : (charM s).2 ≠ 0) : runesM s = (runesM (s.drop (charM s).2)).map fun l => (charM s).1 :: l := by rw [runesM, dif_neg h, dif_neg h0]
def runesR (s : List UInt8) (out : List Int) : List Int × Bool × Unit :=
 match runesM s with
 | some m => (out ++ m, true, ())
 | none => ([], false, ())
theorem runes_loop {s : List UInt8} (hs : s.length < 4294967296) : ∀ (k i : Nat) (l : List Int), s.length - i ≤ k → i ≤ s.length → l.length ≤ i → loopT (zbt_l3 s) ((i : Int), l, ()) = some (runesR (s.drop i) l) := by
 intro k
 have fin : ∀ (i : Nat) (l : List Int), ¬ i < s.length → loopT (zbt_l3 s) ((i : Int), l, ()) = some (runesR (s.drop i) l) := by
   intro i l hi
   rw [List.drop_eq_nil_of_le (by omega), loopT_inr (x := (l, true, ())) (by simp only [zbt_l3, cond_dec]; rw [zn (by omega)])]
   simp [runesR, runesM_nil]
 induction k with
 | zero => intro i l hk hi hl; exact fin i l (by omega)
 | succ k ih =>
   intro i l hk hi hl
   by_cases hlt : i < s.length
   · have hne : s.drop i ≠ [] := fun e => by have := congrArg List.length e; simp at this; omega
     have hle := charM_le (s.drop i)
     simp only [List.length_drop] at hle
     by_cases h0 : (charM (s.drop i)).2 = 0
     · rw [loopT_inr (x := ([], false, ()))]
       · simp only [runesR, runesM_none hne h0]
       · simp only [zbt_l3, cond_dec]
         rw [zp (by omega), subI_from (by omega)]
         simp only [zb, char_t]
         rw [zp (by omega)]
     · rw [loopT_inl (b := (((i + (charM (s.drop i)).2 : Nat) : Int), l ++ [(charM (s.drop i)).1], ()))]
       · rw [ih _ _ (by omega) (by omega) (by simp; omega)]
         simp only [runesR, runesM_step hne h0, List.drop_drop]
         cases runesM (s.drop (i + (charM (s.drop i)).2)) <;> simp
       · simp only [zbt_l3, cond_dec]
         rw [zp (by omega), subI_from (by omega)]
         simp only [zb, char_t]
         rw [zn (by omega), roomT_lt (by simp; omega)]
         simp only [zb]
         rw [wrap64 (by omega) (by omega)]
         simp
   · exact fin i l hlt
theorem runes_t {s : List UInt8} (hs : s.length < 4294967296) : zbt s = some (runesR s []) := by
 have := runes_loop hs s.length 0 [] (by omega) (by omega) (by simp)
 simpa [zbt] using this
theorem wrapN {n : Nat} (h : n < 18446744073709551616) : IntKind.wrap .u64 (n : Int) = n := wrapU64 (by omega) (by omega)
theorem or64 {a b : Nat} (ha : a < 18446744073709551616) (hb : b < 18446744073709551616) : IntKind.wrap .u64 ((BitVec.ofInt (IntKind.bits .u64) (a : Int) ||| BitVec.ofInt (IntKind.bits .u64) (b : Int)).toNat : Nat) = ((a ||| b : Nat) : Int) := by
 have h1 : (BitVec.ofInt 64 (a : Int) ||| BitVec.ofInt 64 (b : Int)).toNat = a ||| b := by
   rw [BitVec.toNat_or, BitVec.ofInt_natCast, BitVec.ofInt_natCast, BitVec.toNat_ofNat, BitVec.toNat_ofNat, Nat.mod_eq_of_lt (by omega), Nat.mod_eq_of_lt (by omega)]
 have h2 : a ||| b < 2 ^ 64 := Nat.or_lt_two_pow (by omega) (by omega)
 have e : IntKind.bits .u64 = 64 := rfl
 rw [e, h1, wrapN (by omega)]
theorem and64 {a b : Nat} (ha : a < 18446744073709551616) (hb : b < 18446744073709551616) : IntKind.wrap .u64 ((BitVec.ofInt (IntKind.bits .u64) (a : Int) &&& BitVec.ofInt (IntKind.bits .u64) (b : Int)).toNat : Nat) = ((a &&& b : Nat) : Int) := by
 have h1 : (BitVec.ofInt 64 (a : Int) &&& BitVec.ofInt 64 (b : Int)).toNat = a &&& b := by
   rw [BitVec.toNat_and, BitVec.ofInt_natCast, BitVec.ofInt_natCast, BitVec.toNat_ofNat, BitVec.toNat_ofNat, Nat.mod_eq_of_lt (by omega), Nat.mod_eq_of_lt (by omega)]
 have h2 : a &&& b < 2 ^ 64 := Nat.and_lt_two_pow _ (by omega)
 have e : IntKind.bits .u64 = 64 := rfl
 rw [e, h1, wrapN (by omega)]
theorem pow_le {k : Nat} (hk : k ≤ 56) : 2 ^ k ≤ 2 ^ 56 := Nat.pow_le_pow_right (by omega) hk
theorem byte_pow {a k : Nat} (ha : a < 256) (hk : k ≤ 56) : a * 2 ^ k < 18446744073709551616 := by
 calc a * 2 ^ k ≤ 255 * 2 ^ 56 := Nat.mul_le_mul (by omega) (pow_le hk)
   _ < 18446744073709551616 := by decide
theorem shl64 {a : Nat} (k : Nat) {n : Int} (hn : n = (k : Int)) (ha : a < 256) (hk : k ≤ 56) : shlT .u64 (IntKind.wrap .u64 (a : Int)) n = some ((a * 2 ^ k : Nat) : Int) := by
 subst hn
 rw [wrapN (by omega)]
 have hmin : min ((k : Int).toNat) (IntKind.bits .u64) = k := by simp [IntKind.bits]; omega
 unfold shlT
 rw [zn (by omega), hmin]
 have : ((a : Int) * 2 ^ k) = ((a * 2 ^ k : Nat) : Int) := by push_cast; rfl
 rw [this, wrapN (byte_pow ha hk)]
def wordM (a b c d e f g h : Nat) : Nat := a ||| b * 2 ^ 8 ||| c * 2 ^ 16 ||| d * 2 ^ 24 ||| e * 2 ^ 32 ||| f * 2 ^ 40 ||| g * 2 ^ 48 ||| h * 2 ^ 56
theorem orlt {a b : Nat} (ha : a < 18446744073709551616) (hb : b < 18446744073709551616) : a ||| b < 18446744073709551616 := Nat.or_lt_two_pow (n := 64) ha hb
theorem word_t (a b c d e f g h : UInt8) (t : List UInt8) : zao (a :: b :: c :: d :: e :: f :: g :: h :: t) = some ((wordM a.toNat b.toNat c.toNat d.toNat e.toNat f.toNat g.toNat h.toNat : Nat) : Int) := by
 have ha := a.toNat_lt; have hb := b.toNat_lt; have hc := c.toNat_lt; have hd := d.toNat_lt; have he := e.toNat_lt; have hf := f.toNat_lt; have hg := g.toNat_lt; have hh := h.toNat_lt
 have z : ∀ {x : UInt8} {k : Nat}, k ≤ 56 → x.toNat * 2 ^ k < 18446744073709551616 := fun hk => byte_pow (UInt8.toNat_lt _) hk
 have w0 : a.toNat < 18446744073709551616 := by omega
 have w1 := orlt w0 (z (x := b) (k := 8) (by omega))
 have w2 := orlt w1 (z (x := c) (k := 16) (by omega))
 have w3 := orlt w2 (z (x := d) (k := 24) (by omega))
 have w4 := orlt w3 (z (x := e) (k := 32) (by omega))
 have w5 := orlt w4 (z (x := f) (k := 40) (by omega))
 have w6 := orlt w5 (z (x := g) (k := 48) (by omega))
 unfold zao
 have i : ∀ (n : Nat) (x : UInt8), (a :: b :: c :: d :: e :: f :: g :: h :: t)[n]? = some x → atI (a :: b :: c :: d :: e :: f :: g :: h :: t) (n : Int) = some x := fun n x hx => by rw [atI_nat]; exact hx
 have i0 := i 0 a rfl; have i1 := i 1 b rfl; have i2 := i 2 c rfl; have i3 := i 3 d rfl; have i4 := i 4 e rfl; have i5 := i 5 f rfl; have i6 := i 6 g rfl; have i7 := i 7 h rfl
 simp only [Int.natCast_zero, Int.natCast_one, Int.cast_ofNat_Int] at i0 i1 i2 i3 i4 i5 i6 i7
 simp only [i0, i1, i2, i3, i4, i5, i6, i7, zb, shl64 (n := 8) 8 rfl (UInt8.toNat_lt b) (by omega), shl64 (n := 16) 16 rfl (UInt8.toNat_lt c) (by omega), shl64 (n := 24) 24 rfl (UInt8.toNat_lt d) (by omega), shl64 (n := 32) 32 rfl (UInt8.toNat_lt e) (by omega), shl64 (n := 40) 40 rfl (UInt8.toNat_lt f) (by omega), shl64 (n := 48) 48 rfl (UInt8.toNat_lt g) (by omega), shl64 (n := 56) 56 rfl (UInt8.toNat_lt h) (by omega)]
 rw [wrapN w0, or64 w0 (z (by omega)), or64 w1 (z (by omega)), or64 w2 (z (by omega)), or64 w3 (z (by omega)), or64 w4 (z (by omega)), or64 w5 (z (by omega)), or64 w6 (z (by omega))]
 rfl
def maskM : Nat := 9259542123273814144
theorem byte_bit {x k : Nat} (h : 128 ≤ x) (h2 : x < 256) : Nat.testBit (x * 2 ^ k) (k + 7) = true := by
 rw [Nat.testBit_mul_two_pow]
 have : x.testBit 7 = true := by
   rw [Nat.testBit_eq_decide_div_mod_eq]
   simp; omega
 simp [this]
theorem and_zero_bit {a b i : Nat} (h : a &&& b = 0) (hb : Nat.testBit b i = true) : Nat.testBit a i = false := by
 have : Nat.testBit (a &&& b) i = false := by rw [h]; simp
 rw [Nat.testBit_and, hb, Bool.and_true] at this
 exact this
theorem word_ascii {a b c d e f g h : Nat} (ha : a < 256) (hb : b < 256) (hc : c < 256) (hd : d < 256) (he : e < 256) (hf : f < 256) (hg : g < 256) (hh : h < 256)
   (hz : wordM a b c d e f g h &&& maskM = 0) : a < 128 ∧ b < 128 ∧ c < 128 ∧ d < 128 ∧ e < 128 ∧ f < 128 ∧ g < 128 ∧ h < 128 := by
 have key : ∀ k, Nat.testBit maskM (k + 7) = true → Nat.testBit (wordM a b c d e f g h) (k + 7) = false := fun k hk => and_zero_bit hz hk
 have k0 := key 0 (by decide)
 have k1 := key 8 (by decide)
 have k2 := key 16 (by decide)
 have k3 := key 24 (by decide)
 have k4 := key 32 (by decide)
 have k5 := key 40 (by decide)
 have k6 := key 48 (by decide)
 have k7 := key 56 (by decide)
 simp only [wordM, Nat.testBit_or, Bool.or_eq_false_iff] at k0 k1 k2 k3 k4 k5 k6 k7
 have no : ∀ x k, x < 256 → Nat.testBit (x * 2 ^ k) (k + 7) = false → x < 128 := by
   intro x k hx hk
   rcases Nat.lt_or_ge x 128 with h | h
   · exact h
   · rw [byte_bit h hx] at hk; cases hk
 have n0 : a < 128 := no a 0 ha (by simpa using k0.1.1.1.1.1.1.1)
 exact ⟨n0, no b 8 hb k1.1.1.1.1.1.1.2, no c 16 hc k2.1.1.1.1.1.2, no d 24 hd k3.1.1.1.1.2, no e 32 he k4.1.1.1.2, no f 40 hf k5.1.1.2, no g 48 hg k6.1.2, no h 56 hh k7.2⟩
theorem word_p {s : List UInt8} (hs : 8 ≤ s.length) : ∃ W : Nat, W < 18446744073709551616 ∧ zao s = some (W : Int) ∧ (W &&& maskM = 0 → ∀ b ∈ s.take 8, b.toNat < 128) := by
 match s, hs with
 | a :: b :: c :: d :: e :: f :: g :: h :: t, _ =>
   have ha := a.toNat_lt; have hb := b.toNat_lt; have hc := c.toNat_lt; have hd := d.toNat_lt; have he := e.toNat_lt; have hf := f.toNat_lt; have hg := g.toNat_lt; have hh := h.toNat_lt
   have z : ∀ {x : UInt8} {k : Nat}, k ≤ 56 → x.toNat * 2 ^ k < 18446744073709551616 := fun hk => byte_pow (UInt8.toNat_lt _) hk
   refine ⟨wordM a.toNat b.toNat c.toNat d.toNat e.toNat f.toNat g.toNat h.toNat, ?_, word_t a b c d e f g h t, fun hz x hx => ?_⟩
   · unfold wordM
     exact orlt (orlt (orlt (orlt (orlt (orlt (orlt (by omega) (z (by omega))) (z (by omega))) (z (by omega))) (z (by omega))) (z (by omega))) (z (by omega))) (z (by omega))
   · have := word_ascii (by omega) (by omega) (by omega) (by omega) (by omega) (by omega) (by omega) (by omega) hz
     simp only [List.take_succ_cons, List.take_zero, List.mem_cons, List.mem_nil_iff, or_false] at hx
     rcases hx with rfl | rfl | rfl | rfl | rfl | rfl | rfl | rfl <;> omega
def validM (s : List UInt8) : Bool := (runesM s).isSome
theorem valid_nil : validM [] = true := by unfold validM; rw [runesM_nil]; rfl
theorem valid_step {s : List UInt8} (hne : s ≠ []) : validM s = (if (charM s).2 = 0 then false else validM (s.drop (charM s).2)) := by
 unfold validM
 split
 · rename_i h; rw [runesM_none hne h]; rfl
 · rename_i h; rw [runesM_step hne h]; cases runesM (s.drop (charM s).2) <;> rfl
theorem valid_ascii : ∀ (n : Nat) (s : List UInt8), n ≤ s.length → (∀ b ∈ s.take n, b.toNat < 128) → validM s = validM (s.drop n)
 | 0, s, _, _ => rfl
 | n + 1, [], h, _ => by simp at h
 | n + 1, a :: t, h, hb => by
   have h1 : a.toNat < 128 := hb a (by simp)
   have hc : charM (a :: t) = ((a.toNat : Int), 1) := by simp only [charM, zp h1]
   rw [valid_step (by simp), hc]
   simp only [Nat.one_ne_zero, if_false, List.drop_succ_cons, List.drop_zero]
   exact valid_ascii n t (by simpa using h) (fun b hm => hb b (by simp [hm]))
theorem maskM_int : (9259542123273814144 : Int) = ((maskM : Nat) : Int) := rfl
theorem maskM_lt : maskM < 18446744073709551616 := by unfold maskM; omega
theorem or_zero {a b m : Nat} (h : (a ||| b) &&& m = 0) : a &&& m = 0 ∧ b &&& m = 0 := by
 rw [Nat.and_or_distrib_right] at h
 exact Nat.or_eq_zero_iff.1 h
theorem take_more {s : List UInt8} {n m : Nat} (h1 : ∀ b ∈ s.take n, b.toNat < 128) (h2 : ∀ b ∈ (s.drop n).take m, b.toNat < 128) : ∀ b ∈ s.take (n + m), b.toNat < 128 := by
 intro b hb
 rw [List.take_add, List.mem_append] at hb
 exact hb.elim (h1 b) (h2 b)
theorem sub_from {s : List UInt8} (n : Nat) {i : Int} (hi : i = (n : Int)) (h : n ≤ s.length) : subI s i (s.length : Int) = some (s.drop n) := by subst hi; exact subI_from h
theorem turn9 (s : List UInt8) : (32 < s.length ∧ validM s = validM (s.drop 32) ∧ zaq_l9 (s, ()) = some (.inl (s.drop 32, ()))) ∨ zaq_l9 (s, ()) = some (.inr (.inr (.inl (s, ())))) := by
 by_cases h : 32 < s.length
 · obtain ⟨W1, a1, b1, c1⟩ := word_p (s := s) (by omega)
   obtain ⟨W2, a2, b2, c2⟩ := word_p (s := s.drop 8) (by simp; omega)
   obtain ⟨W3, a3, b3, c3⟩ := word_p (s := s.drop 16) (by simp; omega)
   obtain ⟨W4, a4, b4, c4⟩ := word_p (s := s.drop 24) (by simp; omega)
   have run : zaq_l9 (s, ()) = if ((((W1 ||| W2) ||| (W3 ||| W4)) &&& maskM : Nat) : Int) = 0 then some (.inl (s.drop 32, ())) else some (.inr (.inr (.inl (s, ())))) := by
     unfold zaq_l9
     simp only [cond_dec, b1, zb, sub_from (i := 8) 8 rfl (show 8 ≤ s.length by omega), b2, sub_from (i := 16) 16 rfl (show 16 ≤ s.length by omega), b3, sub_from (i := 24) 24 rfl (show 24 ≤ s.length by omega), b4, sub_from (i := 32) 32 rfl (show 32 ≤ s.length by omega)]
     rw [zp (by omega), or64 a1 a2, or64 a3 a4, or64 (orlt a1 a2) (orlt a3 a4), maskM_int, and64 (orlt (orlt a1 a2) (orlt a3 a4)) maskM_lt]
   by_cases hz : ((W1 ||| W2) ||| (W3 ||| W4)) &&& maskM = 0
   · left
     rw [zp (by rw [hz]; rfl)] at run
     refine ⟨h, ?_, run⟩
     obtain ⟨y1, y2⟩ := or_zero hz
     obtain ⟨z1, z2⟩ := or_zero y1
     obtain ⟨z3, z4⟩ := or_zero y2
     have t2 := take_more (c1 z1) (c2 z2)
     have t3 := take_more t2 (c3 z3)
     have t4 := take_more t3 (c4 z4)
     exact valid_ascii 32 s (by omega) t4
   · right
     rw [zn (fun e => hz (by exact_mod_cast e))] at run
     exact run
 · right
   unfold zaq_l9
   simp only [cond_dec]
   rw [zn (by omega)]
theorem loop9 : ∀ (k : Nat) (s : List UInt8), s.length ≤ k → ∃ s', s'.length ≤ s.length ∧ validM s = validM s' ∧ loopT zaq_l9 (s, ()) = some (.inr (.inl (s', ()))) := by
 intro k
 induction k with
 | zero =>
   intro s hk
   rcases turn9 s with ⟨h, _⟩ | h
   · omega
   · exact ⟨s, Nat.le_refl _, rfl, loopT_inr h⟩
 | succ k ih =>
   intro s hk
   rcases turn9 s with ⟨h, hv, hr⟩ | h
   · obtain ⟨s', h1, h2, h3⟩ := ih (s.drop 32) (by simp; omega)
     refine ⟨s', ?_, hv.trans h2, (loopT_inl hr).trans h3⟩
     simp only [List.length_drop] at h1; omega
   · exact ⟨s, Nat.le_refl _, rfl, loopT_inr h⟩
def firstM (a : Nat) : Int :=
 if a < 128 then 240 else if a < 194 then 241 else if a < 224 then 2 else if a = 224 then 19 else if a < 237 then 3 else if a = 237 then 35 else if a < 240 then 3 else if a = 240 then 52 else if a < 244 then 4 else if a = 244 then 68 else 241
theorem first_all : (List.range 256).all (fun a => decide (tabFirst[a]? = some (firstM a))) = true := by kernel_rfl
theorem first_at {a : Nat} (h : a < 256) : atI tabFirst (a : Int) = some (firstM a) := by
 rw [atI_nat]
 have := first_all
 rw [List.all_eq_true] at this
 exact of_decide_eq_true (this a (List.mem_range.2 h))
theorem cls2 {x : Int} (hx : x = 2 ∨ x = 3 ∨ x = 19 ∨ x = 35 ∨ x = 4 ∨ x = 52 ∨ x = 68 ∨ x = 241) : ∃ n lo hi k, IntKind.wrap .i64 (IntKind.wrap .u8 ((BitVec.ofInt (IntKind.bits .u8) x &&& BitVec.ofInt (IntKind.bits .u8) 7).toNat)) = n ∧ shrT .u8 x 4 = some k ∧ atI tabAccept k = some (lo, hi, ()) ∧
   ((x = 2 ∧ n = 2 ∧ lo = 128 ∧ hi = 191) ∨ (x = 3 ∧ n = 3 ∧ lo = 128 ∧ hi = 191) ∨ (x = 19 ∧ n = 3 ∧ lo = 160 ∧ hi = 191) ∨ (x = 35 ∧ n = 3 ∧ lo = 128 ∧ hi = 159) ∨ (x = 4 ∧ n = 4 ∧ lo = 128 ∧ hi = 191) ∨ (x = 52 ∧ n = 4 ∧ lo = 144 ∧ hi = 191) ∨ (x = 68 ∧ n = 4 ∧ lo = 128 ∧ hi = 143) ∨ (x = 241 ∧ n = 1)) := by
 rcases hx with rfl | rfl | rfl | rfl | rfl | rfl | rfl | rfl
 · exact ⟨2, 128, 191, 0, by decide, by decide, by decide, .inl ⟨rfl, rfl, rfl, rfl⟩⟩
 · exact ⟨3, 128, 191, 0, by decide, by decide, by decide, .inr (.inl ⟨rfl, rfl, rfl, rfl⟩)⟩
 · exact ⟨3, 160, 191, 1, by decide, by decide, by decide, .inr (.inr (.inl ⟨rfl, rfl, rfl, rfl⟩))⟩
 · exact ⟨3, 128, 159, 2, by decide, by decide, by decide, .inr (.inr (.inr (.inl ⟨rfl, rfl, rfl, rfl⟩)))⟩
 · exact ⟨4, 128, 191, 0, by decide, by decide, by decide, .inr (.inr (.inr (.inr (.inl ⟨rfl, rfl, rfl, rfl⟩))))⟩
 · exact ⟨4, 144, 191, 3, by decide, by decide, by decide, .inr (.inr (.inr (.inr (.inr (.inl ⟨rfl, rfl, rfl, rfl⟩)))))⟩
 · exact ⟨4, 128, 143, 4, by decide, by decide, by decide, .inr (.inr (.inr (.inr (.inr (.inr (.inl ⟨rfl, rfl, rfl, rfl⟩))))))⟩
 · exact ⟨1, 0, 0, 15, by decide, by decide, by decide, .inr (.inr (.inr (.inr (.inr (.inr (.inr ⟨rfl, rfl⟩))))))⟩
abbrev VR := (List UInt8 × Unit) ⊕ Bool
theorem at1 {a b : UInt8} {t : List UInt8} : atI (a :: b :: t) 1 = some b := by simp [atI]
theorem at2 {a b c : UInt8} {t : List UInt8} : atI (a :: b :: c :: t) 2 = some c := by simp [atI]
theorem at3 {a b c d : UInt8} {t : List UInt8} : atI (a :: b :: c :: d :: t) 3 = some d := by simp [atI]
theorem sub2 {a b : UInt8} {t : List UInt8} : subI (a :: b :: t) 2 ((a :: b :: t).length : Int) = some t := sub_from (i := 2) 2 rfl (by simp)
theorem sub3 {a b c : UInt8} {t : List UInt8} : subI (a :: b :: c :: t) 3 ((a :: b :: c :: t).length : Int) = some t := sub_from (i := 3) 3 rfl (by simp)
theorem sub4 {a b c d : UInt8} {t : List UInt8} : subI (a :: b :: c :: d :: t) 4 ((a :: b :: c :: d :: t).length : Int) = some t := sub_from (i := 4) 4 rfl (by simp)
def slowM (n lo hi : Int) (s : List UInt8) : VR :=
 if n = 2 then (match s with
   | _ :: b :: t => if lo ≤ (b.toNat : Int) ∧ (b.toNat : Int) ≤ hi then .inl (t, ()) else .inr false
   | _ => .inr false)
 else if n = 3 then (match s with
   | _ :: b :: c :: t => if (lo ≤ (b.toNat : Int) ∧ (b.toNat : Int) ≤ hi) ∧ (128 ≤ c.toNat ∧ c.toNat ≤ 191) then .inl (t, ()) else .inr false
   | _ => .inr false)
 else if n = 4 then (match s with
   | _ :: b :: c :: d :: t => if (lo ≤ (b.toNat : Int) ∧ (b.toNat : Int) ≤ hi) ∧ (128 ≤ c.toNat ∧ c.toNat ≤ 191) ∧ (128 ≤ d.toNat ∧ d.toNat ≤ 191) then .inl (t, ()) else .inr false
   | _ => .inr false)
 else .inr false
set_option maxHeartbeats 1000000 in
theorem turn1_slow {a : UInt8} {t : List UInt8} {x n lo hi k : Int} (ha : 128 ≤ a.toNat) (hx : firstM a.toNat = x)
   (hn : IntKind.wrap .i64 (IntKind.wrap .u8 ((BitVec.ofInt (IntKind.bits .u8) x &&& BitVec.ofInt (IntKind.bits .u8) 7).toNat)) = n) (hk : shrT .u8 x 4 = some k) (hr : atI tabAccept k = some (lo, hi, ())) :
   zaq_l1 (a :: t, ()) = some (slowM n lo hi (a :: t)) := by
 have hl : ((a :: t).length : Int) > 0 := by simp only [zl]; omega
 have hi0 : atI (a :: t) 0 = some a := by simp [atI]
 have h128 : ¬ (a.toNat : Int) < 128 := by omega
 have hf := first_at (a := a.toNat) a.toNat_lt
 rw [hx] at hf
 unfold zaq_l1
 generalize tabFirst = T at hf ⊢
 generalize tabAccept = TA at hr ⊢
 simp only [cond_dec, zp hl, hi0, zb, zn h128, bind_join_inl, joinS_inl]
 rw [hf, zb, hk, zb, hr, zb, hn]
 clear hn hk hf hr hx
 unfold slowM
 by_cases h2 : n = 2
 · simp only [zp h2]
   match t with
   | [] => simp
   | b :: t =>
     rw [zn (by simp only [zl]; omega)]
     simp only [at1, zb, sub2]
     by_cases c1 : (b.toNat : Int) < lo
     · rw [zp c1, zn (by omega)]
     · rw [zn c1]
       by_cases c2 : hi < (b.toNat : Int)
       · rw [zp c2, zn (by omega)]
       · rw [zn c2, zp (by omega)]
 simp only [zn h2]
 by_cases h3 : n = 3
 · simp only [zp h3]
   match t with
   | [] => simp
   | [b] => simp
   | b :: c :: t =>
     rw [zn (by simp only [zl]; omega)]
     simp only [at1, at2, zb, sub3, cond_dec]
     by_cases c1 : (b.toNat : Int) < lo
     · rw [zp c1, zn (by omega)]
     · rw [zn c1]
       by_cases c2 : hi < (b.toNat : Int)
       · rw [zp c2, zn (by omega)]
       · rw [zn c2]
         by_cases c3 : (c.toNat : Int) < 128
         · rw [zp c3, zn (by omega)]
         · rw [zn c3]
           by_cases c4 : 191 < (c.toNat : Int)
           · rw [zp c4, zn (by omega)]
           · rw [zn c4, zp (by omega)]
 simp only [zn h3]
 by_cases h4 : n = 4
 · simp only [zp h4]
   match t with
   | [] => simp
   | [b] => simp
   | [b, c] => simp
   | b :: c :: d :: t =>
     rw [zn (by simp only [zl]; omega)]
     simp only [at1, at2, at3, zb, sub4, cond_dec]
     by_cases c1 : (b.toNat : Int) < lo
     · simp only [zp c1, zb, cond_true]
       rw [zn (by omega)]
     · simp only [zn c1, zb, cond_dec]
       by_cases c2 : hi < (b.toNat : Int)
       · simp only [zp c2, zb, cond_true]
         rw [zn (by omega)]
       · simp only [zn c2, zb, cond_dec]
         by_cases c3 : (c.toNat : Int) < 128
         · simp only [zp c3]
           rw [zn (by omega)]
         · simp only [zn c3]
           by_cases c4 : 191 < (c.toNat : Int)
           · rw [zp c4, zn (by omega)]
           · rw [zn c4]
             by_cases c5 : (d.toNat : Int) < 128
             · rw [zp c5, zn (by omega)]
             · rw [zn c5]
               by_cases c6 : 191 < (d.toNat : Int)
               · rw [zp c6, zn (by omega)]
               · rw [zn c6, zp (by omega)]
 simp only [zn h4]
theorem firstM_cls {a : Nat} (h : 128 ≤ a) (h2 : a < 256) : (firstM a = 2 ∧ 194 ≤ a ∧ a < 224) ∨ (firstM a = 3 ∧ 225 ≤ a ∧ a < 240 ∧ a ≠ 237) ∨ (firstM a = 19 ∧ a = 224) ∨ (firstM a = 35 ∧ a = 237) ∨ (firstM a = 4 ∧ 241 ≤ a ∧ a < 244) ∨ (firstM a = 52 ∧ a = 240) ∨ (firstM a = 68 ∧ a = 244) ∨ (firstM a = 241 ∧ (a < 194 ∨ 245 ≤ a)) := by
 unfold firstM
 repeat' split
 all_goals omega
theorem three {a : UInt8} {t : List UInt8} {n lo hi : Int} (c1 : ¬ a.toNat < 128) (k : n = 3) (h : 224 ≤ a.toNat ∧ a.toNat < 240)
   (hr : ∀ b c : Int, 128 ≤ b ∧ b ≤ 191 → 128 ≤ c ∧ c ≤ 191 → ((lo ≤ b ∧ b ≤ hi) ↔ ¬ (64 * (64 * ((a.toNat : Int) - 224) + b - 128) + c - 128 < 2048 ∨ (55296 ≤ 64 * (64 * ((a.toNat : Int) - 224) + b - 128) + c - 128 ∧ 64 * (64 * ((a.toNat : Int) - 224) + b - 128) + c - 128 ≤ 57343)))) (hlo : 128 ≤ lo := by omega) (hhi : hi ≤ 191 := by omega) :
   slowM n lo hi (a :: t) = if (charM (a :: t)).2 = 0 then .inr false else .inl ((a :: t).drop (charM (a :: t)).2, ()) := by
 subst k
 have d2 : ¬ (194 ≤ a.toNat ∧ a.toNat < 224) := by omega
 match t with
 | [] => simp [slowM, charM, c1, d2, h]
 | [b] => simp [slowM, charM, c1, d2, h]
 | b :: c :: t =>
   simp only [slowM, charM, zn c1, zn d2, zp h, if_true, show ¬ (3 : Int) = 2 by omega, if_false]
   by_cases hb : (128 ≤ b.toNat ∧ b.toNat ≤ 191) ∧ (128 ≤ c.toNat ∧ c.toNat ≤ 191)
   · have := hr b.toNat c.toNat (by omega) (by omega)
     rw [zp hb]
     by_cases hq : lo ≤ (b.toNat : Int) ∧ (b.toNat : Int) ≤ hi
     · rw [zp ⟨hq, hb.2⟩, zn (this.1 hq)]; rfl
     · rw [zn (fun e => hq e.1), zp (Classical.not_not.1 (fun e => hq (this.2 e)))]; rfl
   · rw [zn hb, zn (by omega)]; rfl
theorem four {a : UInt8} {t : List UInt8} {n lo hi : Int} (c1 : ¬ a.toNat < 128) (k : n = 4) (h : 240 ≤ a.toNat ∧ a.toNat < 245)
   (hr : ∀ b c d : Int, 128 ≤ b ∧ b ≤ 191 → 128 ≤ c ∧ c ≤ 191 ∧ 128 ≤ d ∧ d ≤ 191 → ((lo ≤ b ∧ b ≤ hi) ↔ ¬ (64 * (64 * (64 * ((a.toNat : Int) - 240) + b - 128) + c - 128) + d - 128 < 65536 ∨ 1114111 < 64 * (64 * (64 * ((a.toNat : Int) - 240) + b - 128) + c - 128) + d - 128))) (hlo : 128 ≤ lo := by omega) (hhi : hi ≤ 191 := by omega) :
   slowM n lo hi (a :: t) = if (charM (a :: t)).2 = 0 then .inr false else .inl ((a :: t).drop (charM (a :: t)).2, ()) := by
 subst k
 have d2 : ¬ (194 ≤ a.toNat ∧ a.toNat < 224) := by omega
 have d3 : ¬ (224 ≤ a.toNat ∧ a.toNat < 240) := by omega
 match t with
 | [] => simp [slowM, charM, c1, d2, d3, h]
 | [b] => simp [slowM, charM, c1, d2, d3, h]
 | [b, c] => simp [slowM, charM, c1, d2, d3, h]
 | b :: c :: d :: t =>
   simp only [slowM, charM, zn c1, zn d2, zn d3, zp h, if_true, show ¬ (4 : Int) = 2 by omega, show ¬ (4 : Int) = 3 by omega, if_false]
   by_cases hb : (128 ≤ b.toNat ∧ b.toNat ≤ 191) ∧ (128 ≤ c.toNat ∧ c.toNat ≤ 191) ∧ (128 ≤ d.toNat ∧ d.toNat ≤ 191)
   · have := hr b.toNat c.toNat d.toNat (by omega) (by omega)
     rw [zp hb]
     by_cases hq : lo ≤ (b.toNat : Int) ∧ (b.toNat : Int) ≤ hi
     · rw [zp ⟨hq, hb.2⟩, zn (this.1 hq)]; rfl
     · rw [zn (fun e => hq e.1), zp (Classical.not_not.1 (fun e => hq (this.2 e)))]; rfl
   · rw [zn hb, zn (by omega)]; rfl
theorem turn1_hi {a : UInt8} {t : List UInt8} (ha : 128 ≤ a.toNat) : zaq_l1 (a :: t, ()) = some (if (charM (a :: t)).2 = 0 then .inr false else .inl ((a :: t).drop (charM (a :: t)).2, ())) := by
 have hlt := a.toNat_lt
 have hc := firstM_cls ha hlt
 obtain ⟨n, lo, hi, k, g1, g2, g2', g3⟩ := cls2 (x := firstM a.toNat) (by omega)
 rw [turn1_slow ha rfl g1 g2 g2']
 congr 1
 have c1 : ¬ a.toNat < 128 := by omega
 rcases hc with ⟨e, k1, k2⟩ | ⟨e, k1, k2, k3⟩ | ⟨e, k1⟩ | ⟨e, k1⟩ | ⟨e, k1, k2⟩ | ⟨e, k1⟩ | ⟨e, k1⟩ | ⟨e, k1⟩
 · have : n = 2 ∧ lo = 128 ∧ hi = 191 := by omega
   obtain ⟨rfl, rfl, rfl⟩ := this
   match t with
   | [] => simp [slowM, charM, c1, k1, k2]
   | b :: t =>
     simp only [slowM, charM, zn c1, zp (And.intro k1 k2), if_true]
     by_cases hb : 128 ≤ b.toNat ∧ b.toNat ≤ 191
     · rw [zp (by omega), zp hb]; rfl
     · rw [zn (by omega), zn hb]; rfl
 · exact three (lo := lo) (hi := hi) (n := n) c1 (by omega) (by omega) (by intro b c h1 h2; omega)
 · exact three (lo := lo) (hi := hi) (n := n) c1 (by omega) (by omega) (by intro b c h1 h2; omega)
 · exact three (lo := lo) (hi := hi) (n := n) c1 (by omega) (by omega) (by intro b c h1 h2; omega)
 · exact four (lo := lo) (hi := hi) (n := n) c1 (by omega) (by omega) (by intro b c d h1 h2; omega)
 · exact four (lo := lo) (hi := hi) (n := n) c1 (by omega) (by omega) (by intro b c d h1 h2; omega)
 · exact four (lo := lo) (hi := hi) (n := n) c1 (by omega) (by omega) (by intro b c d h1 h2; omega)
 · have hn : n = 1 := by omega
   subst hn
   have d2 : ¬ (194 ≤ a.toNat ∧ a.toNat < 224) := by omega
   have d3 : ¬ (224 ≤ a.toNat ∧ a.toNat < 240) := by omega
   have d4 : ¬ (240 ≤ a.toNat ∧ a.toNat < 245) := by omega
   simp [slowM, charM, c1, d2, d3, d4]
def decN (l : List UInt8) : Nat × Nat := if (charM l).2 = 0 then (65533, 1) else ((charM l).1.toNat, (charM l).2)
theorem get_at {s : List UInt8} {i : Nat} {b : UInt8} (h : s[i]? = some b) : (⟨s.toArray⟩ : ByteArray).get! i = b := by
 have : (⟨s.toArray⟩ : ByteArray).get! i = s.toArray[i]! := rfl
 rw [this]
 simp [h]
theorem cont_no {s : List UInt8} {i : Nat} (h : s.length ≤ i) : decide (i < (⟨s.toArray⟩ : ByteArray).size) = false := by
 have : (⟨s.toArray⟩ : ByteArray).size = s.length := by simp [ByteArray.size]
 rw [this]; simp; omega
theorem cont_yes {s : List UInt8} {i : Nat} (h : i < s.length) : decide (i < (⟨s.toArray⟩ : ByteArray).size) = true := by
 have : (⟨s.toArray⟩ : ByteArray).size = s.length := by simp [ByteArray.size]
 rw [this]; simp; omega
theorem drop_at {s t : List UInt8} {i k : Nat} {b : UInt8} (h : s.drop i = t) (hb : t[k]? = some b) : s[i + k]? = some b := by
 rw [← h, List.getElem?_drop] at hb; exact hb
theorem drop_len {s t : List UInt8} {i : Nat} (h : s.drop i = t) (hi : i ≤ s.length) : s.length = i + t.length := by
 rw [← h, List.length_drop]; omega
def decV (b0 : Nat) (b1 b2 b3 : Option Nat) : Nat × Nat :=
 let cont (b : Option Nat) : Bool := match b with
   | some b => b / 64 == 2
   | none => false
 if b0 < 0x80 then (b0, 1)
 else if b0 / 32 == 6 && cont b1 then
   let c := (b0 % 32) * 64 + b1.getD 0 % 64
   if c ≥ 0x80 then (c, 2) else (65533, 1)
 else if b0 / 16 == 14 && cont b1 && cont b2 then
   let c := (b0 % 16) * 4096 + (b1.getD 0 % 64) * 64 + b2.getD 0 % 64
   if c ≥ 0x800 && Utf8.valid c then (c, 3) else (65533, 1)
 else if b0 / 8 == 30 && cont b1 && cont b2 && cont b3 then
   let c := (b0 % 8) * 262144 + (b1.getD 0 % 64) * 4096 + (b2.getD 0 % 64) * 64 + b3.getD 0 % 64
   if c ≥ 0x10000 && Utf8.valid c then (c, 4) else (65533, 1)
 else (65533, 1)
theorem decode_V {s t : List UInt8} {i : Nat} {a : UInt8} (h : s.drop i = a :: t) (hi : i ≤ s.length) : Utf8.decode ⟨s.toArray⟩ i = decV a.toNat (t[0]?.map (·.toNat)) (t[1]?.map (·.toNat)) (t[2]?.map (·.toNat)) := by
 have hlen := drop_len h hi
 have g0 : (⟨s.toArray⟩ : ByteArray).get! (i + 0) = a := get_at (drop_at h rfl)
 have gk : ∀ k b, t[k]? = some b → (⟨s.toArray⟩ : ByteArray).get! (i + (k + 1)) = b := fun k b hb => get_at (drop_at h (by simpa using hb))
 have cy : ∀ k b, t[k]? = some b → decide (i + (k + 1) < (⟨s.toArray⟩ : ByteArray).size) = true := fun k b hb => cont_yes (by
   rcases Nat.lt_or_ge k t.length with h' | h'
   · simp only [zl] at hlen; omega
   · rw [List.getElem?_eq_none h'] at hb; cases hb)
 have cn : ∀ k, t[k]? = none → decide (i + (k + 1) < (⟨s.toArray⟩ : ByteArray).size) = false := fun k hb => cont_no (by
   rw [List.getElem?_eq_none_iff] at hb
   simp only [zl] at hlen; omega)
 unfold Utf8.decode decV
 simp only [g0]
 have e : Utf8.runeError = 65533 := rfl
 cases h1 : t[0]? with
 | none =>
   have c1 := cn 0 h1
   have h2 : t[1]? = none := by rw [List.getElem?_eq_none_iff] at h1 ⊢; omega
   have h3 : t[2]? = none := by rw [List.getElem?_eq_none_iff] at h1 ⊢; omega
   simp only [Nat.zero_add] at c1
   simp [c1, h2, h3, e]
 | some b =>
   have c1 := cy 0 b h1
   have d1 := gk 0 b h1
   simp only [Nat.zero_add] at c1 d1
   cases h2 : t[1]? with
   | none =>
     have c2 := cn 1 h2
     have h3 : t[2]? = none := by rw [List.getElem?_eq_none_iff] at h2 ⊢; omega
     simp only [Nat.reduceAdd] at c2
     simp [c1, c2, d1, h3, e]
   | some c =>
     have c2 := cy 1 c h2
     have d2 := gk 1 c h2
     simp only [Nat.reduceAdd] at c2 d2
     cases h3 : t[2]? with
     | none =>
       have c3 := cn 2 h3
       simp only [Nat.reduceAdd] at c3
       simp [c1, c2, c3, d1, d2, e]
     | some d =>
       have c3 := cy 2 d h3
       have d3 := gk 2 d h3
       simp only [Nat.reduceAdd] at c3 d3
       simp [c1, c2, c3, d1, d2, d3, e]
theorem div64 {b : Nat} : (b / 64 == 2) = decide (128 ≤ b ∧ b ≤ 191) := by
 rw [Bool.eq_iff_iff]; simp; omega
theorem decV_N (a : UInt8) (t : List UInt8) : decV a.toNat (t[0]?.map (·.toNat)) (t[1]?.map (·.toNat)) (t[2]?.map (·.toNat)) = decN (a :: t) := by
 have ha := a.toNat_lt
 unfold decV decN
 by_cases c1 : a.toNat < 128
 · simp [charM, c1]
 have c1' : ¬ a.toNat < 0x80 := c1
 simp only [zn c1']
 by_cases c2 : a.toNat / 32 = 6
 · have e2 : (a.toNat / 32 == 6) = true := by simp [c2]
   match t with
   | [] =>
     have e3 : ¬ a.toNat / 16 = 14 := by omega
     have e4 : ¬ a.toNat / 8 = 30 := by omega
     have d3 : ¬ (224 ≤ a.toNat ∧ a.toNat < 240) := by omega
     have d4 : ¬ (240 ≤ a.toNat ∧ a.toNat < 245) := by omega
     simp [charM, c1, e3, e4, d3, d4]
   | b :: t =>
     have hb := b.toNat_lt
     have e3 : ¬ a.toNat / 16 = 14 := by omega
     have e4 : ¬ a.toNat / 8 = 30 := by omega
     have d3 : ¬ (224 ≤ a.toNat ∧ a.toNat < 240) := by omega
     have d4 : ¬ (240 ≤ a.toNat ∧ a.toNat < 245) := by omega
     simp only [List.getElem?_cons_zero, Option.map_some, e2, div64, Bool.true_and, Option.getD_some]
     by_cases hb' : 128 ≤ b.toNat ∧ b.toNat ≤ 191
     · rw [zp (by simpa using hb')]
       by_cases c3 : 194 ≤ a.toNat
       · rw [zp (by omega)]
         have q : 194 ≤ a.toNat ∧ a.toNat < 224 := by omega
         simp only [charM, zn c1, zp q, zp hb']
         rw [zn (by omega)]
         congr 1
         omega
       · rw [zn (by omega)]
         have q : ¬ (194 ≤ a.toNat ∧ a.toNat < 224) := by omega
         simp [charM, c1, q, d3, d4]
     · rw [zn (by simpa using hb')]
       have x3 : (a.toNat / 16 == 14) = false := by simp [e3]
       have x4 : (a.toNat / 8 == 30) = false := by simp [e4]
       simp only [x3, x4, Bool.false_and, Bool.false_eq_true, if_false]
       by_cases c3 : 194 ≤ a.toNat ∧ a.toNat < 224
       · simp [charM, c1, c3, hb']
       · simp [charM, c1, c3, d3, d4]
 have e2 : (a.toNat / 32 == 6) = false := by simp [c2]
 simp only [e2, Bool.false_and, Bool.false_eq_true, if_false]
 have d2 : ¬ (194 ≤ a.toNat ∧ a.toNat < 224) := by omega
 by_cases c3 : a.toNat / 16 = 14
 · have e3 : (a.toNat / 16 == 14) = true := by simp [c3]
   have d3 : (224 ≤ a.toNat ∧ a.toNat < 240) := by omega
   have x4 : (a.toNat / 8 == 30) = false := by simp; omega
   simp only [e3, x4, Bool.true_and, Bool.false_and, Bool.false_eq_true, if_false]
   match t with
   | [] => simp [charM, c1, d2, d3]
   | [b] => simp [charM, c1, d2, d3]
   | b :: c :: t =>
     have hb := b.toNat_lt
     have hc := c.toNat_lt
     simp only [List.getElem?_cons_zero, List.getElem?_cons_succ, Option.map_some, div64, Option.getD_some]
     by_cases hb' : (128 ≤ b.toNat ∧ b.toNat ≤ 191) ∧ (128 ≤ c.toNat ∧ c.toNat ≤ 191)
     · rw [zp (by simp only [Bool.and_eq_true, decide_eq_true_eq]; exact hb')]
       simp only [charM, zn c1, zn d2, zp d3, zp hb']
       by_cases hr : 64 * (64 * ((a.toNat : Int) - 224) + b.toNat - 128) + c.toNat - 128 < 2048 ∨ (55296 ≤ 64 * (64 * ((a.toNat : Int) - 224) + b.toNat - 128) + c.toNat - 128 ∧ 64 * (64 * ((a.toNat : Int) - 224) + b.toNat - 128) + c.toNat - 128 ≤ 57343)
       · rw [zp hr, zn (by
           simp only [Utf8.valid, Bool.and_eq_true, Bool.or_eq_true, decide_eq_true_eq]; omega)]
         rfl
       · rw [zn hr, zp (by
           simp only [Utf8.valid, Bool.and_eq_true, Bool.or_eq_true, decide_eq_true_eq]; omega), zn (by simp)]
         congr 1
         omega
     · rw [zn (by simp only [Bool.and_eq_true, decide_eq_true_eq]; exact hb')]
       simp only [charM, zn c1, zn d2, zp d3, zn hb']
       rfl
 have e3 : (a.toNat / 16 == 14) = false := by simp [c3]
 have d3 : ¬ (224 ≤ a.toNat ∧ a.toNat < 240) := by omega
 simp only [e3, Bool.false_and, Bool.false_eq_true, if_false]
 by_cases c4 : a.toNat / 8 = 30
 · have e4 : (a.toNat / 8 == 30) = true := by simp [c4]
   simp only [e4, Bool.true_and]
   match t with
   | [] => simp [charM, c1, d2, d3]
   | [b] => simp [charM, c1, d2, d3]
   | [b, c] => simp [charM, c1, d2, d3]
   | b :: c :: d :: t =>
     have hb := b.toNat_lt
     have hc := c.toNat_lt
     have hd := d.toNat_lt
     simp only [List.getElem?_cons_zero, List.getElem?_cons_succ, Option.map_some, div64, Option.getD_some]
     by_cases hb' : (128 ≤ b.toNat ∧ b.toNat ≤ 191) ∧ (128 ≤ c.toNat ∧ c.toNat ≤ 191) ∧ (128 ≤ d.toNat ∧ d.toNat ≤ 191)
     · rw [zp (by simp only [Bool.and_eq_true, decide_eq_true_eq]; exact ⟨⟨hb'.1, hb'.2.1⟩, hb'.2.2⟩)]
       by_cases d4 : (240 ≤ a.toNat ∧ a.toNat < 245)
       · simp only [charM, zn c1, zn d2, zn d3, zp d4, zp hb']
         by_cases hr : 64 * (64 * (64 * ((a.toNat : Int) - 240) + b.toNat - 128) + c.toNat - 128) + d.toNat - 128 < 65536 ∨ 1114111 < 64 * (64 * (64 * ((a.toNat : Int) - 240) + b.toNat - 128) + c.toNat - 128) + d.toNat - 128
         · rw [zp hr, zn (by
             simp only [Utf8.valid, Bool.and_eq_true, Bool.or_eq_true, decide_eq_true_eq]; omega)]
           rfl
         · rw [zn hr, zp (by
             simp only [Utf8.valid, Bool.and_eq_true, Bool.or_eq_true, decide_eq_true_eq]; omega), zn (by simp)]
           congr 1
           omega
       · rw [zn (by
           simp only [Utf8.valid, Bool.and_eq_true, Bool.or_eq_true, decide_eq_true_eq]; omega)]
         simp only [charM, zn c1, zn d2, zn d3, zn d4]
         rfl
     · rw [zn (by simp only [Bool.and_eq_true, decide_eq_true_eq]; exact fun e => hb' ⟨e.1.1, e.1.2, e.2⟩)]
       by_cases d4 : (240 ≤ a.toNat ∧ a.toNat < 245)
       · simp only [charM, zn c1, zn d2, zn d3, zp d4, zn hb']
         rfl
       · simp only [charM, zn c1, zn d2, zn d3, zn d4]
         rfl
 · have e4 : (a.toNat / 8 == 30) = false := by simp [c4]
   have d4 : ¬ (240 ≤ a.toNat ∧ a.toNat < 245) := by omega
   simp [e4, charM, c1, d2, d3, d4]
theorem decode_N {s : List UInt8} {i : Nat} (hi : i < s.length) : Utf8.decode ⟨s.toArray⟩ i = decN (s.drop i) := by
 cases h : s.drop i with
 | nil => have := congrArg List.length h; simp at this; omega
 | cons a t => rw [decode_V h (by omega), decV_N]
noncomputable def ahead1 (s2 : List UInt8) : Option ((List UInt8 × Int × Unit) ⊕ ((List UInt8 × Unit) ⊕ Bool)) :=
 cond (decide ((s2.length : Int) > 8)) ((zao s2).bind fun r3 =>
 cond (decide ((IntKind.wrap .u64 ((BitVec.ofInt (IntKind.bits .u64) r3 &&& BitVec.ofInt (IntKind.bits .u64) 9259542123273814144).toNat)) = 0)) (
(subI s2 8 (s2.length : Int)).bind fun s4 =>
 cond (decide ((s4.length : Int) > 16)) ((zao s4).bind fun r5 =>
(subI s4 8 (s4.length : Int)).bind fun s6 =>
(zao s6).bind fun r7 =>
 cond (decide ((IntKind.wrap .u64 ((BitVec.ofInt (IntKind.bits .u64) (IntKind.wrap .u64 ((BitVec.ofInt (IntKind.bits .u64) r5 ||| BitVec.ofInt (IntKind.bits .u64) r7).toNat)) &&& BitVec.ofInt (IntKind.bits .u64) 9259542123273814144).toNat)) = 0)) (
(subI s4 16 (s4.length : Int)).bind fun s8 =>
 loopT (zaq_l9) (s8, ())) (
 some (.inr (.inl (s4, ()))))) (some (.inr (.inl (s4, ()))))) (
 some (.inr (.inl (s2, ()))))) (some (.inr (.inl (s2, ()))))
theorem ahead_b (s4 : List UInt8) : ∃ s', s'.length ≤ s4.length ∧ validM s4 = validM s' ∧
   (cond (decide ((s4.length : Int) > 16)) ((zao s4).bind fun r5 =>
(subI s4 8 (s4.length : Int)).bind fun s6 =>
(zao s6).bind fun r7 =>
 cond (decide ((IntKind.wrap .u64 ((BitVec.ofInt (IntKind.bits .u64) (IntKind.wrap .u64 ((BitVec.ofInt (IntKind.bits .u64) r5 ||| BitVec.ofInt (IntKind.bits .u64) r7).toNat)) &&& BitVec.ofInt (IntKind.bits .u64) 9259542123273814144).toNat)) = 0)) (
(subI s4 16 (s4.length : Int)).bind fun s8 =>
 loopT (zaq_l9) (s8, ())) (
 some (.inr (.inl (s4, ()))))) (some (.inr (.inl (s4, ())))) : Option ((List UInt8 × Int × Unit) ⊕ ((List UInt8 × Unit) ⊕ Bool))) = some (.inr (.inl (s', ()))) := by
 by_cases h : 16 < s4.length
 · obtain ⟨W1, a1, b1, c1⟩ := word_p (s := s4) (by omega)
   obtain ⟨W2, a2, b2, c2⟩ := word_p (s := s4.drop 8) (by simp; omega)
   rw [cond_dec, zp (by omega), b1, zb, sub_from (i := 8) 8 rfl (show 8 ≤ s4.length by omega), zb, b2, zb, cond_dec, or64 a1 a2, maskM_int, and64 (orlt a1 a2) maskM_lt]
   by_cases hz : (W1 ||| W2) &&& maskM = 0
   · rw [zp (by rw [hz]; rfl), sub_from (i := 16) 16 rfl (show 16 ≤ s4.length by omega), zb]
     obtain ⟨s', h1, h2, h3⟩ := loop9 (s4.drop 16).length (s4.drop 16) (Nat.le_refl _)
     obtain ⟨y1, y2⟩ := or_zero hz
     have t2 := take_more (c1 y1) (c2 y2)
     refine ⟨s', by simp only [List.length_drop] at h1; omega, (valid_ascii 16 s4 (by omega) t2).trans h2, h3⟩
   · rw [zn (fun e => hz (by exact_mod_cast e))]
     exact ⟨s4, Nat.le_refl _, rfl, rfl⟩
 · rw [cond_dec, zn (by omega)]
   exact ⟨s4, Nat.le_refl _, rfl, rfl⟩
theorem ahead_p (s2 : List UInt8) : ∃ s', s'.length ≤ s2.length ∧ validM s2 = validM s' ∧ ahead1 s2 = some (.inr (.inl (s', ()))) := by
 unfold ahead1
 by_cases h : 8 < s2.length
 · obtain ⟨W1, a1, b1, c1⟩ := word_p (s := s2) (by omega)
   rw [cond_dec, zp (by omega), b1, zb, cond_dec, maskM_int, and64 a1 maskM_lt]
   by_cases hz : W1 &&& maskM = 0
   · rw [zp (by rw [hz]; rfl), sub_from (i := 8) 8 rfl (show 8 ≤ s2.length by omega), zb]
     obtain ⟨s', h1, h2, h3⟩ := ahead_b (s2.drop 8)
     refine ⟨s', by simp only [List.length_drop] at h1; omega, (valid_ascii 8 s2 (by omega) (c1 hz)).trans h2, h3⟩
   · rw [zn (fun e => hz (by exact_mod_cast e))]
     exact ⟨s2, Nat.le_refl _, rfl, rfl⟩
 · rw [cond_dec, zn (by omega)]
   exact ⟨s2, Nat.le_refl _, rfl, rfl⟩
theorem turn1_form {a : UInt8} {t : List UInt8} (ha : a.toNat < 128) : ∃ F, zaq_l1 (a :: t, ()) = (ahead1 t).bind (joinS F) := by
 have hl : ((a :: t).length : Int) > 0 := by simp only [zl]; omega
 have hi0 : atI (a :: t) 0 = some a := by simp [atI]
 have h128 : (a.toNat : Int) < 128 := by omega
 have hs : subI (a :: t) 1 ((a :: t).length : Int) = some t := sub_from (i := 1) 1 rfl (by simp)
 refine ⟨?F, ?h⟩
 case h =>
   unfold zaq_l1
   rw [cond_dec, zp hl, hi0, zb, cond_dec, zp h128, hs, zb]
   exact rfl
theorem valid_t : ∀ (k : Nat) (s : List UInt8), s.length ≤ k → loopT zaq_l1 (s, ()) = some (validM s) := by
 intro k
 induction k with
 | zero =>
   intro s hk
   have : s = [] := List.eq_nil_of_length_eq_zero (by omega)
   subst this
   rw [valid_nil]
   refine loopT_inr ?_
   unfold zaq_l1
   rw [cond_dec, zn (by simp)]
 | succ k ih =>
   intro s hk
   cases s with
   | nil =>
     rw [valid_nil]
     refine loopT_inr ?_
     unfold zaq_l1
     rw [cond_dec, zn (by simp)]
   | cons a t =>
     simp only [zl] at hk
     by_cases ha : a.toNat < 128
     · obtain ⟨F, hF⟩ := turn1_form (t := t) ha
       obtain ⟨s', h1, h2, h3⟩ := ahead_p t
       rw [h3] at hF
       have hv : validM (a :: t) = validM t := by
         have := valid_ascii 1 (a :: t) (by simp) (by simp; exact ha)
         simpa using this
       rw [loopT_inl (b := (s', ())) hF, ih s' (by omega), hv, h2]
     · have h := turn1_hi (a := a) (t := t) (by omega)
       rw [valid_step (by simp)]
       by_cases h0 : (charM (a :: t)).2 = 0
       · rw [zp h0] at h ⊢
         exact loopT_inr h
       · rw [zn h0] at h ⊢
         rw [loopT_inl h]
         exact ih _ (by simp only [List.length_drop, zl]; omega)
theorem validString_t (s : List UInt8) : zaq s = some (validM s) := valid_t s.length s (Nat.le_refl _)
theorem count_loop {s : List UInt8} : ∀ (k i n : Nat) (l : List Int), s.length - i ≤ k → i ≤ s.length → n ≤ i → s.length < 4294967296 → runesM (s.drop i) = some l → loopT (zam_l2 s) ((n : Int), i, ()) = some (((n + l.length : Nat)) : Int) := by
 intro k
 induction k with
 | zero =>
   intro i n l hk hi hn hs hl
   rw [List.drop_eq_nil_of_le (by omega), runesM_nil] at hl
   cases hl
   refine loopT_inr ?_
   unfold zam_l2
   rw [cond_dec, zn (by simp only []; omega)]
   simp
 | succ k ih =>
   intro i n l hk hi hn hs hl
   by_cases hlt : i < s.length
   · have hne : s.drop i ≠ [] := fun e => by have := congrArg List.length e; simp at this; omega
     have hle := charM_le (s.drop i)
     simp only [List.length_drop] at hle
     by_cases h0 : (charM (s.drop i)).2 = 0
     · rw [runesM_none hne h0] at hl; cases hl
     · rw [runesM_step hne h0, List.drop_drop, Option.map_eq_some_iff] at hl
       obtain ⟨l', hl', rfl⟩ := hl
       rw [loopT_inl (b := (((n + 1 : Nat) : Int), i + (charM (s.drop i)).2, ()))]
       · rw [ih _ (n + 1) l' (by omega) (by omega) (by omega) hs hl']
         simp only [zl]; congr 2; omega
       · unfold zam_l2
         rw [cond_dec, zp (by simp only []; exact hlt), decode_N hlt]
         simp only [decN, zn h0]
         rw [wrap64 (by omega) (by omega)]; rfl
   · rw [List.drop_eq_nil_of_le (by omega), runesM_nil] at hl
     cases hl
     refine loopT_inr ?_
     unfold zam_l2
     rw [cond_dec, zn (by simp only []; omega)]
     simp
theorem count_t {s : List UInt8} {l : List Int} (hs : s.length < 4294967296) (hl : runesM s = some l) : zam s = some (l.length : Int) := by
 have := count_loop (s := s) s.length 0 0 l (by omega) (by omega) (by omega) hs (by simpa using hl)
 simpa [zam] using this
theorem runesFrom_t {s : List UInt8} : ∀ (k i : Nat) (l : List Int), s.length - i ≤ k → i ≤ s.length → runesM (s.drop i) = some l → runesFromT s k i = l := by
 intro k
 induction k with
 | zero =>
   intro i l hk hi hl
   rw [List.drop_eq_nil_of_le (by omega), runesM_nil] at hl
   cases hl; rfl
 | succ k ih =>
   intro i l hk hi hl
   by_cases hlt : i < s.length
   · have hne : s.drop i ≠ [] := fun e => by have := congrArg List.length e; simp at this; omega
     have hle := charM_le (s.drop i)
     have hin := charM_int (s.drop i)
     simp only [List.length_drop] at hle
     by_cases h0 : (charM (s.drop i)).2 = 0
     · rw [runesM_none hne h0] at hl; cases hl
     · rw [runesM_step hne h0, List.drop_drop, Option.map_eq_some_iff] at hl
       obtain ⟨l', hl', rfl⟩ := hl
       unfold runesFromT
       rw [zp hlt, decode_N hlt]
       simp only [decN, zn h0]
       rw [ih _ l' (by omega) (by omega) hl']
       congr 1; omega
   · rw [List.drop_eq_nil_of_le (by omega), runesM_nil] at hl
     cases hl
     unfold runesFromT
     rw [zn hlt]
theorem runesT_t {s : List UInt8} {l : List Int} (hl : runesM s = some l) : runesT s = l := runesFrom_t s.length 0 l (by omega) (by omega) (by simpa using hl)
def specW (c : Int) : Bool := decide (c = 42) || decide (c = 63) || decide (c = 92)
theorem special_t (c : Int) : zba c = some (specW c) := by
 unfold zba specW
 by_cases h1 : c = 42 <;> by_cases h2 : c = 63 <;> by_cases h3 : c = 92 <;> simp [h1, h2, h3]
def partsM : List Int → Option (List Int)
 | [] => some []
 | c :: t =>
   if c = 42 then (partsM t).map fun o => -2 :: o
   else if c = 63 then (partsM t).map fun o => -1 :: o
   else if c = 92 then (match t with
     | [] => none
     | d :: t' => if specW d then (partsM t').map fun o => d :: o else none)
   else (partsM t).map fun o => c :: o
def partOf (c : Int) : Int × Int × Unit := if c = -2 then (2, 0, ()) else if c = -1 then (1, 0, ()) else (0, c, ())
def pat (p : List UInt8) : Option (List Int) := (runesM p).bind fun l => if l.length > 64 then none else partsM l
theorem partsM_cons {c : Int} {t : List Int} : partsM (c :: t) = if c = 42 then (partsM t).map fun o => -2 :: o
   else if c = 63 then (partsM t).map fun o => -1 :: o
   else if c = 92 then (match t with
     | [] => none
     | d :: t' => if specW d then (partsM t').map fun o => d :: o else none)
   else (partsM t).map fun o => c :: o := by rw [partsM.eq_def]
theorem partsM_esc {d : Int} {t : List Int} : partsM (92 :: d :: t) = if specW d then (partsM t).map fun o => d :: o else none := by
 rw [partsM_cons, zn (by omega), zn (by omega), zp rfl]
theorem partsM_plain {c : Int} {t : List Int} (h : specW c = false) : partsM (c :: t) = (partsM t).map fun o => c :: o := by
 simp only [specW, Bool.or_eq_false_iff, decide_eq_false_iff_not] at h
 rw [partsM_cons, zn h.1.1, zn h.1.2, zn h.2]
theorem partsM_star {t : List Int} : partsM (42 :: t) = (partsM t).map fun o => -2 :: o := by rw [partsM_cons, zp rfl]
theorem partsM_any {t : List Int} : partsM (63 :: t) = (partsM t).map fun o => -1 :: o := by rw [partsM_cons, zn (by omega), zp rfl]
theorem spec_ge {c : Int} (h : specW c = true) : c = 42 ∨ c = 63 ∨ c = 92 := by
 simp only [specW, Bool.or_eq_true, decide_eq_true_eq] at h; omega
def partsE (esc : Bool) (l : List Int) : Option (List Int) := if esc then partsM (92 :: l) else partsM l
def partsR (out : List (Int × Int × Unit)) : Option (List Int) → List (Int × Int × Unit) × Bool × Unit
 | some o => (out ++ o.map partOf, true, ())
 | none => ([], false, ())
theorem partsR_map {out : List (Int × Int × Unit)} {c : Int} {x : Option (List Int)} : partsR out (x.map fun o => c :: o) = partsR (out ++ [partOf c]) x := by
 cases x <;> simp [partsR]
theorem parts_loop {s : List UInt8} (hs : s.length < 4294967296) : ∀ (k i : Nat) (esc : Bool) (out : List (Int × Int × Unit)) (l : List Int), s.length - i ≤ k → i ≤ s.length → out.length ≤ i → runesM (s.drop i) = some l →
   (loopT (zb8_l6 s) (esc, i, out, ())).bind (joinS fun v10 =>
     cond v10.1 (some ([], false, ())) (some (v10.2.1, true, ()))) = some (partsR out (partsE esc l)) := by
 intro k
 have fin : ∀ (i : Nat) (esc : Bool) (out : List (Int × Int × Unit)) (l : List Int), ¬ i < s.length → runesM (s.drop i) = some l → (loopT (zb8_l6 s) (esc, i, out, ())).bind (joinS fun v10 =>
     cond v10.1 (some ([], false, ())) (some (v10.2.1, true, ()))) = some (partsR out (partsE esc l)) := by
   intro i esc out l hi hl
   rw [List.drop_eq_nil_of_le (by omega), runesM_nil] at hl
   cases hl
   rw [loopT_inr (x := .inl (esc, out, ())) (by unfold zb8_l6; rw [cond_dec, zn hi])]
   cases esc <;> simp [partsE, partsM, partsR]
 induction k with
 | zero => intro i esc out l hk hi ho hl; exact fin i esc out l (by omega) hl
 | succ k ih =>
   intro i esc out l hk hi ho hl
   by_cases hlt : i < s.length
   · have hne : s.drop i ≠ [] := fun e => by have := congrArg List.length e; simp at this; omega
     have hle := charM_le (s.drop i)
     have hin := charM_int (s.drop i)
     simp only [List.length_drop] at hle
     by_cases h0 : (charM (s.drop i)).2 = 0
     · rw [runesM_none hne h0] at hl; cases hl
     · rw [runesM_step hne h0, List.drop_drop, Option.map_eq_some_iff] at hl
       obtain ⟨l', hl', rfl⟩ := hl
       have hd := decode_N hlt
       simp only [decN, zn h0] at hd
       have hc : (((charM (s.drop i)).1.toNat : Nat) : Int) = (charM (s.drop i)).1 := by omega
       generalize hcc : (charM (s.drop i)).1 = c at hl' hd hc hin ⊢
       generalize hnn : (charM (s.drop i)).2 = n at hl' hd hle h0 ⊢
       have hroom : roomT (out.length + 1) = some () := roomT_lt (by omega)
       have next : ∀ (e' : Bool) (out' : List (Int × Int × Unit)), out'.length ≤ out.length + 1 → zb8_l6 s (esc, i, out, ()) = some (.inl (e', i + n, out', ())) → (loopT (zb8_l6 s) (esc, i, out, ())).bind (joinS fun v10 =>
     cond v10.1 (some ([], false, ())) (some (v10.2.1, true, ()))) = some (partsR out' (partsE e' l')) := by
         intro e' out' ho' h
         rw [loopT_inl h]
         exact ih _ _ _ _ (by omega) (by omega) (by omega) hl'
       cases esc with
       | true =>
         by_cases hsp : specW c = true
         · rw [next false (out ++ [partOf c]) (by simp) ?_]
           · simp only [partsE, partsM_esc, hsp, if_true, partsR_map]; simp
           · unfold zb8_l6
             rw [cond_dec, zp hlt, hd]
             simp only [hc, special_t, zb, hsp, cond_true, joinS_inl, Bool.not_true, cond_false, zl, List.length_nil, hroom]
             have : partOf c = (0, c, ()) := by
               have := spec_ge hsp
               unfold partOf; rw [zn (by omega), zn (by omega)]
             rw [this]
         · have hsp' : specW c = false := by simpa using hsp
           rw [loopT_inr (x := .inr ([], false, ()))]
           · simp [partsE, partsM_esc, hsp', partsR]
           · unfold zb8_l6
             rw [cond_dec, zp hlt, hd]
             simp only [hc, special_t, zb, hsp', cond_true, joinS_inl, Bool.not_false]
       | false =>
         by_cases hsp : specW c = true
         · have hs3 := spec_ge hsp
           by_cases h92 : c = 92
           · rw [next true out (by omega) ?_]
             · simp only [partsE, h92]; simp
             · unfold zb8_l6
               rw [cond_dec, zp hlt, hd]
               simp only [hc, special_t, zb, hsp, cond_false, joinS_inl, Bool.not_true, cond_dec, zp h92]
           · by_cases h63 : c = 63
             · rw [next false (out ++ [partOf (-1)]) (by simp) ?_]
               · simp only [partsE, h63, partsM_any]; rw [zn (by simp), zn (by simp), partsR_map]
               · unfold zb8_l6
                 rw [cond_dec, zp hlt, hd]
                 simp only [hc, special_t, zb, hsp, cond_false, joinS_inl, Bool.not_true, cond_dec, zn h92, zp h63, zl, List.length_nil, hroom]
                 rfl
             · have h42 : c = 42 := by omega
               rw [next false (out ++ [partOf (-2)]) (by simp) ?_]
               · simp only [partsE, h42, partsM_star]; rw [zn (by simp), zn (by simp), partsR_map]
               · unfold zb8_l6
                 rw [cond_dec, zp hlt, hd]
                 simp only [hc, special_t, zb, hsp, cond_false, joinS_inl, Bool.not_true, cond_dec, zn h92, zn h63, zl, List.length_nil, hroom]
                 rfl
         · have hsp' : specW c = false := by simpa using hsp
           rw [next false (out ++ [partOf c]) (by simp) ?_]
           · simp only [partsE, partsM_plain hsp']; rw [zn (by simp), zn (by simp), partsR_map]
           · unfold zb8_l6
             rw [cond_dec, zp hlt, hd]
             simp only [hc, special_t, zb, hsp', cond_false, joinS_inl, Bool.not_false, cond_true, zl, List.length_nil, hroom]
             have : partOf c = (0, c, ()) := by
               unfold partOf; rw [zn (by omega), zn (by omega)]
             rw [this]
   · exact fin i esc out l hlt hl
theorem globParts_t {p : List UInt8} (hp : p.length < 4294967296) : zb8 p = some (partsR [] (pat p)) := by
 unfold zb8
 rw [validString_t, zb]
 unfold validM pat
 cases hl : runesM p with
 | none => simp [partsR]
 | some l =>
   simp only [Option.isSome_some, Bool.not_true, cond_false, zb, count_t hp hl, cond_dec]
   by_cases h : l.length > 64
   · rw [zp (by omega), zp h]; simp [partsR]
   · rw [zn (by omega), zn h]
     exact parts_loop hp p.length 0 false [] l (by omega) (by omega) (by simp) (by simpa using hl)
theorem refParts_loop {r : List Int × Bool × Unit} (hr : r.1.length < 4294967296) : ∀ (k i : Nat) (out : List Int), r.1.length - i ≤ k → i ≤ r.1.length → out.length ≤ i →
   loopT (zbm_l6 r) ((i : Int), out, ()) = some (match partsM (r.1.drop i) with | some o => (out ++ o, true, ()) | none => ([], false, ())) := by
 intro k
 have fin : ∀ (i : Nat) (out : List Int), ¬ i < r.1.length → loopT (zbm_l6 r) ((i : Int), out, ()) = some (match partsM (r.1.drop i) with | some o => (out ++ o, true, ()) | none => ([], false, ())) := by
   intro i out hi
   rw [List.drop_eq_nil_of_le (by omega), loopT_inr (x := (out, true, ())) (by unfold zbm_l6; rw [cond_dec, zn (by omega)])]
   simp [partsM]
 induction k using Nat.strongRecOn with
 | _ k ih =>
   intro i out hk hi ho
   by_cases hlt : i < r.1.length
   · obtain ⟨c, hc⟩ : ∃ c, r.1[i]? = some c := ⟨_, zg hlt⟩
     have hdr : r.1.drop i = c :: r.1.drop (i + 1) := by
       rw [List.drop_eq_getElem_cons hlt]; rw [zg hlt] at hc; cases hc; rfl
     have w1 : IntKind.wrap .i64 ((i : Int) + 1) = ((i + 1 : Nat) : Int) := by rw [wrap64 (by omega) (by omega)]; rfl
     have hroom : roomT (out.length + 1) = some () := roomT_lt (by omega)
     have next : ∀ (x : Int), zbm_l6 r ((i : Int), out, ()) = some (.inl (((i + 1 : Nat) : Int), out ++ [x], ())) →
         loopT (zbm_l6 r) ((i : Int), out, ()) = some (match (partsM (r.1.drop (i + 1))).map (fun o => x :: o) with | some o => (out ++ o, true, ()) | none => ([], false, ())) := by
       intro x h
       rw [loopT_inl h, ih (k - 1) (by omega) (i + 1) _ (by omega) (by omega) (by simp; omega)]
       cases partsM (r.1.drop (i + 1)) <;> simp
     rw [hdr]
     by_cases h42 : c = 42
     · rw [h42, partsM_star]
       refine next (-2) ?_
       unfold zbm_l6
       simp only [cond_dec, atI_nat, hc, zb, zp (show (i : Int) < (r.1.length : Int) by omega), zp h42, zl, List.length_nil, hroom, w1]
     by_cases h63 : c = 63
     · rw [h63, partsM_any]
       refine next (-1) ?_
       unfold zbm_l6
       simp only [cond_dec, atI_nat, hc, zb, zp (show (i : Int) < (r.1.length : Int) by omega), zn h42, zp h63, zl, List.length_nil, hroom, w1]
     by_cases h92 : c = 92
     · subst h92
       by_cases hl : i + 1 = r.1.length
       · rw [List.drop_eq_nil_of_le (by omega)]
         rw [loopT_inr (x := ([], false, ()))]
         · simp [partsM]
         · unfold zbm_l6
           simp only [cond_dec, atI_nat, hc, zb, zp (show (i : Int) < (r.1.length : Int) by omega), w1, zp (show ((i + 1 : Nat) : Int) = (r.1.length : Int) by omega), joinS_inr, zn h42, zn h63, if_true]
       · obtain ⟨d, hd⟩ : ∃ d, r.1[i + 1]? = some d := ⟨_, zg (by omega)⟩
         have hdr2 : r.1.drop (i + 1) = d :: r.1.drop (i + 2) := by
           rw [List.drop_eq_getElem_cons (by omega)]; rw [zg (by omega)] at hd; cases hd; rfl
         have w2 : IntKind.wrap .i64 (((i + 1 : Nat) : Int) + 1) = ((i + 2 : Nat) : Int) := by rw [wrap64 (by omega) (by omega)]; omega
         rw [hdr2, partsM_esc]
         by_cases hsp : specW d = true
         · rw [zp hsp, loopT_inl (b := (((i + 2 : Nat) : Int), out ++ [d], ()))]
           · rw [ih (k - 2) (by omega) (i + 2) _ (by omega) (by omega) (by simp; omega)]
             cases partsM (r.1.drop (i + 2)) <;> simp
           · have hs3 := spec_ge hsp
             unfold zbm_l6
             simp only [cond_dec, cond_ndec, atI_nat, hc, hd, zb, zp (show (i : Int) < (r.1.length : Int) by omega), w1, zn (show ¬ ((i + 1 : Nat) : Int) = (r.1.length : Int) by omega), zn h42, zn h63, if_true, zl, List.length_nil]
             rcases hs3 with h | h | h <;> subst h <;> simp only [if_true, joinS_inl, zb, hroom, w2, ite_self] <;> simp [hroom, w2]
         · have hsp' : specW d = false := by simpa using hsp
           rw [zn hsp, loopT_inr (x := ([], false, ()))]
           simp only [specW, Bool.or_eq_false_iff, decide_eq_false_iff_not] at hsp'
           unfold zbm_l6
           simp only [cond_dec, cond_ndec, atI_nat, hc, hd, zb, zp (show (i : Int) < (r.1.length : Int) by omega), w1, zn (show ¬ ((i + 1 : Nat) : Int) = (r.1.length : Int) by omega), zn h42, zn h63, if_true, zn hsp'.1.1, zn hsp'.1.2, zn hsp'.2, joinS_inr]
     · rw [partsM_plain (by simp [specW, h42, h63, h92])]
       refine next c ?_
       unfold zbm_l6
       simp only [cond_dec, atI_nat, hc, zb, zp (show (i : Int) < (r.1.length : Int) by omega), zn h42, zn h63, zn h92, joinS_inl, zl, List.length_nil, hroom, w1]
   · exact fin i out hlt
theorem refParts_t {p : List UInt8} (hp : p.length < 4294967296) : zbm p = some (match pat p with | some o => (o, true, ()) | none => ([], false, ())) := by
 unfold zbm
 rw [runes_t hp, zb]
 unfold runesR pat
 cases hl : runesM p with
 | none => simp
 | some l =>
   simp only [Bool.not_true, cond_false, zb, cond_dec, List.nil_append]
   by_cases h : l.length > 64
   · rw [zp (by omega), zp h]
   · rw [zn (by omega), zn h]
     have := refParts_loop (r := (l, true, ())) (by simp only []; omega) l.length 0 [] (by simp) (by simp) (by simp)
     simpa using this
theorem runesM_le : ∀ {s : List UInt8} {l : List Int}, runesM s = some l → l.length ≤ s.length := by
 intro s
 induction s using (measure List.length).wf.induction with
 | _ s ih =>
   intro l h
   by_cases hn : s = []
   · subst hn; rw [runesM_nil] at h; cases h; simp
   · by_cases h0 : (charM s).2 = 0
     · rw [runesM_none hn h0] at h; cases h
     · rw [runesM_step hn h0, Option.map_eq_some_iff] at h
       obtain ⟨l', hl', rfl⟩ := h
       have hp : s.length ≠ 0 := fun e => hn (List.eq_nil_of_length_eq_zero e)
       have := ih (s.drop (charM s).2) (by show (s.drop _).length < s.length; simp only [List.length_drop]; omega) hl'
       simp only [List.length_drop] at this
       simp only [zl]; omega
theorem partsM_len : ∀ (n : Nat) {l o : List Int}, l.length ≤ n → partsM l = some o → o.length ≤ l.length := by
 intro n
 induction n with
 | zero =>
   intro l o hn h
   have : l = [] := List.eq_nil_of_length_eq_zero (by omega)
   subst this
   simp [partsM] at h; subst h; simp
 | succ n ih =>
   intro l o hn h
   cases l with
   | nil => simp [partsM] at h; subst h; simp
   | cons c t =>
     simp only [zl] at hn
     have key : ∀ {x : Int} {t' : List Int}, t'.length ≤ t.length → ((partsM t').map fun o => x :: o) = some o → o.length ≤ (c :: t).length := by
       intro x t' ht' e
       rw [Option.map_eq_some_iff] at e
       obtain ⟨o', h1, rfl⟩ := e
       have := ih (by omega) h1
       simp only [zl]; omega
     rw [partsM_cons] at h
     split at h
     · exact key (Nat.le_refl _) h
     · split at h
       · exact key (Nat.le_refl _) h
       · split at h
         · cases t with
           | nil => cases h
           | cons d t' =>
             simp only [] at h
             split at h
             · exact key (by simp) h
             · cases h
         · exact key (Nat.le_refl _) h
theorem partsM_le {l o : List Int} (h : partsM l = some o) : o.length ≤ l.length := partsM_len l.length (Nat.le_refl _) h
theorem pat_le {p : List UInt8} {o : List Int} (h : pat p = some o) : o.length ≤ 64 := by
 unfold pat at h
 rw [Option.bind_eq_some_iff] at h
 obtain ⟨l, h1, h2⟩ := h
 split at h2
 · cases h2
 · have := partsM_le h2; omega
def one (c : Int) (a : List Int) : Prop := c = -2 ∨ ∃ x, a = [x] ∧ (c = -1 ∨ c = x)
def Mt : List Int → List Int → Prop
 | [], t => t = []
 | c :: o, t => ∃ a b, t = a ++ b ∧ one c a ∧ Mt o b
theorem Mt_app : ∀ {o o' t : List Int}, Mt (o ++ o') t ↔ ∃ a b, t = a ++ b ∧ Mt o a ∧ Mt o' b
 | [], o', t => by
   constructor
   · intro h; exact ⟨[], t, rfl, rfl, h⟩
   · rintro ⟨a, b, rfl, rfl, h⟩; exact h
 | c :: o, o', t => by
   constructor
   · rintro ⟨a, b, rfl, h1, h2⟩
     obtain ⟨a', b', rfl, h3, h4⟩ := Mt_app.1 h2
     exact ⟨a ++ a', b', by simp, ⟨a, a', rfl, h1, h3⟩, h4⟩
   · rintro ⟨a, b, rfl, ⟨a', b', rfl, h1, h2⟩, h3⟩
     exact ⟨a', b' ++ b, by simp, h1, Mt_app.2 ⟨b', b, rfl, h2, h3⟩⟩
theorem one_star {a : List Int} : one (-2) a := Or.inl rfl
theorem Mt_star {o t : List Int} : Mt (-2 :: o) t ↔ ∃ j, Mt o (t.drop j) := by
 constructor
 · rintro ⟨a, b, rfl, h1, h2⟩; exact ⟨a.length, by simpa using h2⟩
 · rintro ⟨j, h⟩; exact ⟨t.take j, t.drop j, by simp, one_star, h⟩
theorem Mt_one {c : Int} {o t : List Int} (hc : c ≠ -2) : Mt (c :: o) t ↔ ∃ x b, t = x :: b ∧ (c = -1 ∨ c = x) ∧ Mt o b := by
 constructor
 · rintro ⟨a, b, rfl, h1, h2⟩
   rcases h1 with h1 | ⟨x, rfl, h1⟩
   · exact absurd h1 hc
   · exact ⟨x, b, rfl, h1, h2⟩
 · rintro ⟨x, b, rfl, h1, h2⟩
   exact ⟨[x], b, rfl, Or.inr ⟨x, rfl, h1⟩, h2⟩
theorem Mt_nil {t : List Int} : Mt [] t ↔ t = [] := Iff.rfl
theorem drop_cons {A : Type} {l : List A} {i : Nat} (h : i < l.length) : l.drop i = l[i] :: l.drop (i + 1) := List.drop_eq_getElem_cons h
structure Inv (o t : List Int) (k : Nat) (star : Int) (mark i : Nat) : Prop where
 k_le : k ≤ o.length
 i_le : i ≤ t.length
 no : star < 0 → (Mt o t ↔ Mt (o.drop k) (t.drop i))
 is : ∀ st : Nat, star = (st : Int) → st < k ∧ mark ≤ i ∧ (Mt o t ↔ Mt (-2 :: o.drop (st + 1)) (t.drop mark)) ∧ (Mt (o.drop k) (t.drop i) → Mt (o.drop (st + 1)) (t.drop mark)) ∧ (∀ u, Mt (o.drop (st + 1)) u → Mt (o.drop k) (u.drop (i - mark)))
 le : -1 ≤ star
theorem inv_star {o t : List Int} {k mark i : Nat} {star : Int} (h : Inv o t k star mark i) (hk : k < o.length) (hs : o[k] = -2) : Inv o t (k + 1) k i i := by
 have hd : o.drop k = -2 :: o.drop (k + 1) := by rw [drop_cons hk, hs]
 refine ⟨hk, h.i_le, fun e => by omega, ?_, by omega⟩
 intro st hst
 have : st = k := by omega
 subst this
 refine ⟨by omega, by omega, ?_, fun x => x, fun u hu => by simpa using hu⟩
 by_cases hneg : star < 0
 · rw [h.no hneg, hd]
 · obtain ⟨st, hst⟩ : ∃ st : Nat, star = (st : Int) := ⟨star.toNat, by omega⟩
   obtain ⟨h0, h1, h2, h3, h4⟩ := h.is st hst
   rw [h2, ← hd]
   constructor
   · intro hm
     obtain ⟨j, hj⟩ := Mt_star.1 hm
     have := h4 _ hj
     rw [hd] at this ⊢
     obtain ⟨j', hj'⟩ := Mt_star.1 this
     refine Mt_star.2 ⟨j + j', ?_⟩
     rw [List.drop_drop, List.drop_drop] at hj'
     rw [List.drop_drop]
     have e : i + (j + j') = mark + j + (i - mark) + j' := by omega
     rw [e]
     simpa [Nat.add_assoc, Nat.add_comm, Nat.add_left_comm] using hj'
   · intro hm
     exact Mt_star.2 ⟨0, by simpa using h3 hm⟩
theorem inv_one {o t : List Int} {k mark i : Nat} {star : Int} (h : Inv o t k star mark i) (hk : k < o.length) (hi : i < t.length) (hs : o[k] ≠ -2) (ho : o[k] = -1 ∨ o[k] = t[i]) : Inv o t (k + 1) star mark (i + 1) := by
 have hd : o.drop k = o[k] :: o.drop (k + 1) := drop_cons hk
 have ht : t.drop i = t[i] :: t.drop (i + 1) := drop_cons hi
 have hstep : Mt (o.drop k) (t.drop i) ↔ Mt (o.drop (k + 1)) (t.drop (i + 1)) := by
   rw [hd, ht, Mt_one hs]
   constructor
   · rintro ⟨x, b, h1, h2, h3⟩; cases h1; exact h3
   · intro h1; exact ⟨_, _, rfl, ho, h1⟩
 refine ⟨hk, hi, fun e => (h.no e).trans hstep, ?_, h.le⟩
 intro st hst
 obtain ⟨h0, h1, h2, h3, h4⟩ := h.is st hst
 refine ⟨by omega, by omega, h2, fun x => h3 (hstep.2 x), ?_⟩
 intro u hu
 have := h4 u hu
 rw [hd, Mt_one hs] at this
 obtain ⟨x, b, h5, h6, h7⟩ := this
 have : u.drop (i + 1 - mark) = b := by
   have e : i + 1 - mark = (i - mark) + 1 := by omega
   rw [e, ← List.drop_drop, h5]; rfl
 rw [this]; exact h7
theorem mis {o t : List Int} {k i : Nat} (hi : i < t.length) (hm : ∀ hk : k < o.length, o[k] ≠ -2 ∧ ¬ (o[k] = -1 ∨ o[k] = t[i])) : ¬ Mt (o.drop k) (t.drop i) := by
 rw [drop_cons hi]
 by_cases hk : k < o.length
 · rw [drop_cons hk, Mt_one (hm hk).1]
   rintro ⟨x, b, h1, h2, h3⟩
   cases h1
   exact (hm hk).2 h2
 · rw [List.drop_eq_nil_of_le (by omega), Mt_nil]
   intro e; cases e
theorem inv_mis {o t : List Int} {k mark i st : Nat} (h : Inv o t k st mark i) (hi : i < t.length) (hm : ¬ Mt (o.drop k) (t.drop i)) : Inv o t (st + 1) st (mark + 1) (mark + 1) := by
 obtain ⟨h0, h1, h2, h3, h4⟩ := h.is st rfl
 have hk := h.k_le
 refine ⟨by omega, by omega, fun e => by omega, ?_, by omega⟩
 intro st' hst
 have : st' = st := by omega
 subst this
 refine ⟨by omega, by omega, ?_, fun x => x, fun u hu => by simpa using hu⟩
 rw [h2]
 constructor
 · intro hx
   obtain ⟨j, hj⟩ := Mt_star.1 hx
   cases j with
   | zero =>
     have := h4 _ hj
     rw [List.drop_zero, List.drop_drop] at this
     exact absurd (by have e : mark + (i - mark) = i := by omega
                      rw [e] at this; exact this) hm
   | succ j =>
     refine Mt_star.2 ⟨j, ?_⟩
     rw [List.drop_drop] at hj ⊢
     have e : mark + 1 + j = mark + (j + 1) := by omega
     rw [e]; exact hj
 · intro hx
   obtain ⟨j, hj⟩ := Mt_star.1 hx
   refine Mt_star.2 ⟨j + 1, ?_⟩
   rw [List.drop_drop] at hj ⊢
   have e : mark + (j + 1) = mark + 1 + j := by omega
   rw [e]; exact hj
theorem inv_end {o t : List Int} {k mark i : Nat} {star : Int} (h : Inv o t k star mark i) (hi : i = t.length) : Mt o t ↔ Mt (o.drop k) [] := by
 have hn : t.drop i = [] := List.drop_eq_nil_of_le (by omega)
 by_cases hneg : star < 0
 · rw [h.no hneg, hn]
 · obtain ⟨st, hst⟩ : ∃ st : Nat, star = (st : Int) := ⟨star.toNat, by have := h.le; omega⟩
   obtain ⟨h0, h1, h2, h3, h4⟩ := h.is st hst
   rw [h2, ← hn]
   constructor
   · intro hm
     obtain ⟨j, hj⟩ := Mt_star.1 hm
     have := h4 _ hj
     have e : (((t.drop mark).drop j).drop (i - mark)) = [] := by
       rw [List.drop_drop, List.drop_drop]; exact List.drop_eq_nil_of_le (by omega)
     rw [e] at this
     rw [hn]; exact this
   · intro hm; exact Mt_star.2 ⟨0, by simpa using h3 hm⟩
theorem part_two {c : Int} : (partOf c).1 = 2 ↔ c = -2 := by
 unfold partOf; split
 · simp [*]
 · split <;> simp [*]
theorem part_one {c : Int} : (partOf c).1 = 1 ↔ c = -1 := by
 unfold partOf; split
 · subst_vars; simp
 · split <;> simp [*]
theorem part_c {c : Int} (h : c ≠ -2) (h1 : c ≠ -1) : (partOf c).2.1 = c := by
 unfold partOf; rw [zn h, zn h1]
theorem at_part {o : List Int} {k : Nat} (hk : k < o.length) : atI (o.map partOf) (k : Int) = some (partOf o[k]) := by
 rw [atI_nat, List.getElem?_map, zg hk]; rfl
theorem tail_loop {o : List Int} (ho : o.length < 4294967296) : ∀ (n k : Nat), o.length - k ≤ n → k ≤ o.length →
   ∃ k' : Nat, loopT (zcv_l14 (o.map partOf)) ((k : Int), ()) = some (.inl ((k' : Int), ())) ∧ k' ≤ o.length ∧ (Mt (o.drop k) [] ↔ k' = o.length) := by
 intro n
 induction n with
 | zero =>
   intro k hn hk
   refine ⟨k, loopT_inr ?_, hk, ?_⟩
   · unfold zcv_l14
     rw [cond_dec, zn (by simp only [List.length_map]; omega)]
   · rw [List.drop_eq_nil_of_le (by omega), Mt_nil]; simp; omega
 | succ n ih =>
   intro k hn hk
   by_cases hlt : k < o.length
   · have hd : o.drop k = o[k] :: o.drop (k + 1) := drop_cons hlt
     by_cases h2 : o[k] = -2
     · obtain ⟨k', h3, h4, h5⟩ := ih (k + 1) (by omega) (by omega)
       refine ⟨k', ?_, h4, ?_⟩
       · rw [loopT_inl (b := (((k + 1 : Nat) : Int), ())), h3]
         unfold zcv_l14
         rw [cond_dec, zp (by simp only [List.length_map]; omega), at_part hlt, zb, cond_dec, zp (part_two.2 h2)]
         simp only []
         rw [wrap64 (by omega) (by omega)]; rfl
       · rw [← h5, hd, h2, Mt_star]; simp
     · refine ⟨k, loopT_inr ?_, hk, ?_⟩
       · unfold zcv_l14
         rw [cond_dec, zp (by simp only [List.length_map]; omega), at_part hlt, zb, cond_dec, zn (fun e => h2 (part_two.1 e))]
       · rw [hd, Mt_one h2]
         constructor
         · rintro ⟨x, b, h, _⟩; cases h
         · intro e; omega
   · refine ⟨k, loopT_inr ?_, hk, ?_⟩
     · unfold zcv_l14
       rw [cond_dec, zn (by simp only [List.length_map]; omega)]
     · rw [List.drop_eq_nil_of_le (by omega), Mt_nil]; simp; omega
open Classical in
theorem fits_loop {o t : List Int} (ho : o.length < 4294967296) (ht : t.length < 4294967296) : ∀ (n m k mark i : Nat) (star : Int), t.length - mark ≤ n → o.length - k ≤ m → mark ≤ i → (star < 0 → t.length - i + (o.length - k) ≤ m) → Inv o t k star mark i →
   ((∃ k' : Nat, k' ≤ o.length ∧ loopT (zcv_l3 (o.map partOf) t) ((k : Int), star, (mark : Int), (i : Int), ()) = some (.inl ((k' : Int), ())) ∧ (Mt o t ↔ Mt (o.drop k') [])) ∨
   (¬ Mt o t ∧ loopT (zcv_l3 (o.map partOf) t) ((k : Int), star, (mark : Int), (i : Int), ()) = some (.inr false))) := by
 intro n
 induction n using Nat.strongRecOn with
 | _ n ihn =>
 intro m
 induction m using Nat.strongRecOn with
 | _ m ihm =>
 intro k mark i star hn hm hmi hsm hI
 by_cases hi : i < t.length
 · have hti : t[i]? = some t[i] := zg hi
   -- what is left when nothing goes on
   have miss : ∀ F : (Int × Int × Unit) → Option ((Int × Int × Int × Int × Unit) ⊕ ((Int × Unit) ⊕ Bool)), ¬ Mt (o.drop k) (t.drop i) →
       (star < 0 → zcv_l3 (o.map partOf) t ((k : Int), star, (mark : Int), (i : Int), ()) = some (.inr (.inr false))) →
       (¬ star < 0 → zcv_l3 (o.map partOf) t ((k : Int), star, (mark : Int), (i : Int), ()) = some (.inl (IntKind.wrap .i64 (star + 1), star, IntKind.wrap .i64 ((mark : Int) + 1), IntKind.wrap .i64 ((mark : Int) + 1), ()))) →
       ((∃ k' : Nat, k' ≤ o.length ∧ loopT (zcv_l3 (o.map partOf) t) ((k : Int), star, (mark : Int), (i : Int), ()) = some (.inl ((k' : Int), ())) ∧ (Mt o t ↔ Mt (o.drop k') [])) ∨
   (¬ Mt o t ∧ loopT (zcv_l3 (o.map partOf) t) ((k : Int), star, (mark : Int), (i : Int), ()) = some (.inr false))) := by
     intro F hmm h1 h2
     by_cases hs : star < 0
     · exact Or.inr ⟨fun e => hmm ((hI.no hs).1 e), loopT_inr (h1 hs)⟩
     · have hs' := h2 hs
       obtain ⟨st, hst⟩ : ∃ st : Nat, star = (st : Int) := ⟨star.toNat, by omega⟩
       subst hst
       have hk := hI.k_le
       have hst := (hI.is st rfl).1
       rw [wrap64 (by omega) (by omega), wrap64 (by omega) (by omega)] at hs'
       rw [loopT_inl (b := (((st + 1 : Nat) : Int), (st : Int), ((mark + 1 : Nat) : Int), ((mark + 1 : Nat) : Int), ())) hs']
       exact ihn (n - 1) (by omega) _ (st + 1) (mark + 1) (mark + 1) st (by omega) (Nat.le_refl _) (Nat.le_refl _) (fun e => by omega) (inv_mis hI hi hmm)
   by_cases hk : k < o.length
   · by_cases h2 : o[k] = -2
     · rw [loopT_inl (b := (((k + 1 : Nat) : Int), (k : Int), (i : Int), (i : Int), ()))]
       · by_cases hmk : m = 0
         · omega
         · exact ihm (m - 1) (by omega) (k + 1) i i k (by omega) (by omega) (Nat.le_refl _) (fun e => by omega) (inv_star hI hk h2)
       · unfold zcv_l3
         simp only [cond_dec, zp (show (i : Int) < (t.length : Int) by omega), List.length_map, zp (show (k : Int) < (o.length : Int) by omega), at_part hk, zb, joinS_inl, joinS_inr, part_two, h2, decide_true, cond_true]
         rw [wrap64 (by omega) (by omega)]; rfl
     · have h3 : ¬ (partOf o[k]).1 = 2 := fun e => h2 (part_two.1 e)
       by_cases h1 : o[k] = -1 ∨ o[k] = t[i]
       · rw [loopT_inl (b := (((k + 1 : Nat) : Int), star, (mark : Int), ((i + 1 : Nat) : Int), ()))]
         · exact ihm (m - 1) (by omega) (k + 1) mark (i + 1) star (by omega) (by omega) (by omega) (fun e => by have := hsm e; omega) (inv_one hI hk hi h2 h1)
         · unfold zcv_l3
           simp only [cond_dec, zp (show (i : Int) < (t.length : Int) by omega), List.length_map, zp (show (k : Int) < (o.length : Int) by omega), at_part hk, zb, joinS_inl, joinS_inr, h3, decide_false, cond_false, part_one, atI_nat, hti]
           rw [wrap64 (n := (k : Int) + 1) (by omega) (by omega), wrap64 (n := (i : Int) + 1) (by omega) (by omega)]
           by_cases h4 : o[k] = -1
           · rw [zp h4]; rfl
           · rw [zn h4, part_c h2 h4, zp (by rcases h1 with h | h; exact absurd h h4; exact h)]; rfl
       · have h4 : ¬ o[k] = -1 := fun e => h1 (Or.inl e)
         have h5 : ¬ o[k] = t[i] := fun e => h1 (Or.inr e)
         refine miss (fun _ => none) (mis hi (fun hk' => ⟨h2, h1⟩)) ?_ ?_
         · intro hs
           unfold zcv_l3
           simp only [cond_dec, zp (show (i : Int) < (t.length : Int) by omega), List.length_map, zp (show (k : Int) < (o.length : Int) by omega), at_part hk, zb, joinS_inl, joinS_inr, h3, decide_false, cond_false, part_one, atI_nat, hti, zn h4, part_c h2 h4, zn h5, zp hs]
         · intro hs
           unfold zcv_l3
           simp only [cond_dec, zp (show (i : Int) < (t.length : Int) by omega), List.length_map, zp (show (k : Int) < (o.length : Int) by omega), at_part hk, zb, joinS_inl, joinS_inr, h3, decide_false, cond_false, part_one, atI_nat, hti, zn h4, part_c h2 h4, zn h5, zn hs]
   · refine miss (fun _ => none) (mis hi (fun hk' => absurd hk' hk)) ?_ ?_
     · intro hs
       unfold zcv_l3
       simp only [cond_dec, zp (show (i : Int) < (t.length : Int) by omega), List.length_map, zn (show ¬ (k : Int) < (o.length : Int) by omega), zb, joinS_inl, joinS_inr, cond_false, zp hs]
     · intro hs
       unfold zcv_l3
       simp only [cond_dec, zp (show (i : Int) < (t.length : Int) by omega), List.length_map, zn (show ¬ (k : Int) < (o.length : Int) by omega), zb, joinS_inl, joinS_inr, cond_false, zn hs]
 · refine Or.inl ⟨k, hI.k_le, loopT_inr ?_, inv_end hI (by have := hI.i_le; omega)⟩
   unfold zcv_l3
   rw [cond_dec, zn (by simp only []; omega)]
open Classical in
theorem fits_t {o t : List Int} (ho : o.length < 4294967296) (ht : t.length < 4294967296) : zcv (o.map partOf) t = some (decide (Mt o t)) := by
 have hI : Inv o t 0 (-1) 0 0 := ⟨by omega, by omega, fun _ => by simp, fun st h => by omega, by omega⟩
 unfold zcv
 rcases fits_loop ho ht t.length (t.length + o.length) 0 0 0 (-1) (by omega) (by omega) (by omega) (fun _ => by omega) hI with ⟨k', h1, h2, h3⟩ | ⟨h1, h2⟩
 · obtain ⟨k'', h4, h5, h6⟩ := tail_loop ho (o.length - k') k' (Nat.le_refl _) h1
   have h2' : loopT (zcv_l3 (o.map partOf) t) (0, -1, 0, 0, ()) = some (.inl ((k' : Int), ())) := h2
   rw [h2', zb, joinS_inl, h4, zb, joinS_inl]
   simp only [List.length_map]
   congr 1
   rw [decide_eq_decide, h3, h6]
   omega
 · have h2' : loopT (zcv_l3 (o.map partOf) t) (0, -1, 0, 0, ()) = some (.inr false) := h2
   rw [h2', zb, joinS_inr]
   simp [h1]
theorem Mt_last_star {P t : List Int} {i : Nat} : Mt (P ++ [-2]) (t.take (i + 1)) ↔ Mt P (t.take (i + 1)) ∨ Mt (P ++ [-2]) (t.take i) := by
 have key : ∀ i : Nat, Mt (P ++ [-2]) (t.take i) ↔ ∃ j, j ≤ i ∧ Mt P (t.take j) := by
   intro i
   rw [Mt_app]
   constructor
   · rintro ⟨a, b, h1, h2, h3⟩
     by_cases hl : a.length ≤ i
     · refine ⟨a.length, hl, ?_⟩
       have : t.take a.length = a := by
         have := congrArg (List.take a.length) h1
         rw [List.take_take, Nat.min_eq_left hl, List.take_left] at this
         exact this
       rw [this]; exact h2
     · exfalso
       have := congrArg List.length h1
       simp only [List.length_append, List.length_take] at this
       omega
   · rintro ⟨j, hj, h⟩
     refine ⟨t.take j, (t.take i).drop j, ?_, h, ⟨(t.take i).drop j, [], by simp, one_star, rfl⟩⟩
     have := List.take_append_drop j (t.take i)
     rw [List.take_take, Nat.min_eq_left hj] at this
     exact this.symm
 rw [key, key]
 constructor
 · rintro ⟨j, hj, h⟩
   by_cases e : j = i + 1
   · subst e; exact Or.inl h
   · exact Or.inr ⟨j, by omega, h⟩
 · rintro (h | ⟨j, hj, h⟩)
   · exact ⟨i + 1, Nat.le_refl _, h⟩
   · exact ⟨j, by omega, h⟩
theorem Mt_last_star0 {P : List Int} : Mt (P ++ [-2]) [] ↔ Mt P [] := by
 rw [Mt_app]
 constructor
 · rintro ⟨a, b, h1, h2, h3⟩
   have := List.append_eq_nil_iff.1 h1.symm
   rw [this.1] at h2; exact h2
 · intro h; exact ⟨[], [], rfl, h, [], [], rfl, one_star, rfl⟩
theorem Mt_last_one {P t : List Int} {i : Nat} {c : Int} (hc : c ≠ -2) (hi : i < t.length) : Mt (P ++ [c]) (t.take (i + 1)) ↔ Mt P (t.take i) ∧ (c = -1 ∨ c = t[i]) := by
 have e : t.take (i + 1) = t.take i ++ [t[i]] := by rw [List.take_add_one, zg hi]; rfl
 rw [Mt_app, e]
 constructor
 · rintro ⟨a, b, h1, h2, h3⟩
   rw [Mt_one hc] at h3
   obtain ⟨x, b', rfl, h4, h5⟩ := h3
   cases (Mt_nil.1 h5)
   obtain ⟨h6, h7⟩ := List.append_inj' h1 rfl
   cases h7
   rw [h6]; exact ⟨h2, h4⟩
 · rintro ⟨h1, h2⟩
   exact ⟨_, _, rfl, h1, (Mt_one hc).2 ⟨_, [], rfl, h2, rfl⟩⟩
theorem Mt_last_one0 {P : List Int} {c : Int} (hc : c ≠ -2) : ¬ Mt (P ++ [c]) [] := by
 rw [Mt_app]
 rintro ⟨a, b, h1, h2, h3⟩
 rw [Mt_one hc] at h3
 obtain ⟨x, b', rfl, h4, h5⟩ := h3
 have := List.append_eq_nil_iff.1 h1.symm
 cases this.2
open Classical in
noncomputable def gM (P t : List Int) (i : Nat) : Bool := decide (Mt P (t.take i))
open Classical in
theorem gM_star {P t : List Int} {i : Nat} : gM (P ++ [-2]) t (i + 1) = (gM P t (i + 1) || gM (P ++ [-2]) t i) := by
 unfold gM
 rw [← Bool.decide_or, decide_eq_decide]; exact Mt_last_star
theorem gM_star0 {P t : List Int} : gM (P ++ [-2]) t 0 = gM P t 0 := by
 unfold gM
 rw [decide_eq_decide, List.take_zero]; exact Mt_last_star0
open Classical in
theorem gM_one {P t : List Int} {i : Nat} {c : Int} (hc : c ≠ -2) (hi : i < t.length) : gM (P ++ [c]) t (i + 1) = (gM P t i && (decide (c = -1) || decide (c = t[i]))) := by
 unfold gM
 rw [← Bool.decide_or, ← Bool.decide_and, decide_eq_decide]; exact Mt_last_one hc hi
theorem gM_one0 {P t : List Int} {c : Int} (hc : c ≠ -2) : gM (P ++ [c]) t 0 = false := by
 unfold gM
 rw [decide_eq_false_iff_not, List.take_zero]; exact Mt_last_one0 hc
def RowM (n : Nat) (f : Nat → Bool) (row : List Bool) : Prop := row.length = n + 1 ∧ ∀ j, j ≤ n → row[j]? = some (f j)
theorem set_row {n i : Nat} {f : Nat → Bool} {nx : List Bool} (h1 : nx.length = n + 1) (h2 : ∀ j, j < i → nx[j]? = some (f j)) (hi : i ≤ n) : (nx.set i (f i)).length = n + 1 ∧ ∀ j, j < i + 1 → (nx.set i (f i))[j]? = some (f j) := by
 refine ⟨by simpa using h1, ?_⟩
 intro j hj
 by_cases e : i = j
 · subst e; rw [List.getElem?_set_self (by omega)]
 · rw [List.getElem?_set_ne e]; exact h2 j (by omega)
theorem inner {o t : List Int} {r1 r2 : List Int × Bool × Unit} (h1 : r1.1 = o) (h2 : r2.1 = t) (ho : o.length < 4294967296) (ht : t.length < 4294967295) {k : Nat} (hk : k < o.length) {y8 : Int × List Bool × Unit} (hy : y8.1 = k) {row : List Bool} (hr : RowM t.length (gM (o.take k) t) row) :
   ∀ (m i : Nat) (nx : List Bool), t.length + 1 - i ≤ m → i ≤ t.length + 1 → nx.length = t.length + 1 → (∀ j, j < i → nx[j]? = some (gM (o.take (k + 1)) t j)) →
     ∃ nx', RowM t.length (gM (o.take (k + 1)) t) nx' ∧ loopT (zbq_l12 y8 r1 r2) ((i : Int), row, nx, ()) = some (.inl (((k + 1 : Nat) : Int), nx', ())) := by
 have hok : o[k]? = some o[k] := zg hk
 have htk : o.take (k + 1) = o.take k ++ [o[k]] := by rw [List.take_add_one, hok]; rfl
 have fin : ∀ (i : Nat) (nx : List Bool), ¬ i ≤ t.length → nx.length = t.length + 1 → (∀ j, j < i → nx[j]? = some (gM (o.take (k + 1)) t j)) →
     ∃ nx', RowM t.length (gM (o.take (k + 1)) t) nx' ∧ loopT (zbq_l12 y8 r1 r2) ((i : Int), row, nx, ()) = some (.inl (((k + 1 : Nat) : Int), nx', ())) := by
   intro i nx hi hl hn
   refine ⟨nx, ⟨hl, fun j hj => hn j (by omega)⟩, loopT_inr ?_⟩
   unfold zbq_l12
   rw [cond_dec, zn (by rw [h2]; simp only []; omega), hy, wrap64 (by omega) (by omega)]; rfl
 intro m
 induction m with
 | zero => intro i nx hm hi hl hn; exact fin i nx (by omega) hl hn
 | succ m ih =>
   intro i nx hm hi hl hn
   by_cases hlt : i ≤ t.length
   · have go : zbq_l12 y8 r1 r2 ((i : Int), row, nx, ()) = some (.inl (((i + 1 : Nat) : Int), row, nx.set i (gM (o.take (k + 1)) t i), ())) := by
       have w1 : IntKind.wrap .i64 ((i : Int) + 1) = ((i + 1 : Nat) : Int) := by rw [wrap64 (by omega) (by omega)]; rfl
       have hri := hr.2 i hlt
       obtain ⟨b0, hb0⟩ : ∃ b0, nx[i]? = some b0 := ⟨_, zg (by omega)⟩
       have hin : inI nx.length (i : Int) = some i := inI_nat (by omega)
       have hir : inI row.length (i : Int) = some i := inI_nat (by have := hr.1; omega)
       unfold zbq_l12
       rw [cond_dec, zp (by rw [h2]; simp only []; omega)]
       simp only [hy, h1, h2, atI_nat, hok, zb, cond_dec, w1, hri, hin, hir, hb0]
       cases i with
       | zero =>
         simp only [Int.natCast_zero, gt_iff_lt, Int.lt_irrefl, if_false, zb, cond_false, htk]
         by_cases hc : o[k] = -2
         · rw [zp hc, hc, gM_star0]
           cases gM (o.take k) t 0 <;> rfl
         · rw [zn hc, gM_one0 hc]
           have hin0 : inI nx.length 0 = some 0 := hin
           rw [hin0, zb, hb0, zb]
       | succ i =>
         have hg : ((i + 1 : Nat) : Int) > 0 := by omega
         have w2 : IntKind.wrap .i64 (((i + 1 : Nat) : Int) - 1) = (i : Int) := by rw [wrap64 (by omega) (by omega)]; omega
         have hri' := hr.2 i (by omega)
         have hni := hn i (by omega)
         have hin' : inI nx.length (i : Int) = some i := inI_nat (by omega)
         have hir' : inI row.length (i : Int) = some i := inI_nat (by have := hr.1; omega)
         have hti : t[i]? = some t[i] := zg (by omega)
         simp only [zp hg, w2, hin', hir', zb, hni, hri', atI_nat, hti, hin, hb0]
         by_cases hc : o[k] = -2
         · have hgs : gM (o.take (k + 1)) t (i + 1) = (gM (o.take k) t (i + 1) || gM (o.take (k + 1)) t i) := by rw [htk, hc]; exact gM_star
           rw [zp hc, hgs]
           cases gM (o.take k) t (i + 1) <;> rfl
         · have hgs : gM (o.take (k + 1)) t (i + 1) = (gM (o.take k) t i && (decide (o[k] = -1) || decide (o[k] = t[i]))) := by rw [htk]; exact gM_one hc (by omega)
           rw [zn hc, hgs]
           cases gM (o.take k) t i
           · rfl
           · by_cases h5 : o[k] = -1
             · simp [h5]
             · simp [h5]
     obtain ⟨a1, a2⟩ := set_row hl hn hlt
     rw [loopT_inl go]
     exact ih (i + 1) _ (by omega) (by omega) a1 a2
   · exact fin i nx hlt hl hn
theorem outer {o t : List Int} {r1 r2 : List Int × Bool × Unit} (h1 : r1.1 = o) (h2 : r2.1 = t) (ho : o.length < 4294967296) (ht : t.length < 4294967295) :
   ∀ (m k : Nat) (row : List Bool), o.length - k ≤ m → k ≤ o.length → RowM t.length (gM (o.take k) t) row →
     ∃ row', RowM t.length (gM o t) row' ∧ loopT (zbq_l8 r1 r2) ((k : Int), row, ()) = some (.inl (row', ())) := by
 have fin : ∀ (k : Nat) (row : List Bool), ¬ k < o.length → RowM t.length (gM (o.take k) t) row →
     ∃ row', RowM t.length (gM o t) row' ∧ loopT (zbq_l8 r1 r2) ((k : Int), row, ()) = some (.inl (row', ())) := by
   intro k row hk hr
   refine ⟨row, by rw [List.take_of_length_le (by omega)] at hr; exact hr, loopT_inr ?_⟩
   unfold zbq_l8
   rw [cond_dec, zn (by rw [h1]; simp only []; omega)]
 intro m
 induction m with
 | zero => intro k row hm hk hr; exact fin k row (by omega) hr
 | succ m ih =>
   intro k row hm hk hr
   by_cases hlt : k < o.length
   · have w : IntKind.wrap .i64 ((t.length : Int) + 1) = ((t.length + 1 : Nat) : Int) := by rw [wrap64 (by omega) (by omega)]; rfl
     obtain ⟨nx', a1, a2⟩ := inner h1 h2 ho ht hlt (y8 := ((k : Int), row, ())) rfl hr (t.length + 1) 0 (List.replicate (t.length + 1) false) (by omega) (by omega) (by simp) (by intro j hj; omega)
     obtain ⟨row', b1, b2⟩ := ih (k + 1) nx' (by omega) (by omega) a1
     refine ⟨row', b1, ?_⟩
     rw [loopT_inl (b := (((k + 1 : Nat) : Int), nx', ())), b2]
     unfold zbq_l8
     rw [cond_dec, zp (by rw [h1]; simp only []; omega), h2, w, mkT_nat (by omega), zb, Int.toNat_natCast]
     exact a2
   · exact fin k row hlt hr
open Classical in
theorem refMatch_t {p s : List UInt8} (hp : p.length < 4294967295) (hs : s.length < 4294967295) : zbq p s = some (match pat p, runesM s with | some o, some t => decide (Mt o t) | _, _ => false) := by
 unfold zbq
 rw [refParts_t (by omega), zb, runes_t (by omega), zb]
 unfold runesR
 cases hpa : pat p with
 | none => simp
 | some o =>
   cases hra : runesM s with
   | none => simp
   | some t =>
     have ho : o.length < 4294967296 := by
       have := pat_le hpa; omega
     have ht : t.length < 4294967295 := by have := runesM_le hra; omega
     have w : IntKind.wrap .i64 ((t.length : Int) + 1) = ((t.length + 1 : Nat) : Int) := by rw [wrap64 (by omega) (by omega)]; rfl
     have h0 : ∀ P : List Int, gM [] t 0 = true := by intro _; unfold gM; rw [decide_eq_true_eq, List.take_zero]; exact rfl
     have hrow : RowM t.length (gM (o.take 0) t) ((List.replicate (t.length + 1) false).set 0 true) := by
       refine ⟨by simp, ?_⟩
       intro j hj
       cases j with
       | zero => rw [List.getElem?_set_self (by simp), List.take_zero, h0 []]
       | succ j =>
         rw [List.getElem?_set_ne (by omega), List.getElem?_replicate, zp (by omega)]
         congr 1
         unfold gM
         rw [eq_comm, decide_eq_false_iff_not, List.take_zero, Mt_nil]
         intro e
         have := congrArg List.length e
         simp only [List.length_take, List.length_nil] at this
         omega
     obtain ⟨row', b1, b2⟩ := outer (r1 := (o, true, ())) (r2 := (t, true, ())) rfl rfl ho ht o.length 0 _ (by simp only []; omega) (by simp only []; omega) hrow
     simp only [Bool.not_true, cond_false, List.nil_append]
     rw [w, mkT_nat (by omega), zb, Int.toNat_natCast, List.length_replicate]
     have i0 : inI (t.length + 1) 0 = some 0 := inI_nat (i := 0) (by omega)
     rw [i0, zb, List.getElem?_replicate, zp (by omega), zb]
     have b2' : loopT (zbq_l8 (o, true, ()) (t, true, ())) (0, (List.replicate (t.length + 1) false).set 0 true, ()) = some (.inl (row', ())) := b2
     rw [b2', zb, joinS_inl]
     simp only []
     rw [inI_nat (by have := b1.1; simp only [] at this ⊢; omega), zb, b1.2 _ (Nat.le_refl _), zb]
     unfold gM
     rw [List.take_length]
open Classical in
theorem match_t {p s : List UInt8} (hp : p.length < 4294967295) (hs : s.length < 4294967295) : zb6 p s = some (match pat p, runesM s with | some o, some t => decide (Mt o t) | _, _ => false) := by
 unfold zb6
 rw [globParts_t (by omega), zb, validString_t, zb]
 cases hpa : pat p with
 | none => simp [partsR]
 | some o =>
   cases hra : runesM s with
   | none => simp [partsR, validM, hra]
   | some t =>
     have h1 := pat_le hpa
     have h2 := runesM_le hra
     simp only [partsR, validM, hra, Option.isSome_some, cond_true, List.nil_append]
     rw [runesT_t hra, fits_t (by omega) (by omega), zb]
theorem right_t {p : List UInt8} (hp : p.length < 4294967295) : zce p = some (pat p).isSome := by
 unfold zce
 rw [globParts_t (by omega), zb]
 cases pat p <;> simp [partsR]
theorem runesM_ascii {a : UInt8} {t : List UInt8} (h : a.toNat < 128) : runesM (a :: t) = (runesM t).map fun l => (a.toNat : Int) :: l := by
 have hc : charM (a :: t) = ((a.toNat : Int), 1) := by simp only [charM, zp h]
 rw [runesM_step (by simp) (by rw [hc]; simp), hc]; rfl
def cmpI (a b : Int) : Int := if a < b then -1 else if a > b then 1 else 0
theorem compare_t (a b : Int) : zas a b = some (cmpI a b) := by
 unfold zas zaz cmpI
 simp only [zb, decide_true, Bool.not_true, cond_false, cond_dec]
 by_cases h1 : a < b
 · simp [h1]
 · by_cases h2 : a > b <;> simp [h1, h2]
def orI (a b : Int) : Int := if a = 0 then b else a
theorem or_t (a b : Int) : zcd [a, b] = some (orI a b) := by
 unfold zcd orI
 by_cases h1 : a = 0
 · rw [zp h1]
   have t0 : zcd_l3 [a, b] (0, ()) = some (.inl (1, ())) := by
     unfold zcd_l3
     simp only [cond_dec, zl, List.length_nil]
     rw [zp (by decide)]
     simp [atI, h1, wrap64]
   rw [loopT_inl t0]
   by_cases h2 : b = 0
   · have t1 : zcd_l3 [a, b] (1, ()) = some (.inl (2, ())) := by
       unfold zcd_l3
       simp only [cond_dec, zl, List.length_nil]
       rw [zp (by decide)]
       simp [atI, h2, wrap64]
     rw [loopT_inl t1, h2]
     refine loopT_inr ?_
     unfold zcd_l3
     simp only [cond_dec, zl, List.length_nil]
     rw [zn (by decide)]
   · refine loopT_inr ?_
     unfold zcd_l3
     simp only [cond_dec, zl, List.length_nil]
     rw [zp (by decide)]
     simp [atI, h2]
 · rw [zn h1]
   refine loopT_inr ?_
   unfold zcd_l3
   simp only [cond_dec, zl, List.length_nil]
   rw [zp (by decide)]
   simp [atI, h1]
def cmpD (a b : Int × Int × Unit) : Int := orI (cmpI a.1 b.1) (cmpI a.2.1 b.2.1)
def inR (n : Int) : Prop := -9223372036854775808 ≤ n ∧ n ≤ 9223372036854775807
def rightM (d : Int × Int × Unit) : Bool := decide (0 ≤ d.1 ∧ d.1 ≤ 15 ∧ 1 ≤ d.2.1 ∧ d.2.1 ≤ 1048576)
def Good (c : Int) : Prop := ∃ s, (charM s).2 ≠ 0 ∧ (charM s).1 = c
abbrev Val := Int × Int × List UInt8 × Unit
theorem or_turn {l : List Int} {i : Nat} {x : Int} (h : l[i]? = some x) (hl : l.length < 1000000) : zcd_l3 l ((i : Int), ()) = if x = 0 then some (.inl (((i + 1 : Nat) : Int), ())) else some (.inr x) := by
 have hi : i < l.length := by
   rcases Nat.lt_or_ge i l.length with h' | h'
   · exact h'
   · rw [List.getElem?_eq_none h'] at h; cases h
 unfold zcd_l3
 simp only [cond_dec]
 rw [zp (by omega), atI_nat, h]
 simp only [zb]
 by_cases hx : x = 0
 · rw [zp hx]
   simp only [hx, decide_true, Bool.not_true, cond_false]
   rw [wrap64 (by omega) (by omega)]; rfl
 · rw [zn hx]
   simp only [hx, decide_false, Bool.not_false, cond_true]
theorem or3_t (a b c : Int) : zcd [a, b, c] = some (orI a (orI b c)) := by
 unfold zcd
 have t0 := or_turn (l := [a, b, c]) (i := 0) (x := a) rfl (by simp)
 have t1 := or_turn (l := [a, b, c]) (i := 1) (x := b) rfl (by simp)
 have t2 := or_turn (l := [a, b, c]) (i := 2) (x := c) rfl (by simp)
 have t3 : zcd_l3 [a, b, c] (((3 : Nat) : Int), ()) = some (.inr 0) := by
   unfold zcd_l3
   simp only [cond_dec, zl, List.length_nil]
   rw [zn (by decide)]
 unfold orI
 by_cases h0 : a = 0
 · rw [zp h0] at t0 ⊢
   rw [show ((0 : Int), ()) = (((0 : Nat) : Int), ()) from rfl, loopT_inl t0]
   by_cases h1 : b = 0
   · rw [zp h1] at t1 ⊢
     rw [loopT_inl t1]
     by_cases h2 : c = 0
     · rw [zp h2] at t2
       rw [loopT_inl t2, loopT_inr t3, h2]
     · rw [zn h2] at t2
       rw [loopT_inr t2]
   · rw [zn h1] at t1 ⊢
     rw [loopT_inr t1]
 · rw [zn h0] at t0 ⊢
   exact loopT_inr t0
theorem cb_neg : ∀ a b : List UInt8, Lib.compareBytes b a = - Lib.compareBytes a b
 | [], [] => rfl
 | [], _ :: _ => rfl
 | _ :: _, [] => rfl
 | x :: a, y :: b => by
   simp only [Lib.compareBytes, UInt8.lt_iff_toNat_lt]
   by_cases h1 : x.toNat < y.toNat
   · have h2 : ¬ y.toNat < x.toNat := by omega
     simp only [zp h1, zn h2]
     rfl
   · by_cases h2 : y.toNat < x.toNat
     · simp only [zp h2, zn h1]
     · simp only [zn h2, zn h1]; exact cb_neg a b
theorem cb_zero : ∀ a b : List UInt8, Lib.compareBytes a b = 0 ↔ a = b
 | [], [] => by simp [Lib.compareBytes]
 | [], _ :: _ => by simp [Lib.compareBytes]
 | _ :: _, [] => by simp [Lib.compareBytes]
 | x :: a, y :: b => by
   simp only [Lib.compareBytes, UInt8.lt_iff_toNat_lt]
   by_cases h1 : x.toNat < y.toNat
   · rw [zp h1]
     constructor
     · intro h; cases h
     · intro h; cases h; omega
   · rw [zn h1]
     by_cases h2 : y.toNat < x.toNat
     · rw [zp h2]
       constructor
       · intro h; cases h
       · intro h; cases h; omega
     · rw [zn h2, cb_zero a b]
       have : x = y := UInt8.toNat_inj.1 (by omega)
       subst this
       simp
theorem cb_one : ∀ a b : List UInt8, Lib.compareBytes a b = -1 ∨ Lib.compareBytes a b = 0 ∨ Lib.compareBytes a b = 1
 | [], [] => .inr (.inl rfl)
 | [], _ :: _ => .inl rfl
 | _ :: _, [] => .inr (.inr rfl)
 | x :: a, y :: b => by
   simp only [Lib.compareBytes]
   split
   · exact .inl rfl
   · split
     · exact .inr (.inr rfl)
     · exact cb_one a b
theorem cb_trans : ∀ a b c : List UInt8, Lib.compareBytes a b ≤ 0 → Lib.compareBytes b c ≤ 0 → Lib.compareBytes a c ≤ 0
 | [], b, [], _, _ => by simp [Lib.compareBytes]
 | [], b, _ :: _, _, _ => by simp [Lib.compareBytes]
 | _ :: _, [], _, h, _ => by simp [Lib.compareBytes] at h
 | x :: a, y :: b, [], _, h => by simp [Lib.compareBytes] at h
 | x :: a, y :: b, z :: c, h, k => by
   simp only [Lib.compareBytes, UInt8.lt_iff_toNat_lt] at h k ⊢
   by_cases h1 : x.toNat < y.toNat
   · by_cases k1 : y.toNat < z.toNat
     · rw [zp (by omega)]; omega
     · rw [zn k1] at k
       by_cases k2 : z.toNat < y.toNat
       · rw [zp k2] at k; omega
       · rw [zp (by omega)]; omega
   · rw [zn h1] at h
     by_cases h2 : y.toNat < x.toNat
     · rw [zp h2] at h; omega
     · rw [zn h2] at h
       by_cases k1 : y.toNat < z.toNat
       · rw [zp (by omega)]; omega
       · rw [zn k1] at k
         by_cases k2 : z.toNat < y.toNat
         · rw [zp k2] at k; omega
         · rw [zn k2] at k
           rw [zn (by omega), zn (by omega)]
           exact cb_trans a b c h k
def cmpV (a b : Val) : Int := orI (cmpI a.1 b.1) (orI (cmpI a.2.1 b.2.1) (Lib.compareBytes a.2.2.1 b.2.2.1))
theorem eqVal (a b : Val) : eqV (.agg (.cons (.int .i64) (.cons (.int .i64) (.cons .str .unit)))) a b = decide (a = b) := by
 obtain ⟨k, n, s, ⟨⟩⟩ := a
 obtain ⟨k', n', s', ⟨⟩⟩ := b
 simp only [eqV, Bool.and_true]
 rw [Bool.eq_iff_iff]
 simp
theorem ints9_t (a b : Int) : zcg a b = some (cmpI a b) := by
 unfold zcg cmpI
 simp only [cond_dec]
 by_cases h1 : a < b
 · simp [h1]
 · by_cases h2 : a > b <;> simp [h1, h2]
theorem dropC {A : Type} {s : List A} {i : Nat} (h : i < s.length) : s.drop i = s[i] :: s.drop (i + 1) := List.drop_eq_getElem_cons h
theorem texts_loop {a b : List UInt8} (ha : a.length < 1000000) : ∀ (k i : Nat), a.length - i ≤ k → i ≤ a.length → i ≤ b.length →
   ((loopT (zbx_l2 a b) ((i : Int), ()) : Option (Unit ⊕ Int)).bind (joinS fun _ => some (cmpI (a.length : Int) (b.length : Int)))) = some (Lib.compareBytes (a.drop i) (b.drop i)) := by
 intro k
 have fin : ∀ i : Nat, i ≤ a.length → i ≤ b.length → ¬ (i < a.length ∧ i < b.length) → ((loopT (zbx_l2 a b) ((i : Int), ()) : Option (Unit ⊕ Int)).bind (joinS fun _ => some (cmpI (a.length : Int) (b.length : Int)))) = some (Lib.compareBytes (a.drop i) (b.drop i)) := by
   intro i h1 h2 h3
   have hl : loopT (zbx_l2 a b) ((i : Int), ()) = some (.inl ()) := by
     refine loopT_inr ?_
     unfold zbx_l2
     simp only [cond_dec]
     by_cases h4 : (i : Int) < (a.length : Int)
     · rw [zp h4, zn (by omega)]
     · rw [zn h4]
   rw [hl, bind_join_inl]
   congr 1
   unfold cmpI
   by_cases h4 : i < a.length
   · have e : b.drop i = [] := List.drop_eq_nil_of_le (by omega)
     rw [e, dropC h4]
     simp only [Lib.compareBytes]
     rw [zn (by omega), zp (by omega)]
   · have e : a.drop i = [] := List.drop_eq_nil_of_le (by omega)
     rw [e]
     by_cases h5 : i < b.length
     · rw [dropC h5]
       simp only [Lib.compareBytes]
       rw [zp (by omega)]
     · have e : b.drop i = [] := List.drop_eq_nil_of_le (by omega)
       rw [e]
       simp only [Lib.compareBytes]
       rw [zn (by omega), zn (by omega)]
 induction k with
 | zero => intro i hk h1 h2; exact fin i h1 h2 (by omega)
 | succ k ih =>
   intro i hk h1 h2
   by_cases h3 : i < a.length ∧ i < b.length
   · obtain ⟨h3, h4⟩ := h3
     rw [dropC h3, dropC h4]
     simp only [Lib.compareBytes, UInt8.lt_iff_toNat_lt]
     by_cases he : a[i].toNat = b[i].toNat
     · rw [zn (by omega), zn (by omega), ← ih (i + 1) (by omega) (by omega) (by omega)]
       rw [loopT_inl (b := (((i + 1 : Nat) : Int), ()))]
       unfold zbx_l2
       simp only [cond_dec]
       rw [zp (by omega), zp (by omega), atI_lt h3, atI_lt h4]
       simp only [zb]
       rw [zt (by omega)]
       simp only [Bool.not_true, cond_false]
       rw [wrap64 (by omega) (by omega)]; rfl
     · have ba := a[i].toNat_lt
       have bb := b[i].toNat_lt
       have hl : loopT (zbx_l2 a b) ((i : Int), ()) = some (.inr (cmpI (a[i].toNat : Int) (b[i].toNat : Int))) := by
         refine loopT_inr ?_
         unfold zbx_l2
         simp only [cond_dec]
         rw [zp (by omega), zp (by omega), atI_lt h3, atI_lt h4]
         simp only [zb]
         rw [zf (by omega)]
         simp only [Bool.not_false, cond_true, ints9_t, zb]
         rw [wrap64 (by omega) (by omega), wrap64 (by omega) (by omega)]
       rw [hl, bind_join_inr]
       congr 1
       unfold cmpI
       by_cases h5 : a[i].toNat < b[i].toNat
       · rw [zp (by omega), zp h5]
       · rw [zn (by omega), zn h5, zp (by omega), zp (by omega)]
   · exact fin i h1 h2 h3
theorem texts_t {a b : List UInt8} (ha : a.length < 1000000) : zbx a b = some (Lib.compareBytes a b) := by
 have := texts_loop (b := b) ha a.length 0 (by omega) (by omega) (by omega)
 simp only [List.drop_zero] at this
 unfold zbx
 simp only [ints9_t, zb]
 exact this
theorem runesR_ok {s : List UInt8} : (runesR s []).2.1 = (runesM s).isSome := by
 unfold runesR; cases runesM s <;> rfl
def rightV (v : Val) : Bool := decide ((v.1 = 1 ∧ v.2.2.1 = [] ∧ -2147483647 ≤ v.2.1 ∧ v.2.1 ≤ 2147483647) ∨ (v.1 = 2 ∧ v.2.1 = 0 ∧ (runesM v.2.2.1).isSome = true ∧ v.2.2.1.length ≤ 64) ∨ (v.1 = 3 ∧ v.2.2.1 = [] ∧ 0 ≤ v.2.1 ∧ v.2.1 ≤ 1))
theorem refRight9_t {v : Val} (hv : v.2.2.1.length < 4294967296) : zb1 v = some (rightV v) := by
 unfold zb1 rightV
 simp only [runes_t (s := v.2.2.1) (by omega), zb, runesR_ok, cond_dec]
 by_cases h1 : v.1 = 1
 · rw [zp h1]
   by_cases h2 : v.2.2.1 = []
   · by_cases h3 : v.2.1 ≥ -2147483647
     · simp only [h1, h2, h3]; simp <;> omega
     · simp only [h1, h2]; simp [h3] <;> omega
   · simp [h1, h2]
 rw [zn h1]
 by_cases h2 : v.1 = 2
 · rw [zp h2]
   cases hr : (runesM v.2.2.1).isSome with
   | true =>
     by_cases h3 : v.2.1 = 0
     · simp only [h2, h3]; simp <;> omega
     · simp [h2, h3]
   | false => by_cases h3 : v.2.1 = 0 <;> simp [h2, h3]
 rw [zn h2]
 by_cases h3 : v.1 = 3
 · rw [zp h3]
   by_cases h4 : v.2.2.1 = []
   · by_cases h5 : v.2.1 ≥ 0
     · simp only [h3, h4]; simp [h5] <;> omega
     · simp only [h3, h4]; simp [h5] <;> omega
   · simp [h3, h4]
 rw [zn h3]
 simp [h1, h2, h3]
abbrev Path := List (List UInt8)
abbrev Ent := Path × Int × List Val × Int × Unit
theorem cb_cmp : Cmp Lib.compareBytes where
 one a b := by have := cb_one a b; omega
 neg a b := cb_neg a b
 zero a b := cb_zero a b
 trans a b d h1 h2 := by
   have h3 := cb_trans a b d (by omega) (by omega)
   rcases Int.lt_or_eq_of_le h3 with h | h
   · exact h
   · have e := (cb_zero a d).1 h
     subst e
     have := cb_neg a b
     omega
theorem ci_cmp : Cmp cmpI where
 one a b := by
   unfold cmpI
   split
   · omega
   · split <;> omega
 neg a b := by
   unfold cmpI
   by_cases h1 : a < b
   · rw [zn (by omega), zp (by omega), zp h1]; rfl
   · by_cases h2 : a > b
     · rw [zp (by omega), zn h1, zp h2]
     · rw [zn (by omega), zn (by omega), zn h1, zn h2]; rfl
 zero a b := by
   unfold cmpI
   by_cases h1 : a < b
   · rw [zp h1]; constructor <;> intro h <;> omega
   · by_cases h2 : a > b
     · rw [zn h1, zp h2]; constructor <;> intro h <;> omega
     · rw [zn h1, zn h2]; constructor <;> intro h <;> omega
 trans a b d h1 h2 := by
   unfold cmpI at h1 h2 ⊢
   have e1 : a < b := by
     by_cases h : a < b
     · exact h
     · rw [zn h] at h1; split at h1 <;> omega
   have e2 : b < d := by
     by_cases h : b < d
     · exact h
     · rw [zn h] at h2; split at h2 <;> omega
   rw [zp (by omega)]; omega
theorem less_cb : ∀ a b : List UInt8, Op.bytesLess a b = decide (Lib.compareBytes a b < 0)
 | [], [] => rfl
 | _ :: _, [] => rfl
 | [], _ :: _ => rfl
 | x :: a, y :: b => by
   simp only [Op.bytesLess, Lib.compareBytes]
   by_cases h1 : x < y
   · simp [h1]
   · by_cases h2 : y < x
     · have h3 : x ≠ y := fun e => by subst e; exact h1 h2
       simp [h1, h2, h3]
     · have h3 : x = y := UInt8.toNat_inj.1 (by rw [UInt8.lt_iff_toNat_lt] at h1 h2; omega)
       subst h3
       simp [h1, less_cb a b]
theorem strCompare_t (a b : List UInt8) : zan a b = some (Lib.compareBytes a b) := by
 unfold zan zar
 simp only [decide_true, Bool.not_true, zb, cond_false, less_cb]
 have h1 := cb_one a b
 have h0 := cb_zero a b
 by_cases h2 : Lib.compareBytes a b < 0
 · rw [zt h2]
   simp only [cond_true]
   congr 1; omega
 · rw [zf h2]
   simp only [cond_false, Bool.false_or]
   by_cases h3 : a = b
   · rw [zt h3]
     simp only [Bool.not_true, cond_false]
     rw [h0.2 h3]
   · rw [zf h3]
     simp only [Bool.not_false, cond_true]
     congr 1
     have : Lib.compareBytes a b ≠ 0 := fun e => h3 (h0.1 e)
     omega
def cmpP : Path → Path → Int := cmpL Lib.compareBytes
theorem cmpP_cons {x y : List UInt8} {a b : Path} : cmpP (x :: a) (y :: b) = if Lib.compareBytes x y = 0 then cmpP a b else Lib.compareBytes x y := by unfold cmpP; rw [cmpL]
theorem pathCmp_loop {a b : Path} (ha : a.length < 1000000) : ∀ (k i : Nat), a.length - i ≤ k → i ≤ a.length → i ≤ b.length →
   ((loopT (zaj_l2 a b) ((i : Int), ()) : Option (Unit ⊕ Int)).bind (joinS fun _ => cond (decide ((a.length : Int) < (b.length : Int))) (some (-1)) (some 0))) = some (cmpP (a.drop i) (b.drop i)) := by
 intro k
 have fin : ∀ i : Nat, i = a.length → i ≤ b.length → ((loopT (zaj_l2 a b) ((i : Int), ()) : Option (Unit ⊕ Int)).bind (joinS fun _ => cond (decide ((a.length : Int) < (b.length : Int))) (some (-1)) (some 0))) = some (cmpP (a.drop i) (b.drop i)) := by
   intro i hi h2
   have hl : loopT (zaj_l2 a b) ((i : Int), ()) = some (.inl ()) := by
     refine loopT_inr ?_
     unfold zaj_l2
     simp only [cond_dec]
     rw [zn (by omega)]
   rw [hl, bind_join_inl, List.drop_eq_nil_of_le (by omega : a.length ≤ i)]
   rw [cond_dec]
   by_cases h5 : i < b.length
   · rw [List.drop_eq_getElem_cons h5, zp (by omega)]; rfl
   · rw [List.drop_eq_nil_of_le (by omega), zn (by omega)]; rfl
 induction k with
 | zero => intro i hk h1 h2; exact fin i (by omega) h2
 | succ k ih =>
   intro i hk h1 h2
   by_cases h3 : i < a.length
   · rw [List.drop_eq_getElem_cons h3]
     by_cases h4 : i < b.length
     · rw [List.drop_eq_getElem_cons h4, cmpP_cons]
       have turn : zaj_l2 a b ((i : Int), ()) = if Lib.compareBytes a[i] b[i] = 0 then some (.inl (((i + 1 : Nat) : Int), ())) else some (.inr (.inr (Lib.compareBytes a[i] b[i]))) := by
         unfold zaj_l2
         simp only [cond_dec]
         rw [zp (by omega), atI_lt h3]
         simp only [zb]
         rw [zn (by omega), atI_lt h4]
         simp only [zb, strCompare_t]
         by_cases hz : Lib.compareBytes a[i] b[i] = 0
         · rw [zt hz, zp hz]
           simp only [Bool.not_true, cond_false]
           rw [wrap64 (by omega) (by omega)]; rfl
         · rw [zf hz, zn hz]
           simp only [Bool.not_false, cond_true]
       by_cases hz : Lib.compareBytes a[i] b[i] = 0
       · rw [zp hz] at turn ⊢
         rw [loopT_inl turn]
         exact ih (i + 1) (by omega) (by omega) (by omega)
       · rw [zn hz] at turn ⊢
         rw [loopT_inr turn, bind_join_inr]
     · have hl : loopT (zaj_l2 a b) ((i : Int), ()) = some (.inr 1) := by
         refine loopT_inr ?_
         unfold zaj_l2
         simp only [cond_dec]
         rw [zp (by omega), atI_lt h3]
         simp only [zb]
         rw [zp (by omega)]
       rw [hl, bind_join_inr, List.drop_eq_nil_of_le (by omega : b.length ≤ i)]; rfl
   · exact fin i (by omega) h2
theorem pathCompare_t {a b : Path} (ha : a.length < 1000000) : za4 a b = some (cmpP a b) := by
 have := pathCmp_loop (b := b) ha a.length 0 (by omega) (by omega) (by omega)
 simp only [List.drop_zero] at this
 rw [show (((0 : Nat) : Int)) = 0 from rfl] at this
 unfold za4 zaj
 rw [this]; rfl
theorem refCmp_loop {a b : Path} (ha : a.length < 1000000) (hs : ∀ x ∈ a, x.length < 1000000) : ∀ (k i : Nat), a.length - i ≤ k → i ≤ a.length → i ≤ b.length →
   ((loopT (za3_l2 a b) ((i : Int), ()) : Option (Unit ⊕ Int)).bind (joinS fun _ => cond (decide ((a.length : Int) < (b.length : Int))) (some (-1)) (cond (decide ((a.length : Int) > (b.length : Int))) (some 1) (some 0)))) = some (cmpP (a.drop i) (b.drop i)) := by
 intro k
 have fin : ∀ i : Nat, i ≤ a.length → i ≤ b.length → ¬ (i < a.length ∧ i < b.length) → ((loopT (za3_l2 a b) ((i : Int), ()) : Option (Unit ⊕ Int)).bind (joinS fun _ => cond (decide ((a.length : Int) < (b.length : Int))) (some (-1)) (cond (decide ((a.length : Int) > (b.length : Int))) (some 1) (some 0)))) = some (cmpP (a.drop i) (b.drop i)) := by
   intro i h1 h2 h3
   have hl : loopT (za3_l2 a b) ((i : Int), ()) = some (.inl ()) := by
     refine loopT_inr ?_
     unfold za3_l2
     simp only [cond_dec]
     by_cases h4 : (i : Int) < (a.length : Int)
     · rw [zp h4, zn (by omega)]
     · rw [zn h4]
   rw [hl, bind_join_inl]
   simp only [cond_dec]
   by_cases h4 : i < a.length
   · rw [List.drop_eq_nil_of_le (by omega : b.length ≤ i), List.drop_eq_getElem_cons h4, zn (by omega), zp (by omega)]; rfl
   · rw [List.drop_eq_nil_of_le (by omega : a.length ≤ i)]
     by_cases h5 : i < b.length
     · rw [List.drop_eq_getElem_cons h5, zp (by omega)]; rfl
     · rw [List.drop_eq_nil_of_le (by omega), zn (by omega), zn (by omega)]; rfl
 induction k with
 | zero => intro i hk h1 h2; exact fin i h1 h2 (by omega)
 | succ k ih =>
   intro i hk h1 h2
   by_cases h3 : i < a.length ∧ i < b.length
   · obtain ⟨h3, h4⟩ := h3
     rw [List.drop_eq_getElem_cons h3, List.drop_eq_getElem_cons h4, cmpP_cons]
     have turn : za3_l2 a b ((i : Int), ()) = if Lib.compareBytes a[i] b[i] = 0 then some (.inl (((i + 1 : Nat) : Int), ())) else some (.inr (.inr (Lib.compareBytes a[i] b[i]))) := by
       unfold za3_l2
       simp only [cond_dec]
       rw [zp (by omega), zp (by omega), atI_lt h3, atI_lt h4]
       simp only [zb, texts_t (hs _ (zm h3))]
       by_cases hz : Lib.compareBytes a[i] b[i] = 0
       · rw [zt hz, zp hz]
         simp only [Bool.not_true, cond_false]
         rw [wrap64 (by omega) (by omega)]; rfl
       · rw [zf hz, zn hz]
         simp only [Bool.not_false, cond_true]
     by_cases hz : Lib.compareBytes a[i] b[i] = 0
     · rw [zp hz] at turn ⊢
       rw [loopT_inl turn]
       exact ih (i + 1) (by omega) (by omega) (by omega)
     · rw [zn hz] at turn ⊢
       rw [loopT_inr turn, bind_join_inr]
   · exact fin i h1 h2 h3
theorem refPathCompare_t {a b : Path} (ha : a.length < 1000000) (hs : ∀ x ∈ a, x.length < 1000000) : za3 a b = some (cmpP a b) := by
 have := refCmp_loop (b := b) ha hs a.length 0 (by omega) (by omega) (by omega)
 simp only [List.drop_zero] at this
 rw [show (((0 : Nat) : Int)) = 0 from rfl] at this
 unfold za3
 exact this
def mayM (c : Int) : Bool := decide (32 ≤ c ∧ (c < 127 ∨ 159 < c) ∧ c ≠ 65533)
theorem refMay_t (c : Int) : zcu c = some (mayM c) := by
 unfold zcu mayM
 simp only [cond_dec]
 by_cases h1 : c ≥ 32
 · rw [zp h1]
   by_cases h2 : c < 127
   · rw [zp h2, zf (by omega : ¬ c = 65533), zt (by omega)]; rfl
   · rw [zn h2]
     by_cases h3 : c > 159
     · rw [zp h3]
       by_cases h4 : c = 65533
       · rw [zt h4, zf (by omega)]; rfl
       · rw [zf h4, zt (by omega)]; rfl
     · rw [zn h3, zf (by omega)]
 · rw [zn h1, zf (by omega)]
theorem runes_len : ∀ {s : List UInt8} {l : List Int}, runesM s = some l → l.length ≤ s.length := by
 have key : ∀ (n : Nat) (s : List UInt8) (l : List Int), s.length ≤ n → runesM s = some l → l.length ≤ s.length := by
   intro n
   induction n with
   | zero =>
     intro s l hn h
     have : s = [] := List.eq_nil_of_length_eq_zero (by omega)
     subst this
     rw [runesM_nil] at h; cases h; simp
   | succ n ih =>
     intro s l hn h
     by_cases hs : s = []
     · subst hs
       rw [runesM_nil] at h; cases h; simp
     · have hl : s.length ≠ 0 := fun e => hs (List.eq_nil_of_length_eq_zero e)
       by_cases h0 : (charM s).2 = 0
       · rw [runesM_none hs h0] at h; cases h
       · rw [runesM_step hs h0, Option.map_eq_some_iff] at h
         obtain ⟨l', hl', rfl⟩ := h
         have := ih _ l' (by rw [List.length_drop]; omega) hl'
         rw [List.length_drop] at this
         simp only [zl]; omega
 intro s l h
 exact key s.length s l (Nat.le_refl _) h
def nameM (s : List UInt8) : Bool := match runesM s with
 | some l => decide (1 ≤ l.length ∧ l.length ≤ 24) && l.all mayM
 | none => false
theorem refNameRight_t {s : List UInt8} (hs : s.length < 1000000) : zbn s = some (nameM s) := by
 unfold zbn nameM
 rw [runes_t (by omega)]
 simp only [zb]
 have gen : ∀ (l : List Int) (ok : Bool), l.length < 1000000 → loopT (zbn_l3 (l, ok, ())) ((0 : Int), ()) = some (if l.all mayM = true then .inl () else .inr false) := by
   intro l ok hl
   have := loop_all (f := zbn_l3 (l, ok, ())) (l := l) (fun i => ((i : Int), ())) mayM (.inl ()) (.inr false) (fun i h => by
     unfold zbn_l3
     simp only [cond_dec]
     rw [zp (by omega), atI_lt h]
     simp only [zb, refMay_t]
     cases mayM l[i] with
     | true => simp only [Bool.not_true, cond_false, if_true]; rw [wrap64 (by omega) (by omega)]; rfl
     | false => rfl) (by
     unfold zbn_l3
     simp only [cond_dec]
     rw [zn (by omega)])
   exact this
 cases hr : runesM s with
 | none =>
   have e : runesR s [] = ([], false, ()) := by unfold runesR; rw [hr]
   rw [e, gen [] false (by simp)]
   rfl
 | some l =>
   have e : runesR s [] = (l, true, ()) := by unfold runesR; rw [hr]; rfl
   have hl : l.length ≤ s.length := runes_len hr
   rw [e, gen l true (by omega)]
   cases hm : l.all mayM with
   | false =>
     simp only [Bool.false_eq_true, if_false, bind_join_inr, hm, Bool.and_false]
   | true =>
     simp only [if_true, bind_join_inl, cond_true, hm, Bool.and_true, cond_dec]
     by_cases h1 : (l.length : Int) ≥ 1
     · rw [zp h1]
       congr 1
       rw [decide_eq_decide]; omega
     · rw [zn h1, zf (by omega)]
def checkM (p : Path) : Int := if p.length = 0 then 8 else if p.length > 8 then 9 else if p.all nameM = true then 0 else 8
theorem refCheck_t {p : Path} (hs : ∀ x ∈ p, x.length < 1000000) : zbg p = some (checkM p) := by
 unfold zbg checkM
 simp only [cond_dec]
 by_cases h1 : (p.length : Int) = 0
 · rw [zp h1, zp (show p.length = 0 by omega)]
 rw [zn h1, zn (show ¬ p.length = 0 by omega)]
 by_cases h2 : (p.length : Int) > 8
 · rw [zp h2, zp (show p.length > 8 by omega)]
 rw [zn h2, zn (show ¬ p.length > 8 by omega)]
 have := loop_all (f := zbg_l6 p) (l := p) (fun i => ((i : Int), ())) nameM (0 : Int) 8 (fun i h => by
   unfold zbg_l6
   simp only [cond_dec]
   rw [zp (by omega), atI_lt h]
   simp only [zb, refNameRight_t (hs _ (zm h))]
   cases nameM p[i] with
   | true => simp only [Bool.not_true, cond_false, if_true]; rw [wrap64 (by omega) (by omega)]; rfl
   | false => rfl) (by
   unfold zbg_l6
   simp only [cond_dec]
   rw [zn (by omega)])
 exact this
instance decE1 : DecidableEq (List Val × Int × Unit) := fun a b => @instDecidableEqProd (List Val) (Int × Unit) inferInstance inferInstance a b
instance decE2 : DecidableEq (Int × List Val × Int × Unit) := fun a b => @instDecidableEqProd Int (List Val × Int × Unit) inferInstance decE1 a b
instance decE : DecidableEq Ent := fun a b => @instDecidableEqProd Path (Int × List Val × Int × Unit) inferInstance decE2 a b
instance decC1 : DecidableEq (Ent × Unit) := fun a b => @instDecidableEqProd Ent Unit decE inferInstance a b
instance decC2 : DecidableEq (Ent × Ent × Unit) := fun a b => @instDecidableEqProd Ent (Ent × Unit) decE decC1 a b
theorem ite_bool {b : Bool} : (if b = true then true else false) = b := by cases b <;> rfl
theorem strsEq_t {a b : Path} (ha : a.length < 1000000) : zak a b = some (decide (a = b)) := by
 unfold zak
 by_cases hl : a.length = b.length
 · rw [zt (by omega)]
   simp only [Bool.not_true, cond_false]
   have := loop_all2 (f := zak_l4 a b) (l := a) (m := b) (fun i => ((i : Int), ())) (fun x y => decide (x = y)) true false hl (fun i h h' => by
     unfold zak_l4
     simp only [cond_dec]
     rw [zp (by omega), atI_lt h, atI_lt h']
     simp only [zb]
     cases decide (a[i] = b[i]) with
     | true => simp only [Bool.not_true, cond_false, if_true]; rw [wrap64 (by omega) (by omega)]; rfl
     | false => rfl) (by
     unfold zak_l4
     simp only [cond_dec]
     rw [zn (by omega)])
   rw [all2_dec, ite_bool] at this
   exact this
 · rw [zf (by omega)]
   have : a ≠ b := fun e => hl (by rw [e])
   rw [zf this]; rfl
theorem refStrsEq_t {a b : Path} (ha : a.length < 1000000) : zb4 a b = some (decide (a = b)) := by
 unfold zb4
 by_cases hl : a.length = b.length
 · rw [zt (by omega)]
   simp only [Bool.not_true, cond_false]
   have := loop_all2 (f := zb4_l4 a b) (l := a) (m := b) (fun i => ((i : Int), ())) (fun x y => decide (x = y)) true false hl (fun i h h' => by
     unfold zb4_l4
     simp only [cond_dec]
     rw [zp (by omega), atI_lt h, atI_lt h']
     simp only [zb]
     cases decide (a[i] = b[i]) with
     | true => simp only [Bool.not_true, cond_false, if_true]; rw [wrap64 (by omega) (by omega)]; rfl
     | false => rfl) (by
     unfold zb4_l4
     simp only [cond_dec]
     rw [zn (by omega)])
   rw [all2_dec, ite_bool] at this
   exact this
 · rw [zf (by omega)]
   have : a ≠ b := fun e => hl (by rw [e])
   rw [zf this]; rfl
theorem refValsEq_t {a b : List Val} (ha : a.length < 1000000) : zb9 a b = some (decide (a = b)) := by
 unfold zb9
 by_cases hl : a.length = b.length
 · rw [zt (by omega)]
   simp only [Bool.not_true, cond_false]
   have := loop_all2 (f := zb9_l4 a b) (l := a) (m := b) (fun i => ((i : Int), ())) (fun x y => decide (x = y)) true false hl (fun i h h' => by
     unfold zb9_l4
     simp only [cond_dec]
     rw [zp (by omega), atI_lt h, atI_lt h']
     simp only [zb, eqVal]
     cases decide (a[i] = b[i]) with
     | true => simp only [Bool.not_true, cond_false, if_true]; rw [wrap64 (by omega) (by omega)]; rfl
     | false => rfl) (by
     unfold zb9_l4
     simp only [cond_dec]
     rw [zn (by omega)])
   rw [all2_dec, ite_bool] at this
   exact this
 · rw [zf (by omega)]
   have : a ≠ b := fun e => hl (by rw [e])
   rw [zf this]; rfl
def lowE (e : Ent) : Prop := e.1.length < 1000000 ∧ e.2.2.1.length < 1000000
theorem pathSame_t {a b : Path} (ha : a.length < 1000000) : zcx a b = some (decide (a = b)) := by
 unfold zcx
 rw [strsEq_t ha]; rfl
theorem ref18Same_t {l m : List Ent} (hl : l.length < 1000000) (hs : ∀ e ∈ l, lowE e) : zci l m = some (decide (l = m)) := by
 unfold zci
 by_cases hlen : l.length = m.length
 · rw [zt (by omega)]
   simp only [Bool.not_true, cond_false]
   have := loop_all2 (f := zci_l4 l m) (l := l) (m := m) (fun i => ((i : Int), ())) (fun x y => decide (x = y)) true false hlen (fun i h h' => by
     unfold zci_l4
     simp only [cond_dec]
     rw [zp (by omega), atI_lt h, atI_lt h']
     have hlo := hs _ (zm h)
     simp only [zb, refStrsEq_t hlo.1, refValsEq_t hlo.2]
     have w1 : IntKind.wrap .i64 ((i : Int) + 1) = ((i + 1 : Nat) : Int) := by rw [wrap64 (by omega) (by omega)]; rfl
     rw [w1]
     generalize l[i] = x at *
     generalize m[i] = y at *
     obtain ⟨p, k, v, n, ⟨⟩⟩ := x
     obtain ⟨p', k', v', n', ⟨⟩⟩ := y
     simp only
     by_cases h1 : k = k'
     · by_cases h2 : n = n'
       · by_cases h3 : p = p'
         · by_cases h4 : v = v'
           · simp [h1, h2, h3, h4]
           · simp [h1, h2, h3, h4]
         · simp [h1, h2, h3]
       · simp [h1, h2]
     · simp [h1]) (by
     unfold zci_l4
     simp only [cond_dec]
     rw [zn (by omega)])
   rw [all2_dec, ite_bool] at this
   exact this
 · rw [zf (by omega)]
   have : l ≠ m := fun e => hlen (by rw [e])
   rw [zf this]; rfl
def smallE (e : Ent) : Prop := e.1.length ≤ 12 ∧ (∀ x ∈ e.1, x.length ≤ 120) ∧ e.2.2.1.length ≤ 400 ∧ ∀ v ∈ e.2.2.1, rightV v = true
theorem shortP_t {p : Path} : zbj p = some (decide (p.length ≤ 12) && p.all fun x => decide (x.length ≤ 120)) := by
 unfold zbj
 simp only [cond_dec]
 by_cases h1 : (p.length : Int) > 12
 · rw [zp h1, zf (by omega)]; rfl
 rw [zn h1, zt (by omega), Bool.true_and]
 have := loop_all (f := zbj_l4 p) (l := p) (fun i => ((i : Int), ())) (fun x => decide (x.length ≤ 120)) true false (fun i h => by
   unfold zbj_l4
   simp only [cond_dec]
   rw [zp (by omega), atI_lt h]
   simp only [zb]
   by_cases h2 : (p[i].length : Int) > 120
   · rw [zp h2, zn (by simp; omega)]
   · rw [zn h2, zp (by simp; omega), wrap64 (by omega) (by omega)]; rfl) (by
   unfold zbj_l4
   simp only [cond_dec]
   rw [zn (by omega)])
 rw [ite_bool] at this
 exact this
theorem sub1 {A : Type} {x : A} {l : List A} : subI (x :: l) 1 ((x :: l).length : Int) = some l := by
 have := subI_from (l := x :: l) (i := 1) (by simp)
 simpa using this
theorem at0 {A : Type} {x : A} {l : List A} : atI (x :: l) 0 = some x := by
 have := atI_nat (l := x :: l) (i := 0)
 simpa using this
theorem foldE_inl {R X S : Type} {g : S → X → S} {fin : S → R} : ∀ (l : List X) (i : Nat) (s : S), foldE (fun _ x s => .inl (g s x)) fin i l s = fin (l.foldl g s)
 | [], _, s => rfl
 | x :: l, i, s => by simp only [foldE, List.foldl_cons]; exact foldE_inl l (i + 1) (g s x)
theorem half_t {n : Nat} (h : n < 9000000) : shrT .u64 (IntKind.wrap .u64 (IntKind.wrap .i64 (n : Int))) 1 = some ((n / 2 : Nat) : Int) := by
 rw [wrap64 (by omega) (by omega)]
 have w : IntKind.wrap .u64 (n : Int) = (n : Int) := by simp [IntKind.wrap, IntKind.bits, IntKind.signed]; omega
 rw [w]
 unfold shrT
 rw [zn (by omega)]
 have e : (2 : Int) ^ min (Int.toNat 1) (IntKind.bits .u64) = 2 := by decide
 rw [e, Int.fdiv_eq_ediv_of_nonneg _ (by omega)]
 congr 1
theorem valueCompare_t (a b : Val) : za0 a b = some (cmpV a b) := by
 unfold za0 cmpV zat cmpT
 simp only [compare_t, or3_t, zb]
theorem refCompare9_t {a b : Val} (ha : a.2.2.1.length < 1000000) : za2 a b = some (cmpV a b) := by
 unfold za2 cmpV orI
 simp only [ints9_t, texts_t ha, zb]
 unfold cmpI
 by_cases h1 : a.1 = b.1
 · simp only [h1, decide_true, Bool.not_true, cond_false]
   by_cases h2 : a.2.1 = b.2.1
   · simp [h2]
   · simp only [h2, decide_false, Bool.not_false, cond_true]
     by_cases h3 : a.2.1 < b.2.1
     · simp [h3]
     · have h4 : b.2.1 < a.2.1 := by omega
       simp [h3, h4]
 · simp only [h1, decide_false, Bool.not_false, cond_true]
   by_cases h3 : a.1 < b.1
   · simp [h3]
   · have h4 : b.1 < a.1 := by omega
     simp [h3, h4]
abbrev Dot1 := Int × Int × Unit
abbrev Ref1 := Dot1 × Int × Unit
abbrev Op1 := Int × Path × Val × Int × List Ref1 × Unit
abbrev Txn1 := Dot1 × Int × Int × Bool × List Op1 × Unit
abbrev Item1 := Ref1 × Op1 × Int × Unit
abbrev tyRef : Ty := .agg (.cons (.agg (.cons (.int .i64) (.cons (.int .i64) .unit))) (.cons (.int .i64) .unit))
theorem Cmp_map {K L : Type} {c : K → K → Int} (h : Cmp c) (f : L → K) (hf : ∀ a b, f a = f b → a = b) : Cmp fun a b => c (f a) (f b) where
 one a b := h.one _ _
 neg a b := h.neg _ _
 zero a b := ⟨fun e => hf _ _ ((h.zero _ _).1 e), fun e => (h.zero _ _).2 (by rw [e])⟩
 trans a b d := h.trans _ _ _
theorem cd_cmp : Cmp cmpD := by
 have : cmpD = fun a b => cmpB cmpI cmpI ((fun x : Dot1 => (x.1, x.2.1)) a) ((fun x : Dot1 => (x.1, x.2.1)) b) := rfl
 rw [this]
 exact Cmp_map (ci_cmp.pair ci_cmp) _ fun a b h => by
   obtain ⟨a1, a2, ⟨⟩⟩ := a; obtain ⟨b1, b2, ⟨⟩⟩ := b
   simp only [Prod.mk.injEq] at h
   rw [h.1, h.2]
def cmpR (a b : Ref1) : Int := orI (cmpD a.1 b.1) (cmpI a.2.1 b.2.1)
theorem cv_cmp : Cmp cmpV := by
 have : cmpV = fun a b => cmpB cmpI (cmpB cmpI Lib.compareBytes) ((fun x : Val => (x.1, x.2.1, x.2.2.1)) a) ((fun x : Val => (x.1, x.2.1, x.2.2.1)) b) := rfl
 rw [this]
 exact Cmp_map (ci_cmp.pair (ci_cmp.pair cb_cmp)) _ fun a b h => by
   obtain ⟨a1, a2, a3, ⟨⟩⟩ := a; obtain ⟨b1, b2, b3, ⟨⟩⟩ := b
   simp only [Prod.mk.injEq] at h
   rw [h.1, h.2.1, h.2.2]
theorem ints4_t (a b : Int) : zcf a b = some (cmpI a b) := by
 unfold zcf cmpI
 simp only [cond_dec]
 by_cases h1 : a < b
 · rw [zp h1, zp h1]
 · by_cases h2 : a > b
   · rw [zn h1, zp h2, zn h1, zp h2]
   · rw [zn h1, zn h2, zn h1, zn h2]
theorem cmpI_zero (a b : Int) : cmpI a b = 0 ↔ a = b := ci_cmp.zero a b
theorem refDot_t (a b : Dot1) : zaw a b = some (cmpD a b) := by
 unfold zaw cmpD orI
 simp only [ints4_t, zb, cond_ndec]
 by_cases h : a.1 = b.1
 · rw [zp h, zp ((cmpI_zero _ _).2 h)]
 · rw [zn h, zn (fun e => h ((cmpI_zero _ _).1 e))]
theorem refRef_t (a b : Ref1) : zcc a b = some (cmpR a b) := by
 unfold zcc cmpR orI
 simp only [refDot_t, ints4_t, zb, cond_ndec]
 by_cases h : cmpD a.1 b.1 = 0
 · rw [zp h, zp h]
 · rw [zn h, zn h]
theorem dotC_t (a b : Dot1) : zb0 a b = some (cmpD a b) := by
 unfold zb0
 simp only [compare_t, or_t, zb]
 rfl
theorem refRight_t (d : Dot1) : zbr d = some (rightM d) := by
 unfold zbr rightM
 simp only [cond_dec]
 by_cases h1 : d.1 ≥ 0 <;> by_cases h2 : d.1 ≤ 15 <;> by_cases h3 : d.2.1 ≥ 1 <;> by_cases h4 : d.2.1 ≤ 1048576 <;> simp [h1, h2, h3, h4] <;> omega
theorem rises_adj {A K : Type} {c : K → K → Int} {key : A → K} (hc : Cmp c) : ∀ {l : List A}, (∀ i, (h : i + 1 < l.length) → c (key l[i]) (key l[i + 1]) < 0) → Rises c key l
 | [], _ => List.Pairwise.nil
 | [x], _ => List.pairwise_singleton ..
 | x :: y :: l, h => by
   have ih := rises_adj hc (l := y :: l) (fun i hi => h (i + 1) (by simpa using hi))
   have h0 := h 0 (by simp)
   refine List.pairwise_cons.2 ⟨fun z hz => ?_, ih⟩
   rcases List.mem_cons.1 hz with e | hz'
   · subst e; exact h0
   · exact hc.trans _ _ _ h0 ((List.pairwise_cons.1 ih).1 z hz')
theorem eqRef (a b : Ref1) : eqV tyRef a b = decide (a = b) := by
 obtain ⟨⟨a1, a2, ⟨⟩⟩, a3, ⟨⟩⟩ := a
 obtain ⟨⟨b1, b2, ⟨⟩⟩, b3, ⟨⟩⟩ := b
 simp only [eqV, Prod.mk.injEq, and_true]
 by_cases h1 : a1 = b1 <;> by_cases h2 : a2 = b2 <;> by_cases h3 : a3 = b3 <;> simp [h1, h2, h3]
theorem eqDot (a b : Dot1) : eqV (.agg (.cons (.int .i64) (.cons (.int .i64) .unit))) a b = decide (a = b) := by
 obtain ⟨a1, a2, ⟨⟩⟩ := a
 obtain ⟨b1, b2, ⟨⟩⟩ := b
 simp only [eqV, Prod.mk.injEq, and_true]
 by_cases h1 : a1 = b1 <;> by_cases h2 : a2 = b2 <;> simp [h1, h2]
def refOk (x : Ref1) : Bool := rightM x.1 && decide (0 ≤ x.2.1 ∧ x.2.1 ≤ 15)
def refsAt (l : List Ref1) (i : Nat) : Bool :=
 match l[i]? with
 | some x => refOk x && (decide (i = 0) || match l[i - 1]? with
   | some y => decide (cmpR y x = -1)
   | none => false)
 | none => false
open Classical in
noncomputable def refsM (l : List Ref1) : Bool := if (∀ i, i < l.length → refsAt l i = true) then true else false
theorem refRefs_t {l : List Ref1} (hl : l.length < 1000000) : zb5 l = some (refsM l) := by
 have := loop_allI (f := zb5_l2 l) l.length (fun i => ((i : Int), ())) (refsAt l) true false (fun i h => by
   unfold zb5_l2 refsAt refOk
   rw [zg h]
   simp only [cond_dec]
   rw [zp (by omega), atI_lt h]
   simp only [zb, refRight_t]
   by_cases h0 : rightM l[i].1 = true
   · simp only [h0, Bool.not_true, cond_false, Bool.true_and]
     by_cases h1 : l[i].2.1 < 0
     · rw [zp h1, zf (by omega)]; rfl
     rw [zn h1]
     by_cases h2 : l[i].2.1 > 15
     · rw [zp h2, zf (by omega)]; rfl
     rw [zn h2, zt (by omega), Bool.true_and]
     by_cases h3 : i = 0
     · subst h3
       rw [zn (by omega), wrap64 (by omega) (by omega)]; rfl
     · rw [zp (by omega), wrap64 (by omega) (by omega), show (i : Int) - 1 = ((i - 1 : Nat) : Int) by omega, atI_lt (by omega), zg (show i - 1 < l.length by omega)]
       simp only [zb, refRef_t, cond_ndec]
       by_cases h4 : cmpR l[i - 1] l[i] = -1
       · rw [zp h4, wrap64 (by omega) (by omega)]; simp [h3, h4]
       · rw [zn h4]; simp [h3, h4]
   · have h0 : rightM l[i].1 = false := by simpa using h0
     simp only [h0, Bool.not_false, cond_true, Bool.false_and]; rfl) (by
   unfold zb5_l2
   simp only [cond_dec]
   rw [zn (by omega)])
 unfold zb5 refsM
 rw [show ((0 : Int), ()) = (((0 : Nat) : Int), ()) from rfl, this]
def zeroV : Val := (0, 0, [], ())
noncomputable def opM (o : Op1) : Int :=
 if o.1 < 1 ∨ 5 < o.1 then 18 else if checkM o.2.1 ≠ 0 then checkM o.2.1
 else if (o.1 = 3 ∨ o.1 = 5) ∧ o.2.2.1 ≠ zeroV then 2
 else if ¬ (o.1 = 3 ∨ o.1 = 5) ∧ rightV o.2.2.1 = false then 2
 else if o.1 ≠ 3 ∧ o.2.2.2.1 ≠ 0 then 2
 else if o.1 = 3 ∧ (o.2.2.2.1 = 0 ∨ o.2.2.2.1 > 2147483647 ∨ o.2.2.2.1 < -2147483647) then 2
 else if (o.1 = 2 ∨ o.1 = 3) ∧ 0 < o.2.2.2.2.1.length then 2
 else if 256 < o.2.2.2.2.1.length then 7
 else if refsM o.2.2.2.2.1 = true then 0 else 2
def shortO (o : Op1) : Prop := o.2.1.length ≤ 12 ∧ (∀ x ∈ o.2.1, x.length ≤ 120) ∧ o.2.2.1.2.2.1.length ≤ 200 ∧ o.2.2.2.2.1.length ≤ 300
theorem refOp_t {o : Op1} (h : shortO o) : zbh o = some (opM o) := by
 obtain ⟨s1, s2, s3, s4⟩ := h
 obtain ⟨k, p, v, n, sn, ⟨⟩⟩ := o
 simp only at s1 s2 s3 s4
 unfold zbh opM
 simp only [cond_dec, cond_ndec, eqVal, refCheck_t (p := p) (fun x hx => by have := s2 x hx; omega), refRight9_t (v := v) (by omega), refRefs_t (l := sn) (by omega), zb]
 have ez : ((0, 0, [], ()) : Val) = zeroV := rfl
 simp only [ez]
 by_cases a1 : k < 1
 · rw [zp a1, zp (.inl a1)]
 rw [zn a1]
 by_cases a2 : k > 5
 · rw [zp a2, zp (.inr a2)]
 rw [zn a2]
 rw [zn (show ¬ (k < 1 ∨ 5 < k) by omega)]
 by_cases a3 : ¬ checkM p = 0
 · rw [zn a3, zp (show checkM p ≠ 0 from a3)]
 have a3 : checkM p = 0 := Classical.not_not.1 a3
 rw [zp a3, zn (show ¬ checkM p ≠ 0 from fun e => e a3)]
 have hlen : ((sn.length : Int) > 0) ↔ 0 < sn.length := by omega
 have hlen2 : ((sn.length : Int) > 256) ↔ 256 < sn.length := by omega
 simp only [hlen, hlen2]
 have last : (cond (!refsM sn) (some (2 : Int)) (some 0)) = some (if refsM sn = true then 0 else 2) := by cases refsM sn <;> rfl
 by_cases k3 : k = 3
 · subst k3
   by_cases hz : v = zeroV
   · by_cases n0 : n = 0
     · simp [hz, n0]
     · by_cases n1 : n > 2147483647
       · simp [hz, n0, n1]
       · by_cases n2 : n < -2147483647
         · simp [hz, n0, n1, n2]
         · by_cases l0 : 0 < sn.length
           · simp [hz, n0, n1, n2, l0]
           · by_cases l2 : 256 < sn.length
             · omega
             · simp [hz, n0, n1, n2, l0, l2, last]
   · simp [hz]
 · by_cases k5 : k = 5
   · subst k5
     by_cases hz : v = zeroV
     · by_cases n0 : n = 0
       · by_cases l2 : 256 < sn.length
         · simp [hz, n0, l2]
         · simp [hz, n0, l2, last]
       · simp [hz, n0]
     · simp [hz]
   · cases hr : rightV v with
     | false => simp [k3, k5, hr]
     | true =>
       by_cases n0 : n = 0
       · by_cases k2 : k = 2
         · subst k2
           by_cases l0 : 0 < sn.length
           · simp [n0, l0]
           · by_cases l2 : 256 < sn.length
             · omega
             · simp [n0, l0, l2, last]
         · by_cases l2 : 256 < sn.length
           · simp [k2, k3, k5, n0, l2]
           · simp [k2, k3, k5, n0, l2, last]
       · simp [k3, k5, n0]
def goneM (o : Op1) : Bool := decide (o.1 = 0 ∧ o.2.1 = [] ∧ o.2.2.1 = zeroV ∧ o.2.2.2.1 = 0 ∧ o.2.2.2.2.1 = [])
theorem gone_t (o : Op1) : zch o = some (goneM o) := by
 obtain ⟨k, p, v, n, sn, ⟨⟩⟩ := o
 unfold zch goneM
 simp only [cond_dec, eqVal]
 have ez : ((0, 0, [], ()) : Val) = zeroV := rfl
 simp only [ez]
 have e1 : ((p.length : Int) = 0) ↔ p = [] := by rw [show ((p.length : Int) = 0) ↔ p.length = 0 by omega, List.length_eq_zero_iff]
 have e2 : ((sn.length : Int) = 0) ↔ sn = [] := by rw [show ((sn.length : Int) = 0) ↔ sn.length = 0 by omega, List.length_eq_zero_iff]
 simp only [e1, e2]
 by_cases h1 : k = 0 <;> by_cases h2 : p = [] <;> by_cases h3 : v = zeroV <;> by_cases h4 : n = 0 <;> by_cases h5 : sn = [] <;> simp [h1, h2, h3, h4, h5]
def shortB (o : Op1) : Bool := decide (o.2.1.length ≤ 12) && (o.2.1.all fun x => decide (x.length ≤ 120)) && decide (o.2.2.1.2.2.1.length ≤ 200) && decide (o.2.2.2.2.1.length ≤ 300)
theorem shortOp_t (o : Op1) : zbp o = some (shortB o) := by
 unfold zbp shortB
 simp only [shortP_t, zb, cond_dec]
 cases (decide (o.2.1.length ≤ 12) && o.2.1.all fun x => decide (x.length ≤ 120)) with
 | false => rfl
 | true =>
   rw [cond_true, Bool.true_and]
   by_cases h3 : ((o.2.2.1.2.2.1.length : Int) ≤ 200)
   · rw [zp h3, zt (show o.2.2.1.2.2.1.length ≤ 200 by omega), Bool.true_and]
     congr 1
     by_cases h4 : ((o.2.2.2.2.1.length : Int) ≤ 300)
     · rw [zt h4, zt (by omega)]
     · rw [zf h4, zf (by omega)]
   · rw [zn h3, zf (show ¬ o.2.2.1.2.2.1.length ≤ 200 by omega)]; rfl
theorem shortB_iff {o : Op1} : shortB o = true ↔ shortO o := by
 unfold shortB shortO
 simp only [Bool.and_eq_true, decide_eq_true_eq, List.all_eq_true]
 exact ⟨fun h => ⟨h.1.1.1, h.1.1.2, h.1.2, h.2⟩, fun h => ⟨⟨⟨h.1, h.2.1⟩, h.2.2.1⟩, h.2.2.2⟩⟩
noncomputable def shortT (t : Txn1) : Bool := decide (t.2.2.2.2.1.length ≤ 20) && t.2.2.2.2.1.all shortB
theorem shortTxn_t (t : Txn1) : zbl t = some (shortT t) := by
 unfold zbl shortT
 simp only [cond_dec]
 by_cases h1 : (t.2.2.2.2.1.length : Int) > 20
 · rw [zp h1, zf (by omega)]; rfl
 rw [zn h1, zt (by omega), Bool.true_and]
 have := loop_all (f := zbl_l4 t) (l := t.2.2.2.2.1) (fun i => ((i : Int), ())) shortB true false (fun i h => by
   unfold zbl_l4
   simp only [cond_dec]
   rw [zp (by omega), atI_lt h]
   simp only [zb, shortOp_t]
   by_cases hs : shortB t.2.2.2.2.1[i] = true
   · rw [hs, Bool.not_true, cond_false, zp rfl, wrap64 (by omega) (by omega)]; rfl
   · rw [zn hs, eq_false_of_ne_true hs]; rfl) (by
   unfold zbl_l4
   simp only [cond_dec]
   rw [zn (by omega)])
 rw [ite_bool] at this
 exact this
noncomputable def opsM (thin : Bool) : List Op1 → Int
 | [] => 0
 | o :: l => if opM o ≠ 0 ∧ ¬ (thin = true ∧ goneM o = true) then opM o else opsM thin l
noncomputable def txnM (t : Txn1) : Int :=
 if rightM t.1 = false ∨ t.2.1 < 0 ∨ 7 < t.2.1 ∨ t.2.2.1 < 1 ∨ 1099511627776 < t.2.2.1 then 2
 else if t.2.2.2.2.1.length = 0 then 11 else if 16 < t.2.2.2.2.1.length then 7 else opsM t.2.2.2.1 t.2.2.2.2.1
theorem opsM_fold {thin : Bool} : ∀ (l : List Op1) (i : Nat), foldE (S := Unit) (fun _ o _ => if opM o ≠ 0 ∧ ¬ (thin = true ∧ goneM o = true) then .inr (opM o) else .inl ()) (fun _ => (0 : Int)) i l () = opsM thin l
 | [], _ => rfl
 | o :: l, i => by
   unfold foldE opsM
   by_cases h : opM o ≠ 0 ∧ ¬ (thin = true ∧ goneM o = true)
   · rw [zp h, zp h]
   · rw [zn h, zn h]; exact opsM_fold l (i + 1)
theorem txnCheck_t {t : Txn1} (h : shortT t = true) : zb2 t = some (txnM t) := by
 unfold shortT at h
 simp only [Bool.and_eq_true, decide_eq_true_eq, List.all_eq_true] at h
 obtain ⟨h1, h2⟩ := h
 have loop := loop_list (S := Unit) (R := Int) (f := zb2_l8 t) (l := t.2.2.2.2.1) (fun i _ => ((i : Int), ())) (fun _ o _ => if opM o ≠ 0 ∧ ¬ (t.2.2.2.1 = true ∧ goneM o = true) then .inr (opM o) else .inl ()) (fun _ => (0 : Int)) (fun _ _ => True) (fun i h s _ => by
   have turn : zb2_l8 t ((i : Int), ()) = if opM t.2.2.2.2.1[i] ≠ 0 ∧ ¬ (t.2.2.2.1 = true ∧ goneM t.2.2.2.2.1[i] = true) then some (.inr (opM t.2.2.2.2.1[i])) else some (.inl (((i + 1 : Nat) : Int), ())) := by
     unfold zb2_l8
     simp only [cond_dec, cond_ndec]
     rw [zp (by omega), atI_lt h]
     simp only [zb, refOp_t (shortB_iff.1 (h2 _ (zm h))), gone_t]
     rw [wrap64 (by omega) (by omega), show (i : Int) + 1 = ((i + 1 : Nat) : Int) by omega]
     by_cases a : opM t.2.2.2.2.1[i] = 0
     · rw [zp a, zn (fun e => e.1 a)]
     · rw [zn a]
       cases ht : t.2.2.2.1 with
       | false => rw [cond_false, zp ⟨a, by simp⟩]
       | true =>
         rw [cond_true]
         by_cases hg : goneM t.2.2.2.2.1[i] = true
         · rw [hg, Bool.not_true, cond_false, zn (by simp)]
         · rw [eq_false_of_ne_true hg, Bool.not_false, cond_true, zp ⟨a, by simp⟩]
   by_cases hc : opM t.2.2.2.2.1[i] ≠ 0 ∧ ¬ (t.2.2.2.1 = true ∧ goneM t.2.2.2.2.1[i] = true)
   · exact .inr ⟨_, by rw [zp hc], by rw [turn, zp hc]⟩
   · exact .inl ⟨(), by rw [zn hc], by rw [turn, zn hc], trivial⟩) (fun s _ => by
   unfold zb2_l8
   simp only [cond_dec]
   rw [zn (by omega)]) () trivial
 rw [opsM_fold] at loop
 rw [show (((0 : Nat) : Int), ()) = ((0 : Int), ()) from rfl] at loop
 unfold zb2 txnM
 simp only [cond_dec, refRight_t, zb]
 by_cases a1 : rightM t.1 = true
 · rw [a1, Bool.not_true, cond_false]
   simp only [zb]
   by_cases a2 : t.2.1 < 0
   · rw [zt a2, cond_true, zp (.inr (.inl a2))]
   rw [zf a2, cond_false]
   by_cases a3 : t.2.1 > 7
   · rw [zp a3, zp (.inr (.inr (.inl a3)))]
   rw [zn a3]
   by_cases a4 : t.2.2.1 < 1
   · rw [zp a4, zp (.inr (.inr (.inr (.inl a4))))]
   rw [zn a4]
   by_cases a5 : t.2.2.1 > 1099511627776
   · rw [zp a5, zp (.inr (.inr (.inr (.inr a5))))]
   have nn : ¬ (true = false ∨ t.2.1 < 0 ∨ 7 < t.2.1 ∨ t.2.2.1 < 1 ∨ 1099511627776 < t.2.2.1) := by
     rintro (h | h | h | h | h)
     · cases h
     · exact a2 h
     · exact a3 h
     · exact a4 h
     · exact a5 h
   rw [zn a5, zn nn]
   by_cases a6 : t.2.2.2.2.1.length = 0
   · rw [zp (show (t.2.2.2.2.1.length : Int) = 0 by omega), zp a6]
   rw [zn (show ¬ (t.2.2.2.2.1.length : Int) = 0 by omega), zn a6]
   by_cases a7 : 16 < t.2.2.2.2.1.length
   · rw [zp (show (t.2.2.2.2.1.length : Int) > 16 by omega), zp a7]
   rw [zn (show ¬ (t.2.2.2.2.1.length : Int) > 16 by omega), zn a7]
   exact loop
 · have a1 : rightM t.1 = false := by simpa using a1
   rw [zp (show rightM t.1 = false ∨ t.2.1 < 0 ∨ 7 < t.2.1 ∨ t.2.2.1 < 1 ∨ 1099511627776 < t.2.2.1 from .inl a1), a1]
   rfl
noncomputable def risesB {A : Type} (key : A → Dot1) (l : List A) (i : Nat) : Bool := match l[i]?, l[i + 1]? with
 | some x, some y => decide (cmpD (key x) (key y) = -1)
 | _, _ => true
theorem risesB_law {A : Type} {key : A → Dot1} {l : List A} (h : ∀ i, i < l.length - 1 → risesB key l i = true) : Rises cmpD key l := by
 refine rises_adj cd_cmp fun i hi => ?_
 have := h i (by omega)
 unfold risesB at this
 rw [zg hi, zg (show i < l.length by omega)] at this
 simp only [decide_eq_true_eq] at this
 omega
open Classical in
theorem rises12_t {l : List Txn1} (hl : l.length < 1000000) : zbz l = some (if (∀ i, i < l.length - 1 → risesB (·.1) l i = true) then true else false) := by
 have := loop_allI (f := zbz_l2 l) (l.length - 1) (fun i => (((i + 1 : Nat) : Int), ())) (risesB (·.1) l) true false (fun i h => by
   unfold zbz_l2 risesB
   rw [zg (show i < l.length by omega), zg (show i + 1 < l.length by omega)]
   simp only [cond_dec, cond_ndec]
   rw [zp (by omega), wrap64 (by omega) (by omega), show ((i + 1 : Nat) : Int) - 1 = (i : Int) by omega, atI_lt (show i < l.length by omega), atI_lt (show i + 1 < l.length by omega)]
   simp only [zb, refDot_t, decide_eq_true_eq]
   rw [wrap64 (by omega) (by omega)]
   by_cases h4 : cmpD l[i].1 l[i + 1].1 = -1
   · rw [zp h4, zp h4]; rfl
   · rw [zn h4, zn h4]) (by
   unfold zbz_l2
   simp only [cond_dec]
   rw [zn (by omega)])
 exact this
def oneM (x : Ref1) : Bool := rightM x.1 && decide (1 ≤ x.2.1 ∧ x.2.1 ≤ 64)
theorem one_t (x : Ref1) : zct x = some (oneM x) := by
 unfold zct oneM
 simp only [refRight_t, zb, cond_dec]
 cases rightM x.1 with
 | false => rfl
 | true =>
   rw [cond_true, Bool.true_and]
   by_cases h1 : x.2.1 ≥ 1 <;> by_cases h2 : x.2.1 ≤ 64 <;> simp [h1, h2] <;> omega
def countAt (l : List Ref1) (i : Nat) : Bool := match l[i]? with
 | some x => oneM x && (decide (i = 0) || match l[i - 1]? with
   | some y => decide (cmpD y.1 x.1 = -1)
   | none => false)
 | none => false
open Classical in
theorem right8_t {l : List Ref1} (hl : l.length < 1000000) : zbw l = some (if (∀ i, i < l.length → countAt l i = true) then true else false) := by
 have := loop_allI (f := zbw_l2 l) l.length (fun i => ((i : Int), ())) (countAt l) true false (fun i h => by
   unfold zbw_l2 countAt
   rw [zg h]
   simp only [cond_dec]
   rw [zp (by omega), atI_lt h]
   simp only [zb, one_t]
   by_cases h0 : oneM l[i] = true
   · simp only [h0, Bool.not_true, cond_false, Bool.true_and]
     by_cases h3 : i = 0
     · subst h3
       rw [zn (by omega), wrap64 (by omega) (by omega)]; rfl
     · rw [zp (by omega), wrap64 (by omega) (by omega), show (i : Int) - 1 = ((i - 1 : Nat) : Int) by omega, atI_lt (by omega), zg (show i - 1 < l.length by omega)]
       simp only [zb, refDot_t, cond_ndec]
       by_cases h4 : cmpD l[i - 1].1 l[i].1 = -1
       · rw [zp h4, wrap64 (by omega) (by omega)]; simp [h3, h4]
       · rw [zn h4]; simp [h3, h4]
   · have h0 : oneM l[i] = false := by simpa using h0
     simp only [h0, Bool.not_false, cond_true, Bool.false_and]; rfl) (by
   unfold zbw_l2
   simp only [cond_dec]
   rw [zn (by omega)])
 exact this
abbrev riseU (u : List Ref1) : Prop := Rises cmpD (·.1) u
structure CountsOk (u : List Ref1) : Prop where
 len : u.length ≤ 100
 rise : riseU u
 one : ∀ x ∈ u, oneM x = true
theorem counts_of {l : List Ref1} (hl : l.length ≤ 100) (h : ∀ i, i < l.length → countAt l i = true) : CountsOk l where
 len := hl
 rise := rises_adj cd_cmp fun i hi => by
   have := h (i + 1) hi
   unfold countAt at this
   rw [zg hi, Nat.add_sub_cancel, zg (show i < l.length by omega)] at this
   simp only [Bool.and_eq_true, Bool.or_eq_true, decide_eq_true_eq] at this
   omega
 one x hx := by
   obtain ⟨i, hi, rfl⟩ := List.mem_iff_getElem.1 hx
   have := h i hi
   unfold countAt at this
   rw [zg hi] at this
   simp only [Bool.and_eq_true] at this
   exact this.1
structure TxnOk (t : Txn1) : Prop where
 len : t.2.2.2.2.1.length ≤ 16
 pos : 0 < t.2.2.2.2.1.length
 ops : ∀ o ∈ t.2.2.2.2.1, shortO o ∧ (opM o = 0 ∨ t.2.2.2.1 = true ∧ goneM o = true)
 dot : rightM t.1 = true
 user : 0 ≤ t.2.1 ∧ t.2.1 ≤ 7
 time : 1 ≤ t.2.2.1 ∧ t.2.2.1 ≤ 1099511627776
theorem opsM_mem {thin : Bool} : ∀ {l : List Op1}, opsM thin l = 0 → ∀ o ∈ l, opM o = 0 ∨ thin = true ∧ goneM o = true
 | [], _, o, h => by cases h
 | p :: l, h, o, ho => by
   unfold opsM at h
   by_cases hc : opM p ≠ 0 ∧ ¬ (thin = true ∧ goneM p = true)
   · rw [zp hc] at h; exact absurd h hc.1
   · rw [zn hc] at h
     rcases List.mem_cons.1 ho with e | ho
     · subst e
       by_cases h1 : opM o = 0
       · exact .inl h1
       · exact .inr (Classical.not_not.1 fun h2 => hc ⟨h1, h2⟩)
     · exact opsM_mem h o ho
theorem txn_of {t : Txn1} (h1 : shortT t = true) (h2 : txnM t = 0) : TxnOk t := by
 unfold shortT at h1
 simp only [Bool.and_eq_true, decide_eq_true_eq, List.all_eq_true] at h1
 unfold txnM at h2
 by_cases a : rightM t.1 = false ∨ t.2.1 < 0 ∨ 7 < t.2.1 ∨ t.2.2.1 < 1 ∨ 1099511627776 < t.2.2.1
 · rw [zp a] at h2; omega
 rw [zn a] at h2
 by_cases b : t.2.2.2.2.1.length = 0
 · rw [zp b] at h2; omega
 rw [zn b] at h2
 by_cases c : 16 < t.2.2.2.2.1.length
 · rw [zp c] at h2; omega
 rw [zn c] at h2
 refine ⟨by omega, by omega, fun o ho => ⟨shortB_iff.1 (h1.2 o ho), opsM_mem h2 o ho⟩, ?_, ?_, ?_⟩
 · cases hr : rightM t.1 with
   | true => rfl
   | false => exact absurd (.inl hr) a
 · constructor
   · exact Int.not_lt.1 fun h => a (.inr (.inl h))
   · exact Int.not_lt.1 fun h => a (.inr (.inr (.inl h)))
 · constructor
   · exact Int.not_lt.1 fun h => a (.inr (.inr (.inr (.inl h))))
   · exact Int.not_lt.1 fun h => a (.inr (.inr (.inr (.inr h))))
abbrev riseT (l : List Txn1) : Prop := Rises cmpD (·.1) l
structure TxnsOk (l : List Txn1) (n : Nat) : Prop where
 len : l.length ≤ n
 rise : riseT l
 all : ∀ t ∈ l, TxnOk t
open Classical in
theorem txnsGood_t {l : List Txn1} {n : Nat} (hn : n < 1000000) : ∃ b, zcn l (n : Int) = some b ∧ (b = true → TxnsOk l n) := by
 unfold zcn
 simp only [cond_dec]
 by_cases h1 : (l.length : Int) > (n : Int)
 · exact ⟨false, by rw [zp h1], fun h => by cases h⟩
 rw [zn h1, rises12_t (by omega)]
 simp only [zb]
 by_cases h2 : ∀ i, i < l.length - 1 → risesB (·.1) l i = true
 · rw [zp h2, Bool.not_true, cond_false]
   have := loop_all (f := zcn_l4 l) (l := l) (fun i => ((i : Int), ())) (fun t => shortT t && decide (txnM t = 0)) true false (fun i h => by
     unfold zcn_l4
     simp only [cond_dec]
     rw [zp (by omega), atI_lt h]
     simp only [zb, shortTxn_t]
     by_cases hs : shortT l[i] = true
     · simp only [hs, Bool.not_true, cond_false, txnCheck_t hs, zb, Bool.true_and, cond_ndec, decide_eq_true_eq]
       by_cases hz : txnM l[i] = 0
       · rw [zp hz, zp hz, wrap64 (by omega) (by omega)]; rfl
       · rw [zn hz, zn hz]
     · have hs : shortT l[i] = false := by simpa using hs
       simp only [hs, Bool.not_false, cond_true, Bool.false_and]; rfl) (by
     unfold zcn_l4
     simp only [cond_dec]
     rw [zn (by omega)])
   rw [ite_bool] at this
   refine ⟨_, this, fun h => ⟨by omega, risesB_law h2, fun t ht => ?_⟩⟩
   have := List.all_eq_true.1 h t ht
   simp only [Bool.and_eq_true, decide_eq_true_eq] at this
   exact txn_of this.1 this.2
 · rw [zn h2]
   exact ⟨false, rfl, fun h => by cases h⟩
theorem countsGood_t (u : List Ref1) : ∃ b, zcm u = some b ∧ (b = true → CountsOk u) := by
 unfold zcm
 simp only [cond_dec]
 by_cases h1 : (u.length : Int) ≤ 100
 · rw [zp h1, right8_t (by omega)]
   simp only [zb]
   refine ⟨_, rfl, fun h => counts_of (by omega) ?_⟩
   by_cases h2 : ∀ i, i < u.length → countAt u i = true
   · exact h2
   · rw [zn h2] at h; cases h
 · exact ⟨false, by rw [zn h1], fun h => by cases h⟩
theorem good13_t (l : List Txn1) (u : List Ref1) : ∃ b, zb3 l u = some b ∧ (b = true → TxnsOk l 20 ∧ CountsOk u) := by
 unfold zb3
 obtain ⟨b, h1, h2⟩ := txnsGood_t (l := l) (n := 20) (by omega)
 rw [show ((20 : Nat) : Int) = 20 from rfl] at h1
 rw [h1]
 simp only [zb]
 cases b with
 | false => exact ⟨false, rfl, fun h => by cases h⟩
 | true =>
   obtain ⟨c, h3, h4⟩ := countsGood_t u
   rw [cond_true, h3]
   exact ⟨c, rfl, fun h => ⟨h2 rfl, h4 h⟩⟩
def getM (u : List Ref1) (d : Dot1) : Int := match u with
 | [] => 0
 | x :: u => if x.1 = d then x.2.1 else getM u d
abbrev loU (d : Dot1) (u : List Ref1) : List Ref1 := lo cmpD (·.1) d u
abbrev hiU (d : Dot1) (u : List Ref1) : List Ref1 := hi cmpD (·.1) d u
theorem getM_none {d : Dot1} : ∀ {u : List Ref1}, (∀ x ∈ u, x.1 ≠ d) → getM u d = 0
 | [], _ => rfl
 | x :: u, h => by
   unfold getM
   rw [zn (h x (List.mem_cons_self ..))]
   exact getM_none fun y hy => h y (List.mem_cons_of_mem _ hy)
theorem getM_app {d : Dot1} : ∀ {p q : List Ref1}, (∀ x ∈ p, x.1 ≠ d) → getM (p ++ q) d = getM q d
 | [], _, _ => rfl
 | x :: p, q, h => by
   rw [List.cons_append]
   conv => lhs; unfold getM
   rw [zn (h x (List.mem_cons_self ..))]
   exact getM_app fun y hy => h y (List.mem_cons_of_mem _ hy)
theorem tallyC_t (a b : Ref1) : za1 a b = some (cmpD a.1 b.1) := by
 unfold za1
 rw [dotC_t]; rfl
theorem tsearch_loop {u : List Ref1} {d : Ref1} (hl : u.length < 1000000) (hr : riseU u) : ∀ (k i j : Nat), j - i ≤ k → i ≤ (loU d.1 u).length → (loU d.1 u).length ≤ j → j ≤ u.length →
   loopT (zab_l3 u d) ((i : Int), (j : Int), ()) = some (.inl (((loU d.1 u).length : Int), ())) := by
 intro k
 induction k with
 | zero =>
   intro i j hk h1 h2 h3
   refine loopT_inr ?_
   unfold zab_l3
   simp only [cond_dec]
   rw [zn (by omega), show (loU d.1 u).length = i by omega]
 | succ k ih =>
   intro i j hk h1 h2 h3
   by_cases hij : i < j
   · have hh : (i + j) / 2 < u.length := by omega
     have turn : zab_l3 u d ((i : Int), (j : Int), ()) = if cmpD u[(i + j) / 2].1 d.1 < 0 then some (.inl ((((i + j) / 2 + 1 : Nat) : Int), (j : Int), ())) else some (.inl ((i : Int), (((i + j) / 2 : Nat) : Int), ())) := by
       unfold zab_l3
       simp only [cond_dec]
       rw [zp (by omega), show (i : Int) + (j : Int) = ((i + j : Nat) : Int) by omega, half_t (by omega)]
       simp only [zb]
       rw [wrap64 (n := (((i + j) / 2 : Nat) : Int)) (by omega) (by omega), atI_lt hh]
       simp only [zb, tallyC_t]
       rw [wrap64 (by omega) (by omega)]; rfl
     by_cases hn : (i + j) / 2 < (loU d.1 u).length
     · rw [zp (at_lo hh hn)] at turn
       rw [loopT_inl turn]
       exact ih _ _ (by omega) (by omega) h2 h3
     · have := at_hi cd_cmp hr hh (k := d.1) (Nat.le_of_not_lt hn)
       rw [zn (by omega)] at turn
       rw [loopT_inl turn]
       exact ih _ _ (by omega) h1 (by omega) (by omega)
   · refine loopT_inr ?_
     unfold zab_l3
     simp only [cond_dec]
     rw [zn (by omega), show (loU d.1 u).length = i by omega]
theorem cmpD_ne {a b : Dot1} (h : cmpD a b ≠ 0) : a ≠ b := fun e => h ((cd_cmp.zero _ _).2 e)
def hereU (q : List Ref1) (d : Dot1) : Bool := match q with
 | [] => false
 | x :: _ => decide (cmpD x.1 d = 0)
theorem tsearch_t {u : List Ref1} {d : Ref1} (hl : u.length < 1000000) (hr : riseU u) :
   zab u d () = some (((loU d.1 u).length : Int), hereU (hiU d.1 u) d.1, ()) := by
 have e2 : loU d.1 u ++ hiU d.1 u = u := lohi
 have hlen : (loU d.1 u).length + (hiU d.1 u).length = u.length := by rw [← List.length_append, e2]
 unfold zab
 have := tsearch_loop (d := d) hl hr u.length 0 u.length (by omega) (by omega) (by omega) (by omega)
 rw [show ((0 : Int), (u.length : Int), ()) = (((0 : Nat) : Int), (u.length : Int), ()) from rfl, this, bind_join_inl]
 simp only [cond_dec]
 cases hq : hiU d.1 u with
 | nil =>
   rw [hq] at hlen
   simp only [List.length_nil] at hlen
   rw [zn (by omega)]; rfl
 | cons x q =>
   rw [hq] at hlen e2
   simp only [zl] at hlen
   rw [zp (by omega), atI_nat]
   have e3 : u[(loU d.1 u).length]? = some x := by
     have : (loU d.1 u ++ x :: q)[(loU d.1 u).length]? = some x := by simp
     rw [e2] at this
     exact this
   rw [e3]
   simp only [zb, tallyC_t]
   rfl
theorem lo_neU {u : List Ref1} {d : Dot1} {x : Ref1} (hx : x ∈ loU d u) : x.1 ≠ d := by
 have h := lo_below (c := cmpD) (key := fun y : Ref1 => y.1) (k := d) (l := u) x hx
 exact cmpD_ne (fun e => by rw [e] at h; omega)
theorem tallyGet_t {u : List Ref1} {d : Dot1} (hl : u.length < 1000000) (hr : riseU u) : zcw u d = some (getM u d) := by
 have e2 : loU d u ++ hiU d u = u := lohi
 have hlo : ∀ x ∈ loU d u, x.1 ≠ d := fun x hx => lo_neU hx
 unfold zcw zc0
 rw [tsearch_t (d := (d, 0, ())) hl hr]
 simp only [zb]
 have hg : getM u d = getM (hiU d u) d := by
   conv => lhs; rw [← e2]
   exact getM_app hlo
 rw [hg]
 cases hq : hiU d u with
 | nil => rfl
 | cons x q =>
   have hab := hi_above cd_cmp hr hq
   unfold hereU
   simp only [cond_dec]
   by_cases h0 : cmpD x.1 d = 0
   · rw [zp h0, atI_nat]
     have e3 : u[(loU d u).length]? = some x := by
       have : (loU d u ++ x :: q)[(loU d u).length]? = some x := by simp
       rw [← hq, e2] at this
       exact this
     rw [e3]
     simp only [zb]
     unfold getM
     rw [zp ((cd_cmp.zero _ _).1 h0)]
   · rw [zn h0, getM_none]
     intro y hy
     rcases List.mem_cons.1 hy with e | hy
     · subst e; exact cmpD_ne h0
     · exact cmpD_ne (by have := hab.2 y hy; omega)
theorem refGet_t {u : List Ref1} {d : Dot1} (hl : u.length < 1000000) : zcr u d = some (getM u d) := by
 have := loop_list (S := Unit) (R := Int) (f := zcr_l2 u d) (l := u) (fun i _ => ((i : Int), ())) (fun _ x _ => if x.1 = d then .inr x.2.1 else .inl ()) (fun _ => (0 : Int)) (fun _ _ => True) (fun i h s _ => by
   have turn : zcr_l2 u d ((i : Int), ()) = if u[i].1 = d then some (.inr u[i].2.1) else some (.inl (((i + 1 : Nat) : Int), ())) := by
     unfold zcr_l2
     simp only [cond_dec, eqDot]
     rw [zp (by omega), atI_lt h]
     simp only [zb]
     rw [wrap64 (by omega) (by omega)]; rfl
   by_cases hc : u[i].1 = d
   · exact .inr ⟨_, by rw [zp hc], by rw [turn, zp hc]⟩
   · exact .inl ⟨(), by rw [zn hc], by rw [turn, zn hc], trivial⟩) (fun s _ => by
   unfold zcr_l2
   simp only [cond_dec]
   rw [zn (by omega)]) () trivial
 have gen : ∀ (l : List Ref1) (i : Nat), foldE (S := Unit) (R := Int) (fun _ x _ => if x.1 = d then .inr x.2.1 else .inl ()) (fun _ => (0 : Int)) i l () = getM l d := by
   intro l
   induction l with
   | nil => intro i; rfl
   | cons x l ih =>
     intro i
     unfold foldE getM
     by_cases hc : x.1 = d
     · rw [zp hc, zp hc]
     · rw [zn hc, zn hc]; exact ih (i + 1)
 rw [gen] at this
 exact this
def seenM (u : List Ref1) (d : Dot1) : Bool := match remT (getM u d) 2 with
 | some x => decide (x = 0)
 | none => false
theorem rem2 (a : Int) : ∃ x, remT a 2 = some x := ⟨_, by unfold remT; rw [zn (by omega)]⟩
theorem tallySeen_t {u : List Ref1} {d : Dot1} (hl : u.length < 1000000) (hr : riseU u) : zcl u d = some (seenM u d) := by
 unfold zcl seenM
 rw [tallyGet_t hl hr]
 obtain ⟨x, hx⟩ := rem2 (getM u d)
 simp only [zb, hx]
theorem refSeen_t {u : List Ref1} {d : Dot1} (hl : u.length < 1000000) : zca u d = some (seenM u d) := by
 unfold zca seenM
 rw [refGet_t hl]
 obtain ⟨x, hx⟩ := rem2 (getM u d)
 simp only [zb, hx]
theorem find_put {x y : Ref1} {v : Bool} : ∀ {m : List (Ref1 × Bool)}, findK tyRef x (putK tyRef y v m) = if x = y then some v else findK tyRef x m
 | [] => by
   unfold putK findK
   rw [eqRef, cond_dec]
   unfold findK
   rfl
 | e :: m => by
   unfold putK
   rw [eqRef]
   by_cases hy : y = e.1
   · rw [zt hy, cond_true]
     conv => lhs; unfold findK
     conv => rhs; rhs; unfold findK
     rw [eqRef, eqRef, cond_dec, cond_dec, ← hy]
     by_cases hx : x = y
     · rw [zp hx, zp hx]
     · rw [zn hx, zn hx, zn hx]
   · rw [zf hy, cond_false]
     conv => lhs; unfold findK
     conv => rhs; rhs; unfold findK
     rw [eqRef, cond_dec, cond_dec, find_put]
     by_cases hx : x = e.1
     · rw [zp hx, zn (fun e' => hy (by rw [← e', hx])), zp hx]
     · rw [zn hx, zn hx]
def hasK (x : Ref1) (m : List (Ref1 × Bool)) : Bool := (getK tyRef false x m).1
theorem has_put {x y : Ref1} {m : List (Ref1 × Bool)} : hasK x (putK tyRef y true m) = (decide (x = y) || hasK x m) := by
 unfold hasK getK
 rw [find_put]
 by_cases h : x = y
 · rw [zp h, zt h]; rfl
 · rw [zn h, zf h, Bool.false_or]
def putAll (m : List (Ref1 × Bool)) (l : List Ref1) : List (Ref1 × Bool) := l.foldl (fun m x => putK tyRef x true m) m
theorem has_all {x : Ref1} : ∀ {l : List Ref1} {m : List (Ref1 × Bool)}, hasK x (putAll m l) = (l.any (fun y => decide (x = y)) || hasK x m)
 | [], m => rfl
 | y :: l, m => by
   have := has_all (x := x) (l := l) (m := putK tyRef y true m)
   unfold putAll at this ⊢
   rw [List.foldl_cons, this, has_put, List.any_cons]
   cases decide (x = y) <;> cases l.any (fun y => decide (x = y)) <;> rfl
def coverO (o : Op1) (x : Ref1) : Bool := o.2.2.2.2.1.any fun y => decide (x = y)
def covT (m : List (Ref1 × Bool)) (l : List Op1) : List (Ref1 × Bool) := l.foldl (fun m o => putAll m o.2.2.2.2.1) m
theorem has_covT {x : Ref1} : ∀ {l : List Op1} {m : List (Ref1 × Bool)}, hasK x (covT m l) = (l.any (fun o => coverO o x) || hasK x m)
 | [], m => rfl
 | o :: l, m => by
   have := has_covT (x := x) (l := l) (m := putAll m o.2.2.2.2.1)
   unfold covT at this ⊢
   rw [List.foldl_cons, this, has_all, List.any_cons]
   unfold coverO
   cases o.2.2.2.2.1.any (fun y => decide (x = y)) <;> cases l.any (fun o => o.2.2.2.2.1.any fun y => decide (x = y)) <;> rfl
def covL (u : List Ref1) (m : List (Ref1 × Bool)) (l : List Txn1) : List (Ref1 × Bool) := l.foldl (fun m t => if seenM u t.1 = true then covT m t.2.2.2.2.1 else m) m
def covM (l : List Txn1) (u : List Ref1) (x : Ref1) : Bool := l.any fun t => seenM u t.1 && t.2.2.2.2.1.any fun o => coverO o x
theorem has_covL {x : Ref1} {u : List Ref1} : ∀ {l : List Txn1} {m : List (Ref1 × Bool)}, hasK x (covL u m l) = (covM l u x || hasK x m)
 | [], m => rfl
 | t :: l, m => by
   have := has_covL (x := x) (u := u) (l := l) (m := if seenM u t.1 = true then covT m t.2.2.2.2.1 else m)
   unfold covL at this ⊢
   rw [List.foldl_cons, this]
   unfold covM
   rw [List.any_cons]
   by_cases hs : seenM u t.1 = true
   · rw [zp hs, has_covT, hs, Bool.true_and]
     cases t.2.2.2.2.1.any (fun o => coverO o x) <;> cases l.any (fun t => seenM u t.1 && t.2.2.2.2.1.any fun o => coverO o x) <;> rfl
   · rw [zn hs, eq_false_of_ne_true hs, Bool.false_and, Bool.false_or]
structure Low (l : List Txn1) : Prop where
 len : l.length ≤ 1000
 ops : ∀ t ∈ l, t.2.2.2.2.1.length ≤ 1000
 seen : ∀ t ∈ l, ∀ o ∈ t.2.2.2.2.1, o.2.2.2.2.1.length < 1000000
structure LowU (u : List Ref1) : Prop where
 len : u.length < 1000000
 rise : riseU u
theorem covered_t {l : List Txn1} {u : List Ref1} (hl : Low l) (hu : LowU u) : zbe l u = some (covL u [] l) := by
 have outer := loop_list (S := List (Ref1 × Bool)) (f := zbe_l3 l u) (l := l) (fun i m => ((i : Int), m, ())) (fun _ t m => .inl (if seenM u t.1 = true then covT m t.2.2.2.2.1 else m)) (fun m => m) (fun _ _ => True) (fun i h m _ => by
   refine .inl ⟨_, rfl, ?_, trivial⟩
   have hi := hl.len
   unfold zbe_l3
   simp only [cond_dec]
   rw [zp (by omega), atI_lt h]
   simp only [zb, tallySeen_t hu.len hu.rise]
   have hops := hl.ops _ (zm h)
   by_cases hs : seenM u l[i].1 = true
   · rw [hs, Bool.not_true, cond_false, zp rfl]
     have mid := loop_list (S := List (Ref1 × Bool)) (f := zbe_l7 ((i : Int), m, ()) l[i]) (l := l[i].2.2.2.2.1) (fun k m => ((k : Int), m, ())) (fun _ o m => .inl (putAll m o.2.2.2.2.1)) (fun m' => (.inl (((i + 1 : Nat) : Int), m', ()) : (Int × List (Ref1 × Bool) × Unit) ⊕ List (Ref1 × Bool))) (fun _ _ => True) (fun k hk m' _ => by
       refine .inl ⟨_, rfl, ?_, trivial⟩
       have hseen := hl.seen _ (zm h) _ (zm hk)
       unfold zbe_l7
       simp only [cond_dec]
       rw [zp (by omega), atI_lt hk]
       simp only [zb]
       have inner := loop_list (S := List (Ref1 × Bool)) (f := zbe_l10 ((k : Int), m', ()) l[i].2.2.2.2.1[k]) (l := l[i].2.2.2.2.1[k].2.2.2.2.1) (fun j m => ((j : Int), m, ())) (fun _ x m => .inl (putK tyRef x true m)) (fun m'' => (.inl (((k + 1 : Nat) : Int), m'', ()) : (Int × List (Ref1 × Bool) × Unit) ⊕ ((Int × List (Ref1 × Bool) × Unit) ⊕ List (Ref1 × Bool)))) (fun _ _ => True) (fun j hj m'' _ => by
         refine .inl ⟨_, rfl, ?_, trivial⟩
         unfold zbe_l10
         simp only [cond_dec]
         rw [zp (by omega), atI_lt hj]
         simp only [zb]
         rw [wrap64 (by omega) (by omega)]; rfl) (fun m'' _ => by
         unfold zbe_l10
         simp only [cond_dec]
         rw [zn (by omega), wrap64 (by omega) (by omega)]; rfl) m' trivial
       rw [show ((0 : Int), m', ()) = (((0 : Nat) : Int), m', ()) from rfl, inner, foldE_inl]
       rfl) (fun m' _ => by
       unfold zbe_l7
       simp only [cond_dec]
       rw [zn (by omega), wrap64 (by omega) (by omega)]; rfl) m trivial
     rw [show ((0 : Int), m, ()) = (((0 : Nat) : Int), m, ()) from rfl, mid, foldE_inl]
     rfl
   · rw [zn hs, eq_false_of_ne_true hs, Bool.not_false, cond_true, wrap64 (by omega) (by omega)]; rfl) (fun m _ => by
   unfold zbe_l3
   simp only [cond_dec]
   rw [zn (by omega)]) [] trivial
 unfold zbe
 rw [show ((0 : Int), ([] : List (Ref1 × Bool)), ()) = (((0 : Nat) : Int), [], ()) from rfl, outer, foldE_inl]
 rfl
def putKind (k : Int) : Bool := decide (1 ≤ k ∧ k ≤ 3)
def itemAt (p : Ref1 → Bool) (t : Txn1) (k : Nat) (o : Op1) : List Item1 := if putKind o.1 = true ∧ p (t.1, (k : Int), ()) = false then [((t.1, (k : Int), ()), o, t.2.2.1, ())] else []
def itemsM (p : Ref1 → Bool) (t : Txn1) : Nat → List Op1 → List Item1
 | _, [] => []
 | k, o :: l => itemAt p t k o ++ itemsM p t (k + 1) l
def allM (l : List Txn1) (u : List Ref1) : List Item1 := l.flatMap fun t => if seenM u t.1 = true then itemsM (covM l u) t 0 t.2.2.2.2.1 else []
theorem itemAt_len {p : Ref1 → Bool} {t : Txn1} {k : Nat} {o : Op1} : (itemAt p t k o).length ≤ 1 := by
 unfold itemAt; split <;> simp
theorem items_len {p : Ref1 → Bool} {t : Txn1} : ∀ {l : List Op1} {k : Nat}, (itemsM p t k l).length ≤ l.length
 | [], _ => Nat.le_refl _
 | o :: l, k => by
   have := items_len (p := p) (t := t) (l := l) (k := k + 1)
   have := itemAt_len (p := p) (t := t) (k := k) (o := o)
   unfold itemsM
   rw [List.length_append, zl]; omega
theorem items_fold {R : Type} {p : Ref1 → Bool} {t : Txn1} {fin : List Item1 → R} : ∀ (l : List Op1) (k : Nat) (o : List Item1), foldE (fun k x o => .inl (o ++ itemAt p t k x)) fin k l o = fin (o ++ itemsM p t k l)
 | [], k, o => by simp [foldE, itemsM]
 | x :: l, k, o => by
   unfold foldE itemsM
   simp only
   rw [items_fold l (k + 1), List.append_assoc]
theorem flat_fold {A B R : Type} {g : A → List B} {fin : List B → R} : ∀ (l : List A) (i : Nat) (o : List B), foldE (fun _ x o => .inl (o ++ g x)) fin i l o = fin (o ++ l.flatMap g)
 | [], i, o => by simp [foldE]
 | x :: l, i, o => by
   unfold foldE
   simp only
   rw [flat_fold l (i + 1), List.flatMap_cons, List.append_assoc]
theorem all_t {l : List Txn1} {u : List Ref1} (hl : Low l) (hu : LowU u) : zc1 l u = some (allM l u) := by
 unfold zc1
 rw [covered_t hl hu, zb]
 have hp : (fun x => hasK x (covL u [] l)) = covM l u := by
   funext x
   rw [has_covL]
   exact Bool.or_false _
 generalize hm : covL u [] l = m at hp ⊢
 have outer := loop_list (S := List Item1) (f := zc1_l4 l u) (l := l) (fun i o => ((i : Int), m, o, ())) (fun _ t o => .inl (o ++ if seenM u t.1 = true then itemsM (covM l u) t 0 t.2.2.2.2.1 else [])) (fun o => o) (fun i o => o.length ≤ i * 1000) (fun i h o ho => by
   have hi := hl.len
   have hops := hl.ops _ (zm h)
   refine .inl ⟨_, rfl, ?_, ?_⟩
   · unfold zc1_l4
     simp only [cond_dec]
     rw [zp (by omega), atI_lt h]
     simp only [zb, tallySeen_t hu.len hu.rise]
     by_cases hs : seenM u l[i].1 = true
     · rw [hs, Bool.not_true, cond_false, zp rfl]
       have inner := loop_list (S := List Item1) (f := zc1_l8 ((i : Int), m, o, ()) l[i]) (l := l[i].2.2.2.2.1) (fun k o => ((k : Int), m, o, l[i], ())) (fun k x o => .inl (o ++ itemAt (covM l u) l[i] k x)) (fun o' => (.inl (((i + 1 : Nat) : Int), m, o', ()) : (Int × List (Ref1 × Bool) × List Item1 × Unit) ⊕ List Item1)) (fun k o' => o'.length ≤ i * 1000 + k) (fun k hk o' ho' => by
         refine .inl ⟨_, rfl, ?_, ?_⟩
         · have hget : (getK tyRef false (l[i].1, (k : Int), ()) m).1 = covM l u (l[i].1, (k : Int), ()) := by rw [← hp]; rfl
           unfold zc1_l8 itemAt
           simp only [cond_dec]
           rw [zp (by omega), atI_lt hk]
           simp only [zb]
           have hget : (getK (.agg (.cons (.agg (.cons (.int .i64) (.cons (.int .i64) .unit))) (.cons (.int .i64) .unit))) false (l[i].1, (k : Int), ()) m).1 = covM l u (l[i].1, (k : Int), ()) := hget
           rw [hget, wrap64 (by omega) (by omega), roomT_lt (by simp; omega)]
           simp only [zb]
           have hk' : putKind l[i].2.2.2.2.1[k].1 = true ↔ (l[i].2.2.2.2.1[k].1 = 1 ∨ l[i].2.2.2.2.1[k].1 = 2 ∨ l[i].2.2.2.2.1[k].1 = 3) := by unfold putKind; simp only [decide_eq_true_eq]; omega
           by_cases hc : covM l u (l[i].1, (k : Int), ()) = true
           · rw [hc]
             simp only [Bool.not_true, cond_false, Bool.true_eq_false, and_false, if_false, List.append_nil]
             split
             · rfl
             · split
               · rfl
               · split <;> rfl
           · rw [eq_false_of_ne_true hc]
             simp only [Bool.not_false, cond_true, and_true]
             by_cases h1 : l[i].2.2.2.2.1[k].1 = 1
             · rw [zp h1, zp (hk'.2 (.inl h1))]; rfl
             · by_cases h2 : l[i].2.2.2.2.1[k].1 = 2
               · rw [zn h1, zp h2, zp (hk'.2 (.inr (.inl h2)))]; rfl
               · by_cases h3 : l[i].2.2.2.2.1[k].1 = 3
                 · rw [zn h1, zn h2, zp h3, zp (hk'.2 (.inr (.inr h3)))]; rfl
                 · rw [zn h1, zn h2, zn h3, zn (fun e => by rcases hk'.1 e with e | e | e; exact h1 e; exact h2 e; exact h3 e), List.append_nil]; rfl
         · have := itemAt_len (p := covM l u) (t := l[i]) (k := k) (o := l[i].2.2.2.2.1[k])
           rw [List.length_append]; omega) (fun o' ho' => by
         unfold zc1_l8
         simp only [cond_dec]
         rw [zn (by omega), wrap64 (by omega) (by omega)]; rfl) o (by omega)
       rw [show ((0 : Int), m, o, l[i], ()) = (((0 : Nat) : Int), m, o, l[i], ()) from rfl, inner, items_fold]
     · rw [zn hs, eq_false_of_ne_true hs, Bool.not_false, cond_true, wrap64 (by omega) (by omega), List.append_nil]; rfl
   · have := items_len (p := covM l u) (t := l[i]) (l := l[i].2.2.2.2.1) (k := 0)
     rw [List.length_append, Nat.succ_mul]
     split
     · omega
     · simp; omega) (fun o _ => by
   unfold zc1_l4
   simp only [cond_dec]
   rw [zn (by omega)]) [] (by simp)
 rw [show ((0 : Int), m, ([] : List Item1), ()) = (((0 : Nat) : Int), m, [], ()) from rfl, outer, flat_fold]
 rfl
theorem not_all {A : Type} {q : A → Bool} : ∀ {l : List A} {R : Type} {yes no : R}, (if l.all (fun x => !q x) = true then no else yes) = if l.any q = true then yes else no
 | [], _, _, _ => rfl
 | x :: l, R, yes, no => by
   rw [List.all_cons, List.any_cons]
   cases q x with
   | true => rfl
   | false =>
     rw [Bool.not_false, Bool.true_and, Bool.false_or]
     exact not_all (l := l)
theorem loop_any {A R X : Type} {f : A → Option (A ⊕ R)} {l : List X} (enc : Nat → A) (q : X → Bool) (yes no : R)
   (hturn : ∀ (i : Nat) (h : i < l.length), f (enc i) = some (if q l[i] = true then .inr yes else .inl (enc (i + 1)))) (hend : f (enc l.length) = some (.inr no)) : loopT f (enc 0) = some (if l.any q = true then yes else no) := by
 have := loop_all (f := f) (l := l) enc (fun x => !q x) no yes (fun i h => by
   rw [hturn i h]
   cases q l[i] <;> rfl) hend
 rw [this, not_all]
theorem covers_t {o : Op1} {x : Ref1} (ho : o.2.2.2.2.1.length < 1000000) : zbb o x = some (coverO o x) := by
 have := loop_any (f := zbb_l2 o x) (l := o.2.2.2.2.1) (fun i => ((i : Int), ())) (fun y => decide (x = y)) true false (fun i h => by
   unfold zbb_l2
   simp only [cond_dec]
   rw [zp (by omega), atI_lt h]
   simp only [zb]
   have e : eqV (.agg (.cons (.agg (.cons (.int .i64) (.cons (.int .i64) .unit))) (.cons (.int .i64) .unit))) o.2.2.2.2.1[i] x = decide (o.2.2.2.2.1[i] = x) := eqRef _ _
   rw [e, cond_dec, wrap64 (by omega) (by omega)]
   by_cases hx : o.2.2.2.2.1[i] = x
   · rw [zp hx, zp (by rw [hx]; simp)]
   · rw [zn hx, zn (by simpa using fun e => hx e.symm)]; rfl) (by
   unfold zbb_l2
   simp only [cond_dec]
   rw [zn (by omega)])
 rw [ite_bool] at this
 exact this
theorem refCovered_t {l : List Txn1} {u : List Ref1} {x : Ref1} (hl : Low l) (hu : LowU u) : zax l u x = some (covM l u x) := by
 have outer := loop_any (f := zax_l2 l u x) (l := l) (fun i => ((i : Int), ())) (fun t => t.2.2.2.2.1.any fun o => coverO o x && seenM u t.1) true false (fun i h => by
   have hi := hl.len
   have hops := hl.ops _ (zm h)
   have inner := loop_any (f := zax_l5 ((i : Int), ()) l u x) (l := l[i].2.2.2.2.1) (fun k => ((k : Int), ())) (fun o => coverO o x && seenM u l[i].1) (.inr true : (Int × Unit) ⊕ Bool) (.inl (((i + 1 : Nat) : Int), ())) (fun k hk => by
     have hseen := hl.seen _ (zm h) _ (zm hk)
     unfold zax_l5
     simp only [cond_dec]
     rw [atI_lt h]
     simp only [zb]
     rw [zp (by omega), atI_lt hk]
     simp only [zb, covers_t hseen, refSeen_t hu.len]
     rw [wrap64 (by omega) (by omega)]
     by_cases hc : coverO l[i].2.2.2.2.1[k] x = true
     · rw [hc, cond_true, Bool.true_and]
       by_cases hs : seenM u l[i].1 = true
       · rw [zp hs, hs]; rfl
       · rw [zn hs, eq_false_of_ne_true hs]; rfl
     · rw [eq_false_of_ne_true hc]; rfl) (by
     unfold zax_l5
     simp only [cond_dec]
     rw [atI_lt h]
     simp only [zb]
     rw [zn (by omega), wrap64 (by omega) (by omega)]; rfl)
   unfold zax_l2
   simp only [cond_dec]
   rw [zp (by omega), show ((0 : Int), ()) = (((0 : Nat) : Int), ()) from rfl, inner]
   ) (by
   unfold zax_l2
   simp only [cond_dec]
   rw [zn (by omega)])
 rw [ite_bool] at outer
 unfold zax covM
 rw [show ((0 : Int), ()) = (((0 : Nat) : Int), ()) from rfl, outer]
 congr 2
 funext t
 cases seenM u t.1 with
 | true => simp
 | false => simp
theorem refAll_t {l : List Txn1} {u : List Ref1} (hl : Low l) (hu : LowU u) : zcs l u = some (allM l u) := by
 have outer := loop_list (S := List Item1) (f := zcs_l3 l u) (l := l) (fun i o => ((i : Int), o, ())) (fun _ t o => .inl (o ++ if seenM u t.1 = true then itemsM (covM l u) t 0 t.2.2.2.2.1 else [])) (fun o => o) (fun i o => o.length ≤ i * 1000) (fun i h o ho => by
   have hi := hl.len
   have hops := hl.ops _ (zm h)
   refine .inl ⟨_, rfl, ?_, ?_⟩
   · unfold zcs_l3
     simp only [cond_dec]
     rw [zp (by omega)]
     have fin : ∀ o' : List Item1, zcs_l6 ((i : Int), o, ()) l u ((l[i].2.2.2.2.1.length : Int), o', ()) = some (.inr (.inl (((i + 1 : Nat) : Int), o', ()))) := fun o' => by
       unfold zcs_l6
       simp only [cond_dec]
       rw [atI_lt h]
       simp only [zb]
       rw [zn (by omega), wrap64 (by omega) (by omega)]; rfl
     by_cases hs : seenM u l[i].1 = true
     · rw [zp hs]
       have inner := loop_list (S := List Item1) (f := zcs_l6 ((i : Int), o, ()) l u) (l := l[i].2.2.2.2.1) (fun k o => ((k : Int), o, ())) (fun k x o => .inl (o ++ itemAt (covM l u) l[i] k x)) (fun o' => (.inl (((i + 1 : Nat) : Int), o', ()) : (Int × List Item1 × Unit) ⊕ List Item1)) (fun k o' => o'.length ≤ i * 1000 + k) (fun k hk o' ho' => by
         refine .inl ⟨_, rfl, ?_, ?_⟩
         · unfold zcs_l6 itemAt putKind
           simp only [cond_dec]
           rw [atI_lt h]
           simp only [zb]
           rw [zp (by omega), atI_lt hk]
           simp only [zb, refSeen_t hu.len, hs, refCovered_t hl hu, cond_true]
           rw [wrap64 (by omega) (by omega)]
           by_cases h1 : l[i].2.2.2.2.1[k].1 ≥ 1
           · rw [zp h1]
             simp only [zb, cond_dec]
             rw [roomT_lt (by simp; omega)]
             by_cases h3 : l[i].2.2.2.2.1[k].1 ≤ 3
             · rw [zp h3]
               by_cases hc : covM l u (l[i].1, (k : Int), ()) = true
               · rw [hc]
                 simp only [Bool.not_true, cond_false, Bool.true_eq_false, and_false, if_false, List.append_nil]; rfl
               · rw [eq_false_of_ne_true hc]
                 simp only [Bool.not_false, cond_true, and_true]
                 rw [zp (by simp only [decide_eq_true_eq]; omega)]; rfl
             · rw [zn h3, zn (fun e => h3 (by have := e.1; simp only [decide_eq_true_eq] at this; omega)), List.append_nil]; rfl
           · rw [zn h1, zn (fun e => h1 (by have := e.1; simp only [decide_eq_true_eq] at this; omega)), List.append_nil]; rfl
         · have := itemAt_len (p := covM l u) (t := l[i]) (k := k) (o := l[i].2.2.2.2.1[k])
           rw [List.length_append]; omega) (fun o' ho' => fin o') o (by omega)
       rw [show ((0 : Int), o, ()) = (((0 : Nat) : Int), o, ()) from rfl, inner, items_fold]
     · rw [zn hs, List.append_nil]
       have inner := loop_list (S := List Item1) (f := zcs_l6 ((i : Int), o, ()) l u) (l := l[i].2.2.2.2.1) (fun k o => ((k : Int), o, ())) (fun k x o => .inl o) (fun o' => (.inl (((i + 1 : Nat) : Int), o', ()) : (Int × List Item1 × Unit) ⊕ List Item1)) (fun k o' => True) (fun k hk o' _ => by
         refine .inl ⟨_, rfl, ?_, trivial⟩
         unfold zcs_l6
         simp only [cond_dec]
         rw [atI_lt h]
         simp only [zb]
         rw [zp (by omega), atI_lt hk]
         simp only [zb, refSeen_t hu.len, eq_false_of_ne_true hs, cond_false]
         rw [wrap64 (by omega) (by omega)]
         split
         · simp only [zb, cond_dec]
           split <;> rfl
         · rfl) (fun o' _ => fin o') o trivial
       rw [show ((0 : Int), o, ()) = (((0 : Nat) : Int), o, ()) from rfl, inner, foldE_inl]
       congr 2
       have : ∀ (l : List Op1) (s : List Item1), l.foldl (fun s _ => s) s = s := by
         intro l
         induction l with
         | nil => intro s; rfl
         | cons x l ih => intro s; exact ih s
       rw [this]
   · have := items_len (p := covM l u) (t := l[i]) (l := l[i].2.2.2.2.1) (k := 0)
     rw [List.length_append, Nat.succ_mul]
     split
     · omega
     · simp; omega) (fun o _ => by
   unfold zcs_l3
   simp only [cond_dec]
   rw [zn (by omega)]) [] (by simp)
 unfold zcs
 rw [show ((0 : Int), ([] : List Item1), ()) = (((0 : Nat) : Int), [], ()) from rfl, outer, flat_fold]
 rfl
def leafM (k : Int) : Int := if k = 1 then 1 else if k = 2 ∨ k = 4 then 2 else if k = 3 then 3 else 0
theorem opLeaf_t (k : Int) : zc2 k = some (leafM k) := by
 unfold zc2 leafM
 simp only [cond_dec]
 by_cases h1 : k = 1
 · rw [zp h1, zp h1]
 · by_cases h2 : k = 2
   · subst h2; rfl
   · by_cases h4 : k = 4
     · subst h4; rfl
     · by_cases h3 : k = 3
       · subst h3; rfl
       · simp [h1, h2, h3, h4]
theorem refLeaf11_t (k : Int) : zcj k = some (leafM k) := by
 unfold zcj leafM
 simp only [cond_dec]
 by_cases h1 : k = 1
 · rw [zp h1, zp h1]
 · by_cases h2 : k = 2
   · subst h2; rfl
   · by_cases h4 : k = 4
     · subst h4; rfl
     · by_cases h3 : k = 3
       · subst h3; rfl
       · simp [h1, h2, h3, h4]
def isAt (p : Path) (leaf : Int) (x : Item1) : Bool := decide (leafM x.2.1.1 = leaf) && decide (x.2.1.2.1 = p)
def atM (l : List Item1) (p : Path) (leaf : Int) : List Item1 := l.filter (isAt p leaf)
theorem flatMap_if {A : Type} {q : A → Bool} : ∀ {l : List A}, (l.flatMap fun x => if q x = true then [x] else []) = l.filter q
 | [] => rfl
 | x :: l => by
   rw [List.flatMap_cons, flatMap_if, List.filter_cons]
   split <;> rfl
structure LowI (l : List Item1) : Prop where
 len : l.length < 1000000
 path : ∀ x ∈ l, x.2.1.2.1.length < 1000000 ∧ ∀ s ∈ x.2.1.2.1, s.length < 1000000
theorem cp_zero (a b : Path) : cmpP a b = 0 ↔ a = b := (Cmp.list cb_cmp).zero a b
theorem at_t {l : List Item1} {p : Path} {leaf : Int} (hl : LowI l) : zc3 l p leaf = some (atM l p leaf) := by
 have hlen := hl.len
 have := loop_map (f := zc3_l3 l p leaf) (l := l) (fun i o => ((i : Int), o, ())) (fun x => if isAt p leaf x = true then [x] else []) (fun o => o) 1 (fun x _ => by split <;> simp) (fun i h o ho => by
   have hp := (hl.path _ (zm h)).1
   unfold zc3_l3 isAt
   simp only [cond_dec]
   rw [zp (by omega), atI_lt h]
   simp only [zb, opLeaf_t, pathSame_t hp]
   rw [wrap64 (by omega) (by omega), roomT_lt (by simp; omega)]
   simp only [zb, cond_dec]
   by_cases h1 : leafM l[i].2.1.1 = leaf
   · rw [zp h1, zt h1, Bool.true_and]
     by_cases h2 : l[i].2.1.2.1 = p
     · rw [zp h2, zt h2]; rfl
     · rw [zn h2, zf h2]; simp
   · rw [zn h1, zf h1]; simp) (fun o _ => by
   unfold zc3_l3
   simp only [cond_dec]
   rw [zn (by omega)])
 unfold zc3 atM
 rw [show ((0 : Int), ([] : List Item1), ()) = (((0 : Nat) : Int), [], ()) from rfl, this, flatMap_if]
theorem refAt_t {l : List Item1} {p : Path} {leaf : Int} (hl : LowI l) : zcz l p leaf = some (atM l p leaf) := by
 have hlen := hl.len
 have := loop_map (f := zcz_l3 l p leaf) (l := l) (fun i o => ((i : Int), o, ())) (fun x => if isAt p leaf x = true then [x] else []) (fun o => o) 1 (fun x _ => by split <;> simp) (fun i h o ho => by
   have hp := hl.path _ (zm h)
   unfold zcz_l3 isAt
   simp only [cond_dec]
   rw [zp (by omega), atI_lt h]
   simp only [zb, refLeaf11_t, refPathCompare_t hp.1 hp.2]
   rw [wrap64 (by omega) (by omega), roomT_lt (by simp; omega)]
   simp only [zb, cond_dec]
   by_cases h1 : leafM l[i].2.1.1 = leaf
   · rw [zp h1, zt h1, Bool.true_and]
     by_cases h2 : l[i].2.1.2.1 = p
     · rw [zp ((cp_zero _ _).2 h2), zt h2]; rfl
     · rw [zn (fun e => h2 ((cp_zero _ _).1 e)), zf h2]; simp
   · rw [zn h1, zf h1]; simp) (fun o _ => by
   unfold zcz_l3
   simp only [cond_dec]
   rw [zn (by omega)])
 unfold zcz atM
 rw [show ((0 : Int), ([] : List Item1), ()) = (((0 : Nat) : Int), [], ()) from rfl, this, flatMap_if]
theorem atM_low {l : List Item1} {p : Path} {leaf : Int} (hl : LowI l) : LowI (atM l p leaf) := ⟨Nat.lt_of_le_of_lt (List.length_filter_le ..) hl.len, fun x hx => hl.path x (List.mem_filter.1 hx).1⟩
theorem emp_false {A : Type} {w : List A} (h : 0 < w.length) : w.isEmpty = false := by cases w with
 | nil => cases h
 | cons _ _ => rfl
theorem viewI_nat {n a b : Nat} (h1 : a ≤ b) (h2 : b ≤ n) : viewI n (a : Int) (b : Int) = some (a, b - a) := by
 unfold viewI
 rw [zp ⟨by omega, by omega, by omega⟩]; simp
theorem sqzS_take {A : Type} [DecidableEq A] {l : List A} {i : Nat} (hi : i < l.length) (h0 : 0 < i) : sqz (l.take (i + 1)) = if l[i - 1]'(by omega) = l[i] then sqz (l.take i) else sqz (l.take i) ++ [l[i]] := by
 rw [List.take_add_one, zg hi, Option.toList_some, sqz_app]
 unfold sqzS
 have e : (sqz (l.take i)).getLast? = some (l[i - 1]'(by omega)) := by
   rw [sqz_last, List.getLast?_eq_getElem?, List.length_take, show min i l.length - 1 = i - 1 by omega, List.getElem?_take_of_lt (by omega), zg (by omega)]
 rw [e]
 by_cases h : l[i - 1]'(by omega) = l[i]
 · rw [zp (by rw [h]), zp h]
 · rw [zn (fun e => h (Option.some.inj e)), zn h]
structure Mid (l w : List Val) (i0 k i : Nat) : Prop where
 len : w.length = l.length
 head : w.take i = sqz (l.take (i0 + k))
 rest : ∀ j, i0 + k - 1 ≤ j → w[j]? = l[j]?
 low : i ≤ i0 + k - 1
theorem compact_inner {l : List Val} {i0 : Nat} (hl : l.length < 1000000) (h0 : 0 < i0) (hi0 : i0 < l.length) : ∀ (n k i : Nat) (w : List Val), l.length - i0 - k ≤ n → 1 ≤ k → k ≤ l.length - i0 → Mid l w i0 k i →
   ∃ w' i', Mid l w' i0 (l.length - i0) i' ∧ loopT zah_l9 ((i : Int), (i0, l.length - i0), (k : Int), w, ()) = some (.inl ((i' : Int), w', ())) := by
 intro n
 induction n with
 | zero =>
   intro k i w hn hk1 hk hm
   have e : k = l.length - i0 := by omega
   subst e
   refine ⟨w, i, hm, loopT_inr ?_⟩
   unfold zah_l9
   simp only [cond_dec]
   rw [zn (by omega)]
 | succ n ih =>
   intro k i w hn hk1 hk hm
   by_cases hlt : k < l.length - i0
   · have hwl := hm.len
     have hw : 0 < w.length := by omega
     have hk0 : i0 + k < l.length := by omega
     have ea : w[i0 + k]? = some (l[i0 + k]) := by rw [hm.rest _ (by omega), zg hk0]
     have eb : w[i0 + (k - 1)]? = some (l[i0 + k - 1]'(by omega)) := by rw [show i0 + (k - 1) = i0 + k - 1 by omega, hm.rest _ (by omega), zg (by omega)]
     have hlow := hm.low
     have hiw : i < w.length := by omega
     have turn : zah_l9 ((i : Int), (i0, l.length - i0), (k : Int), w, ()) = if l[i0 + k - 1]'(by omega) = l[i0 + k] then some (.inl ((i : Int), (i0, l.length - i0), ((k + 1 : Nat) : Int), w, ())) else some (.inl (((i + 1 : Nat) : Int), (i0, l.length - i0), ((k + 1 : Nat) : Int), w.set i l[i0 + k], ())) := by
       unfold zah_l9
       simp only [cond_dec]
       rw [zp (by omega), emp_false hw]
       simp only [cond_false]
       rw [inI_nat hlt, wrap64 (n := (k : Int) - 1) (by omega) (by omega), show (k : Int) - 1 = ((k - 1 : Nat) : Int) by omega, inI_nat (show k - 1 < l.length - i0 by omega)]
       simp only [zb]
       rw [ea, eb]
       simp only [zb, eqVal]
       rw [wrap64 (by omega) (by omega), wrap64 (by omega) (by omega)]
       by_cases hx : l[i0 + k] = l[i0 + k - 1]'(by omega)
       · rw [zp hx.symm, zt hx]; rfl
       · rw [zn (fun e => hx e.symm), zf hx, inI_nat hiw]
         simp only [Bool.not_false, cond_true, zb]
         rw [zg hiw]
         rfl
     have hsq := sqzS_take (l := l) (i := i0 + k) hk0 (by omega)
     by_cases hx : l[i0 + k - 1]'(by omega) = l[i0 + k]
     · rw [zp hx] at turn hsq
       rw [loopT_inl turn]
       exact ih (k + 1) i w (by omega) (by omega) (by omega) ⟨hwl, by rw [hm.head, show i0 + (k + 1) = i0 + k + 1 by omega, hsq], fun j hj => hm.rest j (by omega), by omega⟩
     · rw [zn hx] at turn hsq
       rw [loopT_inl turn]
       refine ih (k + 1) (i + 1) _ (by omega) (by omega) (by omega) ⟨by rw [List.length_set]; exact hwl, ?_, fun j hj => ?_, by omega⟩
       · rw [show i0 + (k + 1) = i0 + k + 1 by omega, hsq, ← hm.head, List.take_add_one, List.take_set_of_le (by omega), List.getElem?_set_self hiw]; rfl
       · rw [List.getElem?_set_ne (by omega)]
         exact hm.rest j (by omega)
   · have e : k = l.length - i0 := by omega
     subst e
     refine ⟨w, i, hm, loopT_inr ?_⟩
     unfold zah_l9
     simp only [cond_dec]
     rw [zn (by omega)]
theorem compact_outer {l : List Val} (hl : l.length < 1000000) : ∀ (n i : Nat), l.length - i ≤ n → 1 ≤ i → i ≤ l.length → sqz (l.take i) = l.take i →
   loopT zah_l4 ((i : Int), l, ()) = some (sqz l) := by
 intro n
 induction n with
 | zero =>
   intro i hn h1 hi hs
   have e : i = l.length := by omega
   subst e
   rw [List.take_of_length_le (Nat.le_refl _)] at hs
   refine loopT_inr ?_
   unfold zah_l4
   simp only [cond_dec]
   rw [zn (by omega), hs]
 | succ n ih =>
   intro i hn h1 hi hs
   by_cases hlt : i < l.length
   · have hsq := sqzS_take (l := l) (i := i) hlt (by omega)
     have he : l.isEmpty = false := emp_false (by omega)
     by_cases hx : l[i - 1]'(by omega) = l[i]
     · refine loopT_inr ?_
       unfold zah_l4
       simp only [cond_dec]
       rw [zp (by omega), inI_nat hlt, wrap64 (by omega) (by omega), show (i : Int) - 1 = ((i - 1 : Nat) : Int) by omega, inI_nat (show i - 1 < l.length by omega)]
       simp only [zb, zg hlt, zg (show i - 1 < l.length by omega), eqVal]
       rw [zt hx.symm, cond_true, he, cond_false, viewI_nat (by omega) (Nat.le_refl _)]
       simp only [zb]
       rw [zp hx] at hsq
       obtain ⟨w', i', hm, hrun⟩ := compact_inner hl (by omega) hlt (l.length - i) 1 i l (by omega) (Nat.le_refl _) (by omega) ⟨rfl, by rw [hsq, hs], fun j _ => rfl, by omega⟩
       rw [show ((1 : Int)) = ((1 : Nat) : Int) from rfl, hrun, bind_join_inl]
       have hwl := hm.len
       have hlow := hm.low
       have hle : i' ≤ w'.length := by omega
       have hw : 0 < w'.length := by omega
       have e2 : i + (l.length - i) = l.length := by omega
       have hhead : w'.take i' = sqz l := by rw [hm.head, e2, List.take_of_length_le (Nat.le_refl _)]
       simp only
       rw [emp_false hw, cond_false, viewI_nat hle (Nat.le_refl _)]
       simp only [zb, cond_false]
       rw [zp (by omega)]
       simp only [zb]
       have hlen2 : (List.take i' w' ++ List.replicate (w'.length - i') ((0, 0, [], ()) : Val) ++ List.drop (i' + (w'.length - i')) w').length = w'.length := by
         rw [List.length_append, List.length_append, List.length_take, List.length_replicate, List.length_drop]; omega
       rw [emp_false (by rw [hlen2]; exact hw), cond_false, hlen2, show ((0 : Int)) = ((0 : Nat) : Int) from rfl, viewI_nat (Nat.zero_le _) hle]
       simp only [zb, cond_false]
       rw [zp (by omega)]
       simp only [Option.map_some, List.drop_zero, Nat.sub_zero]
       rw [List.append_assoc, List.take_append_of_le_length (by rw [List.length_take]; omega), List.take_take, Nat.min_self, hhead]
     · have turn : zah_l4 ((i : Int), l, ()) = some (.inl (((i + 1 : Nat) : Int), l, ())) := by
         unfold zah_l4
         simp only [cond_dec]
         rw [zp (by omega), inI_nat hlt, wrap64 (by omega) (by omega), show (i : Int) - 1 = ((i - 1 : Nat) : Int) by omega, inI_nat (show i - 1 < l.length by omega)]
         simp only [zb, zg hlt, zg (show i - 1 < l.length by omega), eqVal]
         rw [zf (fun e => hx e.symm), cond_false, wrap64 (by omega) (by omega)]; rfl
       rw [loopT_inl turn]
       rw [zn hx, hs] at hsq
       refine ih (i + 1) (by omega) (by omega) (by omega) ?_
       rw [hsq, List.take_add_one, zg hlt]; rfl
   · have e : i = l.length := by omega
     subst e
     rw [List.take_of_length_le (Nat.le_refl _)] at hs
     refine loopT_inr ?_
     unfold zah_l4
     simp only [cond_dec]
     rw [zn (by omega), hs]
theorem compact_t {l : List Val} (hl : l.length < 1000000) : zah l = some (sqz l, ()) := by
 unfold zah zah_g
 simp only [cond_dec]
 match l, hl with
 | [], _ => rfl
 | [x], _ => rfl
 | x :: y :: l, hl =>
   rw [zn (by simp only [zl]; omega)]
   have := compact_outer hl (x :: y :: l).length 1 (by omega) (Nat.le_refl _) (by simp) rfl
   rw [show ((1 : Int)) = ((1 : Nat) : Int) from rfl, this]
   rfl
def insV (o : List Val) (v : Val) : List Val := match o with
 | [] => [v]
 | x :: l => if cmpV v x = 0 then x :: l else if cmpV v x < 0 then v :: x :: l else x :: insV l v
abbrev riseV (o : List Val) : Prop := Rises cmpV (fun v => v) o
theorem insV_mem {v x : Val} : ∀ {o : List Val}, x ∈ insV o v ↔ x = v ∨ x ∈ o
 | [] => by simp [insV]
 | y :: l => by
   unfold insV
   split
   · rename_i h
     have e := (cv_cmp.zero _ _).1 h
     subst e
     simp
   · split
     · simp
     · rw [List.mem_cons, insV_mem, List.mem_cons]
       constructor
       · rintro (h | h | h)
         · exact .inr (.inl h)
         · exact .inl h
         · exact .inr (.inr h)
       · rintro (h | h | h)
         · exact .inr (.inl h)
         · exact .inl h
         · exact .inr (.inr h)
theorem insV_rises {v : Val} : ∀ {o : List Val}, riseV o → riseV (insV o v)
 | [], _ => List.pairwise_singleton ..
 | y :: l, h => by
   have h' := List.pairwise_cons.1 h
   unfold insV
   split
   · exact h
   · rename_i h0
     split
     · rename_i h1
       refine List.pairwise_cons.2 ⟨fun z hz => ?_, h⟩
       rcases List.mem_cons.1 hz with e | hz
       · subst e; exact h1
       · exact cv_cmp.trans _ _ _ h1 (h'.1 z hz)
     · rename_i h1
       refine List.pairwise_cons.2 ⟨fun z hz => ?_, insV_rises h'.2⟩
       rcases insV_mem.1 hz with e | hz
       · subst e
         have h2 := cv_cmp.neg z y
         show cmpV y z < 0
         omega
       · exact h'.1 z hz
def valsU (l : List Val) : List Val := l.foldl insV []
theorem valsU_law : ∀ (l o : List Val), riseV o → riseV (l.foldl insV o) ∧ ∀ x, x ∈ l.foldl insV o ↔ x ∈ o ∨ x ∈ l
 | [], o, h => ⟨h, fun x => by simp⟩
 | v :: l, o, h => by
   obtain ⟨h1, h2⟩ := valsU_law l (insV o v) (insV_rises h)
   refine ⟨h1, fun x => ?_⟩
   rw [List.foldl_cons, h2, insV_mem, List.mem_cons]
   constructor
   · rintro ((h | h) | h)
     · exact .inr (.inl h)
     · exact .inl h
     · exact .inr (.inr h)
   · rintro (h | h | h)
     · exact .inl (.inr h)
     · exact .inl (.inl h)
     · exact .inr h
theorem valsU_rises (l : List Val) : riseV (valsU l) := (valsU_law l [] List.Pairwise.nil).1
theorem valsU_mem (l : List Val) (x : Val) : x ∈ valsU l ↔ x ∈ l := by
 have := (valsU_law l [] List.Pairwise.nil).2 x
 simpa [valsU] using this
theorem insV_len {v : Val} : ∀ {o : List Val}, (insV o v).length ≤ o.length + 1
 | [] => Nat.le_refl _
 | y :: l => by
   unfold insV
   split
   · omega
   · split
     · simp
     · have := insV_len (v := v) (o := l)
       simp only [zl]; omega
theorem valsU_len : ∀ (l o : List Val), (l.foldl insV o).length ≤ o.length + l.length
 | [], o => Nat.le_refl _
 | v :: l, o => by
   have := valsU_len l (insV o v)
   have := insV_len (v := v) (o := o)
   rw [List.foldl_cons, zl]; omega
theorem sort_compact {l : List Val} (hl : l.length < 1000000) : ∃ s, zad l = some ((), s, ()) ∧ zah s = some (valsU l, ()) := by
 obtain ⟨s, h1, h2, h3⟩ := sortT_law (c := cmpV) (key := fun v : Val => v) (cmp := fun x y => za0 x y) (xs := l) cv_cmp (fun x _ y _ => valueCompare_t x y) (by omega)
 refine ⟨s, by unfold zad; rw [h1]; rfl, ?_⟩
 rw [compact_t (by rw [h2.length_eq]; exact hl)]
 have : sqz s = valsU l := by
   refine rises_unique cv_cmp (key := fun v : Val => v) (sqz_rises cv_cmp (fun a b => (cv_cmp.zero a b).1) _ s rfl h3) (valsU_rises l) fun x => ?_
   rw [sqz_mem _ s rfl, valsU_mem]
   exact h2.mem_iff
 rw [this]
def valsAt (l : List Item1) (p : Path) : List Val := (atM l p 1).map fun x => x.2.1.2.2.1
theorem regValues_t {l : List Item1} {p : Path} (hl : LowI l) : zb7 l p = some (valsU (valsAt l p)) := by
 unfold zb7 valsAt
 rw [at_t hl]
 have hlow := (atM_low (p := p) (leaf := 1) hl).len
 generalize atM l p 1 = q at hlow
 simp only [zb]
 have := loop_map (f := zb7_l3 q) (l := q) (fun i o => ((i : Int), o, ())) (fun x => [x.2.1.2.2.1]) (fun o => (.inl (o, ()) : (List Val × Unit) ⊕ List Val)) 1 (fun x _ => Nat.le_refl _) (fun i h o ho => by
   unfold zb7_l3
   simp only [cond_dec]
   rw [zp (by omega), atI_lt h]
   simp only [zb]
   rw [wrap64 (by omega) (by omega), roomT_lt (by simp; omega)]; rfl) (fun o _ => by
   unfold zb7_l3
   simp only [cond_dec]
   rw [zn (by omega)])
 rw [show ((0 : Int), ([] : List Val), ()) = (((0 : Nat) : Int), [], ()) from rfl, this, bind_join_inl]
 have e : (q.flatMap fun x => [x.2.1.2.2.1]) = q.map fun x => x.2.1.2.2.1 := by
   clear this hlow
   induction q with
   | nil => rfl
   | cons x q ih => rw [List.flatMap_cons, List.map_cons, ih]; rfl
 obtain ⟨s, h1, h2⟩ := sort_compact (l := q.map fun x => x.2.1.2.2.1) (by rw [List.length_map]; exact hlow)
 simp only [e]
 rw [h1]
 simp only [zb, h2]
theorem refInsert_t {o : List Val} {v : Val} (ho : o.length < 1000000) (hv : v.2.2.1.length < 1000000) (hr : riseV o) : za6 o v = some (insV o v) := by
 unfold za6
 have loop := loop_list (S := Bool × List Val) (f := za6_l4 o v) (l := o) (fun i s => (s.1, (i : Int), s.2, ())) (fun _ x s => if cmpV v x = 0 then .inr (.inr o) else .inl (s.1 || decide (cmpV v x < 0), (if cmpV v x < 0 ∧ s.1 = false then s.2 ++ [v] else s.2) ++ [x])) (fun s => (.inl (s.1, s.2, ()) : (Bool × List Val × Unit) ⊕ List Val)) (fun i s => s.2.length ≤ 2 * i) (fun i h s hs => by
   have turn : za6_l4 o v (s.1, (i : Int), s.2, ()) = if cmpV v o[i] = 0 then some (.inr (.inr o)) else some (.inl (s.1 || decide (cmpV v o[i] < 0), ((i + 1 : Nat) : Int), (if cmpV v o[i] < 0 ∧ s.1 = false then s.2 ++ [v] else s.2) ++ [o[i]], ())) := by
     unfold za6_l4
     simp only [cond_dec]
     rw [zp (by omega), atI_lt h]
     simp only [zb, refCompare9_t hv]
     by_cases h0 : cmpV v o[i] = 0
     · rw [zp h0, zp h0]
     · rw [zn h0, zn h0, wrap64 (by omega) (by omega)]
       by_cases h1 : cmpV v o[i] < 0
       · rw [zp h1, zt h1, Bool.or_true]
         cases hs1 : s.1 with
         | true =>
           simp only [Bool.not_true, cond_false, zb, joinS_inl]
           rw [roomT_lt (by simp; omega), zn (fun e => by cases e.2)]; rfl
         | false =>
           simp only [Bool.not_false, cond_true, zb]
           rw [roomT_lt (by simp; omega)]
           simp only [zb, joinS_inl]
           rw [roomT_lt (by simp; omega), zp ⟨h1, trivial⟩]; rfl
       · rw [zn h1, zf h1, Bool.or_false]
         simp only [zb, joinS_inl]
         rw [roomT_lt (by simp; omega), zn (fun e => h1 e.1)]; rfl
   by_cases h0 : cmpV v o[i] = 0
   · exact .inr ⟨_, by rw [zp h0], by rw [turn, zp h0]⟩
   · refine .inl ⟨_, by rw [zn h0], by rw [turn, zn h0], ?_⟩
     split <;> simp <;> omega) (fun s _ => by
   unfold za6_l4
   simp only [cond_dec]
   rw [zn (by omega)]) (false, []) (by simp)
 rw [show (false, (0 : Int), ([] : List Val), ()) = ((false, ([] : List Val)).1, ((0 : Nat) : Int), (false, ([] : List Val)).2, ()) from rfl, loop]
 have gen1 : ∀ (l : List Val) (i : Nat) (q : List Val), (∀ x ∈ l, cmpV v x < 0) → foldE (S := Bool × List Val) (fun _ x s => if cmpV v x = 0 then .inr (.inr o) else .inl (s.1 || decide (cmpV v x < 0), (if cmpV v x < 0 ∧ s.1 = false then s.2 ++ [v] else s.2) ++ [x])) (fun s => (.inl (s.1, s.2, ()) : (Bool × List Val × Unit) ⊕ List Val)) i l (true, q) = .inl (true, q ++ l, ()) := by
   intro l
   induction l with
   | nil => intro i q _; simp [foldE]
   | cons x l ih =>
     intro i q h
     unfold foldE
     have hx := h x (List.mem_cons_self ..)
     rw [zn (by omega)]
     simp only [Bool.true_or]
     rw [zn (fun e => by cases e.2), ih (i + 1) (q ++ [x]) (fun y hy => h y (List.mem_cons_of_mem _ hy))]
     simp
 have gen2 : ∀ (l : List Val) (i : Nat) (q : List Val), q ++ l = o → riseV l → (∃ b r, foldE (S := Bool × List Val) (fun _ x s => if cmpV v x = 0 then .inr (.inr o) else .inl (s.1 || decide (cmpV v x < 0), (if cmpV v x < 0 ∧ s.1 = false then s.2 ++ [v] else s.2) ++ [x])) (fun s => (.inl (s.1, s.2, ()) : (Bool × List Val × Unit) ⊕ List Val)) i l (false, q) = .inl (b, r, ()) ∧ (if b = true then r else r ++ [v]) = q ++ insV l v ∧ r.length ≤ o.length + 1) ∨ (foldE (S := Bool × List Val) (fun _ x s => if cmpV v x = 0 then .inr (.inr o) else .inl (s.1 || decide (cmpV v x < 0), (if cmpV v x < 0 ∧ s.1 = false then s.2 ++ [v] else s.2) ++ [x])) (fun s => (.inl (s.1, s.2, ()) : (Bool × List Val × Unit) ⊕ List Val)) i l (false, q) = .inr o ∧ o = q ++ insV l v) := by
   intro l
   induction l with
   | nil =>
     intro i q hq _
     refine .inl ⟨false, q, rfl, rfl, ?_⟩
     rw [← hq]; simp
   | cons x l ih =>
     intro i q hq hr
     have hr' := List.pairwise_cons.1 hr
     by_cases h0 : cmpV v x = 0
     · refine .inr ⟨?_, ?_⟩
       · unfold foldE; rw [zp h0]
       · unfold insV; rw [zp h0, hq]
     · by_cases h1 : cmpV v x < 0
       · refine .inl ⟨true, q ++ [v] ++ [x] ++ l, ?_, ?_, ?_⟩
         · unfold foldE
           rw [zn h0, zp ⟨h1, rfl⟩, zt h1, Bool.or_true]
           exact gen1 l (i + 1) _ fun y hy => cv_cmp.trans _ _ _ h1 (hr'.1 y hy)
         · unfold insV; rw [zn h0, zp h1]; simp
         · rw [← hq]; simp; omega
       · have e : foldE (S := Bool × List Val) (fun _ x s => if cmpV v x = 0 then .inr (.inr o) else .inl (s.1 || decide (cmpV v x < 0), (if cmpV v x < 0 ∧ s.1 = false then s.2 ++ [v] else s.2) ++ [x])) (fun s => (.inl (s.1, s.2, ()) : (Bool × List Val × Unit) ⊕ List Val)) i (x :: l) (false, q) = foldE (S := Bool × List Val) (fun _ x s => if cmpV v x = 0 then .inr (.inr o) else .inl (s.1 || decide (cmpV v x < 0), (if cmpV v x < 0 ∧ s.1 = false then s.2 ++ [v] else s.2) ++ [x])) (fun s => (.inl (s.1, s.2, ()) : (Bool × List Val × Unit) ⊕ List Val)) (i + 1) l (false, q ++ [x]) := by
           conv => lhs; unfold foldE
           rw [zn h0, zn (fun e => h1 e.1), zf h1]; rfl
         have := ih (i + 1) (q ++ [x]) (by rw [← hq]; simp) hr'.2
         rw [e]
         have e2 : q ++ insV (x :: l) v = q ++ [x] ++ insV l v := by
           conv => lhs; unfold insV
           rw [zn h0, zn h1]; simp
         rw [e2]
         exact this
 rcases gen2 o 0 [] rfl hr with ⟨b, r, h1, h2, h3⟩ | ⟨h1, h2⟩
 · rw [h1, bind_join_inl]
   rw [List.nil_append] at h2
   cases b with
   | true => rw [zp rfl] at h2; rw [← h2]; rfl
   | false =>
     rw [zn (by simp)] at h2
     simp only [Bool.not_false, cond_true]
     rw [roomT_lt (by simp; omega), ← h2]; rfl
 · rw [h1, bind_join_inr]
   rw [List.nil_append] at h2
   rw [← h2]
theorem refValues_t {l : List Item1} {p : Path} (hl : LowI l) (hv : ∀ x ∈ l, x.2.1.2.2.1.2.2.1.length < 1000000) : zbc l p = some (valsU (valsAt l p)) := by
 unfold zbc valsAt
 rw [refAt_t hl]
 have hlow := (atM_low (p := p) (leaf := 1) hl).len
 have hq : ∀ x ∈ atM l p 1, x.2.1.2.2.1.2.2.1.length < 1000000 := fun x hx => hv x (List.mem_filter.1 hx).1
 generalize atM l p 1 = q at hlow hq
 simp only [zb]
 have loop := loop_list (S := List Val) (f := zbc_l4 q) (l := q) (fun i o => (o, (i : Int), ())) (fun _ x o => .inl (insV o x.2.1.2.2.1)) (fun o => o) (fun i o => riseV o ∧ o.length ≤ i) (fun i h o ho => by
   refine .inl ⟨_, rfl, ?_, insV_rises ho.1, by have := insV_len (v := q[i].2.1.2.2.1) (o := o); have := ho.2; omega⟩
   unfold zbc_l4
   simp only [cond_dec]
   rw [zp (by omega), atI_lt h]
   have := ho.2
   simp only [zb, refInsert_t (show o.length < 1000000 by omega) (hq _ (zm h)) ho.1]
   rw [wrap64 (by omega) (by omega)]; rfl) (fun o _ => by
   unfold zbc_l4
   simp only [cond_dec]
   rw [zn (by omega)]) [] ⟨List.Pairwise.nil, by simp⟩
 rw [show (([] : List Val), (0 : Int), ()) = (([] : List Val), ((0 : Nat) : Int), ()) from rfl, loop, foldE_inl, valsU, List.foldl_map]
structure LowP (l : List Txn1) : Prop where
 low : Low l
 ops : ∀ t ∈ l, ∀ o ∈ t.2.2.2.2.1, (o.2.1.length < 1000000 ∧ ∀ s ∈ o.2.1, s.length < 1000000) ∧ o.2.2.1.2.2.1.length < 1000000
theorem items_mem {p : Ref1 → Bool} {t : Txn1} : ∀ {l : List Op1} {k : Nat} {x : Item1}, x ∈ itemsM p t k l → ∃ (j : Nat) (o : Op1), o ∈ l ∧ putKind o.1 = true ∧ p (t.1, (j : Int), ()) = false ∧ x = ((t.1, (j : Int), ()), o, t.2.2.1, ())
 | [], _, x, h => by cases h
 | o :: l, k, x, h => by
   unfold itemsM at h
   rcases List.mem_append.1 h with h | h
   · unfold itemAt at h
     split at h
     · rename_i hc
       rw [List.mem_singleton] at h
       exact ⟨k, o, List.mem_cons_self .., hc.1, hc.2, h⟩
     · cases h
   · obtain ⟨j, o', h1, h2⟩ := items_mem h
     exact ⟨j, o', List.mem_cons_of_mem _ h1, h2⟩
theorem allM_mem {l : List Txn1} {u : List Ref1} {x : Item1} (h : x ∈ allM l u) : ∃ t ∈ l, ∃ (j : Nat) (o : Op1), o ∈ t.2.2.2.2.1 ∧ putKind o.1 = true ∧ seenM u t.1 = true ∧ covM l u (t.1, (j : Int), ()) = false ∧ x = ((t.1, (j : Int), ()), o, t.2.2.1, ()) := by
 unfold allM at h
 obtain ⟨t, ht, hx⟩ := List.mem_flatMap.1 h
 split at hx
 · rename_i hs
   obtain ⟨j, o, h1, h2, h3, h4⟩ := items_mem hx
   exact ⟨t, ht, j, o, h1, h2, hs, h3, h4⟩
 · cases hx
theorem flat_len {A B : Type} {g : A → List B} {n : Nat} : ∀ {l : List A}, (∀ x ∈ l, (g x).length ≤ n) → (l.flatMap g).length ≤ l.length * n
 | [], _ => Nat.zero_le _
 | x :: l, h => by
   have := flat_len (l := l) fun y hy => h y (List.mem_cons_of_mem _ hy)
   have := h x (List.mem_cons_self ..)
   rw [List.flatMap_cons, List.length_append, zl, Nat.succ_mul]; omega
theorem txns_low {l : List Txn1} {n : Nat} (h : TxnsOk l n) (hn : n ≤ 900) : LowP l := by
 refine ⟨⟨by have := h.len; omega, fun t ht => by have := (h.all t ht).len; omega, fun t ht o ho => ?_⟩, fun t ht o ho => ?_⟩
 · have := ((h.all t ht).ops o ho).1.2.2.2; omega
 · have := ((h.all t ht).ops o ho).1
   exact ⟨⟨by have := this.1; omega, fun s hs => by have := this.2.1 s hs; omega⟩, by have := this.2.2.1; omega⟩
theorem counts_low {u : List Ref1} (h : CountsOk u) : LowU u := ⟨by have := h.len; omega, h.rise⟩
abbrev Leaf1 := Path × Int × Unit
def cmpLf (a b : Leaf1) : Int := orI (cmpP a.1 b.1) (cmpI a.2.1 b.2.1)
theorem cp_cmp : Cmp cmpP := Cmp.list cb_cmp
theorem cl_cmp : Cmp cmpLf := by
 have : cmpLf = fun a b => cmpB cmpP cmpI ((fun x : Leaf1 => (x.1, x.2.1)) a) ((fun x : Leaf1 => (x.1, x.2.1)) b) := rfl
 rw [this]
 exact Cmp_map (cp_cmp.pair ci_cmp) _ fun a b h => by
   obtain ⟨a1, a2, ⟨⟩⟩ := a; obtain ⟨b1, b2, ⟨⟩⟩ := b
   simp only [Prod.mk.injEq] at h
   rw [h.1, h.2]
theorem treeC_t {a b : Leaf1} (ha : a.1.length < 1000000) : za7 a b = some (cmpLf a b) := by
 unfold za7
 simp only [pathCompare_t ha, compare_t, or_t, zb]
 rfl
theorem leafEq_t' {a b : Leaf1} (ha : a.1.length < 1000000) : zau a b = some (decide (a = b)) := by
 unfold zau
 rw [treeC_t ha]
 simp only [zb]
 by_cases h : a = b
 · rw [zt h, zt ((cl_cmp.zero _ _).2 h)]
 · rw [zf h, zf (fun e => h ((cl_cmp.zero _ _).1 e))]
structure MidS (l w : List (List UInt8)) (i0 k i : Nat) : Prop where
 len : w.length = l.length
 head : w.take i = sqz (l.take (i0 + k))
 rest : ∀ j, i0 + k - 1 ≤ j → w[j]? = l[j]?
 low : i ≤ i0 + k - 1
structure MidL (l w : List Leaf1) (i0 k i : Nat) : Prop where
 len : w.length = l.length
 head : w.take i = sqz (l.take (i0 + k))
 rest : ∀ j, i0 + k - 1 ≤ j → w[j]? = l[j]?
 low : i ≤ i0 + k - 1
theorem compact_innerL {l : List Leaf1} {i0 : Nat} (hl : l.length < 1000000) (hE : ∀ a b, a ∈ l → zau a b = some (decide (a = b))) (h0 : 0 < i0) (hi0 : i0 < l.length) : ∀ (n k i : Nat) (w : List Leaf1), l.length - i0 - k ≤ n → 1 ≤ k → k ≤ l.length - i0 → MidL l w i0 k i →
   ∃ w' i', MidL l w' i0 (l.length - i0) i' ∧ loopT zac_l9 ((i : Int), (i0, l.length - i0), (k : Int), w, ()) = some (.inl ((i' : Int), w', ())) := by
 intro n
 induction n with
 | zero =>
   intro k i w hn hk1 hk hm
   have e : k = l.length - i0 := by omega
   subst e
   refine ⟨w, i, hm, loopT_inr ?_⟩
   unfold zac_l9
   simp only [cond_dec]
   rw [zn (by omega)]
 | succ n ih =>
   intro k i w hn hk1 hk hm
   by_cases hlt : k < l.length - i0
   · have hwl := hm.len
     have hw : 0 < w.length := by omega
     have hk0 : i0 + k < l.length := by omega
     have ea : w[i0 + k]? = some (l[i0 + k]) := by rw [hm.rest _ (by omega), zg hk0]
     have eb : w[i0 + (k - 1)]? = some (l[i0 + k - 1]'(by omega)) := by rw [show i0 + (k - 1) = i0 + k - 1 by omega, hm.rest _ (by omega), zg (by omega)]
     have hlow := hm.low
     have hiw : i < w.length := by omega
     have turn : zac_l9 ((i : Int), (i0, l.length - i0), (k : Int), w, ()) = if l[i0 + k - 1]'(by omega) = l[i0 + k] then some (.inl ((i : Int), (i0, l.length - i0), ((k + 1 : Nat) : Int), w, ())) else some (.inl (((i + 1 : Nat) : Int), (i0, l.length - i0), ((k + 1 : Nat) : Int), w.set i l[i0 + k], ())) := by
       unfold zac_l9
       simp only [cond_dec]
       rw [zp (by omega), emp_false hw]
       simp only [cond_false]
       rw [inI_nat hlt, wrap64 (n := (k : Int) - 1) (by omega) (by omega), show (k : Int) - 1 = ((k - 1 : Nat) : Int) by omega, inI_nat (show k - 1 < l.length - i0 by omega)]
       simp only [zb]
       rw [ea, eb]
       simp only [zb, hE, zm]
       rw [wrap64 (by omega) (by omega), wrap64 (by omega) (by omega)]
       by_cases hx : l[i0 + k] = l[i0 + k - 1]'(by omega)
       · rw [zp hx.symm]
         first | (rw [zt hx]; rfl) | (rw [zp hx])
       · rw [zn (fun e => hx e.symm), zf hx, inI_nat hiw]
         simp only [Bool.not_false, cond_true, zb]
         rw [zg hiw]
         rfl
     have hsq := sqzS_take (l := l) (i := i0 + k) hk0 (by omega)
     by_cases hx : l[i0 + k - 1]'(by omega) = l[i0 + k]
     · rw [zp hx] at turn hsq
       rw [loopT_inl turn]
       exact ih (k + 1) i w (by omega) (by omega) (by omega) ⟨hwl, by rw [hm.head, show i0 + (k + 1) = i0 + k + 1 by omega, hsq], fun j hj => hm.rest j (by omega), by omega⟩
     · rw [zn hx] at turn hsq
       rw [loopT_inl turn]
       refine ih (k + 1) (i + 1) _ (by omega) (by omega) (by omega) ⟨by rw [List.length_set]; exact hwl, ?_, fun j hj => ?_, by omega⟩
       · rw [show i0 + (k + 1) = i0 + k + 1 by omega, hsq, ← hm.head, List.take_add_one, List.take_set_of_le (by omega), List.getElem?_set_self hiw]; rfl
       · rw [List.getElem?_set_ne (by omega)]
         exact hm.rest j (by omega)
   · have e : k = l.length - i0 := by omega
     subst e
     refine ⟨w, i, hm, loopT_inr ?_⟩
     unfold zac_l9
     simp only [cond_dec]
     rw [zn (by omega)]
theorem compact_outerL {l : List Leaf1} (hl : l.length < 1000000) (hE : ∀ a b, a ∈ l → zau a b = some (decide (a = b))) : ∀ (n i : Nat), l.length - i ≤ n → 1 ≤ i → i ≤ l.length → sqz (l.take i) = l.take i →
   loopT zac_l4 ((i : Int), l, ()) = some (sqz l) := by
 intro n
 induction n with
 | zero =>
   intro i hn h1 hi hs
   have e : i = l.length := by omega
   subst e
   rw [List.take_of_length_le (Nat.le_refl _)] at hs
   refine loopT_inr ?_
   unfold zac_l4
   simp only [cond_dec]
   rw [zn (by omega), hs]
 | succ n ih =>
   intro i hn h1 hi hs
   by_cases hlt : i < l.length
   · have hsq := sqzS_take (l := l) (i := i) hlt (by omega)
     have he : l.isEmpty = false := emp_false (by omega)
     by_cases hx : l[i - 1]'(by omega) = l[i]
     · refine loopT_inr ?_
       unfold zac_l4
       simp only [cond_dec]
       rw [zp (by omega), inI_nat hlt, wrap64 (by omega) (by omega), show (i : Int) - 1 = ((i - 1 : Nat) : Int) by omega, inI_nat (show i - 1 < l.length by omega)]
       simp only [zb, zg hlt, zg (show i - 1 < l.length by omega), hE, zm]
       first | rw [zt hx.symm, cond_true] | rw [zp hx.symm]
       rw [he, cond_false, viewI_nat (by omega) (Nat.le_refl _)]
       simp only [zb]
       rw [zp hx] at hsq
       obtain ⟨w', i', hm, hrun⟩ := compact_innerL hl hE (by omega) hlt (l.length - i) 1 i l (by omega) (Nat.le_refl _) (by omega) ⟨rfl, by rw [hsq, hs], fun j _ => rfl, by omega⟩
       rw [show ((1 : Int)) = ((1 : Nat) : Int) from rfl, hrun, bind_join_inl]
       have hwl := hm.len
       have hlow := hm.low
       have hle : i' ≤ w'.length := by omega
       have hw : 0 < w'.length := by omega
       have e2 : i + (l.length - i) = l.length := by omega
       have hhead : w'.take i' = sqz l := by rw [hm.head, e2, List.take_of_length_le (Nat.le_refl _)]
       simp only
       rw [emp_false hw, cond_false, viewI_nat hle (Nat.le_refl _)]
       simp only [zb, cond_false]
       rw [zp (by omega)]
       simp only [zb]
       have hlen2 : (List.take i' w' ++ List.replicate (w'.length - i') (([], 0, ()) : Leaf1) ++ List.drop (i' + (w'.length - i')) w').length = w'.length := by
         rw [List.length_append, List.length_append, List.length_take, List.length_replicate, List.length_drop]; omega
       rw [emp_false (by rw [hlen2]; exact hw), cond_false, hlen2, show ((0 : Int)) = ((0 : Nat) : Int) from rfl, viewI_nat (Nat.zero_le _) hle]
       simp only [zb, cond_false]
       rw [zp (by omega)]
       simp only [Option.map_some, List.drop_zero, Nat.sub_zero]
       rw [List.append_assoc, List.take_append_of_le_length (by rw [List.length_take]; omega), List.take_take, Nat.min_self, hhead]
     · have turn : zac_l4 ((i : Int), l, ()) = some (.inl (((i + 1 : Nat) : Int), l, ())) := by
         unfold zac_l4
         simp only [cond_dec]
         rw [zp (by omega), inI_nat hlt, wrap64 (by omega) (by omega), show (i : Int) - 1 = ((i - 1 : Nat) : Int) by omega, inI_nat (show i - 1 < l.length by omega)]
         simp only [zb, zg hlt, zg (show i - 1 < l.length by omega), hE, zm]
         first | rw [zf (fun e => hx e.symm), cond_false] | rw [zn (fun e => hx e.symm)]
         rw [wrap64 (by omega) (by omega)]; rfl
       rw [loopT_inl turn]
       rw [zn hx, hs] at hsq
       refine ih (i + 1) (by omega) (by omega) (by omega) ?_
       rw [hsq, List.take_add_one, zg hlt]; rfl
   · have e : i = l.length := by omega
     subst e
     rw [List.take_of_length_le (Nat.le_refl _)] at hs
     refine loopT_inr ?_
     unfold zac_l4
     simp only [cond_dec]
     rw [zn (by omega), hs]
theorem compact_tL {l : List Leaf1} (hl : l.length < 1000000) (hE : ∀ a b, a ∈ l → zau a b = some (decide (a = b))) : zac l = some (sqz l, ()) := by
 unfold zac zac_g
 simp only [cond_dec]
 match l, hl, hE with
 | [], _, _ => rfl
 | [x], _, _ => rfl
 | x :: y :: l, hl, hE =>
   rw [zn (by simp only [zl]; omega)]
   have := compact_outerL hl hE (x :: y :: l).length 1 (by omega) (Nat.le_refl _) (by simp) rfl
   rw [show ((1 : Int)) = ((1 : Nat) : Int) from rfl, this]
   rfl
def leafOf (x : Item1) : Leaf1 := (x.2.1.2.1, leafM x.2.1.1, ())
def leavesM (l : List Item1) : List Leaf1 := uniq cmpLf (l.map leafOf)
theorem leaves_t {l : List Item1} (hl : LowI l) : zbk l = some (leavesM l) := by
 have hlen := hl.len
 have := loop_map (f := zbk_l3 l) (l := l) (fun i o => ((i : Int), o, ())) (fun x => [leafOf x]) (fun o => (.inl (o, ()) : (List Leaf1 × Unit) ⊕ List Leaf1)) 1 (fun x _ => Nat.le_refl _) (fun i h o ho => by
   have hp := (hl.path _ (zm h)).1
   unfold zbk_l3
   simp only [cond_dec]
   rw [zp (by omega), atI_lt h]
   have hc : zal l[i].2.1.2.1 = some l[i].2.1.2.1 := by
     unfold zal cloneT
     rw [zp (by simp only [most]; omega)]
   simp only [zb, hc, opLeaf_t]
   rw [wrap64 (by omega) (by omega), roomT_lt (by simp; omega)]; rfl) (fun o _ => by
   unfold zbk_l3
   simp only [cond_dec]
   rw [zn (by omega)])
 unfold zbk
 rw [show ((0 : Int), ([] : List Leaf1), ()) = (((0 : Nat) : Int), [], ()) from rfl, this, bind_join_inl]
 have e : (l.flatMap fun x => [leafOf x]) = l.map leafOf := by
   clear this hlen hl
   induction l with
   | nil => rfl
   | cons x l ih => rw [List.flatMap_cons, List.map_cons, ih]; rfl
 have hp : ∀ x ∈ l.map leafOf, x.1.length < 1000000 := fun x hx => by
   obtain ⟨y, hy, rfl⟩ := List.mem_map.1 hx
   exact (hl.path y hy).1
 obtain ⟨s, h1, h2, h3⟩ := sortT_law (c := cmpLf) (key := fun v : Leaf1 => v) (cmp := fun x y => za7 x y) (xs := l.map leafOf) cl_cmp (fun x hx y _ => treeC_t (hp x hx)) (by rw [List.length_map]; omega)
 have hs : zae (l.map leafOf) = some ((), s, ()) := by unfold zae; rw [h1]; rfl
 simp only [e]
 rw [hs]
 simp only [zb]
 rw [compact_tL (by rw [h2.length_eq, List.length_map]; omega) (fun a b ha => leafEq_t' (hp a (h2.mem_iff.1 ha)))]
 simp only [zb]
 congr 1
 unfold leavesM
 refine rises_unique cl_cmp (key := fun v : Leaf1 => v) (sqz_rises cl_cmp (fun a b => (cl_cmp.zero a b).1) _ s rfl h3) (uniq_rises cl_cmp _) fun x => ?_
 rw [sqz_mem _ s rfl, uniq_mem cl_cmp]
 exact h2.mem_iff
def lowLf (y : Leaf1) : Prop := y.1.length < 1000000 ∧ (∀ s ∈ y.1, s.length < 1000000) ∧ 0 ≤ y.2.1 ∧ y.2.1 ≤ 3
theorem leafM_in (k : Int) : 0 ≤ leafM k ∧ leafM k ≤ 3 := by unfold leafM; split <;> (try split) <;> (try split) <;> omega
theorem leafOf_low {l : List Item1} (hl : LowI l) {x : Item1} (hx : x ∈ l) : lowLf (leafOf x) := ⟨(hl.path x hx).1, (hl.path x hx).2, leafM_in _⟩
theorem refC17_t {y x : Leaf1} (hy : lowLf y) (hx : lowLf x) : ∃ r, zav y x = some r ∧ (r < 0 ↔ cmpLf y x < 0) ∧ (r = 0 ↔ cmpLf y x = 0) := by
 unfold zav cmpLf orI
 rw [refPathCompare_t hy.1 hy.2.1]
 simp only [zb, cond_ndec]
 by_cases h : cmpP y.1 x.1 = 0
 · rw [zp h, zp h]
   have := hy.2.2; have := hx.2.2
   refine ⟨_, rfl, ?_, ?_⟩ <;> rw [wrap64 (by omega) (by omega)] <;> unfold cmpI <;> split <;> (try split) <;> omega
 · rw [zn h, zn h]
   exact ⟨_, rfl, Iff.rfl, Iff.rfl⟩
theorem leafAt_loop {o : List Leaf1} {x : Leaf1} (ho : o.length < 1000000) (hr : riseA cmpLf o) (hlo : ∀ y ∈ o, lowLf y) (hx : lowLf x) : ∀ (n i : Nat), (loA cmpLf x o).length - i ≤ n → i ≤ (loA cmpLf x o).length →
   loopT za8_l7 ((i : Int), o, x, ()) = some (.inl (((loA cmpLf x o).length : Int), o, x, ())) := by
 have e : loA cmpLf x o ++ hiA cmpLf x o = o := lohiA
 have el : (loA cmpLf x o).length + (hiA cmpLf x o).length = o.length := by rw [← List.length_append, e]
 have turn : ∀ i : Nat, i < o.length → za8_l7 ((i : Int), o, x, ()) = if i < (loA cmpLf x o).length then some (.inl (((i + 1 : Nat) : Int), o, x, ())) else some (.inr (.inl ((i : Int), o, x, ()))) := fun i hi => by
   unfold za8_l7
   simp only [cond_dec]
   rw [zp (by omega), inI_nat hi]
   simp only [zb, zg hi]
   obtain ⟨r, h1, h2, h3⟩ := refC17_t (hlo _ (zm hi)) hx
   simp only [h1, zb]
   rw [wrap64 (by omega) (by omega)]
   by_cases hlt : i < (loA cmpLf x o).length
   · rw [zp (h2.2 (at_lo hi hlt)), zp hlt]; rfl
   · have := at_hi cl_cmp (key := fun v : Leaf1 => v) hr hi (k := x) (Nat.le_of_not_lt hlt)
     rw [zn (fun e => by have := h2.1 e; omega), zn hlt]
 intro n
 induction n with
 | zero =>
   intro i hn hi
   have e : i = (loA cmpLf x o).length := by omega
   refine loopT_inr ?_
   by_cases hlt : i < o.length
   · rw [turn i hlt, zn (by omega), e]
   · unfold za8_l7
     simp only [cond_dec]
     rw [zn (by omega), e]
 | succ n ih =>
   intro i hn hi
   by_cases hlt : i < (loA cmpLf x o).length
   · rw [loopT_inl (a := ((i : Int), o, x, ())) (b := (((i + 1 : Nat) : Int), o, x, ())) (by rw [turn i (by omega), zp hlt])]
     exact ih (i + 1) (by omega) (by omega)
   · have e : i = (loA cmpLf x o).length := by omega
     refine loopT_inr ?_
     by_cases hlt : i < o.length
     · rw [turn i hlt, zn (by omega), e]
     · unfold za8_l7
       simp only [cond_dec]
       rw [zn (by omega), e]
theorem leafShift_loop {o : List Leaf1} {x : Leaf1} {v7 : Int × List Leaf1 × Leaf1 × Unit} {at' : Nat} (hv : v7.1 = (at' : Int)) (ho : o.length < 1000000) : ∀ (k : Nat), at' ≤ k → k ≤ o.length →
   loopT (za8_l12 v7) ((k : Int), shiftW o x k, x, ()) = some (.inl (shiftW o x at', x, ())) := by
 intro k
 induction k with
 | zero =>
   intro h1 h2
   have e : at' = 0 := by omega
   subst e
   refine loopT_inr ?_
   unfold za8_l12
   simp only [cond_dec, hv]
   rw [zn (by omega)]
 | succ k ih =>
   intro h1 h2
   by_cases hlt : at' < k + 1
   · have hl : (shiftW o x (k + 1)).length = o.length + 1 := shift_len h2
     have turn : za8_l12 v7 (((k + 1 : Nat) : Int), shiftW o x (k + 1), x, ()) = some (.inl ((k : Int), shiftW o x k, x, ())) := by
       unfold za8_l12
       simp only [cond_dec, hv]
       rw [zp (by omega), wrap64 (by omega) (by omega), show ((k + 1 : Nat) : Int) - 1 = (k : Int) by omega, inI_nat (show k < (shiftW o x (k + 1)).length by omega)]
       simp only [zb]
       rw [shift_at (show k < o.length by omega)]
       simp only [zb]
       rw [inI_nat (show k + 1 < (shiftW o x (k + 1)).length by omega)]
       simp only [zb]
       rw [zg (show k + 1 < (shiftW o x (k + 1)).length by omega)]
       simp only [zb]
       rw [shift_step (show k < o.length by omega)]
     rw [loopT_inl turn]
     exact ih (by omega) (by omega)
   · have e : at' = k + 1 := by omega
     subst e
     refine loopT_inr ?_
     unfold za8_l12
     simp only [cond_dec, hv]
     rw [zn (by omega)]
theorem leaf_turn {l : List Item1} {i : Nat} {o : List Leaf1} (hl : LowI l) (h : i < l.length) (ho : o.length < 1000000) (hr : riseA cmpLf o) (hlo : ∀ y ∈ o, lowLf y) :
   za8_l3 l ((i : Int), o, ()) = some (.inl (((i + 1 : Nat) : Int), putU cmpLf o (leafOf l[i]), ())) := by
 have hlen := hl.len
 have hx := leafOf_low hl (zm h)
 have e : loA cmpLf (leafOf l[i]) o ++ hiA cmpLf (leafOf l[i]) o = o := lohiA
 have el : (loA cmpLf (leafOf l[i]) o).length + (hiA cmpLf (leafOf l[i]) o).length = o.length := by rw [← List.length_append, e]
 have hat := leafAt_loop ho hr hlo hx _ 0 (Nat.le_refl _) (Nat.zero_le _)
 unfold za8_l3
 simp only [cond_dec]
 rw [zp (by omega), atI_lt h]
 simp only [zb, refLeaf11_t]
 have e1 : ((l[i].2.1.2.1, leafM l[i].2.1.1, ()) : Leaf1) = leafOf l[i] := rfl
 rw [e1, show ((0 : Int), o, leafOf l[i], ()) = (((0 : Nat) : Int), o, leafOf l[i], ()) from rfl, hat, bind_join_inl]
 generalize hx1 : leafOf l[i] = x at *
 simp only
 rw [wrap64 (n := (i : Int) + 1) (by omega) (by omega)]
 have go : (∀ y q, hiA cmpLf x o = y :: q → cmpLf y x ≠ 0) → ((roomT (o.length + ([x] : List Leaf1).length)).bind fun u12 =>
     (loopT (za8_l12 (((loA cmpLf x o).length : Int), o, x, ())) ((IntKind.wrap .i64 (((o ++ ([x] : List Leaf1)).length : Int) - 1)), (o ++ ([x] : List Leaf1)), x, ()) : Option ((List Leaf1 × Leaf1 × Unit) ⊕ ((Int × List Leaf1 × Unit) ⊕ List Leaf1))).bind (joinS fun v17 =>
     (inI v17.1.length ((loA cmpLf x o).length : Int)).bind fun i18 =>
     (v17.1[i18]?).bind fun x19 =>
     some (.inl ((i : Int) + 1, (v17.1.set i18 v17.2.1), ())))) = some (.inl (((i + 1 : Nat) : Int), putU cmpLf o x, ())) := fun hne => by
   rw [roomT_lt (by simp; omega)]
   simp only [zb]
   rw [wrap64 (by rw [List.length_append, List.length_singleton]; omega) (by rw [List.length_append, List.length_singleton]; omega), show ((o ++ [x]).length : Int) - 1 = (o.length : Int) by simp, ← shift_start, leafShift_loop (at' := (loA cmpLf x o).length) rfl ho o.length (by omega) (Nat.le_refl _), bind_join_inl]
   have hsl : (shiftW o x (loA cmpLf x o).length).length = o.length + 1 := shift_len (by omega)
   simp only
   rw [inI_nat (by omega)]
   simp only [zb]
   rw [zg (show (loA cmpLf x o).length < (shiftW o x (loA cmpLf x o).length).length by omega)]
   simp only [zb]
   rw [shift_end (by omega), put_at hne]; rfl
 by_cases hlt : (loA cmpLf x o).length < o.length
 · rw [zp (by omega), inI_nat hlt]
   simp only [zb, zg hlt]
   cases hq : hiA cmpLf x o with
   | nil => rw [hq] at el; simp only [List.length_nil] at el; omega
   | cons y q =>
     have ey : o[(loA cmpLf x o).length] = y := by
       have : (loA cmpLf x o ++ y :: q)[(loA cmpLf x o).length]? = some y := by simp
       rw [← hq, e, zg hlt] at this
       exact Option.some.inj this
     rw [ey]
     have hy : y ∈ o := by rw [← ey]; exact zm hlt
     obtain ⟨r, h1, h2, h3⟩ := refC17_t (hlo y hy) hx
     simp only [h1, zb]
     by_cases h0 : r = 0
     · rw [zp h0, bind_join_inr]
       have hp : putU cmpLf o x = o := by
         unfold putU
         rw [hq]
         exact zp (h3.1 h0)
       rw [hp]; rfl
     · rw [zn h0, bind_join_inl]
       exact go (fun y' q' e' => by rw [hq] at e'; cases e'; exact fun e => h0 (h3.2 e))
 · rw [zn (by omega), bind_join_inl]
   exact go (fun y' q' e' => by rw [e'] at el; simp only [zl] at el; omega)
theorem refLeaves_t {l : List Item1} (hl : LowI l) : za8 l = some (leavesM l) := by
 have hlen := hl.len
 have loop := loop_list (S := List Leaf1) (f := za8_l3 l) (l := l) (fun i o => ((i : Int), o, ())) (fun _ x o => .inl (putU cmpLf o (leafOf x))) (fun o => o) (fun i o => riseA cmpLf o ∧ o.length ≤ i ∧ ∀ y ∈ o, lowLf y) (fun i h o ho => by
   refine .inl ⟨_, rfl, leaf_turn hl h (by omega) ho.1 ho.2.2, putU_rises cl_cmp ho.1, ?_, fun y hy => ?_⟩
   · have := putU_len (c := cmpLf) (o := o) (v := leafOf l[i]); omega
   · rcases (putU_mem cl_cmp).1 hy with e | hy
     · rw [e]; exact leafOf_low hl (zm h)
     · exact ho.2.2 y hy) (fun o _ => by
   unfold za8_l3
   simp only [cond_dec]
   rw [zn (by omega)]) [] ⟨List.Pairwise.nil, Nat.le_refl _, fun y hy => by cases hy⟩
 unfold za8
 rw [show ((0 : Int), ([] : List Leaf1), ()) = (((0 : Nat) : Int), [], ()) from rfl, loop, foldE_inl]
 congr 1
 have : l.foldl (fun o x => putU cmpLf o (leafOf x)) [] = (l.map leafOf).foldl (putU cmpLf) [] := by rw [List.foldl_map]
 rw [this, put_uniq cl_cmp]
 try rfl
theorem leavesM_mem {l : List Item1} {y : Leaf1} : y ∈ leavesM l ↔ ∃ x ∈ l, leafOf x = y := by
 unfold leavesM
 rw [uniq_mem cl_cmp, List.mem_map]
end Go.Proofs.YtgfpkhlabdcbmaaGreatDoor.Q
