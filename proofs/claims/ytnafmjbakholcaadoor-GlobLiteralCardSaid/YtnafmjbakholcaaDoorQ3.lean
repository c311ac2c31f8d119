import Derived.Test.YtnafmjbakholcaaDoorQ2
set_option linter.unusedVariables false
set_option linter.unusedSimpArgs false
set_option maxRecDepth 100000
namespace Go.Proofs.YtnafmjbakholcaaDoor.Q
open Go.EM Go.TY Go.Proofs Go.Proofs.YtnafmjbakholcaaDoor.Y
abbrev VR := (List UInt8 × Unit) ⊕ Bool
theorem at1 {a b : UInt8} {t : List UInt8} : atI (a :: b :: t) 1 = some b := by simp [atI]
theorem at2 {a b c : UInt8} {t : List UInt8} : atI (a :: b :: c :: t) 2 = some c := by simp [atI]
theorem at3 {a b c d : UInt8} {t : List UInt8} : atI (a :: b :: c :: d :: t) 3 = some d := by simp [atI]
theorem sub2 {a b : UInt8} {t : List UInt8} : subI (a :: b :: t) 2 ((a :: b :: t).length : Int) = some t := sub_from (i := 2) 2 rfl (by simp)
theorem sub3 {a b c : UInt8} {t : List UInt8} : subI (a :: b :: c :: t) 3 ((a :: b :: c :: t).length : Int) = some t := sub_from (i := 3) 3 rfl (by simp)
theorem sub4 {a b c d : UInt8} {t : List UInt8} : subI (a :: b :: c :: d :: t) 4 ((a :: b :: c :: d :: t).length : Int) = some t := sub_from (i := 4) 4 rfl (by simp)
/-- What the main loop does of a first byte that is not ASCII. -/
def slowM (n lo hi : Int) (s : List UInt8) : VR :=
  if n = 2 then (match s with
    | _ :: b :: t => if lo ≤ (b.toNat : Int) ∧ (b.toNat : Int) ≤ hi then .inl (t, ()) else .inr false
    | _ => .inr false)
  else if n = 3 then (match s with
    | _ :: b :: c :: t => if (lo ≤ (b.toNat : Int) ∧ (b.toNat : Int) ≤ hi) ∧ (128 ≤ c.toNat ∧ c.toNat ≤ 191) then .inl (t, ()) else .inr false
    | _ => .inr false)
  else if n = 4 then (match s with
    | _ :: b :: c :: d :: t => if (lo ≤ (b.toNat : Int) ∧ (b.toNat : Int) ≤ hi) ∧ (128 ≤ c.toNat ∧ c.toNat ≤ 191) ∧ (128 ≤ d.toNat ∧ d.toNat ≤ 191) then .inl (t, ()) else .inr false
    | _ => .inr false)
  else .inr false
set_option maxHeartbeats 1000000 in
theorem turn1_slow {a : UInt8} {t : List UInt8} {x n lo hi k : Int} (ha : 128 ≤ a.toNat) (hx : firstM a.toNat = x)
    (hn : IntKind.wrap .i64 (IntKind.wrap .u8 ((BitVec.ofInt (IntKind.bits .u8) x &&& BitVec.ofInt (IntKind.bits .u8) 7).toNat)) = n) (hk : shrT .u8 x 4 = some k) (hr : atI tabAccept k = some (lo, hi, ())) :
    utf8_ValidString_l1 (a :: t, ()) = some (slowM n lo hi (a :: t)) := by
  have hl : ((a :: t).length : Int) > 0 := by simp only [List.length_cons]; omega
  have hi0 : atI (a :: t) 0 = some a := by simp [atI]
  have h128 : ¬ (a.toNat : Int) < 128 := by omega
  have hf := first_at (a := a.toNat) a.toNat_lt
  rw [hx] at hf
  unfold utf8_ValidString_l1
  generalize tabFirst = T at hf ⊢
  generalize tabAccept = TA at hr ⊢
  simp only [cond_dec, if_pos hl, hi0, Option.bind_some, if_neg h128, bind_join_inl, joinS_inl]
  rw [hf, Option.bind_some, hk, Option.bind_some, hr, Option.bind_some, hn]
  clear hn hk hf hr hx
  unfold slowM
  by_cases h2 : n = 2
  · simp only [if_pos h2]
    match t with
    | [] => simp
    | b :: t =>
      rw [if_neg (by simp only [List.length_cons]; omega)]
      simp only [at1, Option.bind_some, sub2]
      by_cases c1 : (b.toNat : Int) < lo
      · rw [if_pos c1, if_neg (by omega)]
      · rw [if_neg c1]
        by_cases c2 : hi < (b.toNat : Int)
        · rw [if_pos c2, if_neg (by omega)]
        · rw [if_neg c2, if_pos (by omega)]
  simp only [if_neg h2]
  by_cases h3 : n = 3
  · simp only [if_pos h3]
    match t with
    | [] => simp
    | [b] => simp
    | b :: c :: t =>
      rw [if_neg (by simp only [List.length_cons]; omega)]
      simp only [at1, at2, Option.bind_some, sub3, cond_dec]
      by_cases c1 : (b.toNat : Int) < lo
      · rw [if_pos c1, if_neg (by omega)]
      · rw [if_neg c1]
        by_cases c2 : hi < (b.toNat : Int)
        · rw [if_pos c2, if_neg (by omega)]
        · rw [if_neg c2]
          by_cases c3 : (c.toNat : Int) < 128
          · rw [if_pos c3, if_neg (by omega)]
          · rw [if_neg c3]
            by_cases c4 : 191 < (c.toNat : Int)
            · rw [if_pos c4, if_neg (by omega)]
            · rw [if_neg c4, if_pos (by omega)]
  simp only [if_neg h3]
  by_cases h4 : n = 4
  · simp only [if_pos h4]
    match t with
    | [] => simp
    | [b] => simp
    | [b, c] => simp
    | b :: c :: d :: t =>
      rw [if_neg (by simp only [List.length_cons]; omega)]
      simp only [at1, at2, at3, Option.bind_some, sub4, cond_dec]
      by_cases c1 : (b.toNat : Int) < lo
      · simp only [if_pos c1, Option.bind_some, cond_true]
        rw [if_neg (by omega)]
      · simp only [if_neg c1, Option.bind_some, cond_dec]
        by_cases c2 : hi < (b.toNat : Int)
        · simp only [if_pos c2, Option.bind_some, cond_true]
          rw [if_neg (by omega)]
        · simp only [if_neg c2, Option.bind_some, cond_dec]
          by_cases c3 : (c.toNat : Int) < 128
          · simp only [if_pos c3]
            rw [if_neg (by omega)]
          · simp only [if_neg c3]
            by_cases c4 : 191 < (c.toNat : Int)
            · rw [if_pos c4, if_neg (by omega)]
            · rw [if_neg c4]
              by_cases c5 : (d.toNat : Int) < 128
              · rw [if_pos c5, if_neg (by omega)]
              · rw [if_neg c5]
                by_cases c6 : 191 < (d.toNat : Int)
                · rw [if_pos c6, if_neg (by omega)]
                · rw [if_neg c6, if_pos (by omega)]
  simp only [if_neg h4]
theorem firstM_cls {a : Nat} (h : 128 ≤ a) (h2 : a < 256) : (firstM a = 2 ∧ 194 ≤ a ∧ a < 224) ∨ (firstM a = 3 ∧ 225 ≤ a ∧ a < 240 ∧ a ≠ 237) ∨ (firstM a = 19 ∧ a = 224) ∨ (firstM a = 35 ∧ a = 237) ∨ (firstM a = 4 ∧ 241 ≤ a ∧ a < 244) ∨ (firstM a = 52 ∧ a = 240) ∨ (firstM a = 68 ∧ a = 244) ∨ (firstM a = 241 ∧ (a < 194 ∨ 245 ≤ a)) := by
  unfold firstM
  repeat' split
  all_goals omega
theorem three {a : UInt8} {t : List UInt8} {n lo hi : Int} (c1 : ¬ a.toNat < 128) (k : n = 3) (h : 224 ≤ a.toNat ∧ a.toNat < 240)
    (hr : ∀ b c : Int, 128 ≤ b ∧ b ≤ 191 → 128 ≤ c ∧ c ≤ 191 → ((lo ≤ b ∧ b ≤ hi) ↔ ¬ (64 * (64 * ((a.toNat : Int) - 224) + b - 128) + c - 128 < 2048 ∨ (55296 ≤ 64 * (64 * ((a.toNat : Int) - 224) + b - 128) + c - 128 ∧ 64 * (64 * ((a.toNat : Int) - 224) + b - 128) + c - 128 ≤ 57343)))) (hlo : 128 ≤ lo := by omega) (hhi : hi ≤ 191 := by omega) :
    slowM n lo hi (a :: t) = if (charM (a :: t)).2 = 0 then .inr false else .inl ((a :: t).drop (charM (a :: t)).2, ()) := by
  subst k
  have d2 : ¬ (194 ≤ a.toNat ∧ a.toNat < 224) := by omega
  match t with
  | [] => simp [slowM, charM, c1, d2, h]
  | [b] => simp [slowM, charM, c1, d2, h]
  | b :: c :: t =>
    simp only [slowM, charM, if_neg c1, if_neg d2, if_pos h, if_true, show ¬ (3 : Int) = 2 by omega, if_false]
    by_cases hb : (128 ≤ b.toNat ∧ b.toNat ≤ 191) ∧ (128 ≤ c.toNat ∧ c.toNat ≤ 191)
    · have := hr b.toNat c.toNat (by omega) (by omega)
      rw [if_pos hb]
      by_cases hq : lo ≤ (b.toNat : Int) ∧ (b.toNat : Int) ≤ hi
      · rw [if_pos ⟨hq, hb.2⟩, if_neg (this.1 hq)]; rfl
      · rw [if_neg (fun e => hq e.1), if_pos (Classical.not_not.1 (fun e => hq (this.2 e)))]; rfl
    · rw [if_neg hb, if_neg (by omega)]; rfl
theorem four {a : UInt8} {t : List UInt8} {n lo hi : Int} (c1 : ¬ a.toNat < 128) (k : n = 4) (h : 240 ≤ a.toNat ∧ a.toNat < 245)
    (hr : ∀ b c d : Int, 128 ≤ b ∧ b ≤ 191 → 128 ≤ c ∧ c ≤ 191 ∧ 128 ≤ d ∧ d ≤ 191 → ((lo ≤ b ∧ b ≤ hi) ↔ ¬ (64 * (64 * (64 * ((a.toNat : Int) - 240) + b - 128) + c - 128) + d - 128 < 65536 ∨ 1114111 < 64 * (64 * (64 * ((a.toNat : Int) - 240) + b - 128) + c - 128) + d - 128))) (hlo : 128 ≤ lo := by omega) (hhi : hi ≤ 191 := by omega) :
    slowM n lo hi (a :: t) = if (charM (a :: t)).2 = 0 then .inr false else .inl ((a :: t).drop (charM (a :: t)).2, ()) := by
  subst k
  have d2 : ¬ (194 ≤ a.toNat ∧ a.toNat < 224) := by omega
  have d3 : ¬ (224 ≤ a.toNat ∧ a.toNat < 240) := by omega
  match t with
  | [] => simp [slowM, charM, c1, d2, d3, h]
  | [b] => simp [slowM, charM, c1, d2, d3, h]
  | [b, c] => simp [slowM, charM, c1, d2, d3, h]
  | b :: c :: d :: t =>
    simp only [slowM, charM, if_neg c1, if_neg d2, if_neg d3, if_pos h, if_true, show ¬ (4 : Int) = 2 by omega, show ¬ (4 : Int) = 3 by omega, if_false]
    by_cases hb : (128 ≤ b.toNat ∧ b.toNat ≤ 191) ∧ (128 ≤ c.toNat ∧ c.toNat ≤ 191) ∧ (128 ≤ d.toNat ∧ d.toNat ≤ 191)
    · have := hr b.toNat c.toNat d.toNat (by omega) (by omega)
      rw [if_pos hb]
      by_cases hq : lo ≤ (b.toNat : Int) ∧ (b.toNat : Int) ≤ hi
      · rw [if_pos ⟨hq, hb.2⟩, if_neg (this.1 hq)]; rfl
      · rw [if_neg (fun e => hq e.1), if_pos (Classical.not_not.1 (fun e => hq (this.2 e)))]; rfl
    · rw [if_neg hb, if_neg (by omega)]; rfl
/-- A turn of the main loop, at a byte that is not ASCII: as Char has it. -/
theorem turn1_hi {a : UInt8} {t : List UInt8} (ha : 128 ≤ a.toNat) : utf8_ValidString_l1 (a :: t, ()) = some (if (charM (a :: t)).2 = 0 then .inr false else .inl ((a :: t).drop (charM (a :: t)).2, ())) := by
  have hlt := a.toNat_lt
  have hc := firstM_cls ha hlt
  obtain ⟨n, lo, hi, k, g1, g2, g2', g3⟩ := cls2 (x := firstM a.toNat) (by omega)
  rw [turn1_slow ha rfl g1 g2 g2']
  congr 1
  have c1 : ¬ a.toNat < 128 := by omega
  rcases hc with ⟨e, k1, k2⟩ | ⟨e, k1, k2, k3⟩ | ⟨e, k1⟩ | ⟨e, k1⟩ | ⟨e, k1, k2⟩ | ⟨e, k1⟩ | ⟨e, k1⟩ | ⟨e, k1⟩
  · have : n = 2 ∧ lo = 128 ∧ hi = 191 := by omega
    obtain ⟨rfl, rfl, rfl⟩ := this
    match t with
    | [] => simp [slowM, charM, c1, k1, k2]
    | b :: t =>
      simp only [slowM, charM, if_neg c1, if_pos (And.intro k1 k2), if_true]
      by_cases hb : 128 ≤ b.toNat ∧ b.toNat ≤ 191
      · rw [if_pos (by omega), if_pos hb]; rfl
      · rw [if_neg (by omega), if_neg hb]; rfl
  · exact three (lo := lo) (hi := hi) (n := n) c1 (by omega) (by omega) (by intro b c h1 h2; omega)
  · exact three (lo := lo) (hi := hi) (n := n) c1 (by omega) (by omega) (by intro b c h1 h2; omega)
  · exact three (lo := lo) (hi := hi) (n := n) c1 (by omega) (by omega) (by intro b c h1 h2; omega)
  · exact four (lo := lo) (hi := hi) (n := n) c1 (by omega) (by omega) (by intro b c d h1 h2; omega)
  · exact four (lo := lo) (hi := hi) (n := n) c1 (by omega) (by omega) (by intro b c d h1 h2; omega)
  · exact four (lo := lo) (hi := hi) (n := n) c1 (by omega) (by omega) (by intro b c d h1 h2; omega)
  · have hn : n = 1 := by omega
    subst hn
    have d2 : ¬ (194 ≤ a.toNat ∧ a.toNat < 224) := by omega
    have d3 : ¬ (224 ≤ a.toNat ∧ a.toNat < 240) := by omega
    have d4 : ¬ (240 ≤ a.toNat ∧ a.toNat < 245) := by omega
    simp [slowM, charM, c1, d2, d3, d4]
end Go.Proofs.YtnafmjbakholcaaDoor.Q
