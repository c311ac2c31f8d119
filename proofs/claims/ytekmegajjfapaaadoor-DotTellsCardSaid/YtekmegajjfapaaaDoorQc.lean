import Derived.Test.YtekmegajjfapaaaDoorL
import Derived.Test.YtekmegajjfapaaaDoorT14
set_option linter.unusedVariables false
set_option linter.unusedSimpArgs false
set_option maxRecDepth 100000
namespace Go.Proofs.YtekmegajjfapaaaDoor.Q
open Go.EM Go.TY Go.Proofs Go.Proofs.YtekmegajjfapaaaDoor.Y Go.Proofs.YtekmegajjfapaaaDoor.K Go.Proofs.YtekmegajjfapaaaDoor.L
def cmpI (a b : Int) : Int := if a < b then -1 else if a > b then 1 else 0
theorem compare_t (a b : Int) : cmp_Compare_int a b = some (cmpI a b) := by
  unfold cmp_Compare_int cmp_isNaN_int cmpI
  simp only [Option.bind_some, decide_true, Bool.not_true, cond_false, cond_dec]
  by_cases h1 : a < b
  · simp [h1]
  · by_cases h2 : a > b <;> simp [h1, h2]
def orI (a b : Int) : Int := if a = 0 then b else a
theorem or_t (a b : Int) : cmp_Or_int [a, b] = some (orI a b) := by
  unfold cmp_Or_int orI
  by_cases h1 : a = 0
  · rw [if_pos h1]
    have t0 : cmp_Or_int_l3 [a, b] (0, ()) = some (.inl (1, ())) := by
      unfold cmp_Or_int_l3
      simp only [cond_dec, List.length_cons, List.length_nil]
      rw [if_pos (by decide)]
      simp [atI, h1, wrap64]
    rw [loopT_inl t0]
    by_cases h2 : b = 0
    · have t1 : cmp_Or_int_l3 [a, b] (1, ()) = some (.inl (2, ())) := by
        unfold cmp_Or_int_l3
        simp only [cond_dec, List.length_cons, List.length_nil]
        rw [if_pos (by decide)]
        simp [atI, h2, wrap64]
      rw [loopT_inl t1, h2]
      refine loopT_inr ?_
      unfold cmp_Or_int_l3
      simp only [cond_dec, List.length_cons, List.length_nil]
      rw [if_neg (by decide)]
    · refine loopT_inr ?_
      unfold cmp_Or_int_l3
      simp only [cond_dec, List.length_cons, List.length_nil]
      rw [if_pos (by decide)]
      simp [atI, h2]
  · rw [if_neg h1]
    refine loopT_inr ?_
    unfold cmp_Or_int_l3
    simp only [cond_dec, List.length_cons, List.length_nil]
    rw [if_pos (by decide)]
    simp [atI, h1]
def cmpD (a b : Int × Int × Unit) : Int := orI (cmpI a.1 b.1) (cmpI a.2.1 b.2.1)
theorem dotCompare_t (a b : Int × Int × Unit) : dot_Compare a b = some (cmpD a b) := by
  unfold dot_Compare cmpD
  simp only [compare_t, or_t, Option.bind_some]
theorem awake_t : law04_awake = some true := rfl
theorem cmpD_cases (a b : Int × Int × Unit) : cmpD a b = if a.1 < b.1 then -1 else if a.1 > b.1 then 1 else if a.2.1 < b.2.1 then -1 else if a.2.1 > b.2.1 then 1 else 0 := by
  unfold cmpD orI cmpI
  by_cases h1 : a.1 < b.1
  · simp [h1]
  · by_cases h2 : a.1 > b.1
    · simp [h1, h2]
    · simp [h1, h2]
theorem dotRow_t (a b c : Int × Int × Unit) : law04_DotRow a b c = some true := by
  unfold law04_DotRow
  simp only [dotCompare_t, awake_t, Option.bind_some, cond_dec]
  have e1 : cmpD b a = IntKind.wrap .i64 (0 - cmpD a b) := by
    rw [cmpD_cases, cmpD_cases]
    repeat' split
    all_goals first | omega | (rw [wrap64 (by omega) (by omega)]; omega) | (exfalso; omega)
  have e2 : (decide (cmpD a b = 0) == eqV (.agg (.cons (.int .i64) (.cons (.int .i64) .unit))) a b) = true := by
    have he : eqV (.agg (.cons (.int .i64) (.cons (.int .i64) .unit))) a b = (decide (a.1 = b.1) && decide (a.2.1 = b.2.1)) := by
      simp only [eqV, Bool.and_true]
    rw [he, cmpD_cases, beq_iff_eq, Bool.eq_iff_iff]
    simp only [decide_eq_true_eq, Bool.and_eq_true]
    by_cases h1 : a.1 < b.1
    · rw [if_pos h1]; constructor <;> intro h <;> omega
    rw [if_neg h1]
    by_cases h2 : a.1 > b.1
    · rw [if_pos h2]; constructor <;> intro h <;> omega
    rw [if_neg h2]
    by_cases h3 : a.2.1 < b.2.1
    · rw [if_pos h3]; constructor <;> intro h <;> omega
    rw [if_neg h3]
    by_cases h4 : a.2.1 > b.2.1
    · rw [if_pos h4]; constructor <;> intro h <;> omega
    rw [if_neg h4]; constructor <;> intro h <;> omega
  have e3 : cmpD a b > 0 ∨ cmpD b c > 0 ∨ cmpD a c ≤ 0 := by
    rw [cmpD_cases, cmpD_cases, cmpD_cases]
    repeat' split
    all_goals omega
  rw [if_pos e1, e2]
  simp only [Option.bind_some, cond_true]
  by_cases h1 : cmpD a b > 0
  · rw [if_pos h1]
  · rw [if_neg h1]
    by_cases h2 : cmpD b c > 0
    · rw [if_pos h2]
    · rw [if_neg h2, if_pos (by omega)]
theorem dotRow_law : ∀ v : law04_DotRow_T.ps.V, okV law04_DotRow_T.ps v → law04_DotRow_T.fn v = some true := fun v _ => dotRow_t v.1 v.2.1 v.2.2.1
end Go.Proofs.YtekmegajjfapaaaDoor.Q

set_option linter.unusedVariables false
set_option linter.unusedSimpArgs false
set_option maxRecDepth 100000
namespace Go.Proofs.YtekmegajjfapaaaDoor.Q
open Go.EM Go.TY Go.Proofs Go.Proofs.YtekmegajjfapaaaDoor.Y Go.Proofs.YtekmegajjfapaaaDoor.K Go.Proofs.YtekmegajjfapaaaDoor.L
/-! ### a text that is built -/
def bI (s : List UInt8) : List Int := s.map fun b => (b.toNat : Int)
theorem bI_app {s t : List UInt8} : bI (s ++ t) = bI s ++ bI t := by simp [bI]
theorem bI_len {s : List UInt8} : (bI s).length = s.length := by simp [bI]
theorem bI_back {s : List UInt8} : ((bI s).map fun n => UInt8.ofNat n.toNat) = s := by
  unfold bI
  rw [List.map_map]
  conv => rhs; rw [← List.map_id s]
  congr 1
  funext b
  simp
theorem bI_one {n : Nat} (h : n < 256) : bI [UInt8.ofNat n] = [(n : Int)] := by
  simp only [bI, List.map_cons, List.map_nil]
  rw [UInt8.toNat_ofNat_of_lt' (by simpa using h)]
theorem wrapW8 {n : Int} : IntKind.wrap .u8 n = n % 256 := by
  simp [IntKind.wrap, IntKind.signed, IntKind.bits]
theorem writeByte_t {c : Int} {v : Bool × Unit × Unit} {w : List Int} (hw : w.length < 4294967000) : strings_Builder_WriteByte c v w = some ((), (true, (), ()), w ++ [c], ()) := by
  unfold strings_Builder_WriteByte
  have h : strings_Builder_copyCheck v w = some ((), (true, (), ()), w, ()) := by
    obtain ⟨b, _, _⟩ := v
    unfold strings_Builder_copyCheck
    cases b <;> rfl
  rw [h]
  simp only [Option.bind_some]
  rw [roomT_lt (by simp; omega)]
  rfl
theorem string_t {v : Bool × Unit × Unit} {s : List UInt8} (hs : s.length < 4294967296) : strings_Builder_String v (bI s) = some (s, v, ()) := by
  unfold strings_Builder_String
  cases s with
  | nil => rfl
  | cons b s =>
    have : (bI (b :: s)).isEmpty = false := rfl
    rw [this, cond_false, bI_back]
    have : wholeN 0 (bI (b :: s)).length ((bI (b :: s)).length : Int) = some () := by
      unfold wholeN
      rw [bI_len, if_pos ⟨rfl, rfl, by simp only [List.length_cons]; omega, by omega⟩]
    rw [this]; rfl
/-! ### numbers as bytes -/
def intM (n : Nat) : List UInt8 :=
  if h : n < 128 then [UInt8.ofNat n] else UInt8.ofNat (n % 128 + 128) :: intM (n / 128)
termination_by n
decreasing_by omega
theorem intM_small {n : Nat} (h : n < 128) : intM n = [UInt8.ofNat n] := by rw [intM, dif_pos h]
theorem intM_big {n : Nat} (h : ¬ n < 128) : intM n = UInt8.ofNat (n % 128 + 128) :: intM (n / 128) := by rw [intM, dif_neg h]
theorem div_pow {n k b : Nat} (hb : 0 < b) (h : n < b ^ (k + 1)) : n / b < b ^ k := by
  rw [Nat.div_lt_iff_lt_mul hb]
  rw [Nat.pow_succ] at h; exact h
theorem intM_len : ∀ (k n : Nat), n < 128 ^ k → (intM n).length ≤ k + 1
  | 0, n, h => by rw [intM_small (by simp at h; omega)]; simp
  | k + 1, n, h => by
    by_cases hn : n < 128
    · rw [intM_small hn]; simp
    · rw [intM_big hn, List.length_cons]
      have := intM_len k (n / 128) (div_pow (by omega) h)
      omega
theorem or_all : ∀ x : Fin 128, (x.val ||| 128) = x.val + 128 := by decide
theorem byte_t {n : Nat} (h : n < 9223372036854775808) : IntKind.wrap .u8 (IntKind.wrap .i64 ((BitVec.ofInt (IntKind.bits .i64) (IntKind.wrap .i64 ((BitVec.ofInt (IntKind.bits .i64) (n : Int) &&& BitVec.ofInt (IntKind.bits .i64) 127).toNat : Nat)) ||| BitVec.ofInt (IntKind.bits .i64) 128).toNat : Nat)) = ((n % 128 + 128 : Nat) : Int) := by
  have e : ∀ m : Nat, m < 18446744073709551616 → (BitVec.ofInt (IntKind.bits .i64) (m : Int)).toNat = m := by
    intro m hm
    rw [show IntKind.bits .i64 = 64 from rfl, BitVec.toNat_ofInt]
    omega
  have e127 : (BitVec.ofInt (IntKind.bits .i64) 127).toNat = 127 := by decide
  have e128 : (BitVec.ofInt (IntKind.bits .i64) 128).toNat = 128 := by decide
  have a1 : (BitVec.ofInt (IntKind.bits .i64) (n : Int) &&& BitVec.ofInt (IntKind.bits .i64) 127).toNat = n % 128 := by
    rw [BitVec.toNat_and, e n (by omega), e127]
    exact Nat.and_two_pow_sub_one_eq_mod n 7
  rw [a1, wrap64 (n := ((n % 128 : Nat) : Int)) (by omega) (by omega), BitVec.toNat_or, e (n % 128) (by omega), e128, or_all ⟨n % 128, by omega⟩]
  simp only []
  rw [wrap64 (by omega) (by omega), wrapW8]
  omega
theorem shr7_t {n : Nat} : shrT .i64 (n : Int) 7 = some ((n / 128 : Nat) : Int) := by
  unfold shrT
  rw [if_neg (by omega)]
  have e : (2 : Int) ^ min (Int.toNat 7) (IntKind.bits .i64) = 128 := by decide
  rw [e, Int.fdiv_eq_ediv_of_nonneg _ (by omega)]
  congr 1
theorem pack_loop : ∀ (k n : Nat) (out : List UInt8) (b : Bool), n < 128 ^ k → n < 9223372036854775808 → out.length + k < 1000 →
    ∃ (m : Nat) (out' : List UInt8) (b' : Bool), m < 128 ∧ out'.length < 1000 ∧ loopT pack_Int_l2 ((n : Int), bI out, (b, (), ()), ()) = some (.inl ((m : Int), bI out', (b', (), ()), ())) ∧ out' ++ [UInt8.ofNat m] = out ++ intM n
  | 0, n, out, b, h, h2, h3 => by
    have hn : n = 0 := by simp at h; exact h
    subst hn
    refine ⟨0, out, b, by omega, by omega, ?_, by rw [intM_small (by omega)]⟩
    refine loopT_inr ?_
    unfold pack_Int_l2
    rw [cond_dec, if_neg (by simp only []; omega)]
  | k + 1, n, out, b, h, h2, h3 => by
    by_cases hn : n < 128
    · refine ⟨n, out, b, hn, by omega, ?_, by rw [intM_small hn]⟩
      refine loopT_inr ?_
      unfold pack_Int_l2
      rw [cond_dec, if_neg (by simp only []; omega)]
    · have turn : pack_Int_l2 ((n : Int), bI out, (b, (), ()), ()) = some (.inl (((n / 128 : Nat) : Int), bI (out ++ [UInt8.ofNat (n % 128 + 128)]), (true, (), ()), ())) := by
        unfold pack_Int_l2
        rw [cond_dec, if_pos (by simp only []; omega)]
        simp only []
        rw [byte_t h2, writeByte_t (by rw [bI_len]; omega)]
        simp only [Option.bind_some]
        rw [shr7_t]
        simp only [Option.bind_some]
        rw [bI_app, bI_one (by omega)]
      obtain ⟨m, out', b', g1, g2, g3, g4⟩ := pack_loop k (n / 128) (out ++ [UInt8.ofNat (n % 128 + 128)]) true (div_pow (by omega) h) (by omega) (by rw [List.length_append]; simp only [List.length_cons, List.length_nil]; omega)
      refine ⟨m, out', b', g1, g2, by rw [loopT_inl turn]; exact g3, ?_⟩
      rw [g4, intM_big hn]; simp
theorem packInt_t {n : Int} (h : n ≤ 9223372036854775807) : pack_Int n = some (intM n.toNat) := by
  unfold pack_Int
  by_cases hn : n < 0
  · have : loopT pack_Int_l2 (n, [], (false, (), ()), ()) = some (.inl (n, [], (false, (), ()), ())) := by
      refine loopT_inr ?_
      unfold pack_Int_l2
      rw [cond_dec, if_neg (by simp only []; omega)]
    rw [this, bind_join_inl]
    simp only []
    rw [show max n 0 = 0 by omega, writeByte_t (by simp)]
    simp only [Option.bind_some]
    have e : ([] : List Int) ++ [IntKind.wrap .u8 0] = bI [UInt8.ofNat 0] := by decide
    rw [e, string_t (by simp)]
    have : n.toNat = 0 := by omega
    rw [this, intM_small (by omega)]; rfl
  · obtain ⟨m, rfl⟩ : ∃ m : Nat, n = (m : Int) := ⟨n.toNat, by omega⟩
    obtain ⟨r, out', b', g1, g2, g3, g4⟩ := pack_loop 9 m [] false (by simp only [Nat.reducePow]; omega) (by omega) (by simp)
    have e0 : bI [] = [] := rfl
    rw [e0] at g3
    rw [g3, bind_join_inl]
    simp only []
    rw [show max (r : Int) 0 = r by omega, wrapW8, show (r : Int) % 256 = r by omega, writeByte_t (by rw [bI_len]; omega)]
    simp only [Option.bind_some]
    rw [← bI_one (by omega : r < 256), ← bI_app, string_t (by rw [List.length_append]; simp only [List.length_cons, List.length_nil]; omega), g4]
    simp
theorem quo_t {a b : Nat} (hb : b ≠ 0) (ha : a < 9223372036854775808) : quoT .i64 (a : Int) (b : Int) = some ((a / b : Nat) : Int) := by
  unfold quoT
  rw [if_neg (by omega)]
  have : ((a : Int).tdiv (b : Int)) = ((a / b : Nat) : Int) := by rw [Int.tdiv_eq_ediv_of_nonneg (by omega)]; norm_cast
  rw [this]
  have hle : a / b ≤ a := Nat.div_le_self a b
  generalize a / b = q at hle
  rw [wrap64 (by omega) (by omega)]
theorem rem_t {a b : Nat} (hb : b ≠ 0) : remT (a : Int) (b : Int) = some ((a % b : Nat) : Int) := by
  unfold remT
  rw [if_neg (by omega)]
  have : ((a : Int).tmod (b : Int)) = ((a % b : Nat) : Int) := by rw [Int.tmod_eq_emod_of_nonneg (by omega)]; norm_cast
  rw [this]
theorem refInt_step (rec : (Int × Unit) → Option (List UInt8)) {a : Int} (h : a ≤ 9223372036854775807) : ref02_Int_step rec a = if a < 128 then some (intM a.toNat) else (rec (((a.toNat / 128 : Nat) : Int), ())).bind fun r => catT [UInt8.ofNat (a.toNat % 128 + 128)] r := by
  unfold ref02_Int_step
  by_cases ha : a < 128
  · rw [cond_dec, if_pos ha, if_pos ha, intM_small (by omega)]
    by_cases hn : a < 0
    · rw [cond_dec, if_pos hn, bind_join_inl]
      simp only [wrapW8, List.map_cons, List.map_nil]
      have : a.toNat = 0 := by omega
      rw [this]; rfl
    · rw [cond_dec, if_neg hn, bind_join_inl]
      simp only [wrapW8, List.map_cons, List.map_nil]
      rw [show a % 256 = a by omega]
  · rw [cond_dec, if_neg ha, if_neg ha]
    obtain ⟨n, rfl⟩ : ∃ n : Nat, a = (n : Int) := ⟨a.toNat, by omega⟩
    rw [show (128 : Int) = ((128 : Nat) : Int) from rfl, rem_t (by omega), quo_t (by omega) (by omega)]
    simp only [Option.bind_some, Int.toNat_natCast]
    cases rec (((n / 128 : Nat) : Int), ()) with
    | none => rfl
    | some r =>
      simp only [Option.bind_some, List.map_cons, List.map_nil, wrapW8]
      rw [wrap64 (by omega) (by omega), show (((n % 128 : Nat) : Int) + ((128 : Nat) : Int)) % 256 = ((n % 128 + 128 : Nat) : Int) by omega, Int.toNat_natCast]
      cases catT [UInt8.ofNat (n % 128 + 128)] r <;> rfl
theorem refInt_it : ∀ (m : Nat) (a : Int), a ≤ 9223372036854775807 →
    (itT (fun (rec : (Int × Unit) → Option (List UInt8)) v => ref02_Int_step rec v.1) m (a, ()) = none ∨ itT (fun (rec : (Int × Unit) → Option (List UInt8)) v => ref02_Int_step rec v.1) m (a, ()) = some (intM a.toNat)) ∧
    ∀ k, m = k + 1 → a.toNat < 128 ^ (k + 1) → itT (fun (rec : (Int × Unit) → Option (List UInt8)) v => ref02_Int_step rec v.1) m (a, ()) = some (intM a.toNat)
  | 0, a, h => ⟨.inl rfl, fun k e => by omega⟩
  | m + 1, a, h => by
    have hs := refInt_step (itT (fun (rec : (Int × Unit) → Option (List UInt8)) v => ref02_Int_step rec v.1) m) h
    have e0 : itT (fun (rec : (Int × Unit) → Option (List UInt8)) v => ref02_Int_step rec v.1) (m + 1) (a, ()) = ref02_Int_step (itT (fun (rec : (Int × Unit) → Option (List UInt8)) v => ref02_Int_step rec v.1) m) a := rfl
    rw [e0, hs]
    by_cases ha : a < 128
    · rw [if_pos ha]
      exact ⟨.inr rfl, fun _ _ _ => rfl⟩
    · rw [if_neg ha]
      obtain ⟨n, rfl⟩ : ∃ n : Nat, a = (n : Int) := ⟨a.toNat, by omega⟩
      obtain ⟨ih1, ih2⟩ := refInt_it m ((n / 128 : Nat) : Int) (by omega)
      rw [Int.toNat_natCast] at ih1 ih2 ⊢
      have fin : (some (intM (n / 128))).bind (fun r4 => (catT [UInt8.ofNat (n % 128 + 128)] r4)) = some (intM n) := by
        rw [Option.bind_some, intM_big (n := n) (by omega)]
        have := intM_len 9 (n / 128) (by simp only [Nat.reducePow]; omega)
        rw [catT_some (by simp only [List.length_cons, List.length_nil]; omega)]; rfl
      constructor
      · rcases ih1 with e | e
        · left; rw [e]; rfl
        · right; rw [e]; exact fin
      · intro k hk hlt
        have hk' : k = m := by omega
        subst hk'
        cases k with
        | zero => simp at hlt; omega
        | succ k =>
          have := ih2 k rfl (div_pow (by omega) hlt)
          rw [this]; exact fin
theorem refInt_t {n : Int} (h : n ≤ 9223372036854775807) : ref02_Int n = some (intM n.toNat) := by
  unfold ref02_Int ref02_Int_fix
  refine fix_eq (fun m => (refInt_it m n h).1) ⟨9, (refInt_it 9 n h).2 8 rfl ?_⟩
  simp only [Nat.reducePow, Nat.reduceAdd]; omega
end Go.Proofs.YtekmegajjfapaaaDoor.Q

set_option linter.unusedVariables false
set_option linter.unusedSimpArgs false
set_option maxRecDepth 100000
namespace Go.Proofs.YtekmegajjfapaaaDoor.Q
open Go.EM Go.TY Go.Proofs Go.Proofs.YtekmegajjfapaaaDoor.Y Go.Proofs.YtekmegajjfapaaaDoor.K Go.Proofs.YtekmegajjfapaaaDoor.L
/-! ### numerals -/
theorem dec_small {u : Nat} (h : u < 10) : Lib.decDigits u = [UInt8.ofNat (48 + u)] := by rw [Lib.decDigits, dif_pos h]
theorem dec_big {u : Nat} (h : ¬ u < 10) : Lib.decDigits u = Lib.decDigits (u / 10) ++ [UInt8.ofNat (48 + u % 10)] := by rw [Lib.decDigits, dif_neg h]
theorem dec_len : ∀ (k u : Nat), u < 10 ^ k → (Lib.decDigits u).length ≤ k + 1
  | 0, u, h => by rw [dec_small (by simp at h; omega)]; simp
  | k + 1, u, h => by
    by_cases hu : u < 10
    · rw [dec_small hu]; simp
    · rw [dec_big hu, List.length_append]
      have := dec_len k (u / 10) (div_pow (by omega) h)
      simp only [List.length_cons, List.length_nil]; omega
theorem itoa_len {n : Int} (h : -9223372036854775808 ≤ n) (h2 : n ≤ 9223372036854775807) : (Lib.itoa n).length ≤ 21 := by
  unfold Lib.itoa
  split
  · have := dec_len 19 n.natAbs (by simp only [Nat.reducePow]; omega)
    rw [List.length_cons]; omega
  · have := dec_len 19 n.toNat (by simp only [Nat.reducePow]; omega)
    omega
theorem digit_all : ∀ x : Fin 10, (([48, 49, 50, 51, 52, 53, 54, 55, 56, 57] : List UInt8).take (x.val + 1)).drop x.val = [UInt8.ofNat (48 + x.val)] := by decide
theorem digit_t {n : Nat} (h : n < 10) : subI ([48, 49, 50, 51, 52, 53, 54, 55, 56, 57] : List UInt8) (n : Int) (IntKind.wrap .i64 ((n : Int) + 1)) = some [UInt8.ofNat (48 + n)] := by
  rw [wrap64 (by omega) (by omega), show (n : Int) + 1 = ((n + 1 : Nat) : Int) by omega, subI_nat (by omega) (by simp; omega), digit_all ⟨n, h⟩]
theorem quoN_t {a : Int} (h : -9223372036854775808 ≤ a) (h2 : a < 0) : quoT .i64 a 10 = some (-((a.natAbs / 10 : Nat) : Int)) := by
  unfold quoT
  rw [if_neg (by omega)]
  have : a.tdiv 10 = -((a.natAbs / 10 : Nat) : Int) := by
    obtain ⟨n, rfl⟩ : ∃ n : Nat, a = -(n : Int) := ⟨a.natAbs, by omega⟩
    rw [Int.neg_tdiv, Int.natAbs_neg, Int.natAbs_natCast, Int.tdiv_eq_ediv_of_nonneg (by omega)]
    norm_cast
  rw [this, wrap64 (by omega) (by omega)]
theorem remN_t {a : Int} (h2 : a < 0) : remT a 10 = some (-((a.natAbs % 10 : Nat) : Int)) := by
  unfold remT
  rw [if_neg (by omega)]
  have : a.tmod 10 = -((a.natAbs % 10 : Nat) : Int) := by
    obtain ⟨n, rfl⟩ : ∃ n : Nat, a = -(n : Int) := ⟨a.natAbs, by omega⟩
    rw [Int.neg_tmod, Int.natAbs_neg, Int.natAbs_natCast, Int.tmod_eq_emod_of_nonneg (by omega)]
    norm_cast
  rw [this]
theorem digits_step (rec : (Int × Unit) → Option (List UInt8)) {a : Int} (h : -9223372036854775808 ≤ a) (h2 : a ≤ 9223372036854775807) : ref04_Digits_step rec a =
    if a < 0 then (if a > -10 then (rec (((a.natAbs : Nat) : Int), ())).bind fun r => catT [45] r
      else (rec (((a.natAbs / 10 : Nat) : Int), ())).bind fun r => (catT [45] r).bind fun s => (rec (((a.natAbs % 10 : Nat) : Int), ())).bind fun t => catT s t)
    else if a < 10 then some [UInt8.ofNat (48 + a.toNat)] else (rec (((a.toNat / 10 : Nat) : Int), ())).bind fun r => catT r [UInt8.ofNat (48 + a.toNat % 10)] := by
  unfold ref04_Digits_step
  by_cases h0 : a < 0
  · rw [cond_dec, if_pos h0, if_pos h0]
    by_cases h1 : a > -10
    · rw [cond_dec, if_pos h1, if_pos h1, wrap64 (by omega) (by omega), show (0 - a) = ((a.natAbs : Nat) : Int) by omega]
      cases rec (((a.natAbs : Nat) : Int), ()) with
      | none => rfl
      | some r => simp only [Option.bind_some]; cases catT [45] r <;> rfl
    · rw [cond_dec, if_neg h1, if_neg h1, quoN_t h h0, remN_t h0]
      simp only [Option.bind_some]
      rw [wrap64 (n := 0 - -((a.natAbs / 10 : Nat) : Int)) (by omega) (by omega), wrap64 (n := 0 - -((a.natAbs % 10 : Nat) : Int)) (by omega) (by omega), show (0 - -((a.natAbs / 10 : Nat) : Int)) = ((a.natAbs / 10 : Nat) : Int) by omega, show (0 - -((a.natAbs % 10 : Nat) : Int)) = ((a.natAbs % 10 : Nat) : Int) by omega]
      cases rec (((a.natAbs / 10 : Nat) : Int), ()) with
      | none => rfl
      | some r =>
        simp only [Option.bind_some]
        cases catT [45] r with
        | none => rfl
        | some s =>
          simp only [Option.bind_some]
          cases rec (((a.natAbs % 10 : Nat) : Int), ()) with
          | none => rfl
          | some t => simp only [Option.bind_some]; cases catT s t <;> rfl
  · rw [cond_dec, if_neg h0, if_neg h0]
    obtain ⟨n, rfl⟩ : ∃ n : Nat, a = (n : Int) := ⟨a.toNat, by omega⟩
    rw [Int.toNat_natCast]
    by_cases h1 : (n : Int) < 10
    · rw [cond_dec, if_pos h1, if_pos h1, digit_t (by omega)]; rfl
    · rw [cond_dec, if_neg h1, if_neg h1, show (10 : Int) = ((10 : Nat) : Int) from rfl, quo_t (by omega) (by omega), rem_t (by omega)]
      simp only [Option.bind_some]
      cases rec (((n / 10 : Nat) : Int), ()) with
      | none => rfl
      | some r =>
        simp only [Option.bind_some]
        rw [digit_t (by omega)]
        simp only [Option.bind_some]
        cases catT r [UInt8.ofNat (48 + n % 10)] <;> rfl
noncomputable abbrev digS : ((Int × Unit) → Option (List UInt8)) → (Int × Unit) → Option (List UInt8) := fun rec v => ref04_Digits_step rec v.1
theorem digits_pos : ∀ (m n : Nat), n < 9223372036854775809 → n ≤ 9223372036854775807 →
    (itT digS m ((n : Int), ()) = none ∨ itT digS m ((n : Int), ()) = some (Lib.decDigits n)) ∧ ∀ k, m = k + 1 → n < 10 ^ (k + 1) → itT digS m ((n : Int), ()) = some (Lib.decDigits n)
  | 0, n, _, h => ⟨.inl rfl, fun k e => by omega⟩
  | m + 1, n, hn, h => by
    have e0 : itT digS (m + 1) ((n : Int), ()) = ref04_Digits_step (itT digS m) (n : Int) := rfl
    rw [e0, digits_step (itT digS m) (by omega) (by omega), if_neg (by omega), Int.toNat_natCast]
    by_cases ha : n < 10
    · rw [if_pos (by omega), dec_small ha]
      exact ⟨.inr rfl, fun _ _ _ => rfl⟩
    · rw [if_neg (by omega)]
      obtain ⟨ih1, ih2⟩ := digits_pos m (n / 10) (by omega) (by omega)
      have fin : (some (Lib.decDigits (n / 10))).bind (fun r => catT r [UInt8.ofNat (48 + n % 10)]) = some (Lib.decDigits n) := by
        rw [Option.bind_some, dec_big (u := n) ha]
        have := dec_len 19 (n / 10) (by simp only [Nat.reducePow]; omega)
        rw [catT_some (by simp only [List.length_cons, List.length_nil]; omega)]
      constructor
      · rcases ih1 with e | e
        · left; rw [e]; rfl
        · right; rw [e]; exact fin
      · intro k hk hlt
        have hk' : k = m := by omega
        subst hk'
        cases k with
        | zero => simp at hlt; omega
        | succ k =>
          rw [ih2 k rfl (div_pow (by omega) hlt)]; exact fin
theorem itoa_neg {a : Int} (h : a < 0) : Lib.itoa a = 45 :: Lib.decDigits a.natAbs := by unfold Lib.itoa; rw [if_pos h]
theorem itoa_pos {n : Nat} : Lib.itoa (n : Int) = Lib.decDigits n := by unfold Lib.itoa; rw [if_neg (by omega), Int.toNat_natCast]
theorem digits_neg (m : Nat) {a : Int} (h : -9223372036854775808 ≤ a) (h0 : a < 0) :
    (itT digS (m + 1) (a, ()) = none ∨ itT digS (m + 1) (a, ()) = some (Lib.itoa a)) ∧ ∀ k, m = k + 1 → a.natAbs < 10 ^ (k + 1) → itT digS (m + 1) (a, ()) = some (Lib.itoa a) := by
  have e0 : itT digS (m + 1) (a, ()) = ref04_Digits_step (itT digS m) a := rfl
  rw [e0, digits_step (itT digS m) h (by omega), if_pos h0, itoa_neg h0]
  by_cases h1 : a > -10
  · rw [if_pos h1]
    obtain ⟨ih1, ih2⟩ := digits_pos m a.natAbs (by omega) (by omega)
    have fin : (some (Lib.decDigits a.natAbs)).bind (fun r => catT [45] r) = some (45 :: Lib.decDigits a.natAbs) := by
      have := dec_len 19 a.natAbs (by simp only [Nat.reducePow]; omega)
      rw [Option.bind_some, catT_some (by simp only [List.length_cons, List.length_nil]; omega)]; rfl
    constructor
    · rcases ih1 with e | e
      · left; rw [e]; rfl
      · right; rw [e]; exact fin
    · intro k hk hlt
      rw [ih2 k hk hlt]; exact fin
  · rw [if_neg h1]
    obtain ⟨ih1, ih2⟩ := digits_pos m (a.natAbs / 10) (by omega) (by omega)
    obtain ⟨jh1, jh2⟩ := digits_pos m (a.natAbs % 10) (by omega) (by omega)
    have fin : (some (Lib.decDigits (a.natAbs / 10))).bind (fun r => (catT [45] r).bind fun s => (some (Lib.decDigits (a.natAbs % 10))).bind fun t => catT s t) = some (45 :: Lib.decDigits a.natAbs) := by
      have l1 := dec_len 19 (a.natAbs / 10) (by simp only [Nat.reducePow]; omega)
      have l2 := dec_len 19 (a.natAbs % 10) (by simp only [Nat.reducePow]; omega)
      simp only [Option.bind_some]
      rw [catT_some (by simp only [List.length_cons, List.length_nil]; omega)]
      simp only [Option.bind_some]
      rw [catT_some (by rw [List.length_append]; simp only [List.length_cons, List.length_nil]; omega), dec_big (u := a.natAbs) (by omega), dec_small (u := a.natAbs % 10) (by omega)]
      simp
    constructor
    · rcases ih1 with e | e
      · left; rw [e]; rfl
      · rcases jh1 with f | f
        · left; rw [e, f]
          simp only [Option.bind_some, Option.bind_none]
          cases catT [45] (Lib.decDigits (a.natAbs / 10)) <;> rfl
        · right; rw [e, f]; exact fin
    · intro k hk hlt
      rw [ih2 k hk (by omega), jh2 k hk (by have : 10 ^ 1 ≤ 10 ^ (k + 1) := Nat.pow_le_pow_right (by omega) (by omega); omega)]
      exact fin
theorem digits_t {n : Int} (h : -9223372036854775808 ≤ n) (h2 : n ≤ 9223372036854775807) : ref04_Digits n = some (Lib.itoa n) := by
  unfold ref04_Digits ref04_Digits_fix
  by_cases h0 : n < 0
  · refine fix_eq (fun m => ?_) ⟨20, (digits_neg 19 h h0).2 18 rfl ?_⟩
    · cases m with
      | zero => exact .inl rfl
      | succ m => exact (digits_neg m h h0).1
    · simp only [Nat.reducePow, Nat.reduceAdd]; omega
  · obtain ⟨m, rfl⟩ : ∃ m : Nat, n = (m : Int) := ⟨n.toNat, by omega⟩
    rw [itoa_pos]
    refine fix_eq (fun k => (digits_pos k m (by omega) (by omega)).1) ⟨19, (digits_pos 19 m (by omega) (by omega)).2 18 rfl ?_⟩
    simp only [Nat.reducePow, Nat.reduceAdd]; omega
/-! ### dots -/
def inR (n : Int) : Prop := -9223372036854775808 ≤ n ∧ n ≤ 9223372036854775807
theorem strItoa_t {n : Int} (h : inR n) : strconv_Itoa n = some (Lib.itoa n) := if_pos h
def textM (d : Int × Int × Unit) : List UInt8 := Lib.itoa d.1 ++ [46] ++ Lib.itoa d.2.1
theorem text_cat {a b : Int} (ha : inR a) (hb : inR b) : ((catT (Lib.itoa a) [46]).bind fun s => catT s (Lib.itoa b)) = some (Lib.itoa a ++ [46] ++ Lib.itoa b) := by
  have l1 := itoa_len ha.1 ha.2
  have l2 := itoa_len hb.1 hb.2
  rw [catT_some (by simp only [List.length_cons, List.length_nil]; omega), Option.bind_some, catT_some (by rw [List.length_append]; simp only [List.length_cons, List.length_nil]; omega)]
theorem dotText_t {d : Int × Int × Unit} (h1 : inR d.1) (h2 : inR d.2.1) : dot_Text d = some (textM d) := by
  unfold dot_Text
  rw [strItoa_t h1, strItoa_t h2]
  have := text_cat h1 h2
  simp only [Option.bind_some]
  unfold textM
  rw [← this]
  cases catT (Lib.itoa d.1) [46] with
  | none => rfl
  | some s => simp only [Option.bind_some]; cases catT s (Lib.itoa d.2.1) <;> rfl
theorem refText_t {d : Int × Int × Unit} (h1 : inR d.1) (h2 : inR d.2.1) : ref04_Text d = some (textM d) := by
  unfold ref04_Text
  rw [digits_t h1.1 h1.2, digits_t h2.1 h2.2]
  have := text_cat h1 h2
  simp only [Option.bind_some]
  unfold textM
  rw [← this]
  cases catT (Lib.itoa d.1) [46] with
  | none => rfl
  | some s => simp only [Option.bind_some]; cases catT s (Lib.itoa d.2.1) <;> rfl
def codeM (d : Int × Int × Unit) : List UInt8 := intM d.1.toNat ++ intM d.2.1.toNat
theorem code_cat {a b : Int} (ha : inR a) (hb : inR b) : catT (intM a.toNat) (intM b.toNat) = some (intM a.toNat ++ intM b.toNat) := by
  have l1 := intM_len 9 a.toNat (by simp only [Nat.reducePow]; have := ha.2; omega)
  have l2 := intM_len 9 b.toNat (by simp only [Nat.reducePow]; have := hb.2; omega)
  rw [catT_some (by omega)]
theorem dotCode_t {d : Int × Int × Unit} (h1 : inR d.1) (h2 : inR d.2.1) : dot_Code d = some (codeM d) := by
  unfold dot_Code
  rw [packInt_t h1.2, packInt_t h2.2]
  simp only [Option.bind_some]
  rw [code_cat h1 h2]; rfl
theorem refCode_t {d : Int × Int × Unit} (h1 : inR d.1) (h2 : inR d.2.1) : ref04_Code d = some (codeM d) := by
  unfold ref04_Code
  rw [refInt_t h1.2, refInt_t h2.2]
  simp only [Option.bind_some]
  rw [code_cat h1 h2]; rfl
theorem ints_t (a b : Int) : ref04_ints a b = some (cmpI a b) := by
  unfold ref04_ints cmpI
  simp only [cond_dec]
  by_cases h1 : a < b
  · simp [h1]
  · by_cases h2 : a > b <;> simp [h1, h2]
theorem refCompare_t (a b : Int × Int × Unit) : ref04_Compare a b = some (cmpD a b) := by
  unfold ref04_Compare
  simp only [ints_t, Option.bind_some]
  rw [cmpD_cases]
  unfold cmpI
  by_cases h : a.1 = b.1
  · have h1 : ¬ a.1 < b.1 := by omega
    have h2 : ¬ a.1 > b.1 := by omega
    simp only [h, decide_true, Bool.not_true, cond_false, Int.lt_irrefl, if_false, gt_iff_lt]
  · simp only [h, decide_false, Bool.not_false, cond_true]
    by_cases h1 : a.1 < b.1
    · simp [h1]
    · have h2 : a.1 > b.1 := by omega
      simp [h1, h2]
theorem refs_t (a b : (Int × Int × Unit) × Int × Unit) : dot_Refs a b = some (orI (cmpD a.1 b.1) (cmpI a.2.1 b.2.1)) := by
  unfold dot_Refs
  simp only [dotCompare_t, compare_t, or_t, Option.bind_some]
theorem refRefs_t (a b : (Int × Int × Unit) × Int × Unit) : ref04_Refs a b = some (orI (cmpD a.1 b.1) (cmpI a.2.1 b.2.1)) := by
  unfold ref04_Refs
  simp only [refCompare_t, ints_t, Option.bind_some, orI]
  by_cases h : cmpD a.1 b.1 = 0
  · simp [h]
  · simp [h]
def rightM (d : Int × Int × Unit) : Bool := decide (0 ≤ d.1 ∧ d.1 ≤ 15 ∧ 1 ≤ d.2.1 ∧ d.2.1 ≤ 1048576)
theorem dotRight_t (d : Int × Int × Unit) : dot_Right d = some (rightM d) := by
  unfold dot_Right rightM
  simp only [cond_dec]
  by_cases h1 : d.1 ≥ 0
  · by_cases h2 : d.1 < 16
    · by_cases h3 : d.2.1 ≥ 1
      · by_cases h4 : d.2.1 ≤ 1048576
        · rw [if_pos h1, if_pos h2, if_pos h3]; congr 1; rw [decide_eq_decide]; omega
        · rw [if_pos h1, if_pos h2, if_pos h3]; congr 1; rw [decide_eq_decide]; omega
      · rw [if_pos h1, if_pos h2, if_neg h3]; congr 1; symm; rw [decide_eq_false_iff_not]; omega
    · rw [if_pos h1, if_neg h2]; congr 1; symm; rw [decide_eq_false_iff_not]; omega
  · rw [if_neg h1]; congr 1; symm; rw [decide_eq_false_iff_not]; omega
theorem refRight_t (d : Int × Int × Unit) : ref04_Right d = some (rightM d) := by
  unfold ref04_Right rightM
  simp only [cond_dec]
  by_cases h1 : d.1 ≥ 0
  · by_cases h2 : d.1 ≤ 15
    · by_cases h3 : d.2.1 ≥ 1
      · rw [if_pos h1, if_pos h2, if_pos h3]; congr 1; rw [decide_eq_decide]; omega
      · rw [if_pos h1, if_pos h2, if_neg h3]; congr 1; symm; rw [decide_eq_false_iff_not]; omega
    · rw [if_pos h1, if_neg h2]; congr 1; symm; rw [decide_eq_false_iff_not]; omega
  · rw [if_neg h1]; congr 1; symm; rw [decide_eq_false_iff_not]; omega
theorem dotTells_t {a b : Int × Int × Unit} {x y : (Int × Int × Unit) × Int × Unit} (h1 : inR a.1) (h2 : inR a.2.1) : law04_DotTells a b x y = some true := by
  unfold law04_DotTells
  rw [dotRight_t, refRight_t, dotText_t h1 h2, refText_t h1 h2, dotCode_t h1 h2, refCode_t h1 h2, dotCompare_t, refCompare_t, refs_t, refRefs_t, awake_t]
  simp
theorem dotTells_law : ∀ v : law04_DotTells_T.ps.V, okV law04_DotTells_T.ps v → law04_DotTells_T.fn v = some true := fun v hv => by
  have h := hv.1
  exact dotTells_t ⟨h.1.1, h.1.2⟩ ⟨h.2.1.1, h.2.1.2⟩
end Go.Proofs.YtekmegajjfapaaaDoor.Q
