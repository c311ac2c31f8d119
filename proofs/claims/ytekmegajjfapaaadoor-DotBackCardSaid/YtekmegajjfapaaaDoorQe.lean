import Derived.Test.YtekmegajjfapaaaDoorL
import Derived.Test.YtekmegajjfapaaaDoorT14
import Derived.Lib.AtoiAllCases
set_option linter.unusedVariables false
set_option linter.unusedSimpArgs false
set_option maxRecDepth 100000
namespace Go.Proofs.YtekmegajjfapaaaDoor.Q
open Go.EM Go.TY Go.Proofs Go.Proofs.YtekmegajjfapaaaDoor.Y Go.Proofs.YtekmegajjfapaaaDoor.K Go.Proofs.YtekmegajjfapaaaDoor.L
def cmpI (a b : Int) : Int := if a < b then -1 else if a > b then 1 else 0
theorem compare_t (a b : Int) : cmp_Compare_int a b = some (cmpI a b) := by
  unfold cmp_Compare_int cmp_isNaN_int cmpI
  simp only [Option.bind_some, decide_true, Bool.not_true, cond_false, cond_dec]
  by_cases h1 : a < b
  · simp [h1]
  · by_cases h2 : a > b <;> simp [h1, h2]
def orI (a b : Int) : Int := if a = 0 then b else a
theorem or_t (a b : Int) : cmp_Or_int [a, b] = some (orI a b) := by
  unfold cmp_Or_int orI
  by_cases h1 : a = 0
  · rw [if_pos h1]
    have t0 : cmp_Or_int_l3 [a, b] (0, ()) = some (.inl (1, ())) := by
      unfold cmp_Or_int_l3
      simp only [cond_dec, List.length_cons, List.length_nil]
      rw [if_pos (by decide)]
      simp [atI, h1, wrap64]
    rw [loopT_inl t0]
    by_cases h2 : b = 0
    · have t1 : cmp_Or_int_l3 [a, b] (1, ()) = some (.inl (2, ())) := by
        unfold cmp_Or_int_l3
        simp only [cond_dec, List.length_cons, List.length_nil]
        rw [if_pos (by decide)]
        simp [atI, h2, wrap64]
      rw [loopT_inl t1, h2]
      refine loopT_inr ?_
      unfold cmp_Or_int_l3
      simp only [cond_dec, List.length_cons, List.length_nil]
      rw [if_neg (by decide)]
    · refine loopT_inr ?_
      unfold cmp_Or_int_l3
      simp only [cond_dec, List.length_cons, List.length_nil]
      rw [if_pos (by decide)]
      simp [atI, h2]
  · rw [if_neg h1]
    refine loopT_inr ?_
    unfold cmp_Or_int_l3
    simp only [cond_dec, List.length_cons, List.length_nil]
    rw [if_pos (by decide)]
    simp [atI, h1]
def cmpD (a b : Int × Int × Unit) : Int := orI (cmpI a.1 b.1) (cmpI a.2.1 b.2.1)
theorem dotCompare_t (a b : Int × Int × Unit) : dot_Compare a b = some (cmpD a b) := by
  unfold dot_Compare cmpD
  simp only [compare_t, or_t, Option.bind_some]
theorem awake_t : law04_awake = some true := rfl
theorem cmpD_cases (a b : Int × Int × Unit) : cmpD a b = if a.1 < b.1 then -1 else if a.1 > b.1 then 1 else if a.2.1 < b.2.1 then -1 else if a.2.1 > b.2.1 then 1 else 0 := by
  unfold cmpD orI cmpI
  by_cases h1 : a.1 < b.1
  · simp [h1]
  · by_cases h2 : a.1 > b.1
    · simp [h1, h2]
    · simp [h1, h2]
theorem dotRow_t (a b c : Int × Int × Unit) : law04_DotRow a b c = some true := by
  unfold law04_DotRow
  simp only [dotCompare_t, awake_t, Option.bind_some, cond_dec]
  have e1 : cmpD b a = IntKind.wrap .i64 (0 - cmpD a b) := by
    rw [cmpD_cases, cmpD_cases]
    repeat' split
    all_goals first | omega | (rw [wrap64 (by omega) (by omega)]; omega) | (exfalso; omega)
  have e2 : (decide (cmpD a b = 0) == eqV (.agg (.cons (.int .i64) (.cons (.int .i64) .unit))) a b) = true := by
    have he : eqV (.agg (.cons (.int .i64) (.cons (.int .i64) .unit))) a b = (decide (a.1 = b.1) && decide (a.2.1 = b.2.1)) := by
      simp only [eqV, Bool.and_true]
    rw [he, cmpD_cases, beq_iff_eq, Bool.eq_iff_iff]
    simp only [decide_eq_true_eq, Bool.and_eq_true]
    by_cases h1 : a.1 < b.1
    · rw [if_pos h1]; constructor <;> intro h <;> omega
    rw [if_neg h1]
    by_cases h2 : a.1 > b.1
    · rw [if_pos h2]; constructor <;> intro h <;> omega
    rw [if_neg h2]
    by_cases h3 : a.2.1 < b.2.1
    · rw [if_pos h3]; constructor <;> intro h <;> omega
    rw [if_neg h3]
    by_cases h4 : a.2.1 > b.2.1
    · rw [if_pos h4]; constructor <;> intro h <;> omega
    rw [if_neg h4]; constructor <;> intro h <;> omega
  have e3 : cmpD a b > 0 ∨ cmpD b c > 0 ∨ cmpD a c ≤ 0 := by
    rw [cmpD_cases, cmpD_cases, cmpD_cases]
    repeat' split
    all_goals omega
  rw [if_pos e1, e2]
  simp only [Option.bind_some, cond_true]
  by_cases h1 : cmpD a b > 0
  · rw [if_pos h1]
  · rw [if_neg h1]
    by_cases h2 : cmpD b c > 0
    · rw [if_pos h2]
    · rw [if_neg h2, if_pos (by omega)]
theorem dotRow_law : ∀ v : law04_DotRow_T.ps.V, okV law04_DotRow_T.ps v → law04_DotRow_T.fn v = some true := fun v _ => dotRow_t v.1 v.2.1 v.2.2.1
end Go.Proofs.YtekmegajjfapaaaDoor.Q

set_option linter.unusedVariables false
set_option linter.unusedSimpArgs false
set_option maxRecDepth 100000
namespace Go.Proofs.YtekmegajjfapaaaDoor.Q
open Go.EM Go.TY Go.Proofs Go.Proofs.YtekmegajjfapaaaDoor.Y Go.Proofs.YtekmegajjfapaaaDoor.K Go.Proofs.YtekmegajjfapaaaDoor.L
/-! ### a text that is built -/
def bI (s : List UInt8) : List Int := s.map fun b => (b.toNat : Int)
theorem bI_app {s t : List UInt8} : bI (s ++ t) = bI s ++ bI t := by simp [bI]
theorem bI_len {s : List UInt8} : (bI s).length = s.length := by simp [bI]
theorem bI_back {s : List UInt8} : ((bI s).map fun n => UInt8.ofNat n.toNat) = s := by
  unfold bI
  rw [List.map_map]
  conv => rhs; rw [← List.map_id s]
  congr 1
  funext b
  simp
theorem bI_one {n : Nat} (h : n < 256) : bI [UInt8.ofNat n] = [(n : Int)] := by
  simp only [bI, List.map_cons, List.map_nil]
  rw [UInt8.toNat_ofNat_of_lt' (by simpa using h)]
theorem wrapW8 {n : Int} : IntKind.wrap .u8 n = n % 256 := by
  simp [IntKind.wrap, IntKind.signed, IntKind.bits]
theorem writeByte_t {c : Int} {v : Bool × Unit × Unit} {w : List Int} (hw : w.length < 4294967000) : strings_Builder_WriteByte c v w = some (false, (true, (), ()), w ++ [c], ()) := by
  unfold strings_Builder_WriteByte
  have h : strings_Builder_copyCheck v w = some ((), (true, (), ()), w, ()) := by
    obtain ⟨b, _, _⟩ := v
    unfold strings_Builder_copyCheck
    cases b <;> rfl
  rw [h]
  simp only [Option.bind_some]
  rw [roomT_lt (by simp; omega)]
  rfl
theorem string_t {v : Bool × Unit × Unit} {s : List UInt8} (hs : s.length < 4294967296) : strings_Builder_String v (bI s) = some (s, v, ()) := by
  unfold strings_Builder_String
  cases s with
  | nil => rfl
  | cons b s =>
    have : (bI (b :: s)).isEmpty = false := rfl
    rw [this, cond_false, bI_back]
    have : wholeN 0 (bI (b :: s)).length ((bI (b :: s)).length : Int) = some () := by
      unfold wholeN
      rw [bI_len, if_pos ⟨rfl, rfl, by simp only [List.length_cons]; omega, by omega⟩]
    rw [this]; rfl
/-! ### numbers as bytes -/
def intM (n : Nat) : List UInt8 :=
  if h : n < 128 then [UInt8.ofNat n] else UInt8.ofNat (n % 128 + 128) :: intM (n / 128)
termination_by n
decreasing_by omega
theorem intM_small {n : Nat} (h : n < 128) : intM n = [UInt8.ofNat n] := by rw [intM, dif_pos h]
theorem intM_big {n : Nat} (h : ¬ n < 128) : intM n = UInt8.ofNat (n % 128 + 128) :: intM (n / 128) := by rw [intM, dif_neg h]
theorem div_pow {n k b : Nat} (hb : 0 < b) (h : n < b ^ (k + 1)) : n / b < b ^ k := by
  rw [Nat.div_lt_iff_lt_mul hb]
  rw [Nat.pow_succ] at h; exact h
theorem intM_len : ∀ (k n : Nat), n < 128 ^ k → (intM n).length ≤ k + 1
  | 0, n, h => by rw [intM_small (by simp at h; omega)]; simp
  | k + 1, n, h => by
    by_cases hn : n < 128
    · rw [intM_small hn]; simp
    · rw [intM_big hn, List.length_cons]
      have := intM_len k (n / 128) (div_pow (by omega) h)
      omega
theorem or_all : ∀ x : Fin 128, (x.val ||| 128) = x.val + 128 := by decide
theorem byte_t {n : Nat} (h : n < 9223372036854775808) : IntKind.wrap .u8 (IntKind.wrap .i64 ((BitVec.ofInt (IntKind.bits .i64) (IntKind.wrap .i64 ((BitVec.ofInt (IntKind.bits .i64) (n : Int) &&& BitVec.ofInt (IntKind.bits .i64) 127).toNat : Nat)) ||| BitVec.ofInt (IntKind.bits .i64) 128).toNat : Nat)) = ((n % 128 + 128 : Nat) : Int) := by
  have e : ∀ m : Nat, m < 18446744073709551616 → (BitVec.ofInt (IntKind.bits .i64) (m : Int)).toNat = m := by
    intro m hm
    rw [show IntKind.bits .i64 = 64 from rfl, BitVec.toNat_ofInt]
    omega
  have e127 : (BitVec.ofInt (IntKind.bits .i64) 127).toNat = 127 := by decide
  have e128 : (BitVec.ofInt (IntKind.bits .i64) 128).toNat = 128 := by decide
  have a1 : (BitVec.ofInt (IntKind.bits .i64) (n : Int) &&& BitVec.ofInt (IntKind.bits .i64) 127).toNat = n % 128 := by
    rw [BitVec.toNat_and, e n (by omega), e127]
    exact Nat.and_two_pow_sub_one_eq_mod n 7
  rw [a1, wrap64 (n := ((n % 128 : Nat) : Int)) (by omega) (by omega), BitVec.toNat_or, e (n % 128) (by omega), e128, or_all ⟨n % 128, by omega⟩]
  simp only []
  rw [wrap64 (by omega) (by omega), wrapW8]
  omega
theorem shr7_t {n : Nat} : shrT .i64 (n : Int) 7 = some ((n / 128 : Nat) : Int) := by
  unfold shrT
  rw [if_neg (by omega)]
  have e : (2 : Int) ^ min (Int.toNat 7) (IntKind.bits .i64) = 128 := by decide
  rw [e, Int.fdiv_eq_ediv_of_nonneg _ (by omega)]
  congr 1
theorem pack_loop : ∀ (k n : Nat) (out : List UInt8) (b : Bool), n < 128 ^ k → n < 9223372036854775808 → out.length + k < 1000 →
    ∃ (m : Nat) (out' : List UInt8) (b' : Bool), m < 128 ∧ out'.length < 1000 ∧ loopT pack_Int_l2 ((n : Int), bI out, (b, (), ()), ()) = some (.inl ((m : Int), bI out', (b', (), ()), ())) ∧ out' ++ [UInt8.ofNat m] = out ++ intM n
  | 0, n, out, b, h, h2, h3 => by
    have hn : n = 0 := by simp at h; exact h
    subst hn
    refine ⟨0, out, b, by omega, by omega, ?_, by rw [intM_small (by omega)]⟩
    refine loopT_inr ?_
    unfold pack_Int_l2
    rw [cond_dec, if_neg (by simp only []; omega)]
  | k + 1, n, out, b, h, h2, h3 => by
    by_cases hn : n < 128
    · refine ⟨n, out, b, hn, by omega, ?_, by rw [intM_small hn]⟩
      refine loopT_inr ?_
      unfold pack_Int_l2
      rw [cond_dec, if_neg (by simp only []; omega)]
    · have turn : pack_Int_l2 ((n : Int), bI out, (b, (), ()), ()) = some (.inl (((n / 128 : Nat) : Int), bI (out ++ [UInt8.ofNat (n % 128 + 128)]), (true, (), ()), ())) := by
        unfold pack_Int_l2
        rw [cond_dec, if_pos (by simp only []; omega)]
        simp only []
        rw [byte_t h2, writeByte_t (by rw [bI_len]; omega)]
        simp only [Option.bind_some]
        rw [shr7_t]
        simp only [Option.bind_some]
        rw [bI_app, bI_one (by omega)]
      obtain ⟨m, out', b', g1, g2, g3, g4⟩ := pack_loop k (n / 128) (out ++ [UInt8.ofNat (n % 128 + 128)]) true (div_pow (by omega) h) (by omega) (by rw [List.length_append]; simp only [List.length_cons, List.length_nil]; omega)
      refine ⟨m, out', b', g1, g2, by rw [loopT_inl turn]; exact g3, ?_⟩
      rw [g4, intM_big hn]; simp
theorem packInt_t {n : Int} (h : n ≤ 9223372036854775807) : pack_Int n = some (intM n.toNat) := by
  unfold pack_Int
  by_cases hn : n < 0
  · have : loopT pack_Int_l2 (n, [], (false, (), ()), ()) = some (.inl (n, [], (false, (), ()), ())) := by
      refine loopT_inr ?_
      unfold pack_Int_l2
      rw [cond_dec, if_neg (by simp only []; omega)]
    rw [this, bind_join_inl]
    simp only []
    rw [show max n 0 = 0 by omega, writeByte_t (by simp)]
    simp only [Option.bind_some]
    have e : ([] : List Int) ++ [IntKind.wrap .u8 0] = bI [UInt8.ofNat 0] := by decide
    rw [e, string_t (by simp)]
    have : n.toNat = 0 := by omega
    rw [this, intM_small (by omega)]; rfl
  · obtain ⟨m, rfl⟩ : ∃ m : Nat, n = (m : Int) := ⟨n.toNat, by omega⟩
    obtain ⟨r, out', b', g1, g2, g3, g4⟩ := pack_loop 9 m [] false (by simp only [Nat.reducePow]; omega) (by omega) (by simp)
    have e0 : bI [] = [] := rfl
    rw [e0] at g3
    rw [g3, bind_join_inl]
    simp only []
    rw [show max (r : Int) 0 = r by omega, wrapW8, show (r : Int) % 256 = r by omega, writeByte_t (by rw [bI_len]; omega)]
    simp only [Option.bind_some]
    rw [← bI_one (by omega : r < 256), ← bI_app, string_t (by rw [List.length_append]; simp only [List.length_cons, List.length_nil]; omega), g4]
    simp
theorem quo_t {a b : Nat} (hb : b ≠ 0) (ha : a < 9223372036854775808) : quoT .i64 (a : Int) (b : Int) = some ((a / b : Nat) : Int) := by
  unfold quoT
  rw [if_neg (by omega)]
  have : ((a : Int).tdiv (b : Int)) = ((a / b : Nat) : Int) := by rw [Int.tdiv_eq_ediv_of_nonneg (by omega)]; norm_cast
  rw [this]
  have hle : a / b ≤ a := Nat.div_le_self a b
  generalize a / b = q at hle
  rw [wrap64 (by omega) (by omega)]
theorem rem_t {a b : Nat} (hb : b ≠ 0) : remT (a : Int) (b : Int) = some ((a % b : Nat) : Int) := by
  unfold remT
  rw [if_neg (by omega)]
  have : ((a : Int).tmod (b : Int)) = ((a % b : Nat) : Int) := by rw [Int.tmod_eq_emod_of_nonneg (by omega)]; norm_cast
  rw [this]
theorem refInt_step (rec : (Int × Unit) → Option (List UInt8)) {a : Int} (h : a ≤ 9223372036854775807) : ref02_Int_step rec a = if a < 128 then some (intM a.toNat) else (rec (((a.toNat / 128 : Nat) : Int), ())).bind fun r => catT [UInt8.ofNat (a.toNat % 128 + 128)] r := by
  unfold ref02_Int_step
  by_cases ha : a < 128
  · rw [cond_dec, if_pos ha, if_pos ha, intM_small (by omega)]
    by_cases hn : a < 0
    · rw [cond_dec, if_pos hn, bind_join_inl]
      simp only [wrapW8, List.map_cons, List.map_nil]
      have : a.toNat = 0 := by omega
      rw [this]; rfl
    · rw [cond_dec, if_neg hn, bind_join_inl]
      simp only [wrapW8, List.map_cons, List.map_nil]
      rw [show a % 256 = a by omega]
  · rw [cond_dec, if_neg ha, if_neg ha]
    obtain ⟨n, rfl⟩ : ∃ n : Nat, a = (n : Int) := ⟨a.toNat, by omega⟩
    rw [show (128 : Int) = ((128 : Nat) : Int) from rfl, rem_t (by omega), quo_t (by omega) (by omega)]
    simp only [Option.bind_some, Int.toNat_natCast]
    cases rec (((n / 128 : Nat) : Int), ()) with
    | none => rfl
    | some r =>
      simp only [Option.bind_some, List.map_cons, List.map_nil, wrapW8]
      rw [wrap64 (by omega) (by omega), show (((n % 128 : Nat) : Int) + ((128 : Nat) : Int)) % 256 = ((n % 128 + 128 : Nat) : Int) by omega, Int.toNat_natCast]
      cases catT [UInt8.ofNat (n % 128 + 128)] r <;> rfl
theorem refInt_it : ∀ (m : Nat) (a : Int), a ≤ 9223372036854775807 →
    (itT (fun (rec : (Int × Unit) → Option (List UInt8)) v => ref02_Int_step rec v.1) m (a, ()) = none ∨ itT (fun (rec : (Int × Unit) → Option (List UInt8)) v => ref02_Int_step rec v.1) m (a, ()) = some (intM a.toNat)) ∧
    ∀ k, m = k + 1 → a.toNat < 128 ^ (k + 1) → itT (fun (rec : (Int × Unit) → Option (List UInt8)) v => ref02_Int_step rec v.1) m (a, ()) = some (intM a.toNat)
  | 0, a, h => ⟨.inl rfl, fun k e => by omega⟩
  | m + 1, a, h => by
    have hs := refInt_step (itT (fun (rec : (Int × Unit) → Option (List UInt8)) v => ref02_Int_step rec v.1) m) h
    have e0 : itT (fun (rec : (Int × Unit) → Option (List UInt8)) v => ref02_Int_step rec v.1) (m + 1) (a, ()) = ref02_Int_step (itT (fun (rec : (Int × Unit) → Option (List UInt8)) v => ref02_Int_step rec v.1) m) a := rfl
    rw [e0, hs]
    by_cases ha : a < 128
    · rw [if_pos ha]
      exact ⟨.inr rfl, fun _ _ _ => rfl⟩
    · rw [if_neg ha]
      obtain ⟨n, rfl⟩ : ∃ n : Nat, a = (n : Int) := ⟨a.toNat, by omega⟩
      obtain ⟨ih1, ih2⟩ := refInt_it m ((n / 128 : Nat) : Int) (by omega)
      rw [Int.toNat_natCast] at ih1 ih2 ⊢
      have fin : (some (intM (n / 128))).bind (fun r4 => (catT [UInt8.ofNat (n % 128 + 128)] r4)) = some (intM n) := by
        rw [Option.bind_some, intM_big (n := n) (by omega)]
        have := intM_len 9 (n / 128) (by simp only [Nat.reducePow]; omega)
        rw [catT_some (by simp only [List.length_cons, List.length_nil]; omega)]; rfl
      constructor
      · rcases ih1 with e | e
        · left; rw [e]; rfl
        · right; rw [e]; exact fin
      · intro k hk hlt
        have hk' : k = m := by omega
        subst hk'
        cases k with
        | zero => simp at hlt; omega
        | succ k =>
          have := ih2 k rfl (div_pow (by omega) hlt)
          rw [this]; exact fin
theorem refInt_t {n : Int} (h : n ≤ 9223372036854775807) : ref02_Int n = some (intM n.toNat) := by
  unfold ref02_Int ref02_Int_fix
  refine fix_eq (fun m => (refInt_it m n h).1) ⟨9, (refInt_it 9 n h).2 8 rfl ?_⟩
  simp only [Nat.reducePow, Nat.reduceAdd]; omega
end Go.Proofs.YtekmegajjfapaaaDoor.Q

set_option linter.unusedVariables false
set_option linter.unusedSimpArgs false
set_option maxRecDepth 100000
namespace Go.Proofs.YtekmegajjfapaaaDoor.Q
open Go.EM Go.TY Go.Proofs Go.Proofs.YtekmegajjfapaaaDoor.Y Go.Proofs.YtekmegajjfapaaaDoor.K Go.Proofs.YtekmegajjfapaaaDoor.L
/-! ### numerals -/
theorem dec_small {u : Nat} (h : u < 10) : Lib.decDigits u = [UInt8.ofNat (48 + u)] := by rw [Lib.decDigits, dif_pos h]
theorem dec_big {u : Nat} (h : ¬ u < 10) : Lib.decDigits u = Lib.decDigits (u / 10) ++ [UInt8.ofNat (48 + u % 10)] := by rw [Lib.decDigits, dif_neg h]
theorem dec_len : ∀ (k u : Nat), u < 10 ^ k → (Lib.decDigits u).length ≤ k + 1
  | 0, u, h => by rw [dec_small (by simp at h; omega)]; simp
  | k + 1, u, h => by
    by_cases hu : u < 10
    · rw [dec_small hu]; simp
    · rw [dec_big hu, List.length_append]
      have := dec_len k (u / 10) (div_pow (by omega) h)
      simp only [List.length_cons, List.length_nil]; omega
theorem itoa_len {n : Int} (h : -9223372036854775808 ≤ n) (h2 : n ≤ 9223372036854775807) : (Lib.itoa n).length ≤ 21 := by
  unfold Lib.itoa
  split
  · have := dec_len 19 n.natAbs (by simp only [Nat.reducePow]; omega)
    rw [List.length_cons]; omega
  · have := dec_len 19 n.toNat (by simp only [Nat.reducePow]; omega)
    omega
theorem digit_all : ∀ x : Fin 10, (([48, 49, 50, 51, 52, 53, 54, 55, 56, 57] : List UInt8).take (x.val + 1)).drop x.val = [UInt8.ofNat (48 + x.val)] := by decide
theorem digit_t {n : Nat} (h : n < 10) : subI ([48, 49, 50, 51, 52, 53, 54, 55, 56, 57] : List UInt8) (n : Int) (IntKind.wrap .i64 ((n : Int) + 1)) = some [UInt8.ofNat (48 + n)] := by
  rw [wrap64 (by omega) (by omega), show (n : Int) + 1 = ((n + 1 : Nat) : Int) by omega, subI_nat (by omega) (by simp; omega), digit_all ⟨n, h⟩]
theorem quoN_t {a : Int} (h : -9223372036854775808 ≤ a) (h2 : a < 0) : quoT .i64 a 10 = some (-((a.natAbs / 10 : Nat) : Int)) := by
  unfold quoT
  rw [if_neg (by omega)]
  have : a.tdiv 10 = -((a.natAbs / 10 : Nat) : Int) := by
    obtain ⟨n, rfl⟩ : ∃ n : Nat, a = -(n : Int) := ⟨a.natAbs, by omega⟩
    rw [Int.neg_tdiv, Int.natAbs_neg, Int.natAbs_natCast, Int.tdiv_eq_ediv_of_nonneg (by omega)]
    norm_cast
  rw [this, wrap64 (by omega) (by omega)]
theorem remN_t {a : Int} (h2 : a < 0) : remT a 10 = some (-((a.natAbs % 10 : Nat) : Int)) := by
  unfold remT
  rw [if_neg (by omega)]
  have : a.tmod 10 = -((a.natAbs % 10 : Nat) : Int) := by
    obtain ⟨n, rfl⟩ : ∃ n : Nat, a = -(n : Int) := ⟨a.natAbs, by omega⟩
    rw [Int.neg_tmod, Int.natAbs_neg, Int.natAbs_natCast, Int.tmod_eq_emod_of_nonneg (by omega)]
    norm_cast
  rw [this]
theorem digits_step (rec : (Int × Unit) → Option (List UInt8)) {a : Int} (h : -9223372036854775808 ≤ a) (h2 : a ≤ 9223372036854775807) : ref04_Digits_step rec a =
    if a < 0 then (if a > -10 then (rec (((a.natAbs : Nat) : Int), ())).bind fun r => catT [45] r
      else (rec (((a.natAbs / 10 : Nat) : Int), ())).bind fun r => (catT [45] r).bind fun s => (rec (((a.natAbs % 10 : Nat) : Int), ())).bind fun t => catT s t)
    else if a < 10 then some [UInt8.ofNat (48 + a.toNat)] else (rec (((a.toNat / 10 : Nat) : Int), ())).bind fun r => catT r [UInt8.ofNat (48 + a.toNat % 10)] := by
  unfold ref04_Digits_step
  by_cases h0 : a < 0
  · rw [cond_dec, if_pos h0, if_pos h0]
    by_cases h1 : a > -10
    · rw [cond_dec, if_pos h1, if_pos h1, wrap64 (by omega) (by omega), show (0 - a) = ((a.natAbs : Nat) : Int) by omega]
      cases rec (((a.natAbs : Nat) : Int), ()) with
      | none => rfl
      | some r => simp only [Option.bind_some]; cases catT [45] r <;> rfl
    · rw [cond_dec, if_neg h1, if_neg h1, quoN_t h h0, remN_t h0]
      simp only [Option.bind_some]
      rw [wrap64 (n := 0 - -((a.natAbs / 10 : Nat) : Int)) (by omega) (by omega), wrap64 (n := 0 - -((a.natAbs % 10 : Nat) : Int)) (by omega) (by omega), show (0 - -((a.natAbs / 10 : Nat) : Int)) = ((a.natAbs / 10 : Nat) : Int) by omega, show (0 - -((a.natAbs % 10 : Nat) : Int)) = ((a.natAbs % 10 : Nat) : Int) by omega]
      cases rec (((a.natAbs / 10 : Nat) : Int), ()) with
      | none => rfl
      | some r =>
        simp only [Option.bind_some]
        cases catT [45] r with
        | none => rfl
        | some s =>
          simp only [Option.bind_some]
          cases rec (((a.natAbs % 10 : Nat) : Int), ()) with
          | none => rfl
          | some t => simp only [Option.bind_some]; cases catT s t <;> rfl
  · rw [cond_dec, if_neg h0, if_neg h0]
    obtain ⟨n, rfl⟩ : ∃ n : Nat, a = (n : Int) := ⟨a.toNat, by omega⟩
    rw [Int.toNat_natCast]
    by_cases h1 : (n : Int) < 10
    · rw [cond_dec, if_pos h1, if_pos h1, digit_t (by omega)]; rfl
    · rw [cond_dec, if_neg h1, if_neg h1, show (10 : Int) = ((10 : Nat) : Int) from rfl, quo_t (by omega) (by omega), rem_t (by omega)]
      simp only [Option.bind_some]
      cases rec (((n / 10 : Nat) : Int), ()) with
      | none => rfl
      | some r =>
        simp only [Option.bind_some]
        rw [digit_t (by omega)]
        simp only [Option.bind_some]
        cases catT r [UInt8.ofNat (48 + n % 10)] <;> rfl
noncomputable abbrev digS : ((Int × Unit) → Option (List UInt8)) → (Int × Unit) → Option (List UInt8) := fun rec v => ref04_Digits_step rec v.1
theorem digits_pos : ∀ (m n : Nat), n < 9223372036854775809 → n ≤ 9223372036854775807 →
    (itT digS m ((n : Int), ()) = none ∨ itT digS m ((n : Int), ()) = some (Lib.decDigits n)) ∧ ∀ k, m = k + 1 → n < 10 ^ (k + 1) → itT digS m ((n : Int), ()) = some (Lib.decDigits n)
  | 0, n, _, h => ⟨.inl rfl, fun k e => by omega⟩
  | m + 1, n, hn, h => by
    have e0 : itT digS (m + 1) ((n : Int), ()) = ref04_Digits_step (itT digS m) (n : Int) := rfl
    rw [e0, digits_step (itT digS m) (by omega) (by omega), if_neg (by omega), Int.toNat_natCast]
    by_cases ha : n < 10
    · rw [if_pos (by omega), dec_small ha]
      exact ⟨.inr rfl, fun _ _ _ => rfl⟩
    · rw [if_neg (by omega)]
      obtain ⟨ih1, ih2⟩ := digits_pos m (n / 10) (by omega) (by omega)
      have fin : (some (Lib.decDigits (n / 10))).bind (fun r => catT r [UInt8.ofNat (48 + n % 10)]) = some (Lib.decDigits n) := by
        rw [Option.bind_some, dec_big (u := n) ha]
        have := dec_len 19 (n / 10) (by simp only [Nat.reducePow]; omega)
        rw [catT_some (by simp only [List.length_cons, List.length_nil]; omega)]
      constructor
      · rcases ih1 with e | e
        · left; rw [e]; rfl
        · right; rw [e]; exact fin
      · intro k hk hlt
        have hk' : k = m := by omega
        subst hk'
        cases k with
        | zero => simp at hlt; omega
        | succ k =>
          rw [ih2 k rfl (div_pow (by omega) hlt)]; exact fin
theorem itoa_neg {a : Int} (h : a < 0) : Lib.itoa a = 45 :: Lib.decDigits a.natAbs := by unfold Lib.itoa; rw [if_pos h]
theorem itoa_pos {n : Nat} : Lib.itoa (n : Int) = Lib.decDigits n := by unfold Lib.itoa; rw [if_neg (by omega), Int.toNat_natCast]
theorem digits_neg (m : Nat) {a : Int} (h : -9223372036854775808 ≤ a) (h0 : a < 0) :
    (itT digS (m + 1) (a, ()) = none ∨ itT digS (m + 1) (a, ()) = some (Lib.itoa a)) ∧ ∀ k, m = k + 1 → a.natAbs < 10 ^ (k + 1) → itT digS (m + 1) (a, ()) = some (Lib.itoa a) := by
  have e0 : itT digS (m + 1) (a, ()) = ref04_Digits_step (itT digS m) a := rfl
  rw [e0, digits_step (itT digS m) h (by omega), if_pos h0, itoa_neg h0]
  by_cases h1 : a > -10
  · rw [if_pos h1]
    obtain ⟨ih1, ih2⟩ := digits_pos m a.natAbs (by omega) (by omega)
    have fin : (some (Lib.decDigits a.natAbs)).bind (fun r => catT [45] r) = some (45 :: Lib.decDigits a.natAbs) := by
      have := dec_len 19 a.natAbs (by simp only [Nat.reducePow]; omega)
      rw [Option.bind_some, catT_some (by simp only [List.length_cons, List.length_nil]; omega)]; rfl
    constructor
    · rcases ih1 with e | e
      · left; rw [e]; rfl
      · right; rw [e]; exact fin
    · intro k hk hlt
      rw [ih2 k hk hlt]; exact fin
  · rw [if_neg h1]
    obtain ⟨ih1, ih2⟩ := digits_pos m (a.natAbs / 10) (by omega) (by omega)
    obtain ⟨jh1, jh2⟩ := digits_pos m (a.natAbs % 10) (by omega) (by omega)
    have fin : (some (Lib.decDigits (a.natAbs / 10))).bind (fun r => (catT [45] r).bind fun s => (some (Lib.decDigits (a.natAbs % 10))).bind fun t => catT s t) = some (45 :: Lib.decDigits a.natAbs) := by
      have l1 := dec_len 19 (a.natAbs / 10) (by simp only [Nat.reducePow]; omega)
      have l2 := dec_len 19 (a.natAbs % 10) (by simp only [Nat.reducePow]; omega)
      simp only [Option.bind_some]
      rw [catT_some (by simp only [List.length_cons, List.length_nil]; omega)]
      simp only [Option.bind_some]
      rw [catT_some (by rw [List.length_append]; simp only [List.length_cons, List.length_nil]; omega), dec_big (u := a.natAbs) (by omega), dec_small (u := a.natAbs % 10) (by omega)]
      simp
    constructor
    · rcases ih1 with e | e
      · left; rw [e]; rfl
      · rcases jh1 with f | f
        · left; rw [e, f]
          simp only [Option.bind_some, Option.bind_none]
          cases catT [45] (Lib.decDigits (a.natAbs / 10)) <;> rfl
        · right; rw [e, f]; exact fin
    · intro k hk hlt
      rw [ih2 k hk (by omega), jh2 k hk (by have : 10 ^ 1 ≤ 10 ^ (k + 1) := Nat.pow_le_pow_right (by omega) (by omega); omega)]
      exact fin
theorem digits_t {n : Int} (h : -9223372036854775808 ≤ n) (h2 : n ≤ 9223372036854775807) : ref04_Digits n = some (Lib.itoa n) := by
  unfold ref04_Digits ref04_Digits_fix
  by_cases h0 : n < 0
  · refine fix_eq (fun m => ?_) ⟨20, (digits_neg 19 h h0).2 18 rfl ?_⟩
    · cases m with
      | zero => exact .inl rfl
      | succ m => exact (digits_neg m h h0).1
    · simp only [Nat.reducePow, Nat.reduceAdd]; omega
  · obtain ⟨m, rfl⟩ : ∃ m : Nat, n = (m : Int) := ⟨n.toNat, by omega⟩
    rw [itoa_pos]
    refine fix_eq (fun k => (digits_pos k m (by omega) (by omega)).1) ⟨19, (digits_pos 19 m (by omega) (by omega)).2 18 rfl ?_⟩
    simp only [Nat.reducePow, Nat.reduceAdd]; omega
/-! ### dots -/
def inR (n : Int) : Prop := -9223372036854775808 ≤ n ∧ n ≤ 9223372036854775807
theorem strItoa_t {n : Int} (h : inR n) : strconv_Itoa n = some (Lib.itoa n) := if_pos h
def textM (d : Int × Int × Unit) : List UInt8 := Lib.itoa d.1 ++ [46] ++ Lib.itoa d.2.1
theorem text_cat {a b : Int} (ha : inR a) (hb : inR b) : ((catT (Lib.itoa a) [46]).bind fun s => catT s (Lib.itoa b)) = some (Lib.itoa a ++ [46] ++ Lib.itoa b) := by
  have l1 := itoa_len ha.1 ha.2
  have l2 := itoa_len hb.1 hb.2
  rw [catT_some (by simp only [List.length_cons, List.length_nil]; omega), Option.bind_some, catT_some (by rw [List.length_append]; simp only [List.length_cons, List.length_nil]; omega)]
theorem dotText_t {d : Int × Int × Unit} (h1 : inR d.1) (h2 : inR d.2.1) : dot_Text d = some (textM d) := by
  unfold dot_Text
  rw [strItoa_t h1, strItoa_t h2]
  have := text_cat h1 h2
  simp only [Option.bind_some]
  unfold textM
  rw [← this]
  cases catT (Lib.itoa d.1) [46] with
  | none => rfl
  | some s => simp only [Option.bind_some]; cases catT s (Lib.itoa d.2.1) <;> rfl
theorem refText_t {d : Int × Int × Unit} (h1 : inR d.1) (h2 : inR d.2.1) : ref04_Text d = some (textM d) := by
  unfold ref04_Text
  rw [digits_t h1.1 h1.2, digits_t h2.1 h2.2]
  have := text_cat h1 h2
  simp only [Option.bind_some]
  unfold textM
  rw [← this]
  cases catT (Lib.itoa d.1) [46] with
  | none => rfl
  | some s => simp only [Option.bind_some]; cases catT s (Lib.itoa d.2.1) <;> rfl
def codeM (d : Int × Int × Unit) : List UInt8 := intM d.1.toNat ++ intM d.2.1.toNat
theorem code_cat {a b : Int} (ha : inR a) (hb : inR b) : catT (intM a.toNat) (intM b.toNat) = some (intM a.toNat ++ intM b.toNat) := by
  have l1 := intM_len 9 a.toNat (by simp only [Nat.reducePow]; have := ha.2; omega)
  have l2 := intM_len 9 b.toNat (by simp only [Nat.reducePow]; have := hb.2; omega)
  rw [catT_some (by omega)]
theorem dotCode_t {d : Int × Int × Unit} (h1 : inR d.1) (h2 : inR d.2.1) : dot_Code d = some (codeM d) := by
  unfold dot_Code
  rw [packInt_t h1.2, packInt_t h2.2]
  simp only [Option.bind_some]
  rw [code_cat h1 h2]; rfl
theorem refCode_t {d : Int × Int × Unit} (h1 : inR d.1) (h2 : inR d.2.1) : ref04_Code d = some (codeM d) := by
  unfold ref04_Code
  rw [refInt_t h1.2, refInt_t h2.2]
  simp only [Option.bind_some]
  rw [code_cat h1 h2]; rfl
theorem ints_t (a b : Int) : ref04_ints a b = some (cmpI a b) := by
  unfold ref04_ints cmpI
  simp only [cond_dec]
  by_cases h1 : a < b
  · simp [h1]
  · by_cases h2 : a > b <;> simp [h1, h2]
theorem refCompare_t (a b : Int × Int × Unit) : ref04_Compare a b = some (cmpD a b) := by
  unfold ref04_Compare
  simp only [ints_t, Option.bind_some]
  rw [cmpD_cases]
  unfold cmpI
  by_cases h : a.1 = b.1
  · have h1 : ¬ a.1 < b.1 := by omega
    have h2 : ¬ a.1 > b.1 := by omega
    simp only [h, decide_true, Bool.not_true, cond_false, Int.lt_irrefl, if_false, gt_iff_lt]
  · simp only [h, decide_false, Bool.not_false, cond_true]
    by_cases h1 : a.1 < b.1
    · simp [h1]
    · have h2 : a.1 > b.1 := by omega
      simp [h1, h2]
theorem refs_t (a b : (Int × Int × Unit) × Int × Unit) : dot_Refs a b = some (orI (cmpD a.1 b.1) (cmpI a.2.1 b.2.1)) := by
  unfold dot_Refs
  simp only [dotCompare_t, compare_t, or_t, Option.bind_some]
theorem refRefs_t (a b : (Int × Int × Unit) × Int × Unit) : ref04_Refs a b = some (orI (cmpD a.1 b.1) (cmpI a.2.1 b.2.1)) := by
  unfold ref04_Refs
  simp only [refCompare_t, ints_t, Option.bind_some, orI]
  by_cases h : cmpD a.1 b.1 = 0
  · simp [h]
  · simp [h]
def rightM (d : Int × Int × Unit) : Bool := decide (0 ≤ d.1 ∧ d.1 ≤ 15 ∧ 1 ≤ d.2.1 ∧ d.2.1 ≤ 1048576)
theorem dotRight_t (d : Int × Int × Unit) : dot_Right d = some (rightM d) := by
  unfold dot_Right rightM
  simp only [cond_dec]
  by_cases h1 : d.1 ≥ 0
  · by_cases h2 : d.1 < 16
    · by_cases h3 : d.2.1 ≥ 1
      · by_cases h4 : d.2.1 ≤ 1048576
        · rw [if_pos h1, if_pos h2, if_pos h3]; congr 1; rw [decide_eq_decide]; omega
        · rw [if_pos h1, if_pos h2, if_pos h3]; congr 1; rw [decide_eq_decide]; omega
      · rw [if_pos h1, if_pos h2, if_neg h3]; congr 1; symm; rw [decide_eq_false_iff_not]; omega
    · rw [if_pos h1, if_neg h2]; congr 1; symm; rw [decide_eq_false_iff_not]; omega
  · rw [if_neg h1]; congr 1; symm; rw [decide_eq_false_iff_not]; omega
theorem refRight_t (d : Int × Int × Unit) : ref04_Right d = some (rightM d) := by
  unfold ref04_Right rightM
  simp only [cond_dec]
  by_cases h1 : d.1 ≥ 0
  · by_cases h2 : d.1 ≤ 15
    · by_cases h3 : d.2.1 ≥ 1
      · rw [if_pos h1, if_pos h2, if_pos h3]; congr 1; rw [decide_eq_decide]; omega
      · rw [if_pos h1, if_pos h2, if_neg h3]; congr 1; symm; rw [decide_eq_false_iff_not]; omega
    · rw [if_pos h1, if_neg h2]; congr 1; symm; rw [decide_eq_false_iff_not]; omega
  · rw [if_neg h1]; congr 1; symm; rw [decide_eq_false_iff_not]; omega
theorem dotTells_t {a b : Int × Int × Unit} {x y : (Int × Int × Unit) × Int × Unit} (h1 : inR a.1) (h2 : inR a.2.1) : law04_DotTells a b x y = some true := by
  unfold law04_DotTells
  rw [dotRight_t, refRight_t, dotText_t h1 h2, refText_t h1 h2, dotCode_t h1 h2, refCode_t h1 h2, dotCompare_t, refCompare_t, refs_t, refRefs_t, awake_t]
  simp
theorem dotTells_law : ∀ v : law04_DotTells_T.ps.V, okV law04_DotTells_T.ps v → law04_DotTells_T.fn v = some true := fun v hv => by
  have h := hv.1
  exact dotTells_t ⟨h.1.1, h.1.2⟩ ⟨h.2.1.1, h.2.1.2⟩
end Go.Proofs.YtekmegajjfapaaaDoor.Q

set_option linter.unusedVariables false
set_option linter.unusedSimpArgs false
set_option maxRecDepth 100000
namespace Go.Proofs.YtekmegajjfapaaaDoor.Q
open Go.EM Go.TY Go.Proofs Go.Proofs.YtekmegajjfapaaaDoor.Y Go.Proofs.YtekmegajjfapaaaDoor.K Go.Proofs.YtekmegajjfapaaaDoor.L
/-! ### numerals, read -/
def digB (b : UInt8) : Prop := 48 ≤ b.toNat ∧ b.toNat ≤ 57
theorem dig_of {x : Nat} (h : x < 10) : digB (UInt8.ofNat (48 + x)) ∧ (UInt8.ofNat (48 + x)).toNat = 48 + x := by
  have : (UInt8.ofNat (48 + x)).toNat = 48 + x := UInt8.toNat_ofNat_of_lt' (by show _ < 256; omega)
  exact ⟨⟨by omega, by omega⟩, this⟩
theorem dec_digits : ∀ (u : Nat), ∀ b ∈ Lib.decDigits u, digB b := by
  intro u
  induction u using Nat.strongRecOn with
  | _ u ih =>
    intro b hb
    by_cases h : u < 10
    · rw [dec_small h] at hb
      simp only [List.mem_cons, List.mem_nil_iff, or_false] at hb
      subst hb; exact (dig_of h).1
    · rw [dec_big h] at hb
      rcases List.mem_append.1 hb with hb | hb
      · exact ih (u / 10) (by omega) b hb
      · simp only [List.mem_cons, List.mem_nil_iff, or_false] at hb
        subst hb; exact (dig_of (by omega)).1
theorem dec_pos (u : Nat) : 1 ≤ (Lib.decDigits u).length := by
  by_cases h : u < 10
  · rw [dec_small h]; simp
  · rw [dec_big h, List.length_append]; simp
theorem dec_len1 : ∀ (k u : Nat), u < 10 ^ (k + 1) → (Lib.decDigits u).length ≤ k + 1
  | 0, u, h => by rw [dec_small (by simpa using h)]; simp
  | k + 1, u, h => by
    by_cases hu : u < 10
    · rw [dec_small hu]; simp
    · rw [dec_big hu, List.length_append]
      have := dec_len1 k (u / 10) (div_pow (by omega) h)
      simp only [List.length_cons, List.length_nil]; omega
/-- The value of digits. -/
def valM (acc : Nat) : List UInt8 → Option Nat
  | [] => some acc
  | c :: r => if 48 ≤ c.toNat ∧ c.toNat ≤ 57 then valM (acc * 10 + (c.toNat - 48)) r else none
theorem val_app : ∀ (l r : List UInt8) (acc : Nat), valM acc (l ++ r) = (valM acc l).bind fun m => valM m r
  | [], r, acc => rfl
  | c :: l, r, acc => by
    simp only [List.cons_append, valM]
    split
    · exact val_app l r _
    · rfl
theorem val_dec : ∀ (u : Nat), valM 0 (Lib.decDigits u) = some u := by
  intro u
  induction u using Nat.strongRecOn with
  | _ u ih =>
    by_cases h : u < 10
    · rw [dec_small h]
      have := dig_of h
      simp only [valM, this.2]
      rw [if_pos (by omega)]
      simp
    · rw [dec_big h, val_app, ih (u / 10) (by omega), Option.bind_some]
      have := dig_of (x := u % 10) (by omega)
      simp only [valM, this.2]
      rw [if_pos (by omega)]
      congr 1; omega
theorem parse_val : ∀ (l : List UInt8) (acc v : Nat), valM acc l = some v → v < 1000000000000000000 → Lib.parseUint10 acc l = .ok v ∧ acc ≤ v
  | [], acc, v, h, hv => by simp only [valM] at h; cases h; exact ⟨rfl, Nat.le_refl _⟩
  | c :: r, acc, v, h, hv => by
    simp only [valM] at h
    split at h
    · rename_i hc
      obtain ⟨h1, h2⟩ := parse_val r _ v h hv
      refine ⟨?_, by omega⟩
      simp only [Lib.parseUint10]
      rw [if_pos hc, if_neg (by omega), if_neg (by omega)]
      exact h1
    · cases h
theorem atoi_dec {u : Nat} (hu : u < 1000000000000000000) : Lib.atoiAll (Lib.decDigits u) = .ok (u : Int) := by
  have hp := dec_pos u
  have hd := dec_digits u
  have hv := val_dec u
  obtain ⟨h1, _⟩ := parse_val _ 0 u hv hu
  cases hl : Lib.decDigits u with
  | nil => rw [hl] at hp; simp at hp
  | cons c r =>
    rw [hl] at hd h1
    have hc := hd c (List.mem_cons_self ..)
    rw [Lib.atoiAll_plain c r (by have := hc.1; omega) (by have := hc.1; omega)]
    unfold Lib.parseMag
    rw [if_neg (by simp), h1]
    show (if 9223372036854775808 ≤ u then Lib.NumEnd.range else Lib.NumEnd.ok (u : Int)) = _
    rw [if_neg (by omega)]
/-! ### cut at a point -/
theorem first_app {c : UInt8} : ∀ (l t : List UInt8) (i : Nat), (∀ b ∈ l, b ≠ c) → firstByte c (l ++ c :: t) i = ((i + l.length : Nat) : Int)
  | [], t, i, h => by
    simp only [List.nil_append, firstByte, List.length_nil, Nat.add_zero]
    have : Nat.beq c.toNat c.toNat = true := by rw [Nat.beq_eq]
    rw [this]; rfl
  | b :: l, t, i, h => by
    simp only [List.cons_append, firstByte]
    have hb := h b (List.mem_cons_self ..)
    have : Nat.beq b.toNat c.toNat = false := by
      cases e : Nat.beq b.toNat c.toNat with
      | false => rfl
      | true => rw [Nat.beq_eq] at e; exact absurd (UInt8.toNat_inj.1 e) hb
    rw [this, cond_false, first_app l t (i + 1) (fun b hb => h b (List.mem_cons_of_mem _ hb)), List.length_cons]
    omega
theorem first_le {c : UInt8} : ∀ (l : List UInt8) (i : Nat), firstByte c l i = -1 ∨ ∃ k : Nat, firstByte c l i = (k : Int) ∧ i ≤ k ∧ k < i + l.length
  | [], i => .inl rfl
  | b :: l, i => by
    simp only [firstByte]
    cases Nat.beq b.toNat c.toNat with
    | true => exact .inr ⟨i, rfl, Nat.le_refl _, by rw [List.length_cons]; omega⟩
    | false =>
      rcases first_le (c := c) l (i + 1) with h | ⟨k, h1, h2, h3⟩
      · exact .inl h
      · exact .inr ⟨k, h1, by omega, by rw [List.length_cons]; omega⟩
theorem index_t (s : List UInt8) (h : s ≠ [46]) : stringslite_Index s [46] = some (firstByte 46 s 0) := by
  unfold stringslite_Index stringslite_IndexByte indexByte
  simp only [cond_dec, List.length_cons, List.length_nil]
  rw [if_neg (by decide), if_neg (fun e => h e.symm), if_pos (by decide)]
  rfl
theorem index_one : stringslite_Index [46] [46] = some 0 := by
  unfold stringslite_Index
  simp only [cond_dec, List.length_cons, List.length_nil]
  rw [if_neg (by decide)]; rfl
theorem cut_of {s : List UInt8} {k : Nat} (hi : stringslite_Index s [46] = some (k : Int)) (hk : k < s.length) (hs : s.length < 1000000) : strings_Cut s [46] = some (s.take k, s.drop (k + 1), true, ()) := by
  unfold strings_Cut stringslite_Cut
  rw [hi]
  simp only [Option.bind_some, cond_dec]
  rw [if_pos (by omega), show (0 : Int) = ((0 : Nat) : Int) from rfl, subI_nat (by omega) (by omega)]
  simp only [Option.bind_some, List.length_cons, List.length_nil]
  rw [wrap64 (by omega) (by omega), show (k : Int) + (0 + 1 : Nat) = ((k + 1 : Nat) : Int) by omega, subI_from (by omega)]
  simp
theorem cut_none {s : List UInt8} (hi : stringslite_Index s [46] = some (-1)) : strings_Cut s [46] = some (s, [], false, ()) := by
  unfold strings_Cut stringslite_Cut
  rw [hi]
  simp only [Option.bind_some, cond_dec]
  rw [if_neg (by omega)]; rfl
theorem cut_any (s : List UInt8) (hs : s.length < 1000000) : ∃ a b ok, strings_Cut s [46] = some (a, b, ok, ()) ∧ a.length ≤ s.length ∧ b.length ≤ s.length := by
  by_cases h : s = [46]
  · subst h
    exact ⟨_, _, _, cut_of (k := 0) index_one (by simp) (by simp), by simp, by simp⟩
  · have hi := index_t s h
    rcases first_le (c := 46) s 0 with e | ⟨k, e, _, h3⟩
    · rw [e] at hi
      exact ⟨_, _, _, cut_none hi, Nat.le_refl _, by simp⟩
    · rw [e] at hi
      exact ⟨_, _, _, cut_of hi (by omega) hs, by rw [List.length_take]; omega, by rw [List.length_drop]; omega⟩
/-! ### the program's -/
theorem atoi_any (s : List UInt8) (h : s.length ≤ 281474976710656) : ∃ v e, strconv_Atoi s = some (v, e, ()) := by
  unfold strconv_Atoi atoi
  rw [if_pos h]
  exact ⟨_, _, rfl⟩
theorem atoi_num {u : Nat} (h : u < 1000000000000000000) : strconv_Atoi (Lib.decDigits u) = some ((u : Int), false, ()) := by
  have := dec_len1 17 u (by simpa using h)
  unfold strconv_Atoi atoi
  rw [if_pos (by omega), atoi_dec h]
theorem right_in {d : Int × Int × Unit} (h : rightM d = true) : (0 ≤ d.1 ∧ d.1 ≤ 15) ∧ (1 ≤ d.2.1 ∧ d.2.1 ≤ 1048576) := by
  have := of_decide_eq_true h
  omega
theorem right_text {d : Int × Int × Unit} (h : rightM d = true) : ∃ r n : Nat, d = ((r : Int), (n : Int), ()) ∧ r ≤ 15 ∧ 1 ≤ n ∧ n ≤ 1048576 ∧ textM d = Lib.decDigits r ++ 46 :: Lib.decDigits n := by
  have hi := right_in h
  obtain ⟨a, b, u⟩ := d
  simp only at hi
  refine ⟨a.toNat, b.toNat, ?_, by omega, by omega, by omega, ?_⟩
  · congr 1
    · omega
    · congr 1; omega
  · unfold textM
    simp only
    have i1 : Lib.itoa a = Lib.decDigits a.toNat := by unfold Lib.itoa; rw [if_neg (by omega)]
    have i2 : Lib.itoa b = Lib.decDigits b.toNat := by unfold Lib.itoa; rw [if_neg (by omega)]
    rw [i1, i2]
    simp
theorem dec_ne {u : Nat} : ∀ b ∈ Lib.decDigits u, b ≠ 46 := fun b hb e => by
  have := (dec_digits u b hb).1
  subst e
  exact absurd this (by decide)
theorem parse_of {d : Int × Int × Unit} {s : List UInt8} (hr : rightM d = true) (ht : textM d = s) : dot_Parse s = some (d, 0, ()) := by
  obtain ⟨r, n, e, h1, h2, h3, h4⟩ := right_text hr
  have l1 := dec_len1 1 r (by simp only [Nat.reducePow, Nat.reduceAdd]; omega)
  have l2 := dec_len1 6 n (by simp only [Nat.reducePow, Nat.reduceAdd]; omega)
  have p1 := dec_pos r
  have p2 := dec_pos n
  rw [h4] at ht
  have hs : s.length = (Lib.decDigits r).length + ((Lib.decDigits n).length + 1) := by rw [← ht, List.length_append, List.length_cons]
  have hi : stringslite_Index s [46] = some (((Lib.decDigits r).length : Nat) : Int) := by
    rw [index_t s (fun e => by rw [e] at hs; simp only [List.length_cons, List.length_nil] at hs; omega), ← ht, first_app _ _ _ dec_ne, Nat.zero_add]
  have hc := cut_of hi (by omega) (by omega)
  have t1 : s.take (Lib.decDigits r).length = Lib.decDigits r := by rw [← ht, List.take_left']; rfl
  have t2 : s.drop ((Lib.decDigits r).length + 1) = Lib.decDigits n := by
    rw [← ht, List.drop_append, List.drop_eq_nil_of_le (by omega), List.nil_append]
    rw [show (Lib.decDigits r).length + 1 - (Lib.decDigits r).length = 1 by omega]; rfl
  rw [t1, t2] at hc
  unfold dot_Parse
  rw [hc]
  simp only [Option.bind_some]
  rw [atoi_num (by omega), atoi_num (by omega)]
  simp only [Option.bind_some, Bool.not_true, cond_false]
  rw [← e, dotRight_t, hr]
  simp only [Option.bind_some, Bool.not_true, cond_false]
  have hin := right_in hr
  rw [dotText_t ⟨by omega, by omega⟩ ⟨by omega, by omega⟩]
  simp only [Option.bind_some]
  rw [h4, ht]
  simp
theorem parse_any (s : List UInt8) (hs : s.length < 1000000) : dot_Parse s = some ((0, 0, ()), 19, ()) ∨ ∃ d, rightM d = true ∧ textM d = s ∧ dot_Parse s = some (d, 0, ()) := by
  obtain ⟨a, b, ok, hc, ha, hb⟩ := cut_any s hs
  obtain ⟨v, e, h1⟩ := atoi_any a (by omega)
  obtain ⟨w, f, h2⟩ := atoi_any b (by omega)
  have hp : dot_Parse s = cond (cond (!ok) true e) (some ((0, 0, ()), 19, ())) (cond f (some ((0, 0, ()), 19, ())) ((dot_Right (v, w, ())).bind fun r5 => cond (!r5) (some ((0, 0, ()), 19, ())) ((dot_Text (v, w, ())).bind fun r6 => cond (!decide (r6 = s)) (some ((0, 0, ()), 19, ())) (some ((v, w, ()), 0, ()))))) := by
    unfold dot_Parse
    rw [hc]
    simp only [Option.bind_some, h1, h2]
    cases ok <;> rfl
  rw [hp]
  cases hk : cond (!ok) true e with
  | true => exact .inl rfl
  | false =>
    cases f with
    | true => exact .inl rfl
    | false =>
      rw [dotRight_t]
      cases hr : rightM (v, w, ()) with
      | false => exact .inl rfl
      | true =>
        have hin := right_in hr
        simp only at hin
        rw [dotText_t ⟨by simp only []; omega, by simp only []; omega⟩ ⟨by simp only []; omega, by simp only []; omega⟩]
        simp only [Option.bind_some, cond_false, Bool.not_true]
        by_cases ht : textM (v, w, ()) = s
        · right
          refine ⟨(v, w, ()), hr, ht, ?_⟩
          simp [ht]
        · left
          simp [ht]
/-! ### the document's -/
theorem val_loop {s : List UInt8} (hs : s.length < 1000000) {d : Int × Int × Unit} : ∀ (k i n : Nat), s.length - i ≤ k → i ≤ s.length → s.length - i ≤ 7 → n < 10 ^ (7 - (s.length - i)) →
    loopT (ref04_Parse_l8 s) ((n : Int), (i : Int), d, ()) = (match valM n (s.drop i) with
      | some v => some (.inl ((v : Int), d, ()))
      | none => some (.inr (.inr ((0, 0, ()), false, ())))) := by
  intro k
  have fin : ∀ (i n : Nat), ¬ i < s.length → loopT (ref04_Parse_l8 s) ((n : Int), (i : Int), d, ()) = (match valM n (s.drop i) with
      | some v => some (.inl ((v : Int), d, ()))
      | none => some (.inr (.inr ((0, 0, ()), false, ())))) := by
    intro i n hi
    rw [List.drop_eq_nil_of_le (by omega)]
    simp only [valM]
    refine loopT_inr ?_
    unfold ref04_Parse_l8
    rw [cond_dec, if_neg (by simp only []; omega)]
  induction k with
  | zero => intro i n hk hi _ _; exact fin i n (by omega)
  | succ k ih =>
    intro i n hk hi h7 hn
    by_cases hlt : i < s.length
    · have hb := (s[i]).toNat_lt
      rw [List.drop_eq_getElem_cons hlt]
      simp only [valM]
      have hp : 10 ^ (7 - (s.length - i)) * 10 = 10 ^ (7 - (s.length - (i + 1))) := by rw [← Nat.pow_succ]; congr 1; omega
      have hp2 : 10 ^ (7 - (s.length - (i + 1))) ≤ 10 ^ 7 := Nat.pow_le_pow_right (by omega) (by omega)
      simp only [Nat.reducePow] at hp2
      by_cases hd : 48 ≤ s[i].toNat ∧ s[i].toNat ≤ 57
      · rw [if_pos hd]
        rw [loopT_inl (b := (((n * 10 + (s[i].toNat - 48) : Nat) : Int), ((i + 1 : Nat) : Int), d, ()))]
        · exact ih (i + 1) _ (by omega) (by omega) (by omega) (by omega)
        · unfold ref04_Parse_l8
          rw [cond_dec, if_pos (by simp only []; omega)]
          simp only [atI_nat, List.getElem?_eq_getElem hlt, Option.bind_some, cond_dec]
          rw [if_neg (by omega), if_neg (by omega), wrap64 (n := 10 * (n : Int)) (by omega) (by omega), wrap64 (n := (s[i].toNat : Int)) (by omega) (by omega), wrap64 (n := 10 * (n : Int) + s[i].toNat) (by omega) (by omega), wrap64 (n := 10 * (n : Int) + s[i].toNat - 48) (by omega) (by omega), wrap64 (n := (i : Int) + 1) (by omega) (by omega)]
          congr 3
          omega
      · rw [if_neg hd]
        refine loopT_inr ?_
        unfold ref04_Parse_l8
        rw [cond_dec, if_pos (by simp only []; omega)]
        simp only [atI_nat, List.getElem?_eq_getElem hlt, Option.bind_some, cond_dec]
        by_cases h48 : (s[i].toNat : Int) < 48
        · rw [if_pos h48]
        · rw [if_neg h48, if_pos (by omega)]
    · exact fin i n hlt
def headM (r : Nat) : List UInt8 := Lib.decDigits r ++ [46]
/-- One turn of the document's loop. -/
theorem turn_t {s : List UInt8} (hs : s.length < 1000000) {r : Nat} (hr : r < 16) :
    (¬ (∃ t, s = headM r ++ t ∧ 1 ≤ t.length ∧ t.length ≤ 7) ∧ ref04_Parse_l2 s ((r : Int), (0, 0, ()), ()) = some (.inl (((r + 1 : Nat) : Int), (0, 0, ()), ()))) ∨
    ∃ t, s = headM r ++ t ∧ 1 ≤ t.length ∧ t.length ≤ 7 ∧ ref04_Parse_l2 s ((r : Int), (0, 0, ()), ()) = (match valM 0 t with
      | some v => some (.inr (((r : Int), (v : Int), ()), (rightM ((r : Int), (v : Int), ()) && decide (textM ((r : Int), (v : Int), ()) = s)), ()))
      | none => some (.inr ((0, 0, ()), false, ()))) := by
  have l1 := dec_len1 1 r (by simp only [Nat.reducePow, Nat.reduceAdd]; omega)
  have hl : (headM r).length = (Lib.decDigits r).length + 1 := by unfold headM; rw [List.length_append]; rfl
  have hdig : ref04_Digits ((r : Nat) : Int) = some (Lib.decDigits r) := by rw [digits_t (by omega) (by omega), itoa_pos]
  have hcat : catT (Lib.decDigits r) [46] = some (headM r) := catT_some (by simp only [List.length_cons, List.length_nil]; omega)
  have key : ref04_Parse_l2 s ((r : Int), (0, 0, ()), ()) = if (s.length : Int) ≤ ((headM r).length : Int) then some (.inl (((r + 1 : Nat) : Int), (0, 0, ()), ())) else if (s.length : Int) > ((headM r).length : Int) + 7 then some (.inl (((r + 1 : Nat) : Int), (0, 0, ()), ()))
      else (if s.take (headM r).length = headM r then ((loopT (ref04_Parse_l8 s) (0, ((headM r).length : Int), (0, 0, ()), ()) : Option ((Int × (Int × Int × Unit) × Unit) ⊕ ((Int × (Int × Int × Unit) × Unit) ⊕ ((Int × Int × Unit) × Bool × Unit)))).bind (joinS fun v7 =>
        (ref04_Right ((r : Int), v7.1, ())).bind fun r8 => cond r8 ((ref04_Text ((r : Int), v7.1, ())).bind fun r9 => some (.inr (((r : Int), v7.1, ()), (decide (r9 = s)), ()))) (some (.inr (((r : Int), v7.1, ()), false, ()))))) else some (.inl (((r + 1 : Nat) : Int), (0, 0, ()), ()))) := by
    unfold ref04_Parse_l2
    rw [cond_dec, if_pos (by simp only []; omega)]
    simp only [hdig, hcat, Option.bind_some, cond_dec]
    rw [wrap64 (n := (r : Int) + 1) (by omega) (by omega), wrap64 (n := ((headM r).length : Int) + 7) (by omega) (by omega), show (r : Int) + 1 = ((r + 1 : Nat) : Int) by omega]
    by_cases c1 : (s.length : Int) ≤ ((headM r).length : Int)
    · rw [if_pos c1, if_pos c1]
    · rw [if_neg c1, if_neg c1]
      by_cases c2 : (s.length : Int) > ((headM r).length : Int) + 7
      · rw [if_pos c2, if_pos c2]
      · rw [if_neg c2, if_neg c2, show (0 : Int) = ((0 : Nat) : Int) from rfl, subI_nat (by omega) (by omega)]
        simp only [Option.bind_some, List.drop_zero]
        by_cases c3 : s.take (headM r).length = headM r
        · rw [if_pos c3]
          simp only [c3, decide_true, Bool.not_true, cond_false]
        · rw [if_neg c3]
          simp only [c3, decide_false, Bool.not_false, cond_true]
  by_cases c1 : (s.length : Int) ≤ ((headM r).length : Int)
  · left
    refine ⟨?_, by rw [key, if_pos c1]⟩
    rintro ⟨t, e, h1, _⟩
    rw [e, List.length_append] at c1; omega
  by_cases c2 : (s.length : Int) > ((headM r).length : Int) + 7
  · left
    refine ⟨?_, by rw [key, if_neg c1, if_pos c2]⟩
    rintro ⟨t, e, _, h1⟩
    rw [e, List.length_append] at c2; omega
  by_cases c3 : s.take (headM r).length = headM r
  · right
    have e : s = headM r ++ s.drop (headM r).length := by
      conv => lhs; rw [← List.take_append_drop (headM r).length s]
      rw [c3]
    refine ⟨s.drop (headM r).length, e, by rw [List.length_drop]; omega, by rw [List.length_drop]; omega, ?_⟩
    rw [key, if_neg c1, if_neg c2, if_pos c3]
    have hv := val_loop hs (d := (0, 0, ())) (s.length - (headM r).length) (headM r).length 0 (Nat.le_refl _) (by omega) (by omega) (Nat.pow_pos (by omega))
    rw [show ((0 : Nat) : Int) = 0 from rfl] at hv
    rw [hv]
    cases hval : valM 0 (s.drop (headM r).length) with
    | none => rfl
    | some v =>
      simp only []
      rw [bind_join_inl, refRight_t]
      simp only [Option.bind_some]
      cases hrt : rightM ((r : Int), (v : Int), ()) with
      | false => rfl
      | true =>
        have hin := right_in hrt
        simp only at hin
        rw [refText_t ⟨by simp only []; omega, by simp only []; omega⟩ ⟨by simp only []; omega, by simp only []; omega⟩]
        simp
  · left
    refine ⟨?_, by rw [key, if_neg c1, if_neg c2, if_neg c3]⟩
    rintro ⟨t, e, _, _⟩
    exact c3 (by rw [e, List.take_left']; rfl)
theorem ref_any {s : List UInt8} (hs : s.length < 1000000) : ∀ (k r : Nat), 16 - r ≤ k → r ≤ 16 → ∃ x ok, loopT (ref04_Parse_l2 s) ((r : Int), (0, 0, ()), ()) = some (x, ok, ()) ∧ (ok = true → rightM x = true ∧ textM x = s) := by
  intro k
  have fin : ∀ r : Nat, ¬ r < 16 → ∃ x ok, loopT (ref04_Parse_l2 s) ((r : Int), (0, 0, ()), ()) = some (x, ok, ()) ∧ (ok = true → rightM x = true ∧ textM x = s) := by
    intro r hr
    refine ⟨(0, 0, ()), false, loopT_inr ?_, fun h => by cases h⟩
    unfold ref04_Parse_l2
    rw [cond_dec, if_neg (by simp only []; omega)]
  induction k with
  | zero => intro r hk hr; exact fin r (by omega)
  | succ k ih =>
    intro r hk hr
    by_cases hlt : r < 16
    · rcases turn_t hs hlt with ⟨_, h⟩ | ⟨t, _, _, _, h⟩
      · rw [loopT_inl h]
        exact ih (r + 1) (by omega) (by omega)
      · cases hv : valM 0 t with
        | none =>
          rw [hv] at h
          exact ⟨_, _, loopT_inr h, fun h => by cases h⟩
        | some v =>
          rw [hv] at h
          refine ⟨_, _, loopT_inr h, fun h => ?_⟩
          rw [Bool.and_eq_true] at h
          exact ⟨h.1, of_decide_eq_true h.2⟩
    · exact fin r hlt
theorem head_inj {r r' : Nat} {t t' : List UInt8} (h : Lib.decDigits r ++ 46 :: t = Lib.decDigits r' ++ 46 :: t') : r = r' ∧ t = t' := by
  have h1 := first_app (c := 46) (Lib.decDigits r) t 0 dec_ne
  have h2 := first_app (c := 46) (Lib.decDigits r') t' 0 dec_ne
  rw [h, h2] at h1
  have hl : (Lib.decDigits r).length = (Lib.decDigits r').length := by omega
  obtain ⟨e1, e2⟩ := List.append_inj h hl
  have v1 := val_dec r
  rw [e1, val_dec r'] at v1
  exact ⟨(Option.some.inj v1).symm, (List.cons.inj e2).2⟩
theorem ref_of {s : List UInt8} (hs : s.length < 1000000) {d : Int × Int × Unit} (hr : rightM d = true) (ht : textM d = s) : ref04_Parse s = some (d, true, ()) := by
  obtain ⟨r0, n0, e, h1, h2, h3, h4⟩ := right_text hr
  have l2 := dec_len1 6 n0 (by simp only [Nat.reducePow, Nat.reduceAdd]; omega)
  have p2 := dec_pos n0
  have hst := h4.symm.trans ht
  have main : ∀ (k r : Nat), r0 - r ≤ k → r ≤ r0 → loopT (ref04_Parse_l2 s) ((r : Int), (0, 0, ()), ()) = some (d, true, ()) := by
    intro k
    have at0 : loopT (ref04_Parse_l2 s) ((r0 : Int), (0, 0, ()), ()) = some (d, true, ()) := by
      rcases turn_t hs (r := r0) (by omega) with ⟨h, _⟩ | ⟨t, e1, _, _, h⟩
      · exact absurd ⟨Lib.decDigits n0, by rw [← hst]; unfold headM; simp, by omega, by omega⟩ h
      · have : t = Lib.decDigits n0 := by
          have e2 : Lib.decDigits r0 ++ 46 :: t = Lib.decDigits r0 ++ 46 :: Lib.decDigits n0 := by rw [hst, e1]; unfold headM; simp
          exact (head_inj e2).2
        subst this
        rw [val_dec n0] at h
        simp only [] at h
        rw [← e, hr, ht] at h
        simp only [decide_true, Bool.and_self] at h
        exact loopT_inr h
    induction k with
    | zero =>
      intro r hk hle
      have : r = r0 := by omega
      subst this; exact at0
    | succ k ih =>
      intro r hk hle
      by_cases hrr : r = r0
      · subst hrr; exact at0
      · rcases turn_t hs (r := r) (by omega) with ⟨_, h⟩ | ⟨t, e1, _, _, h⟩
        · rw [loopT_inl h]; exact ih (r + 1) (by omega) (by omega)
        · exfalso
          have e2 : Lib.decDigits r ++ 46 :: t = Lib.decDigits r0 ++ 46 :: Lib.decDigits n0 := by rw [hst, e1]; unfold headM; simp
          exact hrr (head_inj e2).1
  exact main r0 0 (by omega) (by omega)
theorem dotParses_t (s : List UInt8) : law04_DotParses s = some true := by
  have main : ∀ t : List UInt8, t.length < 1000000 → ((dot_Parse t).bind fun r3 => (ref04_Parse t).bind fun r4 =>
      cond (!r4.2.1) (cond (decide (r3.2.1 = 19)) (cond (eqV (.agg (.cons (.int .i64) (.cons (.int .i64) .unit))) r3.1 (0, 0, ())) ((law04_awake).bind fun r5 => some r5) (some false)) (some false)) (
      cond (decide (r3.2.1 = 0)) (cond (eqV (.agg (.cons (.int .i64) (.cons (.int .i64) .unit))) r3.1 r4.1) ((law04_awake).bind fun r6 => some r6) (some false)) (some false))) = some true := by
    intro t ht
    have hself : ∀ d : Int × Int × Unit, eqV (.agg (.cons (.int .i64) (.cons (.int .i64) .unit))) d d = true := by
      intro d; simp only [eqV, decide_true, Bool.and_self]
    obtain ⟨x, ok, h1, h2⟩ := ref_any ht 16 0 (by omega) (by omega)
    have hrp : ref04_Parse t = some (x, ok, ()) := h1
    cases ok with
    | true =>
      obtain ⟨g1, g2⟩ := h2 rfl
      rw [parse_of g1 g2, hrp]
      simp only [Option.bind_some, Bool.not_true, cond_false, decide_true, cond_true, hself, awake_t]
    | false =>
      rcases parse_any t ht with h | ⟨d, g1, g2, _⟩
      · rw [h, hrp]
        simp only [Option.bind_some, Bool.not_false, cond_true, decide_true, awake_t]
        have := hself (0, 0, ())
        rw [this]; rfl
      · rw [ref_of ht g1 g2] at hrp
        cases hrp
  unfold law04_DotParses
  simp only [cond_dec]
  by_cases h : (s.length : Int) > 60
  · have hsub : subI s 0 60 = some (s.take 60) := by
      have := subI_nat (l := s) (i := 0) (j := 60) (by omega) (by omega)
      simpa using this
    rw [if_pos h, hsub]
    simp only [Option.bind_some]
    have := main (s.take 60) (by rw [List.length_take]; omega)
    simp only [cond_dec] at this
    exact this
  · rw [if_neg h, bind_join_inl]
    have := main s (by omega)
    simpa only [cond_dec] using this
theorem dotParses_law : ∀ v : law04_DotParses_T.ps.V, okV law04_DotParses_T.ps v → law04_DotParses_T.fn v = some true := fun v _ => dotParses_t v.1
end Go.Proofs.YtekmegajjfapaaaDoor.Q

set_option linter.unusedVariables false
set_option linter.unusedSimpArgs false
set_option maxRecDepth 100000
namespace Go.Proofs.YtekmegajjfapaaaDoor.Q
open Go.EM Go.TY Go.Proofs Go.Proofs.YtekmegajjfapaaaDoor.Y Go.Proofs.YtekmegajjfapaaaDoor.K Go.Proofs.YtekmegajjfapaaaDoor.L
/-! ### numbers, read -/
theorem ofInt64 {m : Nat} (hm : m < 18446744073709551616) : (BitVec.ofInt (IntKind.bits .i64) (m : Int)).toNat = m := by
  rw [show IntKind.bits .i64 = 64 from rfl, BitVec.toNat_ofInt]
  omega
theorem and127 {c : Nat} (hc : c < 256) : IntKind.wrap .i64 ((BitVec.ofInt (IntKind.bits .i64) (c : Int) &&& BitVec.ofInt (IntKind.bits .i64) 127).toNat : Nat) = ((c % 128 : Nat) : Int) := by
  have e127 : (BitVec.ofInt (IntKind.bits .i64) 127).toNat = 127 := by decide
  have a1 : (BitVec.ofInt (IntKind.bits .i64) (c : Int) &&& BitVec.ofInt (IntKind.bits .i64) 127).toNat = c % 128 := by
    rw [BitVec.toNat_and, ofInt64 (by omega), e127]
    exact Nat.and_two_pow_sub_one_eq_mod c 7
  rw [a1, wrap64 (by omega) (by omega)]
theorem pow7 (i : Nat) : 2 ^ (7 * i) = 128 ^ i := by rw [Nat.pow_mul]
theorem shl_t {x i : Nat} (hx : x < 128) (hi : i < 8) : shlT .i64 (x : Int) (7 * (i : Int)) = some ((x * 128 ^ i : Nat) : Int) := by
  unfold shlT
  rw [if_neg (by omega)]
  have e1 : min (7 * (i : Int)).toNat (IntKind.bits .i64) = 7 * i := by
    have : IntKind.bits .i64 = 64 := rfl
    rw [this]; omega
  have hp : 128 ^ i ≤ 128 ^ 7 := Nat.pow_le_pow_right (by omega) (by omega)
  have hm : x * 128 ^ i ≤ 127 * 128 ^ 7 := Nat.mul_le_mul (by omega) hp
  simp only [Nat.reducePow, Nat.reduceMul] at hm
  rw [e1]
  have e2 : (x : Int) * 2 ^ (7 * i) = ((x * 128 ^ i : Nat) : Int) := by
    rw [← pow7]; push_cast; rfl
  rw [e2, wrap64 (by omega) (by omega)]
theorem or_add {a x i : Nat} (ha : a < 128 ^ i) (hx : x < 128) (hi : i < 8) : IntKind.wrap .i64 ((BitVec.ofInt (IntKind.bits .i64) (a : Int) ||| BitVec.ofInt (IntKind.bits .i64) ((x * 128 ^ i : Nat) : Int)).toNat : Nat) = ((a + x * 128 ^ i : Nat) : Int) := by
  have hp : 128 ^ i ≤ 128 ^ 7 := Nat.pow_le_pow_right (by omega) (by omega)
  have hm : x * 128 ^ i ≤ 127 * 128 ^ 7 := Nat.mul_le_mul (by omega) hp
  simp only [Nat.reducePow, Nat.reduceMul] at hm hp
  have e : (BitVec.ofInt (IntKind.bits .i64) (a : Int) ||| BitVec.ofInt (IntKind.bits .i64) ((x * 128 ^ i : Nat) : Int)).toNat = a + x * 128 ^ i := by
    rw [BitVec.toNat_or, ofInt64 (by omega), ofInt64 (by omega), Nat.or_comm]
    have := Nat.two_pow_add_eq_or_of_lt (i := 7 * i) (b := a) (by rw [pow7]; exact ha) x
    rw [pow7] at this
    rw [Nat.mul_comm x, ← this]; omega
  rw [e, wrap64 (by omega) (by omega)]
theorem fine_t (s : List UInt8) : pack_Reader_fine (s, 0, ()) = some (true, (s, 0, ()), ()) := rfl
theorem read_loop {s t : List UInt8} (hs : s.length < 1000000) : ∀ (k i m acc : Nat), m < 128 ^ k → i + k ≤ 7 → s.drop i = intM m ++ t → acc < 128 ^ i → (0 < i → 0 < m) →
    loopT pack_Reader_Int_l3 ((acc : Int), (i : Int), (s, 0, ()), ()) = some (((acc + m * 128 ^ i : Nat) : Int), (t, 0, ()), ()) := by
  intro k
  induction k with
  | zero =>
    intro i m acc hm hi hd ha hp
    have hm0 : m = 0 := by simpa using hm
    have hi0 : i = 0 := by
      rcases Nat.eq_zero_or_pos i with h | h
      · exact h
      · have := hp h; omega
    subst hm0; subst hi0
    have ha0 : acc = 0 := by simpa using ha
    subst ha0
    rw [intM_small (by omega)] at hd
    simp only [List.drop_zero] at hd
    have hlen : s.length = 1 + t.length := by rw [hd, List.length_append]; rfl
    have h0 : atI s ((0 : Nat) : Int) = some (UInt8.ofNat 0) := by rw [atI_nat, hd]; rfl
    refine loopT_inr ?_
    unfold pack_Reader_Int_l3
    simp only [fine_t, Option.bind_some, cond_true, cond_dec]
    rw [if_neg (by omega), if_neg (by omega), h0]
    simp only [Option.bind_some]
    have hb : ((UInt8.ofNat 0).toNat : Int) = ((0 : Nat) : Int) := rfl
    rw [hb, wrap64 (n := ((0 : Nat) : Int)) (by omega) (by omega), and127 (by omega)]
    rw [wrap64 (n := 7 * ((0 : Nat) : Int)) (by omega) (by omega), shl_t (by omega) (by omega)]
    simp only [Option.bind_some]
    rw [if_neg (by omega), if_pos (show ((0 : Nat) : Int) = 0 by omega), if_neg (show ¬ ((0 : Nat) : Int) > 0 by omega), bind_join_inl]
    simp only []
    rw [or_add (by simp) (by omega) (by omega), wrap64 (n := ((0 : Nat) : Int) + 1) (by omega) (by omega), show ((0 : Nat) : Int) + 1 = ((1 : Nat) : Int) from rfl, subI_from (by omega)]
    simp only [Option.bind_some]
    rw [hd]; rfl
  | succ k ih =>
    intro i m acc hm hi hd ha hp
    have hpow : 128 ^ (i + 1) = 128 ^ i * 128 := Nat.pow_succ ..
    by_cases hsm : m < 128
    · rw [intM_small hsm] at hd
      have hlen : s.length - i = 1 + t.length := by have := congrArg List.length hd; rw [List.length_drop, List.length_append] at this; simpa using this
      have h0 : atI s (i : Int) = some (UInt8.ofNat m) := by
        rw [atI_nat]
        have := congrArg (fun l => l[0]?) hd
        simpa [List.getElem?_drop] using this
      have hb : ((UInt8.ofNat m).toNat : Int) = (m : Int) := by rw [UInt8.toNat_ofNat_of_lt' (by show _ < 256; omega)]
      have ht : s.drop (i + 1) = t := by
        rw [← List.drop_drop, hd]; rfl
      refine loopT_inr ?_
      unfold pack_Reader_Int_l3
      simp only [fine_t, Option.bind_some, cond_true, cond_dec]
      rw [if_neg (by omega), if_neg (by omega), h0]
      simp only [Option.bind_some]
      rw [hb, wrap64 (n := (m : Int)) (by omega) (by omega), and127 (by omega), show m % 128 = m by omega]
      rw [wrap64 (n := 7 * (i : Int)) (by omega) (by omega), shl_t hsm (by omega)]
      simp only [Option.bind_some]
      rw [if_neg (by omega)]
      have hrest : (((some (.inl ((s, 0, ()), ()))) : Option (((List UInt8 × Int × Unit) × Unit) ⊕ ((Int × Int × (List UInt8 × Int × Unit) × Unit) ⊕ (Int × (List UInt8 × Int × Unit) × Unit)))).bind (joinS fun v7 =>
          (subI v7.1.1 (IntKind.wrap .i64 ((i : Int) + 1)) (v7.1.1.length : Int)).bind fun s8 =>
          some (.inr ((IntKind.wrap .i64 ((BitVec.ofInt (IntKind.bits .i64) (acc : Int) ||| BitVec.ofInt (IntKind.bits .i64) ((m * 128 ^ i : Nat) : Int)).toNat : Nat)), (s8, v7.1.2.1, ()), ())))) = (some (.inr (((acc + m * 128 ^ i : Nat) : Int), (t, 0, ()), ())) : Option ((Int × Int × (List UInt8 × Int × Unit) × Unit) ⊕ (Int × (List UInt8 × Int × Unit) × Unit))) := by
        rw [bind_join_inl]
        simp only []
        rw [or_add ha hsm (by omega), wrap64 (n := (i : Int) + 1) (by omega) (by omega), show (i : Int) + 1 = ((i + 1 : Nat) : Int) by omega, subI_from (by omega), ht]
        rfl
      by_cases hz : (m : Int) = 0
      · rw [if_pos hz, if_neg (by omega)]
        exact hrest
      · rw [if_neg hz]
        exact hrest
    · rw [intM_big hsm] at hd
      have hlen : s.length - i = 1 + (intM (m / 128)).length + t.length := by
        have := congrArg List.length hd
        rw [List.length_drop, List.cons_append, List.length_cons, List.length_append] at this; omega
      have h0 : atI s (i : Int) = some (UInt8.ofNat (m % 128 + 128)) := by
        rw [atI_nat]
        have := congrArg (fun l => l[0]?) hd
        simpa [List.getElem?_drop] using this
      have hb : ((UInt8.ofNat (m % 128 + 128)).toNat : Int) = ((m % 128 + 128 : Nat) : Int) := by rw [UInt8.toNat_ofNat_of_lt' (by show _ < 256; omega)]
      have ht : s.drop (i + 1) = intM (m / 128) ++ t := by
        rw [← List.drop_drop, hd]; rfl
      have hacc : acc + (m % 128) * 128 ^ i < 128 ^ (i + 1) := by
        have h1 : (m % 128) * 128 ^ i ≤ 127 * 128 ^ i := Nat.mul_le_mul_right _ (by omega)
        omega
      rw [loopT_inl (b := (((acc + (m % 128) * 128 ^ i : Nat) : Int), ((i + 1 : Nat) : Int), (s, 0, ()), ()))]
      · rw [ih (i + 1) (m / 128) _ (div_pow (by omega) hm) (by omega) ht hacc (fun _ => by omega)]
        have : acc + m % 128 * 128 ^ i + m / 128 * 128 ^ (i + 1) = acc + m * 128 ^ i := by
          have h1 := Nat.div_add_mod m 128
          rw [hpow]
          have h2 : m * 128 ^ i = (128 * (m / 128) + m % 128) * 128 ^ i := by rw [h1]
          rw [h2, Nat.add_mul]
          have h3 : m / 128 * (128 ^ i * 128) = 128 * (m / 128) * 128 ^ i := by
            rw [Nat.mul_comm (128 ^ i) 128, ← Nat.mul_assoc, Nat.mul_comm (m / 128) 128]
          omega
        rw [this]
      · unfold pack_Reader_Int_l3
        simp only [fine_t, Option.bind_some, cond_true, cond_dec]
        rw [if_neg (by omega), if_neg (by omega), h0]
        simp only [Option.bind_some]
        rw [hb, wrap64 (n := ((m % 128 + 128 : Nat) : Int)) (by omega) (by omega), and127 (by omega), show (m % 128 + 128) % 128 = m % 128 by omega]
        rw [wrap64 (n := 7 * (i : Int)) (by omega) (by omega), shl_t (by omega) (by omega)]
        simp only [Option.bind_some]
        rw [if_pos (by omega), bind_join_inr, or_add ha (by omega) (by omega), wrap64 (n := (i : Int) + 1) (by omega) (by omega)]
        rfl
theorem readInt_t {m : Nat} {t : List UInt8} (hm : m < 128 ^ 7) (ht : t.length < 100000) : pack_Reader_Int (intM m ++ t, 0, ()) = some ((m : Int), (t, 0, ()), ()) := by
  have hl := intM_len 7 m hm
  have := read_loop (s := intM m ++ t) (t := t) (by rw [List.length_append]; omega) 7 0 m 0 hm (by omega) rfl (by simp) (fun h => by omega)
  simpa [pack_Reader_Int] using this
theorem dotRead_t {d : Int × Int × Unit} (h : rightM d = true) : dot_Read (codeM d, 0, ()) = some (d, ([], 0, ()), ()) := by
  obtain ⟨r, n, e, h1, h2, h3, _⟩ := right_text h
  subst e
  have l2 := intM_len 7 n (by simp only [Nat.reducePow]; omega)
  have hc : codeM ((r : Int), (n : Int), ()) = intM r ++ (intM n ++ []) := by unfold codeM; simp
  unfold dot_Read
  rw [hc, readInt_t (by simp only [Nat.reducePow]; omega) (by rw [List.append_nil]; omega)]
  simp only [Option.bind_some]
  rw [readInt_t (by simp only [Nat.reducePow]; omega) (by simp)]
  simp only [Option.bind_some, pack_Reader_Fault, decide_true, cond_true, dotRight_t, h, Bool.not_true, cond_false, bind_join_inl]
  rfl
theorem end_t : pack_Reader_End (([] : List UInt8), (0 : Int), ()) = some (0, ([], 0, ()), ()) := by
  unfold pack_Reader_End pack_Reader_Left
  rw [fine_t]
  simp only [Option.bind_some, Bool.not_true, cond_false, List.length_nil, cond_dec]
  rw [if_neg (by decide)]
  rfl
theorem dotBack_t (d : Int × Int × Unit) : law04_DotBack d = some true := by
  unfold law04_DotBack
  rw [dotRight_t]
  simp only [Option.bind_some, awake_t]
  cases hr : rightM d with
  | false => rfl
  | true =>
    have hin := right_in hr
    have hself : eqV (.agg (.cons (.int .i64) (.cons (.int .i64) .unit))) d d = true := by simp only [eqV, decide_true, Bool.and_self]
    rw [dotText_t ⟨by omega, by omega⟩ ⟨by omega, by omega⟩, dotCode_t ⟨by omega, by omega⟩ ⟨by omega, by omega⟩]
    simp only [Option.bind_some, Bool.not_true, cond_false]
    rw [parse_of hr rfl]
    simp only [Option.bind_some, pack_Open]
    rw [dotRead_t hr]
    simp only [Option.bind_some, decide_true, cond_true, hself, end_t]
theorem dotBack_law : ∀ v : law04_DotBack_T.ps.V, okV law04_DotBack_T.ps v → law04_DotBack_T.fn v = some true := fun v _ => dotBack_t v.1
end Go.Proofs.YtekmegajjfapaaaDoor.Q
