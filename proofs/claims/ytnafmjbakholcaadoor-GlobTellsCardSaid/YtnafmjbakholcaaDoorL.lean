import Derived.Test.YtnafmjbakholcaaDoorProg
import Derived.Test.YtnafmjbakholcaaDoorT13
import GoSem.PinnedTables
import Derived.Test.YtnafmjbakholcaaDoorE18
set_option linter.unusedVariables false
set_option maxRecDepth 100000
namespace Go.Proofs.YtnafmjbakholcaaDoor.Y
open Go.EM Go.TY Go.Proofs
noncomputable def tabFirst : List Int := Go.Pinned.utf8FirstZ.map fun (n : Nat) => (n : Int)
def tabAccept : List (Int × Int × Unit) := [(128, 191, ()), (160, 191, ()), (128, 159, ()), (144, 191, ()), (128, 143, ()), (0, 0, ()), (0, 0, ()), (0, 0, ()), (0, 0, ()), (0, 0, ()), (0, 0, ()), (0, 0, ()), (0, 0, ()), (0, 0, ()), (0, 0, ()), (0, 0, ())]
noncomputable def G0 : List (Nat × AVal) := [(0, .rptr (tabFirst.map (AVal.int .u8))), (1, .rptr (tabAccept.flatMap fun p => [AVal.int .u8 p.1, AVal.int .u8 p.2.1]))]
noncomputable def G0T : List (Nat × TV) := [(0, ⟨.rp (.arr 256 (.int .u8)) 0, tabFirst⟩), (1, ⟨.rp (.arr 16 (.agg (.cons (.int .u8) (.cons (.int .u8) .unit)))) 0, tabAccept⟩)]
theorem G0_ok : GlobsOk G0 G0T := globs_cons rfl rfl (glob_ints (by kernel_rfl)) (globs_cons rfl rfl (glob_pairs (by kernel_rfl)) globs_nil)
theorem same_ok : ∀ f, memN f [28] = true → Same Tryd.prog f := by
  intro f h
  by_cases e28 : f = 28
  · subst e28; exact ⟨Tryd.f28, Tryd.func28, by kernel_rfl, by kernel_rfl, by kernel_rfl, by kernel_rfl⟩
  simp_all [memN]
-- unicode/utf8.word[string]
noncomputable def utf8_word_string_E : Env := { pure := [], raw := [], glob := G0, same := [28], look := [] }
def utf8_word_string_H : Hints := { seqs := [], loops := [], own := [] }
noncomputable def utf8_word_string_F : PFn := closeF (runF Tryd.prog utf8_word_string_E utf8_word_string_H Tryd.f25)
def utf8_word_string_Y : TH := { joins := [], loops := [], cuts := [], ro := [], news := [] }
noncomputable def utf8_word_string (a0 : List UInt8) : Option Int :=
(atI a0 0).bind fun b1 =>
(atI a0 1).bind fun b2 =>
(shlT .u64 (IntKind.wrap .u64 (b2.toNat : Int)) 8).bind fun t3 =>
(atI a0 2).bind fun b4 =>
(shlT .u64 (IntKind.wrap .u64 (b4.toNat : Int)) 16).bind fun t5 =>
(atI a0 3).bind fun b6 =>
(shlT .u64 (IntKind.wrap .u64 (b6.toNat : Int)) 24).bind fun t7 =>
(atI a0 4).bind fun b8 =>
(shlT .u64 (IntKind.wrap .u64 (b8.toNat : Int)) 32).bind fun t9 =>
(atI a0 5).bind fun b10 =>
(shlT .u64 (IntKind.wrap .u64 (b10.toNat : Int)) 40).bind fun t11 =>
(atI a0 6).bind fun b12 =>
(shlT .u64 (IntKind.wrap .u64 (b12.toNat : Int)) 48).bind fun t13 =>
(atI a0 7).bind fun b14 =>
(shlT .u64 (IntKind.wrap .u64 (b14.toNat : Int)) 56).bind fun t15 =>
 some (IntKind.wrap .u64 ((BitVec.ofInt (IntKind.bits .u64) (IntKind.wrap .u64 ((BitVec.ofInt (IntKind.bits .u64) (IntKind.wrap .u64 ((BitVec.ofInt (IntKind.bits .u64) (IntKind.wrap .u64 ((BitVec.ofInt (IntKind.bits .u64) (IntKind.wrap .u64 ((BitVec.ofInt (IntKind.bits .u64) (IntKind.wrap .u64 ((BitVec.ofInt (IntKind.bits .u64) (IntKind.wrap .u64 ((BitVec.ofInt (IntKind.bits .u64) (IntKind.wrap .u64 (b1.toNat : Int)) ||| BitVec.ofInt (IntKind.bits .u64) t3).toNat)) ||| BitVec.ofInt (IntKind.bits .u64) t5).toNat)) ||| BitVec.ofInt (IntKind.bits .u64) t7).toNat)) ||| BitVec.ofInt (IntKind.bits .u64) t9).toNat)) ||| BitVec.ofInt (IntKind.bits .u64) t11).toNat)) ||| BitVec.ofInt (IntKind.bits .u64) t13).toNat)) ||| BitVec.ofInt (IntKind.bits .u64) t15).toNat))
noncomputable def utf8_word_string_T : TFn := { ps := (.cons .str .unit), res := (.int .u64), fn := fun v => utf8_word_string v.1 }
noncomputable def utf8_word_string_V : TEnv := { pure := [], look := [], glob := G0T, ty := [], raw := [] }
theorem utf8_word_string_eq : runY Tryd.prog utf8_word_string_E utf8_word_string_H utf8_word_string_V utf8_word_string_Y Tryd.f25 utf8_word_string_T.ps utf8_word_string_T.res = utf8_word_string_T.fn := by kernel_rfl
theorem utf8_word_string_Fok : SoundP Tryd.prog G0 25 utf8_word_string_F := closeF_sound (runF_sound (P := Tryd.prog) (E := utf8_word_string_E) (h := utf8_word_string_H) (f := 25) (fn := Tryd.f25) ⟨same_ok, envP_nil, envS_nil, envP_nil⟩ Tryd.func25 rfl (by kernel_rfl))
theorem utf8_word_string_ok : TOk utf8_word_string_F utf8_word_string_T := runY_ok (E := utf8_word_string_E) (ET := utf8_word_string_V) (EnvT.ofR (E := utf8_word_string_E) (ET := utf8_word_string_V) pairs_nil looks_nil raws_nil G0_ok) utf8_word_string_eq rfl
-- unicode/utf8.ValidString
noncomputable def utf8_ValidString_E : Env := { pure := [(25, utf8_word_string_F)], raw := [], glob := G0, same := [28], look := [] }
def utf8_ValidString_H : Hints := { seqs := [], loops := [(1, [0]), (9, [0])], own := [] }
noncomputable def utf8_ValidString_F : PFn := closeF (runF Tryd.prog utf8_ValidString_E utf8_ValidString_H Tryd.f18)
def utf8_ValidString_Y : TH := { joins := [(11, { keep := [(0, .str), (3, (.int .u8))], mem := [] })], loops := [(1, { keep := [(0, .str)], mem := [] }), (9, { keep := [(0, .str)], mem := [] })], cuts := [(21, [(10, { keep := [(6, (.bx 0 0)), (108, .bool)], mem := [.box 56 (.agg (.cons (.int .u8) (.cons (.int .u8) .unit)))] })]), (25, [(10, { keep := [(6, (.bx 0 0)), (139, .bool)], mem := [.box 56 (.agg (.cons (.int .u8) (.cons (.int .u8) .unit)))] }), (7, { keep := [(146, .bool)], mem := [.gone] }), (5, { keep := [(151, .bool)], mem := [.gone] })])], ro := [], news := [] }
noncomputable def utf8_ValidString_l9 (y9 : (List UInt8 × Unit)) : Option ((List UInt8 × Unit) ⊕ ((List UInt8 × Int × Unit) ⊕ ((List UInt8 × Unit) ⊕ Bool))) :=
 cond (decide ((y9.1.length : Int) > 32)) ((utf8_word_string y9.1).bind fun r9 =>
(subI y9.1 8 (y9.1.length : Int)).bind fun s10 =>
(utf8_word_string s10).bind fun r11 =>
(subI y9.1 16 (y9.1.length : Int)).bind fun s12 =>
(utf8_word_string s12).bind fun r13 =>
(subI y9.1 24 (y9.1.length : Int)).bind fun s14 =>
(utf8_word_string s14).bind fun r15 =>
 cond (decide ((IntKind.wrap .u64 ((BitVec.ofInt (IntKind.bits .u64) (IntKind.wrap .u64 ((BitVec.ofInt (IntKind.bits .u64) (IntKind.wrap .u64 ((BitVec.ofInt (IntKind.bits .u64) r9 ||| BitVec.ofInt (IntKind.bits .u64) r11).toNat)) ||| BitVec.ofInt (IntKind.bits .u64) (IntKind.wrap .u64 ((BitVec.ofInt (IntKind.bits .u64) r13 ||| BitVec.ofInt (IntKind.bits .u64) r15).toNat))).toNat)) &&& BitVec.ofInt (IntKind.bits .u64) 9259542123273814144).toNat)) = 0)) (
(subI y9.1 32 (y9.1.length : Int)).bind fun s16 =>
 some (.inl (s16, ()))) (
 some (.inr (.inr (.inl (y9.1, ())))))) (some (.inr (.inr (.inl (y9.1, ())))))
noncomputable def utf8_ValidString_l1 (y1 : (List UInt8 × Unit)) : Option ((List UInt8 × Unit) ⊕ Bool) :=
 cond (decide ((y1.1.length : Int) > 0)) (
(atI y1.1 0).bind fun b1 =>
(cond (decide ((b1.toNat : Int) < 128)) (
(subI y1.1 1 (y1.1.length : Int)).bind fun s2 =>
 cond (decide ((s2.length : Int) > 8)) ((utf8_word_string s2).bind fun r3 =>
 cond (decide ((IntKind.wrap .u64 ((BitVec.ofInt (IntKind.bits .u64) r3 &&& BitVec.ofInt (IntKind.bits .u64) 9259542123273814144).toNat)) = 0)) (
(subI s2 8 (s2.length : Int)).bind fun s4 =>
 cond (decide ((s4.length : Int) > 16)) ((utf8_word_string s4).bind fun r5 =>
(subI s4 8 (s4.length : Int)).bind fun s6 =>
(utf8_word_string s6).bind fun r7 =>
 cond (decide ((IntKind.wrap .u64 ((BitVec.ofInt (IntKind.bits .u64) (IntKind.wrap .u64 ((BitVec.ofInt (IntKind.bits .u64) r5 ||| BitVec.ofInt (IntKind.bits .u64) r7).toNat)) &&& BitVec.ofInt (IntKind.bits .u64) 9259542123273814144).toNat)) = 0)) (
(subI s4 16 (s4.length : Int)).bind fun s8 =>
 loopT (utf8_ValidString_l9) (s8, ())) (
 some (.inr (.inl (s4, ()))))) (some (.inr (.inl (s4, ()))))) (
 some (.inr (.inl (s2, ()))))) (some (.inr (.inl (s2, ()))))) (
 some (.inl (y1.1, (b1.toNat : Int), ()))) : Option ((List UInt8 × Int × Unit) ⊕ ((List UInt8 × Unit) ⊕ Bool))).bind (joinS fun v17 =>
(atI tabFirst v17.2.1).bind fun x18 =>
(shrT .u8 x18 4).bind fun t19 =>
(atI tabAccept t19).bind fun x20 =>
 cond (decide ((IntKind.wrap .i64 (IntKind.wrap .u8 ((BitVec.ofInt (IntKind.bits .u8) x18 &&& BitVec.ofInt (IntKind.bits .u8) 7).toNat))) = 2)) (
 cond (decide ((v17.1.length : Int) < 2)) (some (.inr false)) ((atI v17.1 1).bind fun b21 =>
 cond (decide ((b21.toNat : Int) < x20.1)) (some (.inr false)) ((atI v17.1 1).bind fun b22 =>
 cond (decide (x20.2.1 < (b22.toNat : Int))) (
 some (.inr false)) (
(subI v17.1 2 (v17.1.length : Int)).bind fun s23 =>
 some (.inl (s23, ())))))) (
 cond (decide ((IntKind.wrap .i64 (IntKind.wrap .u8 ((BitVec.ofInt (IntKind.bits .u8) x18 &&& BitVec.ofInt (IntKind.bits .u8) 7).toNat))) = 3)) (
(cond (decide ((v17.1.length : Int) < 3)) (some (true, x20, ())) ((atI v17.1 1).bind fun b24 =>
 some ((decide ((b24.toNat : Int) < x20.1)), x20, ()))).bind fun v25 =>
 cond v25.1 (some (.inr false)) ((atI v17.1 1).bind fun b26 =>
 cond (decide (v25.2.1.2.1 < (b26.toNat : Int))) (some (.inr false)) ((atI v17.1 2).bind fun b27 =>
 cond (decide ((b27.toNat : Int) < 128)) (some (.inr false)) ((atI v17.1 2).bind fun b28 =>
 cond (decide (191 < (b28.toNat : Int))) (
 some (.inr false)) (
(subI v17.1 3 (v17.1.length : Int)).bind fun s29 =>
 some (.inl (s29, ()))))))) (
 cond (decide ((IntKind.wrap .i64 (IntKind.wrap .u8 ((BitVec.ofInt (IntKind.bits .u8) x18 &&& BitVec.ofInt (IntKind.bits .u8) 7).toNat))) = 4)) (
(cond (decide ((v17.1.length : Int) < 4)) (some (true, x20, ())) ((atI v17.1 1).bind fun b30 =>
 some ((decide ((b30.toNat : Int) < x20.1)), x20, ()))).bind fun v31 =>
(cond v31.1 (some (true, ())) ((atI v17.1 1).bind fun b32 =>
 some ((decide (v31.2.1.2.1 < (b32.toNat : Int))), ()))).bind fun v33 =>
(cond v33.1 (some (true, ())) ((atI v17.1 2).bind fun b34 =>
 some ((decide ((b34.toNat : Int) < 128)), ()))).bind fun v35 =>
 cond v35.1 (some (.inr false)) ((atI v17.1 2).bind fun b36 =>
 cond (decide (191 < (b36.toNat : Int))) (some (.inr false)) ((atI v17.1 3).bind fun b37 =>
 cond (decide ((b37.toNat : Int) < 128)) (some (.inr false)) ((atI v17.1 3).bind fun b38 =>
 cond (decide (191 < (b38.toNat : Int))) (
 some (.inr false)) (
(subI v17.1 4 (v17.1.length : Int)).bind fun s39 =>
 some (.inl (s39, ()))))))) (
 some (.inr false)))))) (
 some (.inr true))
noncomputable def utf8_ValidString (a0 : List UInt8) : Option Bool :=
 loopT (utf8_ValidString_l1) (a0, ())
noncomputable def utf8_ValidString_T : TFn := { ps := (.cons .str .unit), res := .bool, fn := fun v => utf8_ValidString v.1 }
noncomputable def utf8_ValidString_V : TEnv := { pure := [(25, utf8_word_string_T)], look := [], glob := G0T, ty := [], raw := [] }
theorem utf8_ValidString_eq : runY Tryd.prog utf8_ValidString_E utf8_ValidString_H utf8_ValidString_V utf8_ValidString_Y Tryd.f18 utf8_ValidString_T.ps utf8_ValidString_T.res = utf8_ValidString_T.fn := by kernel_rfl
theorem utf8_ValidString_Fok : SoundP Tryd.prog G0 18 utf8_ValidString_F := closeF_sound (runF_sound (P := Tryd.prog) (E := utf8_ValidString_E) (h := utf8_ValidString_H) (f := 18) (fn := Tryd.f18) ⟨same_ok, (envP_cons utf8_word_string_Fok envP_nil), envS_nil, envP_nil⟩ Tryd.func18 rfl (by kernel_rfl))
theorem utf8_ValidString_ok : TOk utf8_ValidString_F utf8_ValidString_T := runY_ok (E := utf8_ValidString_E) (ET := utf8_ValidString_V) (EnvT.ofR (E := utf8_ValidString_E) (ET := utf8_ValidString_V) (pairs_cons utf8_word_string_ok pairs_nil) looks_nil raws_nil G0_ok) utf8_ValidString_eq rfl
-- unicode/utf8.RuneCountInString
noncomputable def utf8_RuneCountInString_E : Env := { pure := [], raw := [], glob := G0, same := [28], look := [] }
def utf8_RuneCountInString_H : Hints := { seqs := [], loops := [(2, [2, 4])], own := [] }
noncomputable def utf8_RuneCountInString_F : PFn := closeF (runF Tryd.prog utf8_RuneCountInString_E utf8_RuneCountInString_H Tryd.f24)
def utf8_RuneCountInString_Y : TH := { joins := [], loops := [(2, { keep := [(2, (.int .i64)), (4, (.it 0))], mem := [.iter] })], cuts := [], ro := [], news := [] }
noncomputable def utf8_RuneCountInString_l2 (a0 : List UInt8) (y2 : (Int × Nat × Unit)) : Option ((Int × Nat × Unit) ⊕ Int) :=
 cond (decide (y2.2.1 < a0.length)) (some (.inl ((IntKind.wrap .i64 (y2.1 + 1)), (y2.2.1 + (Utf8.decode ⟨a0.toArray⟩ y2.2.1).2), ()))) (some (.inr y2.1))
noncomputable def utf8_RuneCountInString (a0 : List UInt8) : Option Int :=
 loopT (utf8_RuneCountInString_l2 a0) (0, 0, ())
noncomputable def utf8_RuneCountInString_T : TFn := { ps := (.cons .str .unit), res := (.int .i64), fn := fun v => utf8_RuneCountInString v.1 }
noncomputable def utf8_RuneCountInString_V : TEnv := { pure := [], look := [], glob := G0T, ty := [], raw := [] }
theorem utf8_RuneCountInString_eq : runY Tryd.prog utf8_RuneCountInString_E utf8_RuneCountInString_H utf8_RuneCountInString_V utf8_RuneCountInString_Y Tryd.f24 utf8_RuneCountInString_T.ps utf8_RuneCountInString_T.res = utf8_RuneCountInString_T.fn := by kernel_rfl
theorem utf8_RuneCountInString_Fok : SoundP Tryd.prog G0 24 utf8_RuneCountInString_F := closeF_sound (runF_sound (P := Tryd.prog) (E := utf8_RuneCountInString_E) (h := utf8_RuneCountInString_H) (f := 24) (fn := Tryd.f24) ⟨same_ok, envP_nil, envS_nil, envP_nil⟩ Tryd.func24 rfl (by kernel_rfl))
theorem utf8_RuneCountInString_ok : TOk utf8_RuneCountInString_F utf8_RuneCountInString_T := runY_ok (E := utf8_RuneCountInString_E) (ET := utf8_RuneCountInString_V) (EnvT.ofR (E := utf8_RuneCountInString_E) (ET := utf8_RuneCountInString_V) pairs_nil looks_nil raws_nil G0_ok) utf8_RuneCountInString_eq rfl
-- palinode/glob.special
noncomputable def glob_special_E : Env := { pure := [], raw := [], glob := G0, same := [28], look := [] }
def glob_special_H : Hints := { seqs := [], loops := [], own := [] }
noncomputable def glob_special_F : PFn := closeF (runF Tryd.prog glob_special_E glob_special_H Tryd.f20)
def glob_special_Y : TH := { joins := [], loops := [], cuts := [], ro := [], news := [] }
noncomputable def glob_special (a0 : Int) : Option Bool :=
 cond (decide (a0 = 42)) (some true) (cond (decide (a0 = 63)) (some true) (some (decide (a0 = 92))))
noncomputable def glob_special_T : TFn := { ps := (.cons (.int .i32) .unit), res := .bool, fn := fun v => glob_special v.1 }
noncomputable def glob_special_V : TEnv := { pure := [], look := [], glob := G0T, ty := [], raw := [] }
theorem glob_special_eq : runY Tryd.prog glob_special_E glob_special_H glob_special_V glob_special_Y Tryd.f20 glob_special_T.ps glob_special_T.res = glob_special_T.fn := by kernel_rfl
theorem glob_special_Fok : SoundP Tryd.prog G0 20 glob_special_F := closeF_sound (runF_sound (P := Tryd.prog) (E := glob_special_E) (h := glob_special_H) (f := 20) (fn := Tryd.f20) ⟨same_ok, envP_nil, envS_nil, envP_nil⟩ Tryd.func20 rfl (by kernel_rfl))
theorem glob_special_ok : TOk glob_special_F glob_special_T := runY_ok (E := glob_special_E) (ET := glob_special_V) (EnvT.ofR (E := glob_special_E) (ET := glob_special_V) pairs_nil looks_nil raws_nil G0_ok) glob_special_eq rfl
-- palinode/glob.parts
noncomputable def glob_parts_E : Env := { pure := [(18, utf8_ValidString_F), (20, glob_special_F), (24, utf8_RuneCountInString_F)], raw := [], glob := G0, same := [28], look := [] }
def glob_parts_H : Hints := { seqs := [], loops := [(6, [4, 5, 17])], own := [] }
noncomputable def glob_parts_F : PFn := closeF (runF Tryd.prog glob_parts_E glob_parts_H Tryd.f17)
def glob_parts_Y : TH := { joins := [(18, { keep := [(4, (.own 1)), (5, .bool)], mem := [.gone, .row true 49 (.agg (.cons (.int .i64) (.cons (.int .i32) .unit)))] }), (10, { keep := [(4, (.own 1)), (17, (.it 0)), (25, .bool)], mem := [.iter, .row true 49 (.agg (.cons (.int .i64) (.cons (.int .i32) .unit)))] })], loops := [(6, { keep := [(4, (.own 1)), (5, .bool), (17, (.it 0))], mem := [.iter, .row true 49 (.agg (.cons (.int .i64) (.cons (.int .i32) .unit)))] })], cuts := [], ro := [], news := [] }
noncomputable def glob_parts_l6 (a0 : List UInt8) (y6 : (Bool × Nat × List (Int × Int × Unit) × Unit)) : Option ((Bool × Nat × List (Int × Int × Unit) × Unit) ⊕ ((Bool × List (Int × Int × Unit) × Unit) ⊕ (List (Int × Int × Unit) × Bool × Unit))) :=
 cond (decide (y6.2.1 < a0.length)) ((cond y6.1 ((glob_special ((Utf8.decode ⟨a0.toArray⟩ y6.2.1).1 : Int)).bind fun r3 =>
 some (.inl ((!r3), (y6.2.1 + (Utf8.decode ⟨a0.toArray⟩ y6.2.1).2), y6.2.2.1, ()))) (some (.inl (false, (y6.2.1 + (Utf8.decode ⟨a0.toArray⟩ y6.2.1).2), y6.2.2.1, ()))) : Option ((Bool × Nat × List (Int × Int × Unit) × Unit) ⊕ ((Bool × Nat × List (Int × Int × Unit) × Unit) ⊕ ((Bool × List (Int × Int × Unit) × Unit) ⊕ (List (Int × Int × Unit) × Bool × Unit))))).bind (joinS fun v4 =>
 cond v4.1 (
 some (.inr (.inr ([], false, ())))) (
 cond y6.1 ((roomT (v4.2.2.1.length + ([(0, ((Utf8.decode ⟨a0.toArray⟩ y6.2.1).1 : Int), ())] : List (Int × Int × Unit)).length)).bind fun u5 =>
 some (.inl (false, v4.2.1, (v4.2.2.1 ++ ([(0, ((Utf8.decode ⟨a0.toArray⟩ y6.2.1).1 : Int), ())] : List (Int × Int × Unit))), ()))) ((glob_special ((Utf8.decode ⟨a0.toArray⟩ y6.2.1).1 : Int)).bind fun r6 =>
 cond (!r6) (
(roomT (v4.2.2.1.length + ([(0, ((Utf8.decode ⟨a0.toArray⟩ y6.2.1).1 : Int), ())] : List (Int × Int × Unit)).length)).bind fun u7 =>
 some (.inl (false, v4.2.1, (v4.2.2.1 ++ ([(0, ((Utf8.decode ⟨a0.toArray⟩ y6.2.1).1 : Int), ())] : List (Int × Int × Unit))), ()))) (
 cond (decide (((Utf8.decode ⟨a0.toArray⟩ y6.2.1).1 : Int) = 92)) (
 some (.inl (true, v4.2.1, v4.2.2.1, ()))) (
 cond (decide (((Utf8.decode ⟨a0.toArray⟩ y6.2.1).1 : Int) = 63)) (
(roomT (v4.2.2.1.length + ([(1, 0, ())] : List (Int × Int × Unit)).length)).bind fun u8 =>
 some (.inl (y6.1, v4.2.1, (v4.2.2.1 ++ ([(1, 0, ())] : List (Int × Int × Unit))), ()))) (
(roomT (v4.2.2.1.length + ([(2, 0, ())] : List (Int × Int × Unit)).length)).bind fun u9 =>
 some (.inl (y6.1, v4.2.1, (v4.2.2.1 ++ ([(2, 0, ())] : List (Int × Int × Unit))), ()))))))))) (some (.inr (.inl (y6.1, y6.2.2.1, ()))))
noncomputable def glob_parts (a0 : List UInt8) : Option (List (Int × Int × Unit) × Bool × Unit) :=
(utf8_ValidString a0).bind fun r1 =>
 cond (!r1) (some ([], false, ())) ((utf8_RuneCountInString a0).bind fun r2 =>
 cond (decide (r2 > 64)) (
 some ([], false, ())) (
(loopT (glob_parts_l6 a0) (false, 0, [], ()) : Option ((Bool × List (Int × Int × Unit) × Unit) ⊕ (List (Int × Int × Unit) × Bool × Unit))).bind (joinS fun v10 =>
 cond v10.1 (
 some ([], false, ())) (
 some (v10.2.1, true, ())))))
noncomputable def glob_parts_T : TFn := { ps := (.cons .str .unit), res := (.tup (.cons (.sl (.agg (.cons (.int .i64) (.cons (.int .i32) .unit)))) (.cons .bool .unit))), fn := fun v => glob_parts v.1 }
noncomputable def glob_parts_V : TEnv := { pure := [(18, utf8_ValidString_T), (20, glob_special_T), (24, utf8_RuneCountInString_T)], look := [], glob := G0T, ty := [(49, (.agg (.cons (.int .i64) (.cons (.int .i32) .unit))))], raw := [] }
theorem glob_parts_eq : runY Tryd.prog glob_parts_E glob_parts_H glob_parts_V glob_parts_Y Tryd.f17 glob_parts_T.ps glob_parts_T.res = glob_parts_T.fn := by kernel_rfl
theorem glob_parts_Fok : SoundP Tryd.prog G0 17 glob_parts_F := closeF_sound (runF_sound (P := Tryd.prog) (E := glob_parts_E) (h := glob_parts_H) (f := 17) (fn := Tryd.f17) ⟨same_ok, (envP_cons utf8_ValidString_Fok (envP_cons glob_special_Fok (envP_cons utf8_RuneCountInString_Fok envP_nil))), envS_nil, envP_nil⟩ Tryd.func17 rfl (by kernel_rfl))
theorem glob_parts_ok : TOk glob_parts_F glob_parts_T := runY_ok (E := glob_parts_E) (ET := glob_parts_V) (EnvT.ofR (E := glob_parts_E) (ET := glob_parts_V) (pairs_cons utf8_ValidString_ok (pairs_cons glob_special_ok (pairs_cons utf8_RuneCountInString_ok pairs_nil))) looks_nil raws_nil G0_ok) glob_parts_eq rfl
-- palinode/glob.fits
noncomputable def glob_fits_E : Env := { pure := [], raw := [], glob := G0, same := [28], look := [] }
def glob_fits_H : Hints := { seqs := [], loops := [(3, [0, 1, 5, 6, 7, 8]), (14, [0, 5])], own := [] }
noncomputable def glob_fits_F : PFn := closeF (runF Tryd.prog glob_fits_E glob_fits_H Tryd.f19)
def glob_fits_Y : TH := { joins := [(14, { keep := [(5, (.int .i64))], mem := [] }), (12, { keep := [(6, (.int .i64)), (7, (.int .i64))], mem := [] }), (5, { keep := [(13, .bool)], mem := [] }), (16, { keep := [(5, (.int .i64))], mem := [] })], loops := [(3, { keep := [(5, (.int .i64)), (6, (.int .i64)), (7, (.int .i64)), (8, (.int .i64))], mem := [] }), (14, { keep := [(5, (.int .i64))], mem := [] })], cuts := [], ro := [], news := [] }
noncomputable def glob_fits_l3 (a0 : List (Int × Int × Unit)) (a1 : List Int) (y3 : (Int × Int × Int × Int × Unit)) : Option ((Int × Int × Int × Int × Unit) ⊕ ((Int × Unit) ⊕ Bool)) :=
 cond (decide (y3.2.2.2.1 < (a1.length : Int))) (
((cond (decide (y3.1 < (a0.length : Int))) ((atI a0 y3.1).bind fun x1 =>
 some (.inl ((decide (x1.1 = 2)), ()))) (some (.inl (false, ()))) : Option ((Bool × Unit) ⊕ ((Int × Int × Unit) ⊕ ((Int × Int × Int × Int × Unit) ⊕ ((Int × Unit) ⊕ Bool))))).bind (joinS fun v2 =>
 cond v2.1 (
 some (.inr (.inl ((IntKind.wrap .i64 (y3.1 + 1)), y3.1, y3.2.2.2.1, y3.2.2.2.1, ())))) (
 cond (decide (y3.1 < (a0.length : Int))) ((atI a0 y3.1).bind fun x3 =>
 cond (decide (x3.1 = 1)) (some (.inr (.inl ((IntKind.wrap .i64 (y3.1 + 1)), y3.2.1, y3.2.2.1, (IntKind.wrap .i64 (y3.2.2.2.1 + 1)), ())))) ((atI a0 y3.1).bind fun x4 =>
(atI a1 y3.2.2.2.1).bind fun x5 =>
 cond (decide (x4.2.1 = x5)) (
 some (.inr (.inl ((IntKind.wrap .i64 (y3.1 + 1)), y3.2.1, y3.2.2.1, (IntKind.wrap .i64 (y3.2.2.2.1 + 1)), ())))) (
 cond (decide (y3.2.1 < 0)) (
 some (.inr (.inr (.inr false)))) (
 some (.inl (y3.2.1, y3.2.2.1, ())))))) (cond (decide (y3.2.1 < 0)) (
 some (.inr (.inr (.inr false)))) (
 some (.inl (y3.2.1, y3.2.2.1, ())))))) : Option ((Int × Int × Unit) ⊕ ((Int × Int × Int × Int × Unit) ⊕ ((Int × Unit) ⊕ Bool)))).bind (joinS fun v6 =>
 some (.inl ((IntKind.wrap .i64 (v6.1 + 1)), v6.1, (IntKind.wrap .i64 (v6.2.1 + 1)), (IntKind.wrap .i64 (v6.2.1 + 1)), ())))) (
 some (.inr (.inl (y3.1, ()))))
noncomputable def glob_fits_l14 (a0 : List (Int × Int × Unit)) (y14 : (Int × Unit)) : Option ((Int × Unit) ⊕ ((Int × Unit) ⊕ Bool)) :=
 cond (decide (y14.1 < (a0.length : Int))) ((atI a0 y14.1).bind fun x8 =>
 cond (decide (x8.1 = 2)) (
 some (.inl ((IntKind.wrap .i64 (y14.1 + 1)), ()))) (
 some (.inr (.inl (y14.1, ()))))) (some (.inr (.inl (y14.1, ()))))
noncomputable def glob_fits (a0 : List (Int × Int × Unit)) (a1 : List Int) : Option Bool :=
(loopT (glob_fits_l3 a0 a1) (0, (-1), 0, 0, ()) : Option ((Int × Unit) ⊕ Bool)).bind (joinS fun v7 =>
(loopT (glob_fits_l14 a0) (v7.1, ()) : Option ((Int × Unit) ⊕ Bool)).bind (joinS fun v9 =>
 some (decide (v9.1 = (a0.length : Int)))))
noncomputable def glob_fits_T : TFn := { ps := (.cons (.sl (.agg (.cons (.int .i64) (.cons (.int .i32) .unit)))) (.cons (.sl (.int .i32)) .unit)), res := .bool, fn := fun v => glob_fits v.1 v.2.1 }
noncomputable def glob_fits_V : TEnv := { pure := [], look := [], glob := G0T, ty := [], raw := [] }
theorem glob_fits_eq : runY Tryd.prog glob_fits_E glob_fits_H glob_fits_V glob_fits_Y Tryd.f19 glob_fits_T.ps glob_fits_T.res = glob_fits_T.fn := by kernel_rfl
theorem glob_fits_Fok : SoundP Tryd.prog G0 19 glob_fits_F := closeF_sound (runF_sound (P := Tryd.prog) (E := glob_fits_E) (h := glob_fits_H) (f := 19) (fn := Tryd.f19) ⟨same_ok, envP_nil, envS_nil, envP_nil⟩ Tryd.func19 rfl (by kernel_rfl))
theorem glob_fits_ok : TOk glob_fits_F glob_fits_T := runY_ok (E := glob_fits_E) (ET := glob_fits_V) (EnvT.ofR (E := glob_fits_E) (ET := glob_fits_V) pairs_nil looks_nil raws_nil G0_ok) glob_fits_eq rfl
-- palinode/glob.Match
noncomputable def glob_Match_E : Env := { pure := [(17, glob_parts_F), (18, utf8_ValidString_F)], raw := [], glob := G0, same := [28], look := [(19, glob_fits_F)] }
def glob_Match_H : Hints := { seqs := [], loops := [], own := [20] }
noncomputable def glob_Match_F : PFn := closeF (runF Tryd.prog glob_Match_E glob_Match_H Tryd.f10)
def glob_Match_Y : TH := { joins := [], loops := [], cuts := [], ro := [], news := [] }
noncomputable def glob_Match (a0 : List UInt8) (a1 : List UInt8) : Option Bool :=
(glob_parts a0).bind fun r1 =>
 cond r1.2.1 ((utf8_ValidString a1).bind fun r2 =>
 cond r2 ((glob_fits r1.1 (runesT a1)).bind fun r3 =>
 some r3) (some false)) (some false)
noncomputable def glob_Match_T : TFn := { ps := (.cons .str (.cons .str .unit)), res := .bool, fn := fun v => glob_Match v.1 v.2.1 }
noncomputable def glob_Match_V : TEnv := { pure := [(17, glob_parts_T), (18, utf8_ValidString_T)], look := [(19, glob_fits_T)], glob := G0T, ty := [], raw := [] }
theorem glob_Match_eq : runY Tryd.prog glob_Match_E glob_Match_H glob_Match_V glob_Match_Y Tryd.f10 glob_Match_T.ps glob_Match_T.res = glob_Match_T.fn := by kernel_rfl
theorem glob_Match_Fok : SoundP Tryd.prog G0 10 glob_Match_F := closeF_sound (runF_sound (P := Tryd.prog) (E := glob_Match_E) (h := glob_Match_H) (f := 10) (fn := Tryd.f10) ⟨same_ok, (envP_cons glob_parts_Fok (envP_cons utf8_ValidString_Fok envP_nil)), envS_nil, (envP_cons glob_fits_Fok envP_nil)⟩ Tryd.func10 rfl (by kernel_rfl))
theorem glob_Match_ok : TOk glob_Match_F glob_Match_T := runY_ok (E := glob_Match_E) (ET := glob_Match_V) (EnvT.ofR (E := glob_Match_E) (ET := glob_Match_V) (pairs_cons glob_parts_ok (pairs_cons utf8_ValidString_ok pairs_nil)) (looks_cons glob_fits_ok rfl looks_nil) raws_nil G0_ok) glob_Match_eq rfl
-- (*strings.Builder).copyCheck
noncomputable def strings_Builder_copyCheck_E : Env := { pure := [], raw := [], glob := G0, same := [28], look := [] }
def strings_Builder_copyCheck_H : Hints := { seqs := [], loops := [], own := [6, 9, 11, 19] }
noncomputable def strings_Builder_copyCheck_S : SFn := runF Tryd.prog strings_Builder_copyCheck_E strings_Builder_copyCheck_H Tryd.f26
def strings_Builder_copyCheck_Y : TH := { joins := [], loops := [], cuts := [], ro := [], news := [] }
noncomputable def strings_Builder_copyCheck (w0 : (Bool × Unit × Unit)) (w1 : List Int) : Option (Unit × (Bool × Unit × Unit) × List Int × Unit) :=
 cond (!w0.1) (
 some ((), (true, w0.2.1, ()), w1, ())) (
 cond (!w0.1) (
 none) (
 some ((), w0, w1, ())))
noncomputable def strings_Builder_copyCheck_R : TRaw := { ps := (.cons (.bx 0 0) .unit), ins := [.box 41 (.agg (.cons (.op 0) (.cons (.own 1) .unit))), .row true 5 (.int .u8)], res := (.tup .unit), outs := [.box 41 (.agg (.cons (.op 0) (.cons (.own 1) .unit))), .row true 5 (.int .u8)], fn := fun v w => strings_Builder_copyCheck w.1 w.2.1 }
noncomputable def strings_Builder_copyCheck_V : TEnv := { pure := [], look := [], glob := G0T, ty := [], raw := [] }
theorem strings_Builder_copyCheck_eq : rawY Tryd.prog strings_Builder_copyCheck_E strings_Builder_copyCheck_H strings_Builder_copyCheck_V strings_Builder_copyCheck_Y [(0, 0)] Tryd.f26 strings_Builder_copyCheck_R.ps strings_Builder_copyCheck_R.ins strings_Builder_copyCheck_R.res strings_Builder_copyCheck_R.outs = strings_Builder_copyCheck_R.fn := by kernel_rfl
theorem strings_Builder_copyCheck_Sok : SoundS Tryd.prog G0 26 strings_Builder_copyCheck_S := runF_sound (P := Tryd.prog) (E := strings_Builder_copyCheck_E) (h := strings_Builder_copyCheck_H) (f := 26) (fn := Tryd.f26) ⟨same_ok, envP_nil, envS_nil, envP_nil⟩ Tryd.func26 rfl (by kernel_rfl)
theorem strings_Builder_copyCheck_ok : TRawOk strings_Builder_copyCheck_S strings_Builder_copyCheck_R := rawY_ok (E := strings_Builder_copyCheck_E) (ET := strings_Builder_copyCheck_V) (EnvT.ofR (E := strings_Builder_copyCheck_E) (ET := strings_Builder_copyCheck_V) pairs_nil looks_nil raws_nil G0_ok) strings_Builder_copyCheck_eq
-- unicode/utf8.appendRuneNonASCII
noncomputable def utf8_appendRuneNonASCII_E : Env := { pure := [], raw := [], glob := G0, same := [28], look := [] }
def utf8_appendRuneNonASCII_H : Hints := { seqs := [], loops := [], own := [] }
noncomputable def utf8_appendRuneNonASCII_S : SFn := runF Tryd.prog utf8_appendRuneNonASCII_E utf8_appendRuneNonASCII_H Tryd.f29
def utf8_appendRuneNonASCII_Y : TH := { joins := [(7, { keep := [(0, (.own 0)), (25, .bool)], mem := [.row true 5 (.int .u8)] })], loops := [], cuts := [(6, [(6, { keep := [(0, (.own 0)), (33, .bool)], mem := [.row true 5 (.int .u8)] })])], ro := [], news := [] }
noncomputable def utf8_appendRuneNonASCII (a1 : Int) (w0 : List Int) : Option (Unit × List Int × Unit) :=
 cond (decide ((IntKind.wrap .u32 a1) ≤ 2047)) (
(shrT .i32 a1 6).bind fun t1 =>
(roomT (w0.length + ([(IntKind.wrap .u8 ((BitVec.ofInt (IntKind.bits .u8) 192 ||| BitVec.ofInt (IntKind.bits .u8) (IntKind.wrap .u8 t1)).toNat)), (IntKind.wrap .u8 ((BitVec.ofInt (IntKind.bits .u8) 128 ||| BitVec.ofInt (IntKind.bits .u8) (IntKind.wrap .u8 ((BitVec.ofInt (IntKind.bits .u8) (IntKind.wrap .u8 a1) &&& BitVec.ofInt (IntKind.bits .u8) 63).toNat))).toNat))] : List Int).length)).bind fun u2 =>
 some ((), (w0 ++ ([(IntKind.wrap .u8 ((BitVec.ofInt (IntKind.bits .u8) 192 ||| BitVec.ofInt (IntKind.bits .u8) (IntKind.wrap .u8 t1)).toNat)), (IntKind.wrap .u8 ((BitVec.ofInt (IntKind.bits .u8) 128 ||| BitVec.ofInt (IntKind.bits .u8) (IntKind.wrap .u8 ((BitVec.ofInt (IntKind.bits .u8) (IntKind.wrap .u8 a1) &&& BitVec.ofInt (IntKind.bits .u8) 63).toNat))).toNat))] : List Int)), ())) (
(cond (decide ((IntKind.wrap .u32 a1) < 55296)) (
 some (.inl ((decide ((IntKind.wrap .u32 a1) < 55296)), w0, ()))) (
(cond (decide (57343 < (IntKind.wrap .u32 a1))) (some ((decide ((IntKind.wrap .u32 a1) ≤ 65535)), w0, ())) (some (false, w0, ()))).bind fun v3 =>
 some (.inl (v3.1, v3.2.1, ()))) : Option ((Bool × List Int × Unit) ⊕ (Unit × List Int × Unit))).bind (joinS fun v4 =>
 cond v4.1 (
(shrT .i32 a1 12).bind fun t5 =>
(shrT .i32 a1 6).bind fun t6 =>
(roomT (v4.2.1.length + ([(IntKind.wrap .u8 ((BitVec.ofInt (IntKind.bits .u8) 224 ||| BitVec.ofInt (IntKind.bits .u8) (IntKind.wrap .u8 t5)).toNat)), (IntKind.wrap .u8 ((BitVec.ofInt (IntKind.bits .u8) 128 ||| BitVec.ofInt (IntKind.bits .u8) (IntKind.wrap .u8 ((BitVec.ofInt (IntKind.bits .u8) (IntKind.wrap .u8 t6) &&& BitVec.ofInt (IntKind.bits .u8) 63).toNat))).toNat)), (IntKind.wrap .u8 ((BitVec.ofInt (IntKind.bits .u8) 128 ||| BitVec.ofInt (IntKind.bits .u8) (IntKind.wrap .u8 ((BitVec.ofInt (IntKind.bits .u8) (IntKind.wrap .u8 a1) &&& BitVec.ofInt (IntKind.bits .u8) 63).toNat))).toNat))] : List Int).length)).bind fun u7 =>
 some ((), (v4.2.1 ++ ([(IntKind.wrap .u8 ((BitVec.ofInt (IntKind.bits .u8) 224 ||| BitVec.ofInt (IntKind.bits .u8) (IntKind.wrap .u8 t5)).toNat)), (IntKind.wrap .u8 ((BitVec.ofInt (IntKind.bits .u8) 128 ||| BitVec.ofInt (IntKind.bits .u8) (IntKind.wrap .u8 ((BitVec.ofInt (IntKind.bits .u8) (IntKind.wrap .u8 t6) &&& BitVec.ofInt (IntKind.bits .u8) 63).toNat))).toNat)), (IntKind.wrap .u8 ((BitVec.ofInt (IntKind.bits .u8) 128 ||| BitVec.ofInt (IntKind.bits .u8) (IntKind.wrap .u8 ((BitVec.ofInt (IntKind.bits .u8) (IntKind.wrap .u8 a1) &&& BitVec.ofInt (IntKind.bits .u8) 63).toNat))).toNat))] : List Int)), ())) (
 cond (decide ((IntKind.wrap .u32 a1) > 65535)) (cond (decide ((IntKind.wrap .u32 a1) ≤ 1114111)) (
(shrT .i32 a1 18).bind fun t8 =>
(shrT .i32 a1 12).bind fun t9 =>
(shrT .i32 a1 6).bind fun t10 =>
(roomT (v4.2.1.length + ([(IntKind.wrap .u8 ((BitVec.ofInt (IntKind.bits .u8) 240 ||| BitVec.ofInt (IntKind.bits .u8) (IntKind.wrap .u8 t8)).toNat)), (IntKind.wrap .u8 ((BitVec.ofInt (IntKind.bits .u8) 128 ||| BitVec.ofInt (IntKind.bits .u8) (IntKind.wrap .u8 ((BitVec.ofInt (IntKind.bits .u8) (IntKind.wrap .u8 t9) &&& BitVec.ofInt (IntKind.bits .u8) 63).toNat))).toNat)), (IntKind.wrap .u8 ((BitVec.ofInt (IntKind.bits .u8) 128 ||| BitVec.ofInt (IntKind.bits .u8) (IntKind.wrap .u8 ((BitVec.ofInt (IntKind.bits .u8) (IntKind.wrap .u8 t10) &&& BitVec.ofInt (IntKind.bits .u8) 63).toNat))).toNat)), (IntKind.wrap .u8 ((BitVec.ofInt (IntKind.bits .u8) 128 ||| BitVec.ofInt (IntKind.bits .u8) (IntKind.wrap .u8 ((BitVec.ofInt (IntKind.bits .u8) (IntKind.wrap .u8 a1) &&& BitVec.ofInt (IntKind.bits .u8) 63).toNat))).toNat))] : List Int).length)).bind fun u11 =>
 some ((), (v4.2.1 ++ ([(IntKind.wrap .u8 ((BitVec.ofInt (IntKind.bits .u8) 240 ||| BitVec.ofInt (IntKind.bits .u8) (IntKind.wrap .u8 t8)).toNat)), (IntKind.wrap .u8 ((BitVec.ofInt (IntKind.bits .u8) 128 ||| BitVec.ofInt (IntKind.bits .u8) (IntKind.wrap .u8 ((BitVec.ofInt (IntKind.bits .u8) (IntKind.wrap .u8 t9) &&& BitVec.ofInt (IntKind.bits .u8) 63).toNat))).toNat)), (IntKind.wrap .u8 ((BitVec.ofInt (IntKind.bits .u8) 128 ||| BitVec.ofInt (IntKind.bits .u8) (IntKind.wrap .u8 ((BitVec.ofInt (IntKind.bits .u8) (IntKind.wrap .u8 t10) &&& BitVec.ofInt (IntKind.bits .u8) 63).toNat))).toNat)), (IntKind.wrap .u8 ((BitVec.ofInt (IntKind.bits .u8) 128 ||| BitVec.ofInt (IntKind.bits .u8) (IntKind.wrap .u8 ((BitVec.ofInt (IntKind.bits .u8) (IntKind.wrap .u8 a1) &&& BitVec.ofInt (IntKind.bits .u8) 63).toNat))).toNat))] : List Int)), ())) (
(roomT (v4.2.1.length + ([239, 191, 189] : List Int).length)).bind fun u12 =>
 some ((), (v4.2.1 ++ ([239, 191, 189] : List Int)), ()))) ((roomT (v4.2.1.length + ([239, 191, 189] : List Int).length)).bind fun u13 =>
 some ((), (v4.2.1 ++ ([239, 191, 189] : List Int)), ())))))
noncomputable def utf8_appendRuneNonASCII_R : TRaw := { ps := (.cons (.own 0) (.cons (.int .i32) .unit)), ins := [.row true 5 (.int .u8)], res := (.own 0), outs := [.row true 5 (.int .u8)], fn := fun v w => utf8_appendRuneNonASCII v.2.1 w.1 }
noncomputable def utf8_appendRuneNonASCII_V : TEnv := { pure := [], look := [], glob := G0T, ty := [(5, (.int .u8))], raw := [] }
theorem utf8_appendRuneNonASCII_eq : rawY Tryd.prog utf8_appendRuneNonASCII_E utf8_appendRuneNonASCII_H utf8_appendRuneNonASCII_V utf8_appendRuneNonASCII_Y [] Tryd.f29 utf8_appendRuneNonASCII_R.ps utf8_appendRuneNonASCII_R.ins utf8_appendRuneNonASCII_R.res utf8_appendRuneNonASCII_R.outs = utf8_appendRuneNonASCII_R.fn := by kernel_rfl
theorem utf8_appendRuneNonASCII_Sok : SoundS Tryd.prog G0 29 utf8_appendRuneNonASCII_S := runF_sound (P := Tryd.prog) (E := utf8_appendRuneNonASCII_E) (h := utf8_appendRuneNonASCII_H) (f := 29) (fn := Tryd.f29) ⟨same_ok, envP_nil, envS_nil, envP_nil⟩ Tryd.func29 rfl (by kernel_rfl)
theorem utf8_appendRuneNonASCII_ok : TRawOk utf8_appendRuneNonASCII_S utf8_appendRuneNonASCII_R := rawY_ok (E := utf8_appendRuneNonASCII_E) (ET := utf8_appendRuneNonASCII_V) (EnvT.ofR (E := utf8_appendRuneNonASCII_E) (ET := utf8_appendRuneNonASCII_V) pairs_nil looks_nil raws_nil G0_ok) utf8_appendRuneNonASCII_eq
-- unicode/utf8.AppendRune
noncomputable def utf8_AppendRune_E : Env := { pure := [], raw := [(29, utf8_appendRuneNonASCII_S)], glob := G0, same := [28], look := [] }
def utf8_AppendRune_H : Hints := { seqs := [], loops := [], own := [] }
noncomputable def utf8_AppendRune_S : SFn := runF Tryd.prog utf8_AppendRune_E utf8_AppendRune_H Tryd.f27
def utf8_AppendRune_Y : TH := { joins := [], loops := [], cuts := [], ro := [], news := [] }
noncomputable def utf8_AppendRune (a1 : Int) (w0 : List Int) : Option (Unit × List Int × Unit) :=
 cond (decide ((IntKind.wrap .u32 a1) ≤ 127)) (
(roomT (w0.length + ([(IntKind.wrap .u8 a1)] : List Int).length)).bind fun u1 =>
 some ((), (w0 ++ ([(IntKind.wrap .u8 a1)] : List Int)), ())) (
(utf8_appendRuneNonASCII a1 w0).bind fun q2 =>
 some (q2.1, q2.2.1, ()))
noncomputable def utf8_AppendRune_R : TRaw := { ps := (.cons (.own 0) (.cons (.int .i32) .unit)), ins := [.row true 5 (.int .u8)], res := (.own 0), outs := [.row true 5 (.int .u8)], fn := fun v w => utf8_AppendRune v.2.1 w.1 }
noncomputable def utf8_AppendRune_V : TEnv := { pure := [], look := [], glob := G0T, ty := [(5, (.int .u8))], raw := [(29, utf8_appendRuneNonASCII_R)] }
theorem utf8_AppendRune_eq : rawY Tryd.prog utf8_AppendRune_E utf8_AppendRune_H utf8_AppendRune_V utf8_AppendRune_Y [] Tryd.f27 utf8_AppendRune_R.ps utf8_AppendRune_R.ins utf8_AppendRune_R.res utf8_AppendRune_R.outs = utf8_AppendRune_R.fn := by kernel_rfl
theorem utf8_AppendRune_Sok : SoundS Tryd.prog G0 27 utf8_AppendRune_S := runF_sound (P := Tryd.prog) (E := utf8_AppendRune_E) (h := utf8_AppendRune_H) (f := 27) (fn := Tryd.f27) ⟨same_ok, envP_nil, (envS_cons utf8_appendRuneNonASCII_Sok envS_nil), envP_nil⟩ Tryd.func27 rfl (by kernel_rfl)
theorem utf8_AppendRune_ok : TRawOk utf8_AppendRune_S utf8_AppendRune_R := rawY_ok (E := utf8_AppendRune_E) (ET := utf8_AppendRune_V) (EnvT.ofR (E := utf8_AppendRune_E) (ET := utf8_AppendRune_V) pairs_nil looks_nil (raws_cons utf8_appendRuneNonASCII_ok rfl rfl raws_nil) G0_ok) utf8_AppendRune_eq
-- (*strings.Builder).WriteRune
noncomputable def strings_Builder_WriteRune_E : Env := { pure := [], raw := [(26, strings_Builder_copyCheck_S), (27, utf8_AppendRune_S)], glob := G0, same := [28], look := [] }
def strings_Builder_WriteRune_H : Hints := { seqs := [], loops := [], own := [] }
noncomputable def strings_Builder_WriteRune_S : SFn := runF Tryd.prog strings_Builder_WriteRune_E strings_Builder_WriteRune_H Tryd.f21
def strings_Builder_WriteRune_Y : TH := { joins := [], loops := [], cuts := [], ro := [], news := [] }
noncomputable def strings_Builder_WriteRune (a1 : Int) (w0 : (Bool × Unit × Unit)) (w1 : List Int) : Option ((Int × Unit × Unit) × (Bool × Unit × Unit) × List Int × Unit) :=
(strings_Builder_copyCheck w0 w1).bind fun q1 =>
(utf8_AppendRune a1 q1.2.2.1).bind fun q2 =>
 some (((IntKind.wrap .i64 ((q2.2.1.length : Int) - (q1.2.2.1.length : Int))), (), ()), (q1.2.1.1, q2.1, ()), q2.2.1, ())
noncomputable def strings_Builder_WriteRune_R : TRaw := { ps := (.cons (.bx 0 0) (.cons (.int .i32) .unit)), ins := [.box 41 (.agg (.cons (.op 0) (.cons (.own 1) .unit))), .row true 5 (.int .u8)], res := (.tup (.cons (.int .i64) (.cons .any .unit))), outs := [.box 41 (.agg (.cons (.op 0) (.cons (.own 1) .unit))), .row true 5 (.int .u8)], fn := fun v w => strings_Builder_WriteRune v.2.1 w.1 w.2.1 }
noncomputable def strings_Builder_WriteRune_V : TEnv := { pure := [], look := [], glob := G0T, ty := [], raw := [(26, strings_Builder_copyCheck_R), (27, utf8_AppendRune_R)] }
theorem strings_Builder_WriteRune_eq : rawY Tryd.prog strings_Builder_WriteRune_E strings_Builder_WriteRune_H strings_Builder_WriteRune_V strings_Builder_WriteRune_Y [(0, 0)] Tryd.f21 strings_Builder_WriteRune_R.ps strings_Builder_WriteRune_R.ins strings_Builder_WriteRune_R.res strings_Builder_WriteRune_R.outs = strings_Builder_WriteRune_R.fn := by kernel_rfl
theorem strings_Builder_WriteRune_Sok : SoundS Tryd.prog G0 21 strings_Builder_WriteRune_S := runF_sound (P := Tryd.prog) (E := strings_Builder_WriteRune_E) (h := strings_Builder_WriteRune_H) (f := 21) (fn := Tryd.f21) ⟨same_ok, envP_nil, (envS_cons strings_Builder_copyCheck_Sok (envS_cons utf8_AppendRune_Sok envS_nil)), envP_nil⟩ Tryd.func21 rfl (by kernel_rfl)
theorem strings_Builder_WriteRune_ok : TRawOk strings_Builder_WriteRune_S strings_Builder_WriteRune_R := rawY_ok (E := strings_Builder_WriteRune_E) (ET := strings_Builder_WriteRune_V) (EnvT.ofR (E := strings_Builder_WriteRune_E) (ET := strings_Builder_WriteRune_V) pairs_nil looks_nil (raws_cons strings_Builder_copyCheck_ok rfl rfl (raws_cons utf8_AppendRune_ok rfl rfl raws_nil)) G0_ok) strings_Builder_WriteRune_eq
-- (*strings.Builder).String
noncomputable def strings_Builder_String_E : Env := { pure := [], raw := [], glob := G0, same := [28], look := [] }
def strings_Builder_String_H : Hints := { seqs := [], loops := [], own := [] }
noncomputable def strings_Builder_String_S : SFn := runF Tryd.prog strings_Builder_String_E strings_Builder_String_H Tryd.f22
def strings_Builder_String_Y : TH := { joins := [], loops := [], cuts := [], ro := [], news := [] }
noncomputable def strings_Builder_String (w0 : (Bool × Unit × Unit)) (w1 : List Int) : Option (List UInt8 × (Bool × Unit × Unit) × Unit) :=
 cond w1.isEmpty ((zeroN (w1.length : Int)).bind fun u1 =>
 some ([], w0, ())) ((wholeN 0 w1.length (w1.length : Int)).bind fun u2 =>
 some ((w1.map fun n => UInt8.ofNat n.toNat), w0, ()))
noncomputable def strings_Builder_String_R : TRaw := { ps := (.cons (.bx 0 0) .unit), ins := [.box 41 (.agg (.cons (.op 0) (.cons (.own 1) .unit))), .row true 5 (.int .u8)], res := .str, outs := [.box 41 (.agg (.cons (.op 0) (.cons (.own 1) .unit))), .gone], fn := fun v w => strings_Builder_String w.1 w.2.1 }
noncomputable def strings_Builder_String_V : TEnv := { pure := [], look := [], glob := G0T, ty := [], raw := [] }
theorem strings_Builder_String_eq : rawY Tryd.prog strings_Builder_String_E strings_Builder_String_H strings_Builder_String_V strings_Builder_String_Y [(0, 0)] Tryd.f22 strings_Builder_String_R.ps strings_Builder_String_R.ins strings_Builder_String_R.res strings_Builder_String_R.outs = strings_Builder_String_R.fn := by kernel_rfl
theorem strings_Builder_String_Sok : SoundS Tryd.prog G0 22 strings_Builder_String_S := runF_sound (P := Tryd.prog) (E := strings_Builder_String_E) (h := strings_Builder_String_H) (f := 22) (fn := Tryd.f22) ⟨same_ok, envP_nil, envS_nil, envP_nil⟩ Tryd.func22 rfl (by kernel_rfl)
theorem strings_Builder_String_ok : TRawOk strings_Builder_String_S strings_Builder_String_R := rawY_ok (E := strings_Builder_String_E) (ET := strings_Builder_String_V) (EnvT.ofR (E := strings_Builder_String_E) (ET := strings_Builder_String_V) pairs_nil looks_nil raws_nil G0_ok) strings_Builder_String_eq
-- palinode/glob.Quote
noncomputable def glob_Quote_E : Env := { pure := [(20, glob_special_F)], raw := [(21, strings_Builder_WriteRune_S), (22, strings_Builder_String_S)], glob := G0, same := [28], look := [] }
def glob_Quote_H : Hints := { seqs := [], loops := [(3, [3, 7])], own := [] }
noncomputable def glob_Quote_F : PFn := closeF (runF Tryd.prog glob_Quote_E glob_Quote_H Tryd.f13)
def glob_Quote_Y : TH := { joins := [], loops := [(3, { keep := [(3, (.bx 1 0)), (7, (.it 2))], mem := [.row true 5 (.int .u8), .box 41 (.agg (.cons (.op 1) (.cons (.own 0) .unit))), .iter] })], cuts := [], ro := [], news := [(3, ((.agg (.cons (.op 1) (.cons (.own 0) .unit))), [(5, (.int .u8))]))] }
noncomputable def glob_Quote_l3 (a0 : List UInt8) (y3 : (List Int × (Bool × Unit × Unit) × Nat × Unit)) : Option ((List Int × (Bool × Unit × Unit) × Nat × Unit) ⊕ List UInt8) :=
 cond (decide (y3.2.2.1 < a0.length)) ((glob_special ((Utf8.decode ⟨a0.toArray⟩ y3.2.2.1).1 : Int)).bind fun r1 =>
 cond r1 (
(strings_Builder_WriteRune 92 (y3.2.1.1, (), ()) y3.1).bind fun q2 =>
(strings_Builder_WriteRune ((Utf8.decode ⟨a0.toArray⟩ y3.2.2.1).1 : Int) (q2.2.1.1, (), ()) q2.2.2.1).bind fun q3 =>
 some (.inl (q3.2.2.1, q3.2.1, (y3.2.2.1 + (Utf8.decode ⟨a0.toArray⟩ y3.2.2.1).2), ()))) (
(strings_Builder_WriteRune ((Utf8.decode ⟨a0.toArray⟩ y3.2.2.1).1 : Int) (y3.2.1.1, (), ()) y3.1).bind fun q4 =>
 some (.inl (q4.2.2.1, q4.2.1, (y3.2.2.1 + (Utf8.decode ⟨a0.toArray⟩ y3.2.2.1).2), ())))) (((strings_Builder_String (y3.2.1.1, (), ()) y3.1).bind fun q5 =>
 some q5.1).map .inr)
noncomputable def glob_Quote (a0 : List UInt8) : Option (List UInt8) :=
 loopT (glob_Quote_l3 a0) ([], (false, (), ()), 0, ())
noncomputable def glob_Quote_T : TFn := { ps := (.cons .str .unit), res := .str, fn := fun v => glob_Quote v.1 }
noncomputable def glob_Quote_V : TEnv := { pure := [(20, glob_special_T)], look := [], glob := G0T, ty := [], raw := [(21, strings_Builder_WriteRune_R), (22, strings_Builder_String_R)] }
theorem glob_Quote_eq : runY Tryd.prog glob_Quote_E glob_Quote_H glob_Quote_V glob_Quote_Y Tryd.f13 glob_Quote_T.ps glob_Quote_T.res = glob_Quote_T.fn := by kernel_rfl
theorem glob_Quote_Fok : SoundP Tryd.prog G0 13 glob_Quote_F := closeF_sound (runF_sound (P := Tryd.prog) (E := glob_Quote_E) (h := glob_Quote_H) (f := 13) (fn := Tryd.f13) ⟨same_ok, (envP_cons glob_special_Fok envP_nil), (envS_cons strings_Builder_WriteRune_Sok (envS_cons strings_Builder_String_Sok envS_nil)), envP_nil⟩ Tryd.func13 rfl (by kernel_rfl))
theorem glob_Quote_ok : TOk glob_Quote_F glob_Quote_T := runY_ok (E := glob_Quote_E) (ET := glob_Quote_V) (EnvT.ofR (E := glob_Quote_E) (ET := glob_Quote_V) (pairs_cons glob_special_ok pairs_nil) looks_nil (raws_cons strings_Builder_WriteRune_ok rfl rfl (raws_cons strings_Builder_String_ok rfl rfl raws_nil)) G0_ok) glob_Quote_eq rfl
-- palinode/glob.Right
noncomputable def glob_Right_E : Env := { pure := [(17, glob_parts_F)], raw := [], glob := G0, same := [28], look := [] }
def glob_Right_H : Hints := { seqs := [], loops := [], own := [] }
noncomputable def glob_Right_F : PFn := closeF (runF Tryd.prog glob_Right_E glob_Right_H Tryd.f9)
def glob_Right_Y : TH := { joins := [], loops := [], cuts := [], ro := [], news := [] }
noncomputable def glob_Right (a0 : List UInt8) : Option Bool :=
(glob_parts a0).bind fun r1 =>
 some r1.2.1
noncomputable def glob_Right_T : TFn := { ps := (.cons .str .unit), res := .bool, fn := fun v => glob_Right v.1 }
noncomputable def glob_Right_V : TEnv := { pure := [(17, glob_parts_T)], look := [], glob := G0T, ty := [], raw := [] }
theorem glob_Right_eq : runY Tryd.prog glob_Right_E glob_Right_H glob_Right_V glob_Right_Y Tryd.f9 glob_Right_T.ps glob_Right_T.res = glob_Right_T.fn := by kernel_rfl
theorem glob_Right_Fok : SoundP Tryd.prog G0 9 glob_Right_F := closeF_sound (runF_sound (P := Tryd.prog) (E := glob_Right_E) (h := glob_Right_H) (f := 9) (fn := Tryd.f9) ⟨same_ok, (envP_cons glob_parts_Fok envP_nil), envS_nil, envP_nil⟩ Tryd.func9 rfl (by kernel_rfl))
theorem glob_Right_ok : TOk glob_Right_F glob_Right_T := runY_ok (E := glob_Right_E) (ET := glob_Right_V) (EnvT.ofR (E := glob_Right_E) (ET := glob_Right_V) (pairs_cons glob_parts_ok pairs_nil) looks_nil raws_nil G0_ok) glob_Right_eq rfl
-- palinode/palinoderef03.Char
noncomputable def ref03_Char_E : Env := { pure := [], raw := [], glob := G0, same := [28], look := [] }
def ref03_Char_H : Hints := { seqs := [], loops := [(17, [0, 4, 5, 6, 7])], own := [] }
noncomputable def ref03_Char_F : PFn := closeF (runF Tryd.prog ref03_Char_E ref03_Char_H Tryd.f23)
def ref03_Char_Y : TH := { joins := [(14, { keep := [(4, (.int .i64)), (5, (.int .i64)), (6, (.int .i64))], mem := [] }), (9, { keep := [(18, .bool)], mem := [] }), (22, { keep := [(4, (.int .i64))], mem := [] }), (24, { keep := [], mem := [] })], loops := [(17, { keep := [(4, (.int .i64)), (7, (.int .i64))], mem := [] })], cuts := [], ro := [], news := [] }
noncomputable def ref03_Char_l17 (a0 : List UInt8) (v3 : (Int × Int × Int × Unit)) (y17 : (Int × Int × Unit)) : Option ((Int × Int × Unit) ⊕ ((Int × Unit) ⊕ (Int × Int × Unit))) :=
 cond (decide (y17.2.1 < v3.2.1)) (
(atI a0 y17.2.1).bind fun b4 =>
 cond (decide ((b4.toNat : Int) < 128)) (some (.inr (.inr (0, 0, ())))) ((atI a0 y17.2.1).bind fun b5 =>
 cond (decide ((b5.toNat : Int) > 191)) (
 some (.inr (.inr (0, 0, ())))) (
(atI a0 y17.2.1).bind fun b6 =>
 some (.inl ((IntKind.wrap .i64 ((IntKind.wrap .i64 ((IntKind.wrap .i64 (64 * y17.1)) + (IntKind.wrap .i64 (b6.toNat : Int)))) - 128)), (IntKind.wrap .i64 (y17.2.1 + 1)), ()))))) (
 some (.inr (.inl (y17.1, ()))))
noncomputable def ref03_Char (a0 : List UInt8) : Option (Int × Int × Unit) :=
 cond (decide ((a0.length : Int) = 0)) (
 some (0, 0, ())) (
(atI a0 0).bind fun b1 =>
(cond (decide ((IntKind.wrap .i64 (b1.toNat : Int)) < 128)) (
 some (.inr ((IntKind.wrap .i64 (b1.toNat : Int)), 1, ()))) (
(cond (decide ((IntKind.wrap .i64 (b1.toNat : Int)) ≥ 194)) (some (.inl ((decide ((IntKind.wrap .i64 (b1.toNat : Int)) < 224)), ()))) (some (.inl (false, ()))) : Option ((Bool × Unit) ⊕ ((Int × Int × Int × Unit) ⊕ (Int × Int × Unit)))).bind (joinS fun v2 =>
 cond v2.1 (
 some (.inl ((IntKind.wrap .i64 ((IntKind.wrap .i64 (b1.toNat : Int)) - 192)), 2, 128, ()))) (
 cond (decide ((IntKind.wrap .i64 (b1.toNat : Int)) ≥ 224)) (cond (decide ((IntKind.wrap .i64 (b1.toNat : Int)) < 240)) (
 some (.inl ((IntKind.wrap .i64 ((IntKind.wrap .i64 (b1.toNat : Int)) - 224)), 3, 2048, ()))) (
 cond (decide ((IntKind.wrap .i64 (b1.toNat : Int)) ≥ 240)) (cond (decide ((IntKind.wrap .i64 (b1.toNat : Int)) < 245)) (
 some (.inl ((IntKind.wrap .i64 ((IntKind.wrap .i64 (b1.toNat : Int)) - 240)), 4, 65536, ()))) (
 some (.inr (0, 0, ())))) (some (.inr (0, 0, ()))))) (cond (decide ((IntKind.wrap .i64 (b1.toNat : Int)) ≥ 240)) (cond (decide ((IntKind.wrap .i64 (b1.toNat : Int)) < 245)) (
 some (.inl ((IntKind.wrap .i64 ((IntKind.wrap .i64 (b1.toNat : Int)) - 240)), 4, 65536, ()))) (
 some (.inr (0, 0, ())))) (some (.inr (0, 0, ()))))))) : Option ((Int × Int × Int × Unit) ⊕ (Int × Int × Unit))).bind (joinS fun v3 =>
 cond (decide ((a0.length : Int) < v3.2.1)) (
 some (0, 0, ())) (
(loopT (ref03_Char_l17 a0 v3) (v3.1, 1, ()) : Option ((Int × Unit) ⊕ (Int × Int × Unit))).bind (joinS fun v7 =>
(cond (decide (v7.1 < v3.2.2.1)) (some (.inr (0, 0, ()))) (cond (decide (v7.1 > 1114111)) (some (.inr (0, 0, ()))) (cond (decide (v7.1 ≥ 55296)) (cond (decide (v7.1 ≤ 57343)) (
 some (.inr (0, 0, ()))) (
 some (.inl ()))) (some (.inl ())))) : Option (Unit ⊕ (Int × Int × Unit))).bind (joinS fun v8 =>
 some (v7.1, v3.2.1, ()))))))
noncomputable def ref03_Char_T : TFn := { ps := (.cons .str .unit), res := (.tup (.cons (.int .i64) (.cons (.int .i64) .unit))), fn := fun v => ref03_Char v.1 }
noncomputable def ref03_Char_V : TEnv := { pure := [], look := [], glob := G0T, ty := [], raw := [] }
theorem ref03_Char_eq : runY Tryd.prog ref03_Char_E ref03_Char_H ref03_Char_V ref03_Char_Y Tryd.f23 ref03_Char_T.ps ref03_Char_T.res = ref03_Char_T.fn := by kernel_rfl
theorem ref03_Char_Fok : SoundP Tryd.prog G0 23 ref03_Char_F := closeF_sound (runF_sound (P := Tryd.prog) (E := ref03_Char_E) (h := ref03_Char_H) (f := 23) (fn := Tryd.f23) ⟨same_ok, envP_nil, envS_nil, envP_nil⟩ Tryd.func23 rfl (by kernel_rfl))
theorem ref03_Char_ok : TOk ref03_Char_F ref03_Char_T := runY_ok (E := ref03_Char_E) (ET := ref03_Char_V) (EnvT.ofR (E := ref03_Char_E) (ET := ref03_Char_V) pairs_nil looks_nil raws_nil G0_ok) ref03_Char_eq rfl
-- palinode/palinoderef03.Runes
noncomputable def ref03_Runes_E : Env := { pure := [(23, ref03_Char_F)], raw := [], glob := G0, same := [28], look := [] }
def ref03_Runes_H : Hints := { seqs := [], loops := [(3, [0, 4, 5])], own := [] }
noncomputable def ref03_Runes_F : PFn := closeF (runF Tryd.prog ref03_Runes_E ref03_Runes_H Tryd.f16)
def ref03_Runes_Y : TH := { joins := [], loops := [(3, { keep := [(4, (.own 0)), (5, (.int .i64))], mem := [.row true 3 (.int .i64)] })], cuts := [], ro := [], news := [] }
noncomputable def ref03_Runes_l3 (a0 : List UInt8) (y3 : (Int × List Int × Unit)) : Option ((Int × List Int × Unit) ⊕ (List Int × Bool × Unit)) :=
 cond (decide (y3.1 < (a0.length : Int))) (
(subI a0 y3.1 (a0.length : Int)).bind fun s1 =>
(ref03_Char s1).bind fun r2 =>
 cond (decide (r2.2.1 = 0)) (
 some (.inr ([], false, ()))) (
(roomT (y3.2.1.length + ([r2.1] : List Int).length)).bind fun u3 =>
 some (.inl ((IntKind.wrap .i64 (y3.1 + r2.2.1)), (y3.2.1 ++ ([r2.1] : List Int)), ())))) (
 some (.inr (y3.2.1, true, ())))
noncomputable def ref03_Runes (a0 : List UInt8) : Option (List Int × Bool × Unit) :=
 loopT (ref03_Runes_l3 a0) (0, [], ())
noncomputable def ref03_Runes_T : TFn := { ps := (.cons .str .unit), res := (.tup (.cons (.sl (.int .i64)) (.cons .bool .unit))), fn := fun v => ref03_Runes v.1 }
noncomputable def ref03_Runes_V : TEnv := { pure := [(23, ref03_Char_T)], look := [], glob := G0T, ty := [(3, (.int .i64))], raw := [] }
theorem ref03_Runes_eq : runY Tryd.prog ref03_Runes_E ref03_Runes_H ref03_Runes_V ref03_Runes_Y Tryd.f16 ref03_Runes_T.ps ref03_Runes_T.res = ref03_Runes_T.fn := by kernel_rfl
theorem ref03_Runes_Fok : SoundP Tryd.prog G0 16 ref03_Runes_F := closeF_sound (runF_sound (P := Tryd.prog) (E := ref03_Runes_E) (h := ref03_Runes_H) (f := 16) (fn := Tryd.f16) ⟨same_ok, (envP_cons ref03_Char_Fok envP_nil), envS_nil, envP_nil⟩ Tryd.func16 rfl (by kernel_rfl))
theorem ref03_Runes_ok : TOk ref03_Runes_F ref03_Runes_T := runY_ok (E := ref03_Runes_E) (ET := ref03_Runes_V) (EnvT.ofR (E := ref03_Runes_E) (ET := ref03_Runes_V) (pairs_cons ref03_Char_ok pairs_nil) looks_nil raws_nil G0_ok) ref03_Runes_eq rfl
-- palinode/palinoderef37.Parts
noncomputable def ref37_Parts_E : Env := { pure := [(16, ref03_Runes_F)], raw := [], glob := G0, same := [28], look := [] }
def ref37_Parts_H : Hints := { seqs := [], loops := [(6, [4, 6, 7])], own := [] }
noncomputable def ref37_Parts_F : PFn := closeF (runF Tryd.prog ref37_Parts_E ref37_Parts_H Tryd.f8)
def ref37_Parts_Y : TH := { joins := [(18, { keep := [(6, (.own 0)), (7, (.int .i64)), (8, (.int .i64))], mem := [.row true 3 (.int .i64)] }), (17, { keep := [(6, (.own 0))], mem := [.row true 3 (.int .i64)] })], loops := [(6, { keep := [(6, (.own 0)), (7, (.int .i64))], mem := [.row true 3 (.int .i64)] })], cuts := [], ro := [], news := [] }
noncomputable def ref37_Parts_l6 (r1 : (List Int × Bool × Unit)) (y6 : (Int × List Int × Unit)) : Option ((Int × List Int × Unit) ⊕ (List Int × Bool × Unit)) :=
 cond (decide (y6.1 < (r1.1.length : Int))) (
(atI r1.1 y6.1).bind fun x2 =>
 cond (decide (x2 = 42)) (
(roomT (y6.2.1.length + ([(-2)] : List Int).length)).bind fun u3 =>
 some (.inl ((IntKind.wrap .i64 (y6.1 + 1)), (y6.2.1 ++ ([(-2)] : List Int)), ()))) (
 cond (decide (x2 = 63)) (
(roomT (y6.2.1.length + ([(-1)] : List Int).length)).bind fun u4 =>
 some (.inl ((IntKind.wrap .i64 (y6.1 + 1)), (y6.2.1 ++ ([(-1)] : List Int)), ()))) (
(cond (decide (x2 = 92)) (
(cond (decide ((IntKind.wrap .i64 (y6.1 + 1)) = (r1.1.length : Int))) (some (.inr (.inr (.inr ([], false, ()))))) ((atI r1.1 (IntKind.wrap .i64 (y6.1 + 1))).bind fun x5 =>
 cond (!decide (x5 = 92)) ((atI r1.1 (IntKind.wrap .i64 (y6.1 + 1))).bind fun x6 =>
 cond (!decide (x6 = 42)) ((atI r1.1 (IntKind.wrap .i64 (y6.1 + 1))).bind fun x7 =>
 cond (!decide (x7 = 63)) (
 some (.inr (.inr (.inr ([], false, ()))))) (
 some (.inl (y6.2.1, ())))) (some (.inl (y6.2.1, ())))) (some (.inl (y6.2.1, ())))) : Option ((List Int × Unit) ⊕ ((Int × Int × List Int × Unit) ⊕ ((Int × List Int × Unit) ⊕ (List Int × Bool × Unit))))).bind (joinS fun v8 =>
(atI r1.1 (IntKind.wrap .i64 (y6.1 + 1))).bind fun x9 =>
 some (.inl ((IntKind.wrap .i64 (y6.1 + 1)), x9, v8.1, ())))) (
 some (.inl (y6.1, x2, y6.2.1, ()))) : Option ((Int × Int × List Int × Unit) ⊕ ((Int × List Int × Unit) ⊕ (List Int × Bool × Unit)))).bind (joinS fun v10 =>
(roomT (v10.2.2.1.length + ([v10.2.1] : List Int).length)).bind fun u11 =>
 some (.inl ((IntKind.wrap .i64 (v10.1 + 1)), (v10.2.2.1 ++ ([v10.2.1] : List Int)), ())))))) (
 some (.inr (y6.2.1, true, ())))
noncomputable def ref37_Parts (a0 : List UInt8) : Option (List Int × Bool × Unit) :=
(ref03_Runes a0).bind fun r1 =>
 cond (!r1.2.1) (some ([], false, ())) (cond (decide ((r1.1.length : Int) > 64)) (
 some ([], false, ())) (
 loopT (ref37_Parts_l6 r1) (0, [], ())))
noncomputable def ref37_Parts_T : TFn := { ps := (.cons .str .unit), res := (.tup (.cons (.sl (.int .i64)) (.cons .bool .unit))), fn := fun v => ref37_Parts v.1 }
noncomputable def ref37_Parts_V : TEnv := { pure := [(16, ref03_Runes_T)], look := [], glob := G0T, ty := [(3, (.int .i64))], raw := [] }
theorem ref37_Parts_eq : runY Tryd.prog ref37_Parts_E ref37_Parts_H ref37_Parts_V ref37_Parts_Y Tryd.f8 ref37_Parts_T.ps ref37_Parts_T.res = ref37_Parts_T.fn := by kernel_rfl
theorem ref37_Parts_Fok : SoundP Tryd.prog G0 8 ref37_Parts_F := closeF_sound (runF_sound (P := Tryd.prog) (E := ref37_Parts_E) (h := ref37_Parts_H) (f := 8) (fn := Tryd.f8) ⟨same_ok, (envP_cons ref03_Runes_Fok envP_nil), envS_nil, envP_nil⟩ Tryd.func8 rfl (by kernel_rfl))
theorem ref37_Parts_ok : TOk ref37_Parts_F ref37_Parts_T := runY_ok (E := ref37_Parts_E) (ET := ref37_Parts_V) (EnvT.ofR (E := ref37_Parts_E) (ET := ref37_Parts_V) (pairs_cons ref03_Runes_ok pairs_nil) looks_nil raws_nil G0_ok) ref37_Parts_eq rfl
-- palinode/palinoderef37.Match
noncomputable def ref37_Match_E : Env := { pure := [(8, ref37_Parts_F), (16, ref03_Runes_F)], raw := [], glob := G0, same := [28], look := [] }
def ref37_Match_H : Hints := { seqs := [], loops := [(8, [5, 7, 9, 10]), (12, [5, 7, 9, 10, 11, 12])], own := [] }
noncomputable def ref37_Match_F : PFn := closeF (runF Tryd.prog ref37_Match_E ref37_Match_H Tryd.f11)
def ref37_Match_Y : TH := { joins := [(18, { keep := [(9, (.own 0))], mem := [.row false 4 .bool] })], loops := [(8, { keep := [(9, (.own 0)), (10, (.int .i64))], mem := [.row false 4 .bool] }), (12, { keep := [(9, (.own 0)), (11, (.own 1)), (12, (.int .i64))], mem := [.row false 4 .bool, .row false 4 .bool] })], cuts := [(16, [(11, { keep := [(9, (.own 0)), (11, (.own 1)), (74, (.own 1)), (75, (.int .i64)), (84, .bool)], mem := [.row false 4 .bool, .row false 4 .bool] })])], ro := [], news := [] }
noncomputable def ref37_Match_l12 (y8 : (Int × List Bool × Unit)) (r1 : (List Int × Bool × Unit)) (r2 : (List Int × Bool × Unit)) (y12 : (Int × List Bool × List Bool × Unit)) : Option ((Int × List Bool × List Bool × Unit) ⊕ ((Int × List Bool × Unit) ⊕ ((List Bool × Unit) ⊕ Bool))) :=
 cond (decide (y12.1 ≤ (r2.1.length : Int))) (
(atI r1.1 y8.1).bind fun x7 =>
 cond (decide (x7 = (-2))) (
(inI y12.2.1.length y12.1).bind fun i8 =>
(y12.2.1[i8]?).bind fun x9 =>
 cond x9 ((inI y12.2.2.1.length y12.1).bind fun i10 =>
(y12.2.2.1[i10]?).bind fun x11 =>
 some (.inl ((IntKind.wrap .i64 (y12.1 + 1)), y12.2.1, (y12.2.2.1.set i10 true), ()))) (cond (decide (y12.1 > 0)) ((inI y12.2.2.1.length (IntKind.wrap .i64 (y12.1 - 1))).bind fun i12 =>
(y12.2.2.1[i12]?).bind fun x13 =>
(inI y12.2.2.1.length y12.1).bind fun i14 =>
(y12.2.2.1[i14]?).bind fun x15 =>
 some (.inl ((IntKind.wrap .i64 (y12.1 + 1)), y12.2.1, (y12.2.2.1.set i14 x13), ()))) ((inI y12.2.2.1.length y12.1).bind fun i16 =>
(y12.2.2.1[i16]?).bind fun x17 =>
 some (.inl ((IntKind.wrap .i64 (y12.1 + 1)), y12.2.1, (y12.2.2.1.set i16 false), ()))))) (
(cond (decide (y12.1 > 0)) ((inI y12.2.1.length (IntKind.wrap .i64 (y12.1 - 1))).bind fun i18 =>
(y12.2.1[i18]?).bind fun x19 =>
 some (y12.1, x19, y12.2.1, y12.2.2.1, ())) (some (y12.1, false, y12.2.1, y12.2.2.1, ()))).bind fun v20 =>
 cond v20.2.1 ((atI r1.1 y8.1).bind fun x21 =>
 cond (decide (x21 = (-1))) ((inI v20.2.2.2.1.length v20.1).bind fun i22 =>
(v20.2.2.2.1[i22]?).bind fun x23 =>
 some (.inl ((IntKind.wrap .i64 (y12.1 + 1)), v20.2.2.1, (v20.2.2.2.1.set i22 true), ()))) ((atI r1.1 y8.1).bind fun x24 =>
(atI r2.1 (IntKind.wrap .i64 (y12.1 - 1))).bind fun x25 =>
(inI v20.2.2.2.1.length v20.1).bind fun i26 =>
(v20.2.2.2.1[i26]?).bind fun x27 =>
 some (.inl ((IntKind.wrap .i64 (y12.1 + 1)), v20.2.2.1, (v20.2.2.2.1.set i26 (decide (x24 = x25))), ())))) ((inI v20.2.2.2.1.length v20.1).bind fun i28 =>
(v20.2.2.2.1[i28]?).bind fun x29 =>
 some (.inl ((IntKind.wrap .i64 (y12.1 + 1)), v20.2.2.1, (v20.2.2.2.1.set i28 false), ()))))) (
 some (.inr (.inl ((IntKind.wrap .i64 (y8.1 + 1)), y12.2.2.1, ()))))
noncomputable def ref37_Match_l8 (r1 : (List Int × Bool × Unit)) (r2 : (List Int × Bool × Unit)) (y8 : (Int × List Bool × Unit)) : Option ((Int × List Bool × Unit) ⊕ ((List Bool × Unit) ⊕ Bool)) :=
 cond (decide (y8.1 < (r1.1.length : Int))) (
(mkT (IntKind.wrap .i64 ((r2.1.length : Int) + 1)) (IntKind.wrap .i64 ((r2.1.length : Int) + 1))).bind fun u6 =>
 loopT (ref37_Match_l12 y8 r1 r2) (0, y8.2.1, (List.replicate (IntKind.wrap .i64 ((r2.1.length : Int) + 1)).toNat false), ())) (
 some (.inr (.inl (y8.2.1, ()))))
noncomputable def ref37_Match (a0 : List UInt8) (a1 : List UInt8) : Option Bool :=
(ref37_Parts a0).bind fun r1 =>
(ref03_Runes a1).bind fun r2 =>
 cond (!r1.2.1) (some false) (cond (!r2.2.1) (
 some false) (
(mkT (IntKind.wrap .i64 ((r2.1.length : Int) + 1)) (IntKind.wrap .i64 ((r2.1.length : Int) + 1))).bind fun u3 =>
(inI (List.replicate (IntKind.wrap .i64 ((r2.1.length : Int) + 1)).toNat false).length 0).bind fun i4 =>
((List.replicate (IntKind.wrap .i64 ((r2.1.length : Int) + 1)).toNat false)[i4]?).bind fun x5 =>
(loopT (ref37_Match_l8 r1 r2) (0, ((List.replicate (IntKind.wrap .i64 ((r2.1.length : Int) + 1)).toNat false).set i4 true), ()) : Option ((List Bool × Unit) ⊕ Bool)).bind (joinS fun v30 =>
(inI v30.1.length (r2.1.length : Int)).bind fun i31 =>
(v30.1[i31]?).bind fun x32 =>
 some x32)))
noncomputable def ref37_Match_T : TFn := { ps := (.cons .str (.cons .str .unit)), res := .bool, fn := fun v => ref37_Match v.1 v.2.1 }
noncomputable def ref37_Match_V : TEnv := { pure := [(8, ref37_Parts_T), (16, ref03_Runes_T)], look := [], glob := G0T, ty := [(4, .bool)], raw := [] }
theorem ref37_Match_eq : runY Tryd.prog ref37_Match_E ref37_Match_H ref37_Match_V ref37_Match_Y Tryd.f11 ref37_Match_T.ps ref37_Match_T.res = ref37_Match_T.fn := by kernel_rfl
theorem ref37_Match_Fok : SoundP Tryd.prog G0 11 ref37_Match_F := closeF_sound (runF_sound (P := Tryd.prog) (E := ref37_Match_E) (h := ref37_Match_H) (f := 11) (fn := Tryd.f11) ⟨same_ok, (envP_cons ref37_Parts_Fok (envP_cons ref03_Runes_Fok envP_nil)), envS_nil, envP_nil⟩ Tryd.func11 rfl (by kernel_rfl))
theorem ref37_Match_ok : TOk ref37_Match_F ref37_Match_T := runY_ok (E := ref37_Match_E) (ET := ref37_Match_V) (EnvT.ofR (E := ref37_Match_E) (ET := ref37_Match_V) (pairs_cons ref37_Parts_ok (pairs_cons ref03_Runes_ok pairs_nil)) looks_nil raws_nil G0_ok) ref37_Match_eq rfl
-- palinode/palinodelaw37.text
noncomputable def law37_text_E : Env := { pure := [(16, ref03_Runes_F)], raw := [], glob := G0, same := [28], look := [] }
def law37_text_H : Hints := { seqs := [], loops := [], own := [] }
noncomputable def law37_text_F : PFn := closeF (runF Tryd.prog law37_text_E law37_text_H Tryd.f12)
def law37_text_Y : TH := { joins := [], loops := [], cuts := [], ro := [], news := [] }
noncomputable def law37_text (a0 : List UInt8) : Option Bool :=
(ref03_Runes a0).bind fun r1 =>
 cond r1.2.1 (some (decide ((a0.length : Int) ≤ 100))) (some false)
noncomputable def law37_text_T : TFn := { ps := (.cons .str .unit), res := .bool, fn := fun v => law37_text v.1 }
noncomputable def law37_text_V : TEnv := { pure := [(16, ref03_Runes_T)], look := [], glob := G0T, ty := [], raw := [] }
theorem law37_text_eq : runY Tryd.prog law37_text_E law37_text_H law37_text_V law37_text_Y Tryd.f12 law37_text_T.ps law37_text_T.res = law37_text_T.fn := by kernel_rfl
theorem law37_text_Fok : SoundP Tryd.prog G0 12 law37_text_F := closeF_sound (runF_sound (P := Tryd.prog) (E := law37_text_E) (h := law37_text_H) (f := 12) (fn := Tryd.f12) ⟨same_ok, (envP_cons ref03_Runes_Fok envP_nil), envS_nil, envP_nil⟩ Tryd.func12 rfl (by kernel_rfl))
theorem law37_text_ok : TOk law37_text_F law37_text_T := runY_ok (E := law37_text_E) (ET := law37_text_V) (EnvT.ofR (E := law37_text_E) (ET := law37_text_V) (pairs_cons ref03_Runes_ok pairs_nil) looks_nil raws_nil G0_ok) law37_text_eq rfl
-- palinode/palinoderef37.Quote
noncomputable def ref37_Quote_E : Env := { pure := [], raw := [], glob := G0, same := [28], look := [] }
def ref37_Quote_H : Hints := { seqs := [], loops := [(3, [0, 3, 4])], own := [] }
noncomputable def ref37_Quote_F : PFn := closeF (runF Tryd.prog ref37_Quote_E ref37_Quote_H Tryd.f14)
def ref37_Quote_Y : TH := { joins := [(7, { keep := [(3, .str)], mem := [] })], loops := [(3, { keep := [(3, .str), (4, (.int .i64))], mem := [] })], cuts := [], ro := [], news := [] }
noncomputable def ref37_Quote_l3 (a0 : List UInt8) (y3 : (List UInt8 × Int × Unit)) : Option ((List UInt8 × Int × Unit) ⊕ List UInt8) :=
 cond (decide (y3.2.1 < (a0.length : Int))) (
((atI a0 y3.2.1).bind fun b1 =>
 cond (decide ((b1.toNat : Int) = 42)) ((catT y3.1 [92]).bind fun s2 =>
 some (.inl (s2, ()))) ((atI a0 y3.2.1).bind fun b3 =>
 cond (decide ((b3.toNat : Int) = 63)) ((catT y3.1 [92]).bind fun s4 =>
 some (.inl (s4, ()))) ((atI a0 y3.2.1).bind fun b5 =>
 cond (decide ((b5.toNat : Int) = 92)) (
(catT y3.1 [92]).bind fun s6 =>
 some (.inl (s6, ()))) (
 some (.inl (y3.1, ()))))) : Option ((List UInt8 × Unit) ⊕ ((List UInt8 × Int × Unit) ⊕ List UInt8))).bind (joinS fun v7 =>
(subI a0 y3.2.1 (IntKind.wrap .i64 (y3.2.1 + 1))).bind fun s8 =>
(catT v7.1 s8).bind fun s9 =>
 some (.inl (s9, (IntKind.wrap .i64 (y3.2.1 + 1)), ())))) (
 some (.inr y3.1))
noncomputable def ref37_Quote (a0 : List UInt8) : Option (List UInt8) :=
 loopT (ref37_Quote_l3 a0) ([], 0, ())
noncomputable def ref37_Quote_T : TFn := { ps := (.cons .str .unit), res := .str, fn := fun v => ref37_Quote v.1 }
noncomputable def ref37_Quote_V : TEnv := { pure := [], look := [], glob := G0T, ty := [], raw := [] }
theorem ref37_Quote_eq : runY Tryd.prog ref37_Quote_E ref37_Quote_H ref37_Quote_V ref37_Quote_Y Tryd.f14 ref37_Quote_T.ps ref37_Quote_T.res = ref37_Quote_T.fn := by kernel_rfl
theorem ref37_Quote_Fok : SoundP Tryd.prog G0 14 ref37_Quote_F := closeF_sound (runF_sound (P := Tryd.prog) (E := ref37_Quote_E) (h := ref37_Quote_H) (f := 14) (fn := Tryd.f14) ⟨same_ok, envP_nil, envS_nil, envP_nil⟩ Tryd.func14 rfl (by kernel_rfl))
theorem ref37_Quote_ok : TOk ref37_Quote_F ref37_Quote_T := runY_ok (E := ref37_Quote_E) (ET := ref37_Quote_V) (EnvT.ofR (E := ref37_Quote_E) (ET := ref37_Quote_V) pairs_nil looks_nil raws_nil G0_ok) ref37_Quote_eq rfl
-- palinode/glob.Literal
noncomputable def glob_Literal_E : Env := { pure := [(17, glob_parts_F)], raw := [], glob := G0, same := [28], look := [] }
def glob_Literal_H : Hints := { seqs := [], loops := [(4, [5, 6, 14, 15, 16])], own := [30] }
noncomputable def glob_Literal_F : PFn := closeF (runF Tryd.prog glob_Literal_E glob_Literal_H Tryd.f15)
def glob_Literal_Y : TH := { joins := [(10, { keep := [(6, (.own 1))], mem := [.gone, .row true 21 (.int .i32)] })], loops := [(4, { keep := [(6, (.own 1)), (16, (.int .i64))], mem := [.gone, .row true 21 (.int .i32)] })], cuts := [], ro := [], news := [] }
noncomputable def glob_Literal_l4 (r1 : (List (Int × Int × Unit) × Bool × Unit)) (y4 : (Int × List Int × Unit)) : Option ((Int × List Int × Unit) ⊕ ((List Int × Unit) ⊕ (List UInt8 × Bool × Unit))) :=
 cond (decide (y4.1 < (r1.1.length : Int))) (
(atI r1.1 y4.1).bind fun x2 =>
 cond (!decide (x2.1 = 0)) (
 some (.inr (.inr ([], false, ())))) (
(roomT (y4.2.1.length + ([x2.2.1] : List Int).length)).bind fun u3 =>
 some (.inl ((IntKind.wrap .i64 (y4.1 + 1)), (y4.2.1 ++ ([x2.2.1] : List Int)), ())))) (
 some (.inr (.inl (y4.2.1, ()))))
noncomputable def glob_Literal (a0 : List UInt8) : Option (List UInt8 × Bool × Unit) :=
(glob_parts a0).bind fun r1 =>
(loopT (glob_Literal_l4 r1) (0, [], ()) : Option ((List Int × Unit) ⊕ (List UInt8 × Bool × Unit))).bind (joinS fun v4 =>
 some ((v4.1.flatMap fun n => (Utf8.encode n).data.toList), r1.2.1, ()))
noncomputable def glob_Literal_T : TFn := { ps := (.cons .str .unit), res := (.tup (.cons .str (.cons .bool .unit))), fn := fun v => glob_Literal v.1 }
noncomputable def glob_Literal_V : TEnv := { pure := [(17, glob_parts_T)], look := [], glob := G0T, ty := [(21, (.int .i32))], raw := [] }
theorem glob_Literal_eq : runY Tryd.prog glob_Literal_E glob_Literal_H glob_Literal_V glob_Literal_Y Tryd.f15 glob_Literal_T.ps glob_Literal_T.res = glob_Literal_T.fn := by kernel_rfl
theorem glob_Literal_Fok : SoundP Tryd.prog G0 15 glob_Literal_F := closeF_sound (runF_sound (P := Tryd.prog) (E := glob_Literal_E) (h := glob_Literal_H) (f := 15) (fn := Tryd.f15) ⟨same_ok, (envP_cons glob_parts_Fok envP_nil), envS_nil, envP_nil⟩ Tryd.func15 rfl (by kernel_rfl))
theorem glob_Literal_ok : TOk glob_Literal_F glob_Literal_T := runY_ok (E := glob_Literal_E) (ET := glob_Literal_V) (EnvT.ofR (E := glob_Literal_E) (ET := glob_Literal_V) (pairs_cons glob_parts_ok pairs_nil) looks_nil raws_nil G0_ok) glob_Literal_eq rfl
end Go.Proofs.YtnafmjbakholcaaDoor.Y
set_option linter.unusedVariables false
set_option maxRecDepth 100000
namespace Go.Proofs.YtnafmjbakholcaaDoor.K
open Go.EM Go.TY Go.Proofs Go.Proofs.YtnafmjbakholcaaDoor.Y
def utf8_word_string_kH : Hints := { seqs := [], loops := [], own := [] }
noncomputable def utf8_word_string_kE : Env := { pure := [], raw := [], glob := G0, same := [28], look := [] }
noncomputable def utf8_word_string_ks : SFn := runK 60 Tryd.prog utf8_word_string_kE utf8_word_string_kH Tryd.f25
theorem utf8_word_string_kok : SoundS Tryd.prog G0 25 utf8_word_string_ks := soundS_sub (runF_sound (P := Tryd.prog) (E := utf8_word_string_kE) (h := utf8_word_string_kH) (f := 25) (fn := Tryd.f25) ⟨same_ok, envP_nil, envS_nil, envP_nil⟩ Tryd.func25 rfl (by kernel_rfl)) runK_sub
noncomputable def utf8_word_string_kp : PFn := closeF utf8_word_string_ks
theorem utf8_word_string_kpok : SoundP Tryd.prog G0 25 utf8_word_string_kp := closeF_sound utf8_word_string_kok
def utf8_ValidString_kH : Hints := { seqs := [(11, [0, 3])], loops := [(1, [0]), (9, [0])], own := [] }
noncomputable def utf8_ValidString_kE : Env := { pure := [(25, utf8_word_string_kp)], raw := [], glob := G0, same := [28], look := [] }
noncomputable def utf8_ValidString_ks : SFn := runK 60 Tryd.prog utf8_ValidString_kE utf8_ValidString_kH Tryd.f18
theorem utf8_ValidString_kok : SoundS Tryd.prog G0 18 utf8_ValidString_ks := soundS_sub (runF_sound (P := Tryd.prog) (E := utf8_ValidString_kE) (h := utf8_ValidString_kH) (f := 18) (fn := Tryd.f18) ⟨same_ok, (envP_cons utf8_word_string_kpok envP_nil), envS_nil, envP_nil⟩ Tryd.func18 rfl (by kernel_rfl)) runK_sub
noncomputable def utf8_ValidString_kp : PFn := closeF utf8_ValidString_ks
theorem utf8_ValidString_kpok : SoundP Tryd.prog G0 18 utf8_ValidString_kp := closeF_sound utf8_ValidString_kok
def utf8_RuneCountInString_kH : Hints := { seqs := [], loops := [(2, [2, 4])], own := [] }
noncomputable def utf8_RuneCountInString_kE : Env := { pure := [], raw := [], glob := G0, same := [28], look := [] }
noncomputable def utf8_RuneCountInString_ks : SFn := runK 60 Tryd.prog utf8_RuneCountInString_kE utf8_RuneCountInString_kH Tryd.f24
theorem utf8_RuneCountInString_kok : SoundS Tryd.prog G0 24 utf8_RuneCountInString_ks := soundS_sub (runF_sound (P := Tryd.prog) (E := utf8_RuneCountInString_kE) (h := utf8_RuneCountInString_kH) (f := 24) (fn := Tryd.f24) ⟨same_ok, envP_nil, envS_nil, envP_nil⟩ Tryd.func24 rfl (by kernel_rfl)) runK_sub
noncomputable def utf8_RuneCountInString_kp : PFn := closeF utf8_RuneCountInString_ks
theorem utf8_RuneCountInString_kpok : SoundP Tryd.prog G0 24 utf8_RuneCountInString_kp := closeF_sound utf8_RuneCountInString_kok
def glob_special_kH : Hints := { seqs := [], loops := [], own := [] }
noncomputable def glob_special_kE : Env := { pure := [], raw := [], glob := G0, same := [28], look := [] }
noncomputable def glob_special_ks : SFn := runK 60 Tryd.prog glob_special_kE glob_special_kH Tryd.f20
theorem glob_special_kok : SoundS Tryd.prog G0 20 glob_special_ks := soundS_sub (runF_sound (P := Tryd.prog) (E := glob_special_kE) (h := glob_special_kH) (f := 20) (fn := Tryd.f20) ⟨same_ok, envP_nil, envS_nil, envP_nil⟩ Tryd.func20 rfl (by kernel_rfl)) runK_sub
noncomputable def glob_special_kp : PFn := closeF glob_special_ks
theorem glob_special_kpok : SoundP Tryd.prog G0 20 glob_special_kp := closeF_sound glob_special_kok
def glob_parts_kH : Hints := { seqs := [(18, [4, 5])], loops := [(6, [4, 5, 17])], own := [] }
noncomputable def glob_parts_kE : Env := { pure := [(18, utf8_ValidString_kp), (20, glob_special_kp), (24, utf8_RuneCountInString_kp)], raw := [], glob := G0, same := [28], look := [] }
noncomputable def glob_parts_ks : SFn := runK 60 Tryd.prog glob_parts_kE glob_parts_kH Tryd.f17
theorem glob_parts_kok : SoundS Tryd.prog G0 17 glob_parts_ks := soundS_sub (runF_sound (P := Tryd.prog) (E := glob_parts_kE) (h := glob_parts_kH) (f := 17) (fn := Tryd.f17) ⟨same_ok, (envP_cons utf8_ValidString_kpok (envP_cons glob_special_kpok (envP_cons utf8_RuneCountInString_kpok envP_nil))), envS_nil, envP_nil⟩ Tryd.func17 rfl (by kernel_rfl)) runK_sub
noncomputable def glob_parts_kp : PFn := closeF glob_parts_ks
theorem glob_parts_kpok : SoundP Tryd.prog G0 17 glob_parts_kp := closeF_sound glob_parts_kok
def glob_fits_kH : Hints := { seqs := [(14, [0, 5]), (16, [0, 5])], loops := [(3, [0, 1, 5, 6, 7, 8]), (14, [0, 5])], own := [] }
noncomputable def glob_fits_kE : Env := { pure := [], raw := [], glob := G0, same := [28], look := [] }
noncomputable def glob_fits_ks : SFn := runK 60 Tryd.prog glob_fits_kE glob_fits_kH Tryd.f19
theorem glob_fits_kok : SoundS Tryd.prog G0 19 glob_fits_ks := soundS_sub (runF_sound (P := Tryd.prog) (E := glob_fits_kE) (h := glob_fits_kH) (f := 19) (fn := Tryd.f19) ⟨same_ok, envP_nil, envS_nil, envP_nil⟩ Tryd.func19 rfl (by kernel_rfl)) runK_sub
noncomputable def glob_fits_kp : PFn := closeF glob_fits_ks
theorem glob_fits_kpok : SoundP Tryd.prog G0 19 glob_fits_kp := closeF_sound glob_fits_kok
def glob_Match_kH : Hints := { seqs := [], loops := [], own := [20] }
noncomputable def glob_Match_kE : Env := { pure := [(17, glob_parts_kp), (18, utf8_ValidString_kp)], raw := [], glob := G0, same := [28], look := [(19, glob_fits_kp)] }
noncomputable def glob_Match_ks : SFn := runK 60 Tryd.prog glob_Match_kE glob_Match_kH Tryd.f10
theorem glob_Match_kok : SoundS Tryd.prog G0 10 glob_Match_ks := soundS_sub (runF_sound (P := Tryd.prog) (E := glob_Match_kE) (h := glob_Match_kH) (f := 10) (fn := Tryd.f10) ⟨same_ok, (envP_cons glob_parts_kpok (envP_cons utf8_ValidString_kpok envP_nil)), envS_nil, (envP_cons glob_fits_kpok envP_nil)⟩ Tryd.func10 rfl (by kernel_rfl)) runK_sub
noncomputable def glob_Match_kp : PFn := closeF glob_Match_ks
theorem glob_Match_kpok : SoundP Tryd.prog G0 10 glob_Match_kp := closeF_sound glob_Match_kok
def strings_Builder_copyCheck_kH : Hints := { seqs := [], loops := [], own := [6, 9, 11, 19] }
noncomputable def strings_Builder_copyCheck_kE : Env := { pure := [], raw := [], glob := G0, same := [28], look := [] }
noncomputable def strings_Builder_copyCheck_ks : SFn := runK 60 Tryd.prog strings_Builder_copyCheck_kE strings_Builder_copyCheck_kH Tryd.f26
theorem strings_Builder_copyCheck_kok : SoundS Tryd.prog G0 26 strings_Builder_copyCheck_ks := soundS_sub (runF_sound (P := Tryd.prog) (E := strings_Builder_copyCheck_kE) (h := strings_Builder_copyCheck_kH) (f := 26) (fn := Tryd.f26) ⟨same_ok, envP_nil, envS_nil, envP_nil⟩ Tryd.func26 rfl (by kernel_rfl)) runK_sub
def utf8_appendRuneNonASCII_kH : Hints := { seqs := [(7, [0, 1, 5, 25])], loops := [], own := [] }
noncomputable def utf8_appendRuneNonASCII_kE : Env := { pure := [], raw := [], glob := G0, same := [28], look := [] }
noncomputable def utf8_appendRuneNonASCII_ks : SFn := runK 60 Tryd.prog utf8_appendRuneNonASCII_kE utf8_appendRuneNonASCII_kH Tryd.f29
theorem utf8_appendRuneNonASCII_kok : SoundS Tryd.prog G0 29 utf8_appendRuneNonASCII_ks := soundS_sub (runF_sound (P := Tryd.prog) (E := utf8_appendRuneNonASCII_kE) (h := utf8_appendRuneNonASCII_kH) (f := 29) (fn := Tryd.f29) ⟨same_ok, envP_nil, envS_nil, envP_nil⟩ Tryd.func29 rfl (by kernel_rfl)) runK_sub
def utf8_AppendRune_kH : Hints := { seqs := [], loops := [], own := [] }
noncomputable def utf8_AppendRune_kE : Env := { pure := [], raw := [(29, utf8_appendRuneNonASCII_ks)], glob := G0, same := [28], look := [] }
noncomputable def utf8_AppendRune_ks : SFn := runK 60 Tryd.prog utf8_AppendRune_kE utf8_AppendRune_kH Tryd.f27
theorem utf8_AppendRune_kok : SoundS Tryd.prog G0 27 utf8_AppendRune_ks := soundS_sub (runF_sound (P := Tryd.prog) (E := utf8_AppendRune_kE) (h := utf8_AppendRune_kH) (f := 27) (fn := Tryd.f27) ⟨same_ok, envP_nil, (envS_cons utf8_appendRuneNonASCII_kok envS_nil), envP_nil⟩ Tryd.func27 rfl (by kernel_rfl)) runK_sub
def strings_Builder_WriteRune_kH : Hints := { seqs := [], loops := [], own := [] }
noncomputable def strings_Builder_WriteRune_kE : Env := { pure := [], raw := [(26, strings_Builder_copyCheck_ks), (27, utf8_AppendRune_ks)], glob := G0, same := [28], look := [] }
noncomputable def strings_Builder_WriteRune_ks : SFn := runK 60 Tryd.prog strings_Builder_WriteRune_kE strings_Builder_WriteRune_kH Tryd.f21
theorem strings_Builder_WriteRune_kok : SoundS Tryd.prog G0 21 strings_Builder_WriteRune_ks := soundS_sub (runF_sound (P := Tryd.prog) (E := strings_Builder_WriteRune_kE) (h := strings_Builder_WriteRune_kH) (f := 21) (fn := Tryd.f21) ⟨same_ok, envP_nil, (envS_cons strings_Builder_copyCheck_kok (envS_cons utf8_AppendRune_kok envS_nil)), envP_nil⟩ Tryd.func21 rfl (by kernel_rfl)) runK_sub
def strings_Builder_String_kH : Hints := { seqs := [], loops := [], own := [] }
noncomputable def strings_Builder_String_kE : Env := { pure := [], raw := [], glob := G0, same := [28], look := [] }
noncomputable def strings_Builder_String_ks : SFn := runK 60 Tryd.prog strings_Builder_String_kE strings_Builder_String_kH Tryd.f22
theorem strings_Builder_String_kok : SoundS Tryd.prog G0 22 strings_Builder_String_ks := soundS_sub (runF_sound (P := Tryd.prog) (E := strings_Builder_String_kE) (h := strings_Builder_String_kH) (f := 22) (fn := Tryd.f22) ⟨same_ok, envP_nil, envS_nil, envP_nil⟩ Tryd.func22 rfl (by kernel_rfl)) runK_sub
def glob_Quote_kH : Hints := { seqs := [], loops := [(3, [3, 7])], own := [] }
noncomputable def glob_Quote_kE : Env := { pure := [(20, glob_special_kp)], raw := [(21, strings_Builder_WriteRune_ks), (22, strings_Builder_String_ks)], glob := G0, same := [28], look := [] }
noncomputable def glob_Quote_ks : SFn := runK 60 Tryd.prog glob_Quote_kE glob_Quote_kH Tryd.f13
theorem glob_Quote_kok : SoundS Tryd.prog G0 13 glob_Quote_ks := soundS_sub (runF_sound (P := Tryd.prog) (E := glob_Quote_kE) (h := glob_Quote_kH) (f := 13) (fn := Tryd.f13) ⟨same_ok, (envP_cons glob_special_kpok envP_nil), (envS_cons strings_Builder_WriteRune_kok (envS_cons strings_Builder_String_kok envS_nil)), envP_nil⟩ Tryd.func13 rfl (by kernel_rfl)) runK_sub
noncomputable def glob_Quote_kp : PFn := closeF glob_Quote_ks
theorem glob_Quote_kpok : SoundP Tryd.prog G0 13 glob_Quote_kp := closeF_sound glob_Quote_kok
def glob_Right_kH : Hints := { seqs := [], loops := [], own := [] }
noncomputable def glob_Right_kE : Env := { pure := [(17, glob_parts_kp)], raw := [], glob := G0, same := [28], look := [] }
noncomputable def glob_Right_ks : SFn := runK 60 Tryd.prog glob_Right_kE glob_Right_kH Tryd.f9
theorem glob_Right_kok : SoundS Tryd.prog G0 9 glob_Right_ks := soundS_sub (runF_sound (P := Tryd.prog) (E := glob_Right_kE) (h := glob_Right_kH) (f := 9) (fn := Tryd.f9) ⟨same_ok, (envP_cons glob_parts_kpok envP_nil), envS_nil, envP_nil⟩ Tryd.func9 rfl (by kernel_rfl)) runK_sub
noncomputable def glob_Right_kp : PFn := closeF glob_Right_ks
theorem glob_Right_kpok : SoundP Tryd.prog G0 9 glob_Right_kp := closeF_sound glob_Right_kok
def law37_awake_kH : Hints := { seqs := [], loops := [], own := [] }
noncomputable def law37_awake_kE : Env := { pure := [(9, glob_Right_kp), (10, glob_Match_kp), (13, glob_Quote_kp)], raw := [], glob := G0, same := [28], look := [] }
noncomputable def law37_awake_ks : SFn := runK 60 Tryd.prog law37_awake_kE law37_awake_kH Tryd.f7
theorem law37_awake_kok : SoundS Tryd.prog G0 7 law37_awake_ks := soundS_sub (runF_sound (P := Tryd.prog) (E := law37_awake_kE) (h := law37_awake_kH) (f := 7) (fn := Tryd.f7) ⟨same_ok, (envP_cons glob_Right_kpok (envP_cons glob_Match_kpok (envP_cons glob_Quote_kpok envP_nil))), envS_nil, envP_nil⟩ Tryd.func7 rfl (by kernel_rfl)) runK_sub
noncomputable def law37_awake_kp : PFn := closeF law37_awake_ks
theorem law37_awake_kpok : SoundP Tryd.prog G0 7 law37_awake_kp := closeF_sound law37_awake_kok
theorem law37_awake_kt : law37_awake_kp [] = some (.bool true) := by kernel_rfl
noncomputable def law37_awake_F : PFn := fun xs => match xs with | [] => some (.bool true) | _ => none
theorem law37_awake_Fok : SoundP Tryd.prog G0 7 law37_awake_F := soundP_at law37_awake_kpok law37_awake_kt
def law37_awake : Option Bool := some true
noncomputable def law37_awake_T : TFn := { ps := .unit, res := .bool, fn := fun _ => law37_awake }
theorem law37_awake_ok : TOk law37_awake_F law37_awake_T := given_bool rfl
end Go.Proofs.YtnafmjbakholcaaDoor.K
set_option linter.unusedVariables false
set_option maxRecDepth 100000
namespace Go.Proofs.YtnafmjbakholcaaDoor.L
open Go.EM Go.TY Go.Proofs Go.Proofs.YtnafmjbakholcaaDoor.Y Go.Proofs.YtnafmjbakholcaaDoor.K
-- palinode/palinodelaw37.GlobTells
noncomputable def law37_GlobTells_E : Env := { pure := [(7, law37_awake_F), (8, ref37_Parts_F), (9, glob_Right_F), (10, glob_Match_F), (11, ref37_Match_F), (12, law37_text_F), (13, glob_Quote_F), (14, ref37_Quote_F)], raw := [], glob := G0, same := [28], look := [] }
def law37_GlobTells_H : Hints := { seqs := [], loops := [], own := [] }
noncomputable def law37_GlobTells_F : PFn := closeF (runF Tryd.prog law37_GlobTells_E law37_GlobTells_H Tryd.f3)
def law37_GlobTells_Y : TH := { joins := [], loops := [], cuts := [(4, [(13, { keep := [(33, .bool)], mem := [] })])], ro := [], news := [] }
noncomputable def law37_GlobTells (a0 : List UInt8) (a1 : List UInt8) : Option Bool :=
 cond (decide ((a0.length : Int) > 200)) ((law37_awake).bind fun r1 =>
 some r1) (cond (decide ((a1.length : Int) > 200)) (
(law37_awake).bind fun r2 =>
 some r2) (
(ref37_Parts a0).bind fun r3 =>
((glob_Right a0).bind fun r4 =>
 cond (r4 == r3.2.1) ((glob_Match a0 a1).bind fun r5 =>
(ref37_Match a0 a1).bind fun r6 =>
 some ((r5 == r6), ())) (some (false, ()))).bind fun v7 =>
 cond v7.1 ((law37_text a1).bind fun r8 =>
 cond (!r8) ((law37_awake).bind fun r9 =>
 some r9) ((glob_Quote a1).bind fun r10 =>
(ref37_Quote a1).bind fun r11 =>
 cond (decide (r10 = r11)) ((law37_awake).bind fun r12 =>
 some r12) (some false))) (some false)))
noncomputable def law37_GlobTells_T : TFn := { ps := (.cons .str (.cons .str .unit)), res := .bool, fn := fun v => law37_GlobTells v.1 v.2.1 }
noncomputable def law37_GlobTells_V : TEnv := { pure := [(7, law37_awake_T), (8, ref37_Parts_T), (9, glob_Right_T), (10, glob_Match_T), (11, ref37_Match_T), (12, law37_text_T), (13, glob_Quote_T), (14, ref37_Quote_T)], look := [], glob := G0T, ty := [], raw := [] }
theorem law37_GlobTells_eq : runY Tryd.prog law37_GlobTells_E law37_GlobTells_H law37_GlobTells_V law37_GlobTells_Y Tryd.f3 law37_GlobTells_T.ps law37_GlobTells_T.res = law37_GlobTells_T.fn := by kernel_rfl
theorem law37_GlobTells_Fok : SoundP Tryd.prog G0 3 law37_GlobTells_F := closeF_sound (runF_sound (P := Tryd.prog) (E := law37_GlobTells_E) (h := law37_GlobTells_H) (f := 3) (fn := Tryd.f3) ⟨same_ok, (envP_cons law37_awake_Fok (envP_cons ref37_Parts_Fok (envP_cons glob_Right_Fok (envP_cons glob_Match_Fok (envP_cons ref37_Match_Fok (envP_cons law37_text_Fok (envP_cons glob_Quote_Fok (envP_cons ref37_Quote_Fok envP_nil)))))))), envS_nil, envP_nil⟩ Tryd.func3 rfl (by kernel_rfl))
theorem law37_GlobTells_ok : TOk law37_GlobTells_F law37_GlobTells_T := runY_ok (E := law37_GlobTells_E) (ET := law37_GlobTells_V) (EnvT.ofR (E := law37_GlobTells_E) (ET := law37_GlobTells_V) (pairs_cons law37_awake_ok (pairs_cons ref37_Parts_ok (pairs_cons glob_Right_ok (pairs_cons glob_Match_ok (pairs_cons ref37_Match_ok (pairs_cons law37_text_ok (pairs_cons glob_Quote_ok (pairs_cons ref37_Quote_ok pairs_nil)))))))) looks_nil raws_nil G0_ok) law37_GlobTells_eq rfl
-- palinode/palinodelaw37.GlobJoins
noncomputable def law37_GlobJoins_E : Env := { pure := [(7, law37_awake_F), (9, glob_Right_F), (10, glob_Match_F), (12, law37_text_F)], raw := [], glob := G0, same := [28], look := [] }
def law37_GlobJoins_H : Hints := { seqs := [], loops := [], own := [] }
noncomputable def law37_GlobJoins_F : PFn := closeF (runF Tryd.prog law37_GlobJoins_E law37_GlobJoins_H Tryd.f4)
def law37_GlobJoins_Y : TH := { joins := [(6, { keep := [], mem := [] })], loops := [], cuts := [(1, [(8, { keep := [(17, .bool)], mem := [] }), (5, { keep := [(22, .bool)], mem := [] })]), (4, [(7, { keep := [(48, .bool)], mem := [] })])], ro := [], news := [] }
noncomputable def law37_GlobJoins (a0 : List UInt8) (a1 : List UInt8) (a2 : List UInt8) (a3 : List UInt8) : Option Bool :=
((law37_text a0).bind fun r1 =>
 cond (!r1) (some (true, ())) ((law37_text a1).bind fun r2 =>
 some ((!r2), ()))).bind fun v3 =>
(cond v3.1 (some (true, ())) ((law37_text a2).bind fun r4 =>
 some ((!r4), ()))).bind fun v5 =>
 cond v5.1 ((law37_awake).bind fun r6 =>
 some r6) ((law37_text a3).bind fun r7 =>
 cond (!r7) ((law37_awake).bind fun r8 =>
 some r8) ((glob_Right a0).bind fun r9 =>
 cond (!r9) ((law37_awake).bind fun r10 =>
 some r10) ((glob_Right a1).bind fun r11 =>
 cond (!r11) (
(law37_awake).bind fun r12 =>
 some r12) (
(catT a0 a1).bind fun s13 =>
(((glob_Right s13).bind fun r14 =>
 cond r14 ((glob_Match a0 a2).bind fun r15 =>
 some (r15, ())) (some (false, ()))).bind fun v16 =>
 cond v16.1 ((glob_Match a1 a3).bind fun r17 =>
 cond r17 ((catT a2 a3).bind fun s18 =>
(glob_Match s13 s18).bind fun r19 =>
 cond (!r19) (
 some (.inr false)) (
 some (.inl ()))) (some (.inl ()))) (some (.inl ())) : Option (Unit ⊕ Bool)).bind (joinS fun v20 =>
(glob_Match [42] a2).bind fun r21 =>
 cond r21 ((glob_Match [] a2).bind fun r22 =>
 cond (r22 == (decide (a2 = []))) ((law37_awake).bind fun r23 =>
 some r23) (some false)) (some false))))))
noncomputable def law37_GlobJoins_T : TFn := { ps := (.cons .str (.cons .str (.cons .str (.cons .str .unit)))), res := .bool, fn := fun v => law37_GlobJoins v.1 v.2.1 v.2.2.1 v.2.2.2.1 }
noncomputable def law37_GlobJoins_V : TEnv := { pure := [(7, law37_awake_T), (9, glob_Right_T), (10, glob_Match_T), (12, law37_text_T)], look := [], glob := G0T, ty := [], raw := [] }
theorem law37_GlobJoins_eq : runY Tryd.prog law37_GlobJoins_E law37_GlobJoins_H law37_GlobJoins_V law37_GlobJoins_Y Tryd.f4 law37_GlobJoins_T.ps law37_GlobJoins_T.res = law37_GlobJoins_T.fn := by kernel_rfl
theorem law37_GlobJoins_Fok : SoundP Tryd.prog G0 4 law37_GlobJoins_F := closeF_sound (runF_sound (P := Tryd.prog) (E := law37_GlobJoins_E) (h := law37_GlobJoins_H) (f := 4) (fn := Tryd.f4) ⟨same_ok, (envP_cons law37_awake_Fok (envP_cons glob_Right_Fok (envP_cons glob_Match_Fok (envP_cons law37_text_Fok envP_nil)))), envS_nil, envP_nil⟩ Tryd.func4 rfl (by kernel_rfl))
theorem law37_GlobJoins_ok : TOk law37_GlobJoins_F law37_GlobJoins_T := runY_ok (E := law37_GlobJoins_E) (ET := law37_GlobJoins_V) (EnvT.ofR (E := law37_GlobJoins_E) (ET := law37_GlobJoins_V) (pairs_cons law37_awake_ok (pairs_cons glob_Right_ok (pairs_cons glob_Match_ok (pairs_cons law37_text_ok pairs_nil)))) looks_nil raws_nil G0_ok) law37_GlobJoins_eq rfl
-- palinode/palinodelaw37.GlobQuotes
noncomputable def law37_GlobQuotes_E : Env := { pure := [(7, law37_awake_F), (9, glob_Right_F), (10, glob_Match_F), (12, law37_text_F), (13, glob_Quote_F), (15, glob_Literal_F)], raw := [], glob := G0, same := [28], look := [] }
def law37_GlobQuotes_H : Hints := { seqs := [], loops := [], own := [] }
noncomputable def law37_GlobQuotes_F : PFn := closeF (runF Tryd.prog law37_GlobQuotes_E law37_GlobQuotes_H Tryd.f5)
def law37_GlobQuotes_Y : TH := { joins := [], loops := [], cuts := [(7, [(6, { keep := [(47, .bool)], mem := [] })])], ro := [], news := [] }
noncomputable def law37_GlobQuotes (a0 : List UInt8) (a1 : List UInt8) : Option Bool :=
(law37_text a0).bind fun r1 =>
 cond (!r1) ((law37_awake).bind fun r2 =>
 some r2) ((law37_text a1).bind fun r3 =>
 cond (!r3) (
(law37_awake).bind fun r4 =>
 some r4) (
(glob_Quote a0).bind fun r5 =>
(glob_Literal r5).bind fun r6 =>
(glob_Right r5).bind fun r7 =>
 cond (!r7) (
 cond (!r6.2.1) (cond (decide (r6.1 = [])) ((glob_Match r5 a1).bind fun r8 =>
 cond (!r8) ((law37_awake).bind fun r9 =>
 some r9) (some false)) (some false)) (some false)) (
(cond r6.2.1 (some ((decide (r6.1 = a0)), ())) (some (false, ()))).bind fun v10 =>
 cond v10.1 ((glob_Match r5 a1).bind fun r11 =>
 cond (r11 == (decide (a0 = a1))) ((law37_awake).bind fun r12 =>
 some r12) (some false)) (some false))))
noncomputable def law37_GlobQuotes_T : TFn := { ps := (.cons .str (.cons .str .unit)), res := .bool, fn := fun v => law37_GlobQuotes v.1 v.2.1 }
noncomputable def law37_GlobQuotes_V : TEnv := { pure := [(7, law37_awake_T), (9, glob_Right_T), (10, glob_Match_T), (12, law37_text_T), (13, glob_Quote_T), (15, glob_Literal_T)], look := [], glob := G0T, ty := [], raw := [] }
theorem law37_GlobQuotes_eq : runY Tryd.prog law37_GlobQuotes_E law37_GlobQuotes_H law37_GlobQuotes_V law37_GlobQuotes_Y Tryd.f5 law37_GlobQuotes_T.ps law37_GlobQuotes_T.res = law37_GlobQuotes_T.fn := by kernel_rfl
theorem law37_GlobQuotes_Fok : SoundP Tryd.prog G0 5 law37_GlobQuotes_F := closeF_sound (runF_sound (P := Tryd.prog) (E := law37_GlobQuotes_E) (h := law37_GlobQuotes_H) (f := 5) (fn := Tryd.f5) ⟨same_ok, (envP_cons law37_awake_Fok (envP_cons glob_Right_Fok (envP_cons glob_Match_Fok (envP_cons law37_text_Fok (envP_cons glob_Quote_Fok (envP_cons glob_Literal_Fok envP_nil)))))), envS_nil, envP_nil⟩ Tryd.func5 rfl (by kernel_rfl))
theorem law37_GlobQuotes_ok : TOk law37_GlobQuotes_F law37_GlobQuotes_T := runY_ok (E := law37_GlobQuotes_E) (ET := law37_GlobQuotes_V) (EnvT.ofR (E := law37_GlobQuotes_E) (ET := law37_GlobQuotes_V) (pairs_cons law37_awake_ok (pairs_cons glob_Right_ok (pairs_cons glob_Match_ok (pairs_cons law37_text_ok (pairs_cons glob_Quote_ok (pairs_cons glob_Literal_ok pairs_nil)))))) looks_nil raws_nil G0_ok) law37_GlobQuotes_eq rfl
-- palinode/palinodelaw37.GlobLiteral
noncomputable def law37_GlobLiteral_E : Env := { pure := [(7, law37_awake_F), (8, ref37_Parts_F), (10, glob_Match_F), (15, glob_Literal_F)], raw := [], glob := G0, same := [28], look := [] }
def law37_GlobLiteral_H : Hints := { seqs := [], loops := [(6, [0, 1, 5, 6, 7, 8])], own := [] }
noncomputable def law37_GlobLiteral_F : PFn := closeF (runF Tryd.prog law37_GlobLiteral_E law37_GlobLiteral_H Tryd.f6)
def law37_GlobLiteral_Y : TH := { joins := [(9, { keep := [(7, .bool)], mem := [] }), (12, { keep := [], mem := [] })], loops := [(6, { keep := [(7, .bool), (8, (.int .i64))], mem := [] })], cuts := [(12, [(6, { keep := [(56, .bool)], mem := [] })])], ro := [], news := [] }
noncomputable def law37_GlobLiteral_l6 (r3 : (List Int × Bool × Unit)) (y6 : (Bool × Int × Unit)) : Option ((Bool × Int × Unit) ⊕ ((Bool × Unit) ⊕ Bool)) :=
 cond (decide (y6.2.1 < (r3.1.length : Int))) (
 cond y6.1 (some (.inl (true, (IntKind.wrap .i64 (y6.2.1 + 1)), ()))) ((atI r3.1 y6.2.1).bind fun x4 =>
 some (.inl ((decide (x4 < 0)), (IntKind.wrap .i64 (y6.2.1 + 1)), ())))) (
 some (.inr (.inl (y6.1, ()))))
noncomputable def law37_GlobLiteral (a0 : List UInt8) (a1 : List UInt8) : Option Bool :=
 cond (decide ((a0.length : Int) > 200)) ((law37_awake).bind fun r1 =>
 some r1) (cond (decide ((a1.length : Int) > 200)) (
(law37_awake).bind fun r2 =>
 some r2) (
(ref37_Parts a0).bind fun r3 =>
(loopT (law37_GlobLiteral_l6 r3) (false, 0, ()) : Option ((Bool × Unit) ⊕ Bool)).bind (joinS fun v5 =>
(glob_Literal a0).bind fun r6 =>
(cond r3.2.1 (cond (!(r6.2.1 == (!v5.1))) (
 some (.inr false)) (
 some (.inl ()))) (cond (!(r6.2.1 == false)) (
 some (.inr false)) (
 some (.inl ()))) : Option (Unit ⊕ Bool)).bind (joinS fun v7 =>
(cond r6.2.1 ((glob_Match a0 r6.1).bind fun r8 =>
 some (r8, ())) (some (false, ()))).bind fun v9 =>
 cond v9.1 ((glob_Match a0 a1).bind fun r10 =>
 cond (r10 == (decide (a1 = r6.1))) ((law37_awake).bind fun r11 =>
 some r11) (cond (!r6.2.1) (cond (decide (r6.1 = [])) ((law37_awake).bind fun r12 =>
 some r12) (some false)) (some false))) (cond (!r6.2.1) (cond (decide (r6.1 = [])) ((law37_awake).bind fun r13 =>
 some r13) (some false)) (some false))))))
noncomputable def law37_GlobLiteral_T : TFn := { ps := (.cons .str (.cons .str .unit)), res := .bool, fn := fun v => law37_GlobLiteral v.1 v.2.1 }
noncomputable def law37_GlobLiteral_V : TEnv := { pure := [(7, law37_awake_T), (8, ref37_Parts_T), (10, glob_Match_T), (15, glob_Literal_T)], look := [], glob := G0T, ty := [], raw := [] }
theorem law37_GlobLiteral_eq : runY Tryd.prog law37_GlobLiteral_E law37_GlobLiteral_H law37_GlobLiteral_V law37_GlobLiteral_Y Tryd.f6 law37_GlobLiteral_T.ps law37_GlobLiteral_T.res = law37_GlobLiteral_T.fn := by kernel_rfl
theorem law37_GlobLiteral_Fok : SoundP Tryd.prog G0 6 law37_GlobLiteral_F := closeF_sound (runF_sound (P := Tryd.prog) (E := law37_GlobLiteral_E) (h := law37_GlobLiteral_H) (f := 6) (fn := Tryd.f6) ⟨same_ok, (envP_cons law37_awake_Fok (envP_cons ref37_Parts_Fok (envP_cons glob_Match_Fok (envP_cons glob_Literal_Fok envP_nil)))), envS_nil, envP_nil⟩ Tryd.func6 rfl (by kernel_rfl))
theorem law37_GlobLiteral_ok : TOk law37_GlobLiteral_F law37_GlobLiteral_T := runY_ok (E := law37_GlobLiteral_E) (ET := law37_GlobLiteral_V) (EnvT.ofR (E := law37_GlobLiteral_E) (ET := law37_GlobLiteral_V) (pairs_cons law37_awake_ok (pairs_cons ref37_Parts_ok (pairs_cons glob_Match_ok (pairs_cons glob_Literal_ok pairs_nil)))) looks_nil raws_nil G0_ok) law37_GlobLiteral_eq rfl
end Go.Proofs.YtnafmjbakholcaaDoor.L
