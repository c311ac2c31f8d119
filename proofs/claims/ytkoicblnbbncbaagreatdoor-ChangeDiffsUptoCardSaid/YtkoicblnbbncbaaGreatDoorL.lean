import Derived.Test.YtkoicblnbbncbaaGreatDoorS
import Derived.Test.YtkoicblnbbncbaaGreatDoorT22
import Derived.Test.YtkoicblnbbncbaaGreatDoorE19
import Derived.Test.YtkoicblnbbncbaaGreatDoorT14
set_option linter.unusedVariables false
set_option maxRecDepth 100000
namespace Go.Proofs.YtkoicblnbbncbaaGreatDoor.Y
open Go.EM Go.TY Go.Proofs
noncomputable def G0 : List (Nat × AVal) := [(0, .rptr tabFirst8), (1, .rptr tabAccept8), (3, .rptr (Lib.pow10Tab.map (AVal.int .u64)))]
def G0T : List (Nat × TV) := []
theorem G0_ok : GlobsOk G0 G0T := globs_nil
theorem same_ok : ∀ f, memN f [76] = true → Same Tryz.prog f := by
  intro f h
  by_cases e76 : f = 76
  · subst e76; exact ⟨Tryz.f76, Tryz.func76, by kernel_rfl, by kernel_rfl, by kernel_rfl, by kernel_rfl⟩
  simp_all [memN]
-- palinode/palinoderef10.Short
noncomputable def ref10_Short_E : Env := { pure := [], raw := [], glob := G0, same := [76], look := [], ext := [] }
def ref10_Short_H : Hints := { seqs := [], loops := [(4, [0, 3])], own := [] }
noncomputable def ref10_Short_F : PFn := closeF (runF Tryz.prog ref10_Short_E ref10_Short_H Tryz.f16)
def ref10_Short_Y : TH := { joins := [], loops := [(4, { keep := [(3, (.int .i64))], mem := [] })], cuts := [], ro := [], news := [] }
noncomputable def ref10_Short_l4 (a0 : List (List UInt8)) (y4 : (Int × Unit)) : Option ((Int × Unit) ⊕ Bool) :=
 cond (decide (y4.1 < (a0.length : Int))) (
(atI a0 y4.1).bind fun x1 =>
 cond (decide ((x1.length : Int) > 120)) (
 some (.inr false)) (
 some (.inl ((IntKind.wrap .i64 (y4.1 + 1)), ())))) (
 some (.inr true))
noncomputable def ref10_Short (a0 : List (List UInt8)) : Option Bool :=
 cond (decide ((a0.length : Int) > 12)) (
 some false) (
 loopT (ref10_Short_l4 a0) (0, ()))
noncomputable def ref10_Short_T : TFn := { ps := (.cons (.sl .str) .unit), res := .bool, fn := fun v => ref10_Short v.1 }
noncomputable def ref10_Short_V : TEnv := { pure := [], look := [], glob := G0T, ty := [], raw := [], fresh := [] }
theorem ref10_Short_eq : runY Tryz.prog ref10_Short_E ref10_Short_H ref10_Short_V ref10_Short_Y Tryz.f16 ref10_Short_T.ps ref10_Short_T.res = ref10_Short_T.fn := by kernel_rfl
theorem ref10_Short_Fok : SoundP Tryz.prog G0 16 ref10_Short_F := closeF_sound (runF_sound (P := Tryz.prog) (E := ref10_Short_E) (h := ref10_Short_H) (f := 16) (fn := Tryz.f16) ⟨same_ok, envP_nil, envS_nil, envP_nil, envX_nil⟩ Tryz.func16 rfl (by kernel_rfl))
theorem ref10_Short_ok : TOk ref10_Short_F ref10_Short_T := runY_ok (E := ref10_Short_E) (ET := ref10_Short_V) (EnvT.ofX (E := ref10_Short_E) (ET := ref10_Short_V) (pure_of pairs_nil) looks_nil raws_nil G0_ok news_nil) ref10_Short_eq rfl
-- palinode/palinoderef03.Char
noncomputable def ref03_Char_E : Env := { pure := [], raw := [], glob := G0, same := [76], look := [], ext := [] }
def ref03_Char_H : Hints := { seqs := [], loops := [(17, [0, 4, 5, 6, 7])], own := [] }
noncomputable def ref03_Char_F : PFn := closeF (runF Tryz.prog ref03_Char_E ref03_Char_H Tryz.f64)
def ref03_Char_Y : TH := { joins := [(14, { keep := [(4, (.int .i64)), (5, (.int .i64)), (6, (.int .i64))], mem := [] }), (9, { keep := [(18, .bool)], mem := [] }), (22, { keep := [(4, (.int .i64))], mem := [] }), (24, { keep := [], mem := [] })], loops := [(17, { keep := [(4, (.int .i64)), (7, (.int .i64))], mem := [] })], cuts := [], ro := [], news := [] }
noncomputable def ref03_Char_l17 (a0 : List UInt8) (v3 : (Int × Int × Int × Unit)) (y17 : (Int × Int × Unit)) : Option ((Int × Int × Unit) ⊕ ((Int × Unit) ⊕ (Int × Int × Unit))) :=
 cond (decide (y17.2.1 < v3.2.1)) (
(atI a0 y17.2.1).bind fun b4 =>
 cond (decide ((b4.toNat : Int) < 128)) (some (.inr (.inr (0, 0, ())))) ((atI a0 y17.2.1).bind fun b5 =>
 cond (decide ((b5.toNat : Int) > 191)) (
 some (.inr (.inr (0, 0, ())))) (
(atI a0 y17.2.1).bind fun b6 =>
 some (.inl ((IntKind.wrap .i64 ((IntKind.wrap .i64 ((IntKind.wrap .i64 (64 * y17.1)) + (IntKind.wrap .i64 (b6.toNat : Int)))) - 128)), (IntKind.wrap .i64 (y17.2.1 + 1)), ()))))) (
 some (.inr (.inl (y17.1, ()))))
noncomputable def ref03_Char (a0 : List UInt8) : Option (Int × Int × Unit) :=
 cond (decide ((a0.length : Int) = 0)) (
 some (0, 0, ())) (
(atI a0 0).bind fun b1 =>
(cond (decide ((IntKind.wrap .i64 (b1.toNat : Int)) < 128)) (
 some (.inr ((IntKind.wrap .i64 (b1.toNat : Int)), 1, ()))) (
(cond (decide ((IntKind.wrap .i64 (b1.toNat : Int)) ≥ 194)) (some (.inl ((decide ((IntKind.wrap .i64 (b1.toNat : Int)) < 224)), ()))) (some (.inl (false, ()))) : Option ((Bool × Unit) ⊕ ((Int × Int × Int × Unit) ⊕ (Int × Int × Unit)))).bind (joinS fun v2 =>
 cond v2.1 (
 some (.inl ((IntKind.wrap .i64 ((IntKind.wrap .i64 (b1.toNat : Int)) - 192)), 2, 128, ()))) (
 cond (decide ((IntKind.wrap .i64 (b1.toNat : Int)) ≥ 224)) (cond (decide ((IntKind.wrap .i64 (b1.toNat : Int)) < 240)) (
 some (.inl ((IntKind.wrap .i64 ((IntKind.wrap .i64 (b1.toNat : Int)) - 224)), 3, 2048, ()))) (
 cond (decide ((IntKind.wrap .i64 (b1.toNat : Int)) ≥ 240)) (cond (decide ((IntKind.wrap .i64 (b1.toNat : Int)) < 245)) (
 some (.inl ((IntKind.wrap .i64 ((IntKind.wrap .i64 (b1.toNat : Int)) - 240)), 4, 65536, ()))) (
 some (.inr (0, 0, ())))) (some (.inr (0, 0, ()))))) (cond (decide ((IntKind.wrap .i64 (b1.toNat : Int)) ≥ 240)) (cond (decide ((IntKind.wrap .i64 (b1.toNat : Int)) < 245)) (
 some (.inl ((IntKind.wrap .i64 ((IntKind.wrap .i64 (b1.toNat : Int)) - 240)), 4, 65536, ()))) (
 some (.inr (0, 0, ())))) (some (.inr (0, 0, ()))))))) : Option ((Int × Int × Int × Unit) ⊕ (Int × Int × Unit))).bind (joinS fun v3 =>
 cond (decide ((a0.length : Int) < v3.2.1)) (
 some (0, 0, ())) (
(loopT (ref03_Char_l17 a0 v3) (v3.1, 1, ()) : Option ((Int × Unit) ⊕ (Int × Int × Unit))).bind (joinS fun v7 =>
(cond (decide (v7.1 < v3.2.2.1)) (some (.inr (0, 0, ()))) (cond (decide (v7.1 > 1114111)) (some (.inr (0, 0, ()))) (cond (decide (v7.1 ≥ 55296)) (cond (decide (v7.1 ≤ 57343)) (
 some (.inr (0, 0, ()))) (
 some (.inl ()))) (some (.inl ())))) : Option (Unit ⊕ (Int × Int × Unit))).bind (joinS fun v8 =>
 some (v7.1, v3.2.1, ()))))))
noncomputable def ref03_Char_T : TFn := { ps := (.cons .str .unit), res := (.tup (.cons (.int .i64) (.cons (.int .i64) .unit))), fn := fun v => ref03_Char v.1 }
noncomputable def ref03_Char_V : TEnv := { pure := [], look := [], glob := G0T, ty := [], raw := [], fresh := [] }
theorem ref03_Char_eq : runY Tryz.prog ref03_Char_E ref03_Char_H ref03_Char_V ref03_Char_Y Tryz.f64 ref03_Char_T.ps ref03_Char_T.res = ref03_Char_T.fn := by kernel_rfl
theorem ref03_Char_Fok : SoundP Tryz.prog G0 64 ref03_Char_F := closeF_sound (runF_sound (P := Tryz.prog) (E := ref03_Char_E) (h := ref03_Char_H) (f := 64) (fn := Tryz.f64) ⟨same_ok, envP_nil, envS_nil, envP_nil, envX_nil⟩ Tryz.func64 rfl (by kernel_rfl))
theorem ref03_Char_ok : TOk ref03_Char_F ref03_Char_T := runY_ok (E := ref03_Char_E) (ET := ref03_Char_V) (EnvT.ofX (E := ref03_Char_E) (ET := ref03_Char_V) (pure_of pairs_nil) looks_nil raws_nil G0_ok news_nil) ref03_Char_eq rfl
-- palinode/palinoderef03.Runes
noncomputable def ref03_Runes_E : Env := { pure := [(64, ref03_Char_F)], raw := [], glob := G0, same := [76], look := [], ext := [] }
def ref03_Runes_H : Hints := { seqs := [], loops := [(3, [0, 4, 5])], own := [] }
noncomputable def ref03_Runes_F : PFn := closeF (runF Tryz.prog ref03_Runes_E ref03_Runes_H Tryz.f35)
def ref03_Runes_Y : TH := { joins := [], loops := [(3, { keep := [(4, (.own 0)), (5, (.int .i64))], mem := [.row true 3 (.int .i64)] })], cuts := [], ro := [], news := [] }
noncomputable def ref03_Runes_l3 (a0 : List UInt8) (y3 : (Int × List Int × Unit)) : Option ((Int × List Int × Unit) ⊕ (List Int × Bool × Unit)) :=
 cond (decide (y3.1 < (a0.length : Int))) (
(subI a0 y3.1 (a0.length : Int)).bind fun s1 =>
(ref03_Char s1).bind fun r2 =>
 cond (decide (r2.2.1 = 0)) (
 some (.inr ([], false, ()))) (
(roomT (y3.2.1.length + ([r2.1] : List Int).length)).bind fun u3 =>
 some (.inl ((IntKind.wrap .i64 (y3.1 + r2.2.1)), (y3.2.1 ++ ([r2.1] : List Int)), ())))) (
 some (.inr (y3.2.1, true, ())))
noncomputable def ref03_Runes (a0 : List UInt8) : Option (List Int × Bool × Unit) :=
 loopT (ref03_Runes_l3 a0) (0, [], ())
noncomputable def ref03_Runes_T : TFn := { ps := (.cons .str .unit), res := (.tup (.cons (.sl (.int .i64)) (.cons .bool .unit))), fn := fun v => ref03_Runes v.1 }
noncomputable def ref03_Runes_V : TEnv := { pure := [(64, ref03_Char_T)], look := [], glob := G0T, ty := [(3, (.int .i64))], raw := [], fresh := [] }
theorem ref03_Runes_eq : runY Tryz.prog ref03_Runes_E ref03_Runes_H ref03_Runes_V ref03_Runes_Y Tryz.f35 ref03_Runes_T.ps ref03_Runes_T.res = ref03_Runes_T.fn := by kernel_rfl
theorem ref03_Runes_Fok : SoundP Tryz.prog G0 35 ref03_Runes_F := closeF_sound (runF_sound (P := Tryz.prog) (E := ref03_Runes_E) (h := ref03_Runes_H) (f := 35) (fn := Tryz.f35) ⟨same_ok, (envP_cons ref03_Char_Fok envP_nil), envS_nil, envP_nil, envX_nil⟩ Tryz.func35 rfl (by kernel_rfl))
theorem ref03_Runes_ok : TOk ref03_Runes_F ref03_Runes_T := runY_ok (E := ref03_Runes_E) (ET := ref03_Runes_V) (EnvT.ofX (E := ref03_Runes_E) (ET := ref03_Runes_V) (pure_of (pairs_cons ref03_Char_ok pairs_nil)) looks_nil raws_nil G0_ok news_nil) ref03_Runes_eq rfl
-- palinode/palinoderef09.Right
noncomputable def ref09_Right_E : Env := { pure := [(35, ref03_Runes_F)], raw := [], glob := G0, same := [76], look := [], ext := [] }
def ref09_Right_H : Hints := { seqs := [], loops := [], own := [] }
noncomputable def ref09_Right_F : PFn := closeF (runF Tryz.prog ref09_Right_E ref09_Right_H Tryz.f17)
def ref09_Right_Y : TH := { joins := [], loops := [], cuts := [], ro := [1], news := [] }
noncomputable def ref09_Right (a0 : (Int × Int × List UInt8 × Unit)) : Option Bool :=
 cond (decide (a0.1 = 1)) (
 cond (decide (a0.2.2.1 = [])) (cond (decide (a0.2.1 ≥ (-2147483647))) (some (decide (a0.2.1 ≤ 2147483647))) (some false)) (some false)) (
 cond (decide (a0.1 = 2)) (
(ref03_Runes a0.2.2.1).bind fun r1 =>
 cond (decide (a0.2.1 = 0)) (cond r1.2.1 (some (decide ((a0.2.2.1.length : Int) ≤ 64))) (some false)) (some false)) (
 cond (decide (a0.1 = 3)) (cond (decide (a0.2.2.1 = [])) (cond (decide (a0.2.1 ≥ 0)) (some (decide (a0.2.1 ≤ 1))) (some false)) (some false)) (some false)))
noncomputable def ref09_Right_T : TFn := { ps := (.cons (.agg (.cons (.int .i64) (.cons (.int .i64) (.cons .str .unit)))) .unit), res := .bool, fn := fun v => ref09_Right v.1 }
noncomputable def ref09_Right_V : TEnv := { pure := [(35, ref03_Runes_T)], look := [], glob := G0T, ty := [], raw := [], fresh := [] }
theorem ref09_Right_eq : runY Tryz.prog ref09_Right_E ref09_Right_H ref09_Right_V ref09_Right_Y Tryz.f17 ref09_Right_T.ps ref09_Right_T.res = ref09_Right_T.fn := by kernel_rfl
theorem ref09_Right_Fok : SoundP Tryz.prog G0 17 ref09_Right_F := closeF_sound (runF_sound (P := Tryz.prog) (E := ref09_Right_E) (h := ref09_Right_H) (f := 17) (fn := Tryz.f17) ⟨same_ok, (envP_cons ref03_Runes_Fok envP_nil), envS_nil, envP_nil, envX_nil⟩ Tryz.func17 rfl (by kernel_rfl))
theorem ref09_Right_ok : TOk ref09_Right_F ref09_Right_T := runY_ok (E := ref09_Right_E) (ET := ref09_Right_V) (EnvT.ofX (E := ref09_Right_E) (ET := ref09_Right_V) (pure_of (pairs_cons ref03_Runes_ok pairs_nil)) looks_nil raws_nil G0_ok news_nil) ref09_Right_eq rfl
-- palinode/palinodelaw39.short
noncomputable def law39_short_E : Env := { pure := [(16, ref10_Short_F), (17, ref09_Right_F)], raw := [], glob := G0, same := [76], look := [], ext := [] }
def law39_short_H : Hints := { seqs := [], loops := [(4, [0, 3]), (9, [0, 3, 4])], own := [] }
noncomputable def law39_short_F : PFn := closeF (runF Tryz.prog law39_short_E law39_short_H Tryz.f4)
def law39_short_Y : TH := { joins := [], loops := [(4, { keep := [(3, (.int .i64))], mem := [] }), (9, { keep := [(4, (.int .i64))], mem := [] })], cuts := [], ro := [], news := [] }
noncomputable def law39_short_l9 (y4 : (Int × Unit)) (a0 : List (List (List UInt8) × Int × List (Int × Int × List UInt8 × Unit) × Int × Unit)) (y9 : (Int × Unit)) : Option ((Int × Unit) ⊕ ((Int × Unit) ⊕ Bool)) :=
(atI a0 y4.1).bind fun x4 =>
 cond (decide (y9.1 < (x4.2.2.1.length : Int))) (
(atI a0 y4.1).bind fun x5 =>
(atI x5.2.2.1 y9.1).bind fun x6 =>
(ref09_Right x6).bind fun r7 =>
 cond (!r7) (
 some (.inr (.inr false))) (
 some (.inl ((IntKind.wrap .i64 (y9.1 + 1)), ())))) (
 some (.inr (.inl ((IntKind.wrap .i64 (y4.1 + 1)), ()))))
noncomputable def law39_short_l4 (a0 : List (List (List UInt8) × Int × List (Int × Int × List UInt8 × Unit) × Int × Unit)) (y4 : (Int × Unit)) : Option ((Int × Unit) ⊕ Bool) :=
 cond (decide (y4.1 < (a0.length : Int))) (
(atI a0 y4.1).bind fun x1 =>
(ref10_Short x1.1).bind fun r2 =>
 cond (!r2) (some (.inr false)) ((atI a0 y4.1).bind fun x3 =>
 cond (decide ((x3.2.2.1.length : Int) > 30)) (
 some (.inr false)) (
 loopT (law39_short_l9 y4 a0) (0, ())))) (
 some (.inr true))
noncomputable def law39_short (a0 : List (List (List UInt8) × Int × List (Int × Int × List UInt8 × Unit) × Int × Unit)) : Option Bool :=
 cond (decide ((a0.length : Int) > 30)) (
 some false) (
 loopT (law39_short_l4 a0) (0, ()))
noncomputable def law39_short_T : TFn := { ps := (.cons (.sl (.agg (.cons (.sl .str) (.cons (.int .i64) (.cons (.sl (.agg (.cons (.int .i64) (.cons (.int .i64) (.cons .str .unit))))) (.cons (.int .i64) .unit)))))) .unit), res := .bool, fn := fun v => law39_short v.1 }
noncomputable def law39_short_V : TEnv := { pure := [(16, ref10_Short_T), (17, ref09_Right_T)], look := [], glob := G0T, ty := [], raw := [], fresh := [] }
theorem law39_short_eq : runY Tryz.prog law39_short_E law39_short_H law39_short_V law39_short_Y Tryz.f4 law39_short_T.ps law39_short_T.res = law39_short_T.fn := by kernel_rfl
theorem law39_short_Fok : SoundP Tryz.prog G0 4 law39_short_F := closeF_sound (runF_sound (P := Tryz.prog) (E := law39_short_E) (h := law39_short_H) (f := 4) (fn := Tryz.f4) ⟨same_ok, (envP_cons ref10_Short_Fok (envP_cons ref09_Right_Fok envP_nil)), envS_nil, envP_nil, envX_nil⟩ Tryz.func4 rfl (by kernel_rfl))
theorem law39_short_ok : TOk law39_short_F law39_short_T := runY_ok (E := law39_short_E) (ET := law39_short_V) (EnvT.ofX (E := law39_short_E) (ET := law39_short_V) (pure_of (pairs_cons ref10_Short_ok (pairs_cons ref09_Right_ok pairs_nil))) looks_nil raws_nil G0_ok news_nil) law39_short_eq rfl
-- unicode/utf8.DecodeRuneInString
noncomputable def utf8_DecodeRuneInString_F : PFn := decodeF
theorem utf8_DecodeRuneInString_Fok : SoundP Tryz.prog G0 86 utf8_DecodeRuneInString_F := decode_sound (g3 := 0) (g4 := 1) ⟨Tryz.f86, Tryz.func86, rfl, by kernel_rfl⟩ (by kernel_rfl) (by kernel_rfl) (fun s w hT => Tryz.utf8_DecodeRuneInString s w hT)
noncomputable def utf8_DecodeRuneInString (a0 : List UInt8) : Option (Int × Int × Unit) := decodeT a0
noncomputable def utf8_DecodeRuneInString_T : TFn := decodeT_T
theorem utf8_DecodeRuneInString_ok : TOk utf8_DecodeRuneInString_F utf8_DecodeRuneInString_T := decodeT_ok
-- palinode/name.Runes
noncomputable def name_Runes_E : Env := { pure := [(86, utf8_DecodeRuneInString_F)], raw := [], glob := G0, same := [76], look := [], ext := [] }
def name_Runes_H : Hints := { seqs := [], loops := [(3, [0, 4, 10])], own := [] }
noncomputable def name_Runes_F : PFn := closeF (runF Tryz.prog name_Runes_E name_Runes_H Tryz.f70)
def name_Runes_Y : TH := { joins := [(9, { keep := [(4, (.own 1)), (10, (.it 0))], mem := [.iter, .row true 21 (.int .i32)] })], loops := [(3, { keep := [(4, (.own 1)), (10, (.it 0))], mem := [.iter, .row true 21 (.int .i32)] })], cuts := [], ro := [], news := [] }
noncomputable def name_Runes_l3 (a0 : List UInt8) (y3 : (Nat × List Int × Unit)) : Option ((Nat × List Int × Unit) ⊕ (List Int × Bool × Unit)) :=
 cond (decide (y3.1 < a0.length)) ((cond (decide (((Utf8.decode ⟨a0.toArray⟩ y3.1).1 : Int) = 65533)) (
(subI a0 (y3.1 : Int) (a0.length : Int)).bind fun s1 =>
(utf8_DecodeRuneInString s1).bind fun r2 =>
 cond (decide (r2.2.1 ≤ 1)) (
 some (.inr (.inr ([], false, ())))) (
 some (.inl ((y3.1 + (Utf8.decode ⟨a0.toArray⟩ y3.1).2), y3.2.1, ())))) (
 some (.inl ((y3.1 + (Utf8.decode ⟨a0.toArray⟩ y3.1).2), y3.2.1, ()))) : Option ((Nat × List Int × Unit) ⊕ ((Nat × List Int × Unit) ⊕ (List Int × Bool × Unit)))).bind (joinS fun v3 =>
(roomT (v3.2.1.length + ([((Utf8.decode ⟨a0.toArray⟩ y3.1).1 : Int)] : List Int).length)).bind fun u4 =>
 some (.inl (v3.1, (v3.2.1 ++ ([((Utf8.decode ⟨a0.toArray⟩ y3.1).1 : Int)] : List Int)), ())))) (some (.inr (y3.2.1, true, ())))
noncomputable def name_Runes (a0 : List UInt8) : Option (List Int × Bool × Unit) :=
 loopT (name_Runes_l3 a0) (0, [], ())
noncomputable def name_Runes_T : TFn := { ps := (.cons .str .unit), res := (.tup (.cons (.sl (.int .i32)) (.cons .bool .unit))), fn := fun v => name_Runes v.1 }
noncomputable def name_Runes_V : TEnv := { pure := [(86, utf8_DecodeRuneInString_T)], look := [], glob := G0T, ty := [(21, (.int .i32))], raw := [], fresh := [] }
theorem name_Runes_eq : runY Tryz.prog name_Runes_E name_Runes_H name_Runes_V name_Runes_Y Tryz.f70 name_Runes_T.ps name_Runes_T.res = name_Runes_T.fn := by kernel_rfl
theorem name_Runes_Fok : SoundP Tryz.prog G0 70 name_Runes_F := closeF_sound (runF_sound (P := Tryz.prog) (E := name_Runes_E) (h := name_Runes_H) (f := 70) (fn := Tryz.f70) ⟨same_ok, (envP_cons utf8_DecodeRuneInString_Fok envP_nil), envS_nil, envP_nil, envX_nil⟩ Tryz.func70 rfl (by kernel_rfl))
theorem name_Runes_ok : TOk name_Runes_F name_Runes_T := runY_ok (E := name_Runes_E) (ET := name_Runes_V) (EnvT.ofX (E := name_Runes_E) (ET := name_Runes_V) (pure_of (pairs_cons utf8_DecodeRuneInString_ok pairs_nil)) looks_nil raws_nil G0_ok news_nil) name_Runes_eq rfl
-- palinode/name.may
noncomputable def name_may_E : Env := { pure := [], raw := [], glob := G0, same := [76], look := [], ext := [] }
def name_may_H : Hints := { seqs := [], loops := [], own := [] }
noncomputable def name_may_F : PFn := closeF (runF Tryz.prog name_may_E name_may_H Tryz.f71)
def name_may_Y : TH := { joins := [], loops := [], cuts := [], ro := [], news := [] }
noncomputable def name_may (a0 : Int) : Option Bool :=
 cond (decide (a0 < 32)) (
 cond (decide (a0 < 32)) (
 some false) (
 some (!decide (a0 = 65533)))) (
 cond (decide (a0 ≥ 127)) (cond (decide (a0 < 160)) (
 some false) (
 some (!decide (a0 = 65533)))) (some (!decide (a0 = 65533))))
noncomputable def name_may_T : TFn := { ps := (.cons (.int .i32) .unit), res := .bool, fn := fun v => name_may v.1 }
noncomputable def name_may_V : TEnv := { pure := [], look := [], glob := G0T, ty := [], raw := [], fresh := [] }
theorem name_may_eq : runY Tryz.prog name_may_E name_may_H name_may_V name_may_Y Tryz.f71 name_may_T.ps name_may_T.res = name_may_T.fn := by kernel_rfl
theorem name_may_Fok : SoundP Tryz.prog G0 71 name_may_F := closeF_sound (runF_sound (P := Tryz.prog) (E := name_may_E) (h := name_may_H) (f := 71) (fn := Tryz.f71) ⟨same_ok, envP_nil, envS_nil, envP_nil, envX_nil⟩ Tryz.func71 rfl (by kernel_rfl))
theorem name_may_ok : TOk name_may_F name_may_T := runY_ok (E := name_may_E) (ET := name_may_V) (EnvT.ofX (E := name_may_E) (ET := name_may_V) (pure_of pairs_nil) looks_nil raws_nil G0_ok news_nil) name_may_eq rfl
-- palinode/name.Right
noncomputable def name_Right_E : Env := { pure := [(70, name_Runes_F), (71, name_may_F)], raw := [], glob := G0, same := [76], look := [], ext := [] }
def name_Right_H : Hints := { seqs := [], loops := [(5, [24, 25, 26])], own := [] }
noncomputable def name_Right_F : PFn := closeF (runF Tryz.prog name_Right_E name_Right_H Tryz.f45)
def name_Right_Y : TH := { joins := [], loops := [(5, { keep := [(26, (.int .i64))], mem := [] })], cuts := [], ro := [], news := [] }
noncomputable def name_Right_l5 (r1 : (List Int × Bool × Unit)) (y5 : (Int × Unit)) : Option ((Int × Unit) ⊕ Bool) :=
 cond (decide (y5.1 < (r1.1.length : Int))) (
(atI r1.1 y5.1).bind fun x2 =>
(name_may x2).bind fun r3 =>
 cond (!r3) (
 some (.inr false)) (
 some (.inl ((IntKind.wrap .i64 (y5.1 + 1)), ())))) (
 some (.inr true))
noncomputable def name_Right (a0 : List UInt8) : Option Bool :=
(name_Runes a0).bind fun r1 =>
 cond (!r1.2.1) (some false) (cond (decide ((r1.1.length : Int) = 0)) (some false) (cond (decide ((r1.1.length : Int) > 24)) (
 some false) (
 loopT (name_Right_l5 r1) (0, ()))))
noncomputable def name_Right_T : TFn := { ps := (.cons .str .unit), res := .bool, fn := fun v => name_Right v.1 }
noncomputable def name_Right_V : TEnv := { pure := [(70, name_Runes_T), (71, name_may_T)], look := [], glob := G0T, ty := [], raw := [], fresh := [] }
theorem name_Right_eq : runY Tryz.prog name_Right_E name_Right_H name_Right_V name_Right_Y Tryz.f45 name_Right_T.ps name_Right_T.res = name_Right_T.fn := by kernel_rfl
theorem name_Right_Fok : SoundP Tryz.prog G0 45 name_Right_F := closeF_sound (runF_sound (P := Tryz.prog) (E := name_Right_E) (h := name_Right_H) (f := 45) (fn := Tryz.f45) ⟨same_ok, (envP_cons name_Runes_Fok (envP_cons name_may_Fok envP_nil)), envS_nil, envP_nil, envX_nil⟩ Tryz.func45 rfl (by kernel_rfl))
theorem name_Right_ok : TOk name_Right_F name_Right_T := runY_ok (E := name_Right_E) (ET := name_Right_V) (EnvT.ofX (E := name_Right_E) (ET := name_Right_V) (pure_of (pairs_cons name_Runes_ok (pairs_cons name_may_ok pairs_nil))) looks_nil raws_nil G0_ok news_nil) name_Right_eq rfl
-- palinode/path.Check$1
noncomputable def path_Check_1_E : Env := { pure := [(45, name_Right_F)], raw := [], glob := G0, same := [76], look := [], ext := [] }
def path_Check_1_H : Hints := { seqs := [], loops := [], own := [] }
noncomputable def path_Check_1_F : PFn := closeF (runF Tryz.prog path_Check_1_E path_Check_1_H Tryz.f44)
def path_Check_1_Y : TH := { joins := [], loops := [], cuts := [], ro := [], news := [] }
noncomputable def path_Check_1 (a0 : List UInt8) : Option Bool :=
(name_Right a0).bind fun r1 =>
 some (!r1)
noncomputable def path_Check_1_T : TFn := { ps := (.cons .str .unit), res := .bool, fn := fun v => path_Check_1 v.1 }
noncomputable def path_Check_1_V : TEnv := { pure := [(45, name_Right_T)], look := [], glob := G0T, ty := [], raw := [], fresh := [] }
theorem path_Check_1_eq : runY Tryz.prog path_Check_1_E path_Check_1_H path_Check_1_V path_Check_1_Y Tryz.f44 path_Check_1_T.ps path_Check_1_T.res = path_Check_1_T.fn := by kernel_rfl
theorem path_Check_1_Fok : SoundP Tryz.prog G0 44 path_Check_1_F := closeF_sound (runF_sound (P := Tryz.prog) (E := path_Check_1_E) (h := path_Check_1_H) (f := 44) (fn := Tryz.f44) ⟨same_ok, (envP_cons name_Right_Fok envP_nil), envS_nil, envP_nil, envX_nil⟩ Tryz.func44 rfl (by kernel_rfl))
theorem path_Check_1_ok : TOk path_Check_1_F path_Check_1_T := runY_ok (E := path_Check_1_E) (ET := path_Check_1_V) (EnvT.ofX (E := path_Check_1_E) (ET := path_Check_1_V) (pure_of (pairs_cons name_Right_ok pairs_nil)) looks_nil raws_nil G0_ok news_nil) path_Check_1_eq rfl
-- slices.IndexFunc[[]string,string]
noncomputable def slices_IndexFunc_Sl_string_string__path_Check_1_E : Env := { pure := [(44, path_Check_1_F)], raw := [], glob := G0, same := [76], look := [], ext := [] }
def slices_IndexFunc_Sl_string_string__path_Check_1_H : Hints := { seqs := [], loops := [(2, [0, 1, 7, 8])], own := [] }
noncomputable def slices_IndexFunc_Sl_string_string__path_Check_1_F : PFn := closeF (runF Tryz.prog slices_IndexFunc_Sl_string_string__path_Check_1_E slices_IndexFunc_Sl_string_string__path_Check_1_H Tryz.f69)
def slices_IndexFunc_Sl_string_string__path_Check_1_Y : TH := { joins := [], loops := [(2, { keep := [(8, (.int .i64))], mem := [] })], cuts := [], ro := [], news := [] }
noncomputable def slices_IndexFunc_Sl_string_string__path_Check_1_l2 (a0 : List (List UInt8)) (y2 : (Int × Unit)) : Option ((Int × Unit) ⊕ Int) :=
 cond (decide (y2.1 < (a0.length : Int))) (
(atI a0 y2.1).bind fun x1 =>
(path_Check_1 x1).bind fun r2 =>
 cond r2 (
 some (.inr y2.1)) (
 some (.inl ((IntKind.wrap .i64 (y2.1 + 1)), ())))) (
 some (.inr (-1)))
noncomputable def slices_IndexFunc_Sl_string_string__path_Check_1 (a0 : List (List UInt8)) (a1 : Unit) : Option Int :=
 loopT (slices_IndexFunc_Sl_string_string__path_Check_1_l2 a0) (0, ())
noncomputable def slices_IndexFunc_Sl_string_string__path_Check_1_T : TFn := { ps := (.cons (.sl .str) (.cons (.fn 44) .unit)), res := (.int .i64), fn := fun v => slices_IndexFunc_Sl_string_string__path_Check_1 v.1 v.2.1 }
noncomputable def slices_IndexFunc_Sl_string_string__path_Check_1_V : TEnv := { pure := [(44, path_Check_1_T)], look := [], glob := G0T, ty := [], raw := [], fresh := [] }
theorem slices_IndexFunc_Sl_string_string__path_Check_1_eq : runY Tryz.prog slices_IndexFunc_Sl_string_string__path_Check_1_E slices_IndexFunc_Sl_string_string__path_Check_1_H slices_IndexFunc_Sl_string_string__path_Check_1_V slices_IndexFunc_Sl_string_string__path_Check_1_Y Tryz.f69 slices_IndexFunc_Sl_string_string__path_Check_1_T.ps slices_IndexFunc_Sl_string_string__path_Check_1_T.res = slices_IndexFunc_Sl_string_string__path_Check_1_T.fn := by kernel_rfl
theorem slices_IndexFunc_Sl_string_string__path_Check_1_Fok : SoundP Tryz.prog G0 69 slices_IndexFunc_Sl_string_string__path_Check_1_F := closeF_sound (runF_sound (P := Tryz.prog) (E := slices_IndexFunc_Sl_string_string__path_Check_1_E) (h := slices_IndexFunc_Sl_string_string__path_Check_1_H) (f := 69) (fn := Tryz.f69) ⟨same_ok, (envP_cons path_Check_1_Fok envP_nil), envS_nil, envP_nil, envX_nil⟩ Tryz.func69 rfl (by kernel_rfl))
theorem slices_IndexFunc_Sl_string_string__path_Check_1_ok : TOk slices_IndexFunc_Sl_string_string__path_Check_1_F slices_IndexFunc_Sl_string_string__path_Check_1_T := runY_ok (E := slices_IndexFunc_Sl_string_string__path_Check_1_E) (ET := slices_IndexFunc_Sl_string_string__path_Check_1_V) (EnvT.ofX (E := slices_IndexFunc_Sl_string_string__path_Check_1_E) (ET := slices_IndexFunc_Sl_string_string__path_Check_1_V) (pure_of (pairs_cons path_Check_1_ok pairs_nil)) looks_nil raws_nil G0_ok news_nil) slices_IndexFunc_Sl_string_string__path_Check_1_eq rfl
-- slices.ContainsFunc[[]string,string]
noncomputable def slices_ContainsFunc_Sl_string_string__path_Check_1_E : Env := { pure := [(69, slices_IndexFunc_Sl_string_string__path_Check_1_F)], raw := [], glob := G0, same := [76], look := [], ext := [] }
def slices_ContainsFunc_Sl_string_string__path_Check_1_H : Hints := { seqs := [], loops := [], own := [] }
noncomputable def slices_ContainsFunc_Sl_string_string__path_Check_1_F : PFn := closeF (runF Tryz.prog slices_ContainsFunc_Sl_string_string__path_Check_1_E slices_ContainsFunc_Sl_string_string__path_Check_1_H Tryz.f43)
def slices_ContainsFunc_Sl_string_string__path_Check_1_Y : TH := { joins := [], loops := [], cuts := [], ro := [], news := [] }
noncomputable def slices_ContainsFunc_Sl_string_string__path_Check_1 (a0 : List (List UInt8)) (a1 : Unit) : Option Bool :=
(slices_IndexFunc_Sl_string_string__path_Check_1 a0 a1).bind fun r1 =>
 some (decide (r1 ≥ 0))
noncomputable def slices_ContainsFunc_Sl_string_string__path_Check_1_T : TFn := { ps := (.cons (.sl .str) (.cons (.fn 44) .unit)), res := .bool, fn := fun v => slices_ContainsFunc_Sl_string_string__path_Check_1 v.1 v.2.1 }
noncomputable def slices_ContainsFunc_Sl_string_string__path_Check_1_V : TEnv := { pure := [(69, slices_IndexFunc_Sl_string_string__path_Check_1_T)], look := [], glob := G0T, ty := [], raw := [], fresh := [] }
theorem slices_ContainsFunc_Sl_string_string__path_Check_1_eq : runY Tryz.prog slices_ContainsFunc_Sl_string_string__path_Check_1_E slices_ContainsFunc_Sl_string_string__path_Check_1_H slices_ContainsFunc_Sl_string_string__path_Check_1_V slices_ContainsFunc_Sl_string_string__path_Check_1_Y Tryz.f43 slices_ContainsFunc_Sl_string_string__path_Check_1_T.ps slices_ContainsFunc_Sl_string_string__path_Check_1_T.res = slices_ContainsFunc_Sl_string_string__path_Check_1_T.fn := by kernel_rfl
theorem slices_ContainsFunc_Sl_string_string__path_Check_1_Fok : SoundP Tryz.prog G0 43 slices_ContainsFunc_Sl_string_string__path_Check_1_F := closeF_sound (runF_sound (P := Tryz.prog) (E := slices_ContainsFunc_Sl_string_string__path_Check_1_E) (h := slices_ContainsFunc_Sl_string_string__path_Check_1_H) (f := 43) (fn := Tryz.f43) ⟨same_ok, (envP_cons slices_IndexFunc_Sl_string_string__path_Check_1_Fok envP_nil), envS_nil, envP_nil, envX_nil⟩ Tryz.func43 rfl (by kernel_rfl))
theorem slices_ContainsFunc_Sl_string_string__path_Check_1_ok : TOk slices_ContainsFunc_Sl_string_string__path_Check_1_F slices_ContainsFunc_Sl_string_string__path_Check_1_T := runY_ok (E := slices_ContainsFunc_Sl_string_string__path_Check_1_E) (ET := slices_ContainsFunc_Sl_string_string__path_Check_1_V) (EnvT.ofX (E := slices_ContainsFunc_Sl_string_string__path_Check_1_E) (ET := slices_ContainsFunc_Sl_string_string__path_Check_1_V) (pure_of (pairs_cons slices_IndexFunc_Sl_string_string__path_Check_1_ok pairs_nil)) looks_nil raws_nil G0_ok news_nil) slices_ContainsFunc_Sl_string_string__path_Check_1_eq rfl
-- palinode/path.Check
noncomputable def path_Check_E : Env := { pure := [(43, slices_ContainsFunc_Sl_string_string__path_Check_1_F)], raw := [], glob := G0, same := [76], look := [], ext := [] }
def path_Check_H : Hints := { seqs := [], loops := [], own := [] }
noncomputable def path_Check_F : PFn := closeF (runF Tryz.prog path_Check_E path_Check_H Tryz.f21)
def path_Check_Y : TH := { joins := [], loops := [], cuts := [], ro := [], news := [] }
noncomputable def path_Check (a0 : List (List UInt8)) : Option Int :=
 cond (decide ((a0.length : Int) = 0)) (
 some 8) (
 cond (decide ((a0.length : Int) > 8)) (
 some 9) (
(slices_ContainsFunc_Sl_string_string__path_Check_1 a0 ()).bind fun r1 =>
 cond r1 (
 some 8) (
 some 0)))
noncomputable def path_Check_T : TFn := { ps := (.cons (.sl .str) .unit), res := (.int .i64), fn := fun v => path_Check v.1 }
noncomputable def path_Check_V : TEnv := { pure := [(43, slices_ContainsFunc_Sl_string_string__path_Check_1_T)], look := [], glob := G0T, ty := [], raw := [], fresh := [] }
theorem path_Check_eq : runY Tryz.prog path_Check_E path_Check_H path_Check_V path_Check_Y Tryz.f21 path_Check_T.ps path_Check_T.res = path_Check_T.fn := by kernel_rfl
theorem path_Check_Fok : SoundP Tryz.prog G0 21 path_Check_F := closeF_sound (runF_sound (P := Tryz.prog) (E := path_Check_E) (h := path_Check_H) (f := 21) (fn := Tryz.f21) ⟨same_ok, (envP_cons slices_ContainsFunc_Sl_string_string__path_Check_1_Fok envP_nil), envS_nil, envP_nil, envX_nil⟩ Tryz.func21 rfl (by kernel_rfl))
theorem path_Check_ok : TOk path_Check_F path_Check_T := runY_ok (E := path_Check_E) (ET := path_Check_V) (EnvT.ofX (E := path_Check_E) (ET := path_Check_V) (pure_of (pairs_cons slices_ContainsFunc_Sl_string_string__path_Check_1_ok pairs_nil)) looks_nil raws_nil G0_ok news_nil) path_Check_eq rfl
-- cmp.isNaN[string]
noncomputable def cmp_isNaN_string_E : Env := { pure := [], raw := [], glob := G0, same := [76], look := [], ext := [] }
def cmp_isNaN_string_H : Hints := { seqs := [], loops := [], own := [] }
noncomputable def cmp_isNaN_string_F : PFn := closeF (runF Tryz.prog cmp_isNaN_string_E cmp_isNaN_string_H Tryz.f96)
def cmp_isNaN_string_Y : TH := { joins := [], loops := [], cuts := [], ro := [], news := [] }
noncomputable def cmp_isNaN_string (a0 : List UInt8) : Option Bool :=
 some (!decide (a0 = a0))
noncomputable def cmp_isNaN_string_T : TFn := { ps := (.cons .str .unit), res := .bool, fn := fun v => cmp_isNaN_string v.1 }
noncomputable def cmp_isNaN_string_V : TEnv := { pure := [], look := [], glob := G0T, ty := [], raw := [], fresh := [] }
theorem cmp_isNaN_string_eq : runY Tryz.prog cmp_isNaN_string_E cmp_isNaN_string_H cmp_isNaN_string_V cmp_isNaN_string_Y Tryz.f96 cmp_isNaN_string_T.ps cmp_isNaN_string_T.res = cmp_isNaN_string_T.fn := by kernel_rfl
theorem cmp_isNaN_string_Fok : SoundP Tryz.prog G0 96 cmp_isNaN_string_F := closeF_sound (runF_sound (P := Tryz.prog) (E := cmp_isNaN_string_E) (h := cmp_isNaN_string_H) (f := 96) (fn := Tryz.f96) ⟨same_ok, envP_nil, envS_nil, envP_nil, envX_nil⟩ Tryz.func96 rfl (by kernel_rfl))
theorem cmp_isNaN_string_ok : TOk cmp_isNaN_string_F cmp_isNaN_string_T := runY_ok (E := cmp_isNaN_string_E) (ET := cmp_isNaN_string_V) (EnvT.ofX (E := cmp_isNaN_string_E) (ET := cmp_isNaN_string_V) (pure_of pairs_nil) looks_nil raws_nil G0_ok news_nil) cmp_isNaN_string_eq rfl
-- cmp.Compare[string]
noncomputable def cmp_Compare_string_E : Env := { pure := [(96, cmp_isNaN_string_F)], raw := [], glob := G0, same := [76], look := [], ext := [] }
def cmp_Compare_string_H : Hints := { seqs := [], loops := [], own := [] }
noncomputable def cmp_Compare_string_F : PFn := closeF (runF Tryz.prog cmp_Compare_string_E cmp_Compare_string_H Tryz.f87)
def cmp_Compare_string_Y : TH := { joins := [], loops := [], cuts := [], ro := [], news := [] }
noncomputable def cmp_Compare_string (a0 : List UInt8) (a1 : List UInt8) : Option Int :=
(cmp_isNaN_string a0).bind fun r1 =>
(cmp_isNaN_string a1).bind fun r2 =>
 cond r1 (
 cond r2 (
 some 0) (
 some (-1))) (
 cond r2 (
 some 1) (
 cond (Op.bytesLess a0 a1) (
 some (-1)) (
 cond (!(Op.bytesLess a0 a1 || decide (a0 = a1))) (
 some 1) (
 some 0))))
noncomputable def cmp_Compare_string_T : TFn := { ps := (.cons .str (.cons .str .unit)), res := (.int .i64), fn := fun v => cmp_Compare_string v.1 v.2.1 }
noncomputable def cmp_Compare_string_V : TEnv := { pure := [(96, cmp_isNaN_string_T)], look := [], glob := G0T, ty := [], raw := [], fresh := [] }
theorem cmp_Compare_string_eq : runY Tryz.prog cmp_Compare_string_E cmp_Compare_string_H cmp_Compare_string_V cmp_Compare_string_Y Tryz.f87 cmp_Compare_string_T.ps cmp_Compare_string_T.res = cmp_Compare_string_T.fn := by kernel_rfl
theorem cmp_Compare_string_Fok : SoundP Tryz.prog G0 87 cmp_Compare_string_F := closeF_sound (runF_sound (P := Tryz.prog) (E := cmp_Compare_string_E) (h := cmp_Compare_string_H) (f := 87) (fn := Tryz.f87) ⟨same_ok, (envP_cons cmp_isNaN_string_Fok envP_nil), envS_nil, envP_nil, envX_nil⟩ Tryz.func87 rfl (by kernel_rfl))
theorem cmp_Compare_string_ok : TOk cmp_Compare_string_F cmp_Compare_string_T := runY_ok (E := cmp_Compare_string_E) (ET := cmp_Compare_string_V) (EnvT.ofX (E := cmp_Compare_string_E) (ET := cmp_Compare_string_V) (pure_of (pairs_cons cmp_isNaN_string_ok pairs_nil)) looks_nil raws_nil G0_ok news_nil) cmp_Compare_string_eq rfl
-- slices.Compare[[]string,string]
noncomputable def slices_Compare_Sl_string_string_E : Env := { pure := [(87, cmp_Compare_string_F)], raw := [], glob := G0, same := [76], look := [], ext := [] }
def slices_Compare_Sl_string_string_H : Hints := { seqs := [], loops := [(2, [0, 1, 9, 10, 11])], own := [] }
noncomputable def slices_Compare_Sl_string_string_F : PFn := closeF (runF Tryz.prog slices_Compare_Sl_string_string_E slices_Compare_Sl_string_string_H Tryz.f72)
def slices_Compare_Sl_string_string_Y : TH := { joins := [(11, { keep := [], mem := [] })], loops := [(2, { keep := [(11, (.int .i64))], mem := [] })], cuts := [], ro := [], news := [] }
noncomputable def slices_Compare_Sl_string_string_l2 (a0 : List (List UInt8)) (a1 : List (List UInt8)) (y2 : (Int × Unit)) : Option ((Int × Unit) ⊕ (Unit ⊕ Int)) :=
 cond (decide (y2.1 < (a0.length : Int))) (
(atI a0 y2.1).bind fun x1 =>
 cond (decide (y2.1 ≥ (a1.length : Int))) (
 some (.inr (.inr 1))) (
(atI a1 y2.1).bind fun x2 =>
(cmp_Compare_string x1 x2).bind fun r3 =>
 cond (!decide (r3 = 0)) (
 some (.inr (.inr r3))) (
 some (.inl ((IntKind.wrap .i64 (y2.1 + 1)), ()))))) (
 some (.inr (.inl ())))
noncomputable def slices_Compare_Sl_string_string (a0 : List (List UInt8)) (a1 : List (List UInt8)) : Option Int :=
(loopT (slices_Compare_Sl_string_string_l2 a0 a1) (0, ()) : Option (Unit ⊕ Int)).bind (joinS fun v4 =>
 cond (decide ((a0.length : Int) < (a1.length : Int))) (
 some (-1)) (
 some 0))
noncomputable def slices_Compare_Sl_string_string_T : TFn := { ps := (.cons (.sl .str) (.cons (.sl .str) .unit)), res := (.int .i64), fn := fun v => slices_Compare_Sl_string_string v.1 v.2.1 }
noncomputable def slices_Compare_Sl_string_string_V : TEnv := { pure := [(87, cmp_Compare_string_T)], look := [], glob := G0T, ty := [], raw := [], fresh := [] }
theorem slices_Compare_Sl_string_string_eq : runY Tryz.prog slices_Compare_Sl_string_string_E slices_Compare_Sl_string_string_H slices_Compare_Sl_string_string_V slices_Compare_Sl_string_string_Y Tryz.f72 slices_Compare_Sl_string_string_T.ps slices_Compare_Sl_string_string_T.res = slices_Compare_Sl_string_string_T.fn := by kernel_rfl
theorem slices_Compare_Sl_string_string_Fok : SoundP Tryz.prog G0 72 slices_Compare_Sl_string_string_F := closeF_sound (runF_sound (P := Tryz.prog) (E := slices_Compare_Sl_string_string_E) (h := slices_Compare_Sl_string_string_H) (f := 72) (fn := Tryz.f72) ⟨same_ok, (envP_cons cmp_Compare_string_Fok envP_nil), envS_nil, envP_nil, envX_nil⟩ Tryz.func72 rfl (by kernel_rfl))
theorem slices_Compare_Sl_string_string_ok : TOk slices_Compare_Sl_string_string_F slices_Compare_Sl_string_string_T := runY_ok (E := slices_Compare_Sl_string_string_E) (ET := slices_Compare_Sl_string_string_V) (EnvT.ofX (E := slices_Compare_Sl_string_string_E) (ET := slices_Compare_Sl_string_string_V) (pure_of (pairs_cons cmp_Compare_string_ok pairs_nil)) looks_nil raws_nil G0_ok news_nil) slices_Compare_Sl_string_string_eq rfl
-- palinode/path.Compare
noncomputable def path_Compare_E : Env := { pure := [(72, slices_Compare_Sl_string_string_F)], raw := [], glob := G0, same := [76], look := [], ext := [] }
def path_Compare_H : Hints := { seqs := [], loops := [], own := [] }
noncomputable def path_Compare_F : PFn := closeF (runF Tryz.prog path_Compare_E path_Compare_H Tryz.f47)
def path_Compare_Y : TH := { joins := [], loops := [], cuts := [], ro := [], news := [] }
noncomputable def path_Compare (a0 : List (List UInt8)) (a1 : List (List UInt8)) : Option Int :=
(slices_Compare_Sl_string_string a0 a1).bind fun r1 =>
 some r1
noncomputable def path_Compare_T : TFn := { ps := (.cons (.sl .str) (.cons (.sl .str) .unit)), res := (.int .i64), fn := fun v => path_Compare v.1 v.2.1 }
noncomputable def path_Compare_V : TEnv := { pure := [(72, slices_Compare_Sl_string_string_T)], look := [], glob := G0T, ty := [], raw := [], fresh := [] }
theorem path_Compare_eq : runY Tryz.prog path_Compare_E path_Compare_H path_Compare_V path_Compare_Y Tryz.f47 path_Compare_T.ps path_Compare_T.res = path_Compare_T.fn := by kernel_rfl
theorem path_Compare_Fok : SoundP Tryz.prog G0 47 path_Compare_F := closeF_sound (runF_sound (P := Tryz.prog) (E := path_Compare_E) (h := path_Compare_H) (f := 47) (fn := Tryz.f47) ⟨same_ok, (envP_cons slices_Compare_Sl_string_string_Fok envP_nil), envS_nil, envP_nil, envX_nil⟩ Tryz.func47 rfl (by kernel_rfl))
theorem path_Compare_ok : TOk path_Compare_F path_Compare_T := runY_ok (E := path_Compare_E) (ET := path_Compare_V) (EnvT.ofX (E := path_Compare_E) (ET := path_Compare_V) (pure_of (pairs_cons slices_Compare_Sl_string_string_ok pairs_nil)) looks_nil raws_nil G0_ok news_nil) path_Compare_eq rfl
-- cmp.isNaN[int]
noncomputable def cmp_isNaN_int_E : Env := { pure := [], raw := [], glob := G0, same := [76], look := [], ext := [] }
def cmp_isNaN_int_H : Hints := { seqs := [], loops := [], own := [] }
noncomputable def cmp_isNaN_int_F : PFn := closeF (runF Tryz.prog cmp_isNaN_int_E cmp_isNaN_int_H Tryz.f73)
def cmp_isNaN_int_Y : TH := { joins := [], loops := [], cuts := [], ro := [], news := [] }
noncomputable def cmp_isNaN_int (a0 : Int) : Option Bool :=
 some (!decide (a0 = a0))
noncomputable def cmp_isNaN_int_T : TFn := { ps := (.cons (.int .i64) .unit), res := .bool, fn := fun v => cmp_isNaN_int v.1 }
noncomputable def cmp_isNaN_int_V : TEnv := { pure := [], look := [], glob := G0T, ty := [], raw := [], fresh := [] }
theorem cmp_isNaN_int_eq : runY Tryz.prog cmp_isNaN_int_E cmp_isNaN_int_H cmp_isNaN_int_V cmp_isNaN_int_Y Tryz.f73 cmp_isNaN_int_T.ps cmp_isNaN_int_T.res = cmp_isNaN_int_T.fn := by kernel_rfl
theorem cmp_isNaN_int_Fok : SoundP Tryz.prog G0 73 cmp_isNaN_int_F := closeF_sound (runF_sound (P := Tryz.prog) (E := cmp_isNaN_int_E) (h := cmp_isNaN_int_H) (f := 73) (fn := Tryz.f73) ⟨same_ok, envP_nil, envS_nil, envP_nil, envX_nil⟩ Tryz.func73 rfl (by kernel_rfl))
theorem cmp_isNaN_int_ok : TOk cmp_isNaN_int_F cmp_isNaN_int_T := runY_ok (E := cmp_isNaN_int_E) (ET := cmp_isNaN_int_V) (EnvT.ofX (E := cmp_isNaN_int_E) (ET := cmp_isNaN_int_V) (pure_of pairs_nil) looks_nil raws_nil G0_ok news_nil) cmp_isNaN_int_eq rfl
-- cmp.Compare[int]
noncomputable def cmp_Compare_int_E : Env := { pure := [(73, cmp_isNaN_int_F)], raw := [], glob := G0, same := [76], look := [], ext := [] }
def cmp_Compare_int_H : Hints := { seqs := [], loops := [], own := [] }
noncomputable def cmp_Compare_int_F : PFn := closeF (runF Tryz.prog cmp_Compare_int_E cmp_Compare_int_H Tryz.f48)
def cmp_Compare_int_Y : TH := { joins := [], loops := [], cuts := [], ro := [], news := [] }
noncomputable def cmp_Compare_int (a0 : Int) (a1 : Int) : Option Int :=
(cmp_isNaN_int a0).bind fun r1 =>
(cmp_isNaN_int a1).bind fun r2 =>
 cond r1 (
 cond r2 (
 some 0) (
 some (-1))) (
 cond r2 (
 some 1) (
 cond (decide (a0 < a1)) (
 some (-1)) (
 cond (decide (a0 > a1)) (
 some 1) (
 some 0))))
noncomputable def cmp_Compare_int_T : TFn := { ps := (.cons (.int .i64) (.cons (.int .i64) .unit)), res := (.int .i64), fn := fun v => cmp_Compare_int v.1 v.2.1 }
noncomputable def cmp_Compare_int_V : TEnv := { pure := [(73, cmp_isNaN_int_T)], look := [], glob := G0T, ty := [], raw := [], fresh := [] }
theorem cmp_Compare_int_eq : runY Tryz.prog cmp_Compare_int_E cmp_Compare_int_H cmp_Compare_int_V cmp_Compare_int_Y Tryz.f48 cmp_Compare_int_T.ps cmp_Compare_int_T.res = cmp_Compare_int_T.fn := by kernel_rfl
theorem cmp_Compare_int_Fok : SoundP Tryz.prog G0 48 cmp_Compare_int_F := closeF_sound (runF_sound (P := Tryz.prog) (E := cmp_Compare_int_E) (h := cmp_Compare_int_H) (f := 48) (fn := Tryz.f48) ⟨same_ok, (envP_cons cmp_isNaN_int_Fok envP_nil), envS_nil, envP_nil, envX_nil⟩ Tryz.func48 rfl (by kernel_rfl))
theorem cmp_Compare_int_ok : TOk cmp_Compare_int_F cmp_Compare_int_T := runY_ok (E := cmp_Compare_int_E) (ET := cmp_Compare_int_V) (EnvT.ofX (E := cmp_Compare_int_E) (ET := cmp_Compare_int_V) (pure_of (pairs_cons cmp_isNaN_int_ok pairs_nil)) looks_nil raws_nil G0_ok news_nil) cmp_Compare_int_eq rfl
-- cmp.Or[int]
noncomputable def cmp_Or_int_E : Env := { pure := [], raw := [], glob := G0, same := [76], look := [], ext := [] }
def cmp_Or_int_H : Hints := { seqs := [], loops := [(3, [3, 6, 7, 8])], own := [] }
noncomputable def cmp_Or_int_F : PFn := closeF (runF Tryz.prog cmp_Or_int_E cmp_Or_int_H Tryz.f46)
def cmp_Or_int_Y : TH := { joins := [], loops := [(3, { keep := [(8, (.int .i64))], mem := [] })], cuts := [], ro := [], news := [] }
noncomputable def cmp_Or_int_l3 (a0 : List Int) (y3 : (Int × Unit)) : Option ((Int × Unit) ⊕ Int) :=
 cond (decide (y3.1 < (a0.length : Int))) (
(atI a0 y3.1).bind fun x1 =>
 cond (!decide (x1 = 0)) (
 some (.inr x1)) (
 some (.inl ((IntKind.wrap .i64 (y3.1 + 1)), ())))) (
 some (.inr 0))
noncomputable def cmp_Or_int (a0 : List Int) : Option Int :=
 loopT (cmp_Or_int_l3 a0) (0, ())
noncomputable def cmp_Or_int_T : TFn := { ps := (.cons (.sl (.int .i64)) .unit), res := (.int .i64), fn := fun v => cmp_Or_int v.1 }
noncomputable def cmp_Or_int_V : TEnv := { pure := [], look := [], glob := G0T, ty := [], raw := [], fresh := [] }
theorem cmp_Or_int_eq : runY Tryz.prog cmp_Or_int_E cmp_Or_int_H cmp_Or_int_V cmp_Or_int_Y Tryz.f46 cmp_Or_int_T.ps cmp_Or_int_T.res = cmp_Or_int_T.fn := by kernel_rfl
theorem cmp_Or_int_Fok : SoundP Tryz.prog G0 46 cmp_Or_int_F := closeF_sound (runF_sound (P := Tryz.prog) (E := cmp_Or_int_E) (h := cmp_Or_int_H) (f := 46) (fn := Tryz.f46) ⟨same_ok, envP_nil, envS_nil, envP_nil, envX_nil⟩ Tryz.func46 rfl (by kernel_rfl))
theorem cmp_Or_int_ok : TOk cmp_Or_int_F cmp_Or_int_T := runY_ok (E := cmp_Or_int_E) (ET := cmp_Or_int_V) (EnvT.ofX (E := cmp_Or_int_E) (ET := cmp_Or_int_V) (pure_of pairs_nil) looks_nil raws_nil G0_ok news_nil) cmp_Or_int_eq rfl
-- palinode/change.compare
noncomputable def change_compare_E : Env := { pure := [(46, cmp_Or_int_F), (47, path_Compare_F), (48, cmp_Compare_int_F)], raw := [], glob := G0, same := [76], look := [], ext := [] }
def change_compare_H : Hints := { seqs := [], loops := [], own := [] }
noncomputable def change_compare_F : PFn := closeF (runF Tryz.prog change_compare_E change_compare_H Tryz.f22)
def change_compare_Y : TH := { joins := [], loops := [], cuts := [], ro := [2, 3], news := [] }
noncomputable def change_compare (a0 : (List (List UInt8) × Int × List (Int × Int × List UInt8 × Unit) × Int × Unit)) (a1 : (List (List UInt8) × Int × List (Int × Int × List UInt8 × Unit) × Int × Unit)) : Option Int :=
(path_Compare a0.1 a1.1).bind fun r1 =>
(cmp_Compare_int a0.2.1 a1.2.1).bind fun r2 =>
(cmp_Or_int ([r1, r2] : List Int)).bind fun r3 =>
 some r3
noncomputable def change_compare_T : TFn := { ps := (.cons (.agg (.cons (.sl .str) (.cons (.int .i64) (.cons (.sl (.agg (.cons (.int .i64) (.cons (.int .i64) (.cons .str .unit))))) (.cons (.int .i64) .unit))))) (.cons (.agg (.cons (.sl .str) (.cons (.int .i64) (.cons (.sl (.agg (.cons (.int .i64) (.cons (.int .i64) (.cons .str .unit))))) (.cons (.int .i64) .unit))))) .unit)), res := (.int .i64), fn := fun v => change_compare v.1 v.2.1 }
noncomputable def change_compare_V : TEnv := { pure := [(46, cmp_Or_int_T), (47, path_Compare_T), (48, cmp_Compare_int_T)], look := [], glob := G0T, ty := [(3, (.int .i64))], raw := [], fresh := [] }
theorem change_compare_eq : runY Tryz.prog change_compare_E change_compare_H change_compare_V change_compare_Y Tryz.f22 change_compare_T.ps change_compare_T.res = change_compare_T.fn := by kernel_rfl
theorem change_compare_Fok : SoundP Tryz.prog G0 22 change_compare_F := closeF_sound (runF_sound (P := Tryz.prog) (E := change_compare_E) (h := change_compare_H) (f := 22) (fn := Tryz.f22) ⟨same_ok, (envP_cons cmp_Or_int_Fok (envP_cons path_Compare_Fok (envP_cons cmp_Compare_int_Fok envP_nil))), envS_nil, envP_nil, envX_nil⟩ Tryz.func22 rfl (by kernel_rfl))
theorem change_compare_ok : TOk change_compare_F change_compare_T := runY_ok (E := change_compare_E) (ET := change_compare_V) (EnvT.ofX (E := change_compare_E) (ET := change_compare_V) (pure_of (pairs_cons cmp_Or_int_ok (pairs_cons path_Compare_ok (pairs_cons cmp_Compare_int_ok pairs_nil)))) looks_nil raws_nil G0_ok news_nil) change_compare_eq rfl
-- palinode/change.Right
noncomputable def change_Right_E : Env := { pure := [(21, path_Check_F), (22, change_compare_F)], raw := [], glob := G0, same := [76], look := [], ext := [] }
def change_Right_H : Hints := { seqs := [], loops := [(2, [0, 5, 6, 7])], own := [] }
noncomputable def change_Right_F : PFn := closeF (runF Tryz.prog change_Right_E change_Right_H Tryz.f6)
def change_Right_Y : TH := { joins := [], loops := [(2, { keep := [(7, (.int .i64))], mem := [] })], cuts := [(4, [(8, { keep := [(4, (.bx 0 0)), (19, .bool)], mem := [.box 41 (.agg (.cons (.sl .str) (.cons (.int .i64) (.cons (.sl (.agg (.cons (.int .i64) (.cons (.int .i64) (.cons .str .unit))))) (.cons (.int .i64) .unit)))))] }), (6, { keep := [(4, (.bx 0 0)), (25, .bool)], mem := [.box 41 (.agg (.cons (.sl .str) (.cons (.int .i64) (.cons (.sl (.agg (.cons (.int .i64) (.cons (.int .i64) (.cons .str .unit))))) (.cons (.int .i64) .unit)))))] })])], ro := [], news := [] }
noncomputable def change_Right_l2 (a0 : List (List (List UInt8) × Int × List (Int × Int × List UInt8 × Unit) × Int × Unit)) (y2 : (Int × Unit)) : Option ((Int × Unit) ⊕ Bool) :=
 cond (decide (y2.1 < (a0.length : Int))) (
(atI a0 y2.1).bind fun x1 =>
(cond (decide (x1.2.1 < 1)) (some (true, x1, ())) (some ((decide (x1.2.1 > 3)), x1, ())) : Option (Bool × (List (List UInt8) × Int × List (Int × Int × List UInt8 × Unit) × Int × Unit) × Unit)).bind fun v2 =>
(cond v2.1 (some (true, v2.2.1, ())) ((path_Check v2.2.1.1).bind fun r3 =>
 some ((!decide (r3 = 0)), v2.2.1, ())) : Option (Bool × (List (List UInt8) × Int × List (Int × Int × List UInt8 × Unit) × Int × Unit) × Unit)).bind fun v4 =>
 cond v4.1 (some (.inr false)) (cond (decide (y2.1 > 0)) ((atI a0 (IntKind.wrap .i64 (y2.1 - 1))).bind fun x5 =>
(change_compare x5 v4.2.1).bind fun r6 =>
 cond (decide (r6 ≥ 0)) (
 some (.inr false)) (
 some (.inl ((IntKind.wrap .i64 (y2.1 + 1)), ())))) (some (.inl ((IntKind.wrap .i64 (y2.1 + 1)), ()))))) (
 some (.inr true))
noncomputable def change_Right (a0 : List (List (List UInt8) × Int × List (Int × Int × List UInt8 × Unit) × Int × Unit)) : Option Bool :=
 loopT (change_Right_l2 a0) (0, ())
noncomputable def change_Right_T : TFn := { ps := (.cons (.sl (.agg (.cons (.sl .str) (.cons (.int .i64) (.cons (.sl (.agg (.cons (.int .i64) (.cons (.int .i64) (.cons .str .unit))))) (.cons (.int .i64) .unit)))))) .unit), res := .bool, fn := fun v => change_Right v.1 }
noncomputable def change_Right_V : TEnv := { pure := [(21, path_Check_T), (22, change_compare_T)], look := [], glob := G0T, ty := [], raw := [], fresh := [] }
theorem change_Right_eq : runY Tryz.prog change_Right_E change_Right_H change_Right_V change_Right_Y Tryz.f6 change_Right_T.ps change_Right_T.res = change_Right_T.fn := by kernel_rfl
theorem change_Right_Fok : SoundP Tryz.prog G0 6 change_Right_F := closeF_sound (runF_sound (P := Tryz.prog) (E := change_Right_E) (h := change_Right_H) (f := 6) (fn := Tryz.f6) ⟨same_ok, (envP_cons path_Check_Fok (envP_cons change_compare_Fok envP_nil)), envS_nil, envP_nil, envX_nil⟩ Tryz.func6 rfl (by kernel_rfl))
theorem change_Right_ok : TOk change_Right_F change_Right_T := runY_ok (E := change_Right_E) (ET := change_Right_V) (EnvT.ofX (E := change_Right_E) (ET := change_Right_V) (pure_of (pairs_cons path_Check_ok (pairs_cons change_compare_ok pairs_nil))) looks_nil raws_nil G0_ok news_nil) change_Right_eq rfl
-- palinode/palinoderef03.may
noncomputable def ref03_may_E : Env := { pure := [], raw := [], glob := G0, same := [76], look := [], ext := [] }
def ref03_may_H : Hints := { seqs := [], loops := [], own := [] }
noncomputable def ref03_may_F : PFn := closeF (runF Tryz.prog ref03_may_E ref03_may_H Tryz.f74)
def ref03_may_Y : TH := { joins := [], loops := [], cuts := [], ro := [], news := [] }
noncomputable def ref03_may (a0 : Int) : Option Bool :=
 cond (decide (a0 ≥ 32)) (cond (decide (a0 < 127)) (some (!decide (a0 = 65533))) (cond (decide (a0 > 159)) (some (!decide (a0 = 65533))) (some false))) (some false)
noncomputable def ref03_may_T : TFn := { ps := (.cons (.int .i64) .unit), res := .bool, fn := fun v => ref03_may v.1 }
noncomputable def ref03_may_V : TEnv := { pure := [], look := [], glob := G0T, ty := [], raw := [], fresh := [] }
theorem ref03_may_eq : runY Tryz.prog ref03_may_E ref03_may_H ref03_may_V ref03_may_Y Tryz.f74 ref03_may_T.ps ref03_may_T.res = ref03_may_T.fn := by kernel_rfl
theorem ref03_may_Fok : SoundP Tryz.prog G0 74 ref03_may_F := closeF_sound (runF_sound (P := Tryz.prog) (E := ref03_may_E) (h := ref03_may_H) (f := 74) (fn := Tryz.f74) ⟨same_ok, envP_nil, envS_nil, envP_nil, envX_nil⟩ Tryz.func74 rfl (by kernel_rfl))
theorem ref03_may_ok : TOk ref03_may_F ref03_may_T := runY_ok (E := ref03_may_E) (ET := ref03_may_V) (EnvT.ofX (E := ref03_may_E) (ET := ref03_may_V) (pure_of pairs_nil) looks_nil raws_nil G0_ok news_nil) ref03_may_eq rfl
-- palinode/palinoderef03.Right
noncomputable def ref03_Right_E : Env := { pure := [(35, ref03_Runes_F), (74, ref03_may_F)], raw := [], glob := G0, same := [76], look := [], ext := [] }
def ref03_Right_H : Hints := { seqs := [], loops := [(3, [3, 4, 5])], own := [] }
noncomputable def ref03_Right_F : PFn := closeF (runF Tryz.prog ref03_Right_E ref03_Right_H Tryz.f49)
def ref03_Right_Y : TH := { joins := [(7, { keep := [], mem := [] })], loops := [(3, { keep := [(5, (.int .i64))], mem := [] })], cuts := [], ro := [], news := [] }
noncomputable def ref03_Right_l3 (r1 : (List Int × Bool × Unit)) (y3 : (Int × Unit)) : Option ((Int × Unit) ⊕ (Unit ⊕ Bool)) :=
 cond (decide (y3.1 < (r1.1.length : Int))) (
(atI r1.1 y3.1).bind fun x2 =>
(ref03_may x2).bind fun r3 =>
 cond (!r3) (
 some (.inr (.inr false))) (
 some (.inl ((IntKind.wrap .i64 (y3.1 + 1)), ())))) (
 some (.inr (.inl ())))
noncomputable def ref03_Right (a0 : List UInt8) : Option Bool :=
(ref03_Runes a0).bind fun r1 =>
(loopT (ref03_Right_l3 r1) (0, ()) : Option (Unit ⊕ Bool)).bind (joinS fun v4 =>
 cond r1.2.1 (cond (decide ((r1.1.length : Int) ≥ 1)) (some (decide ((r1.1.length : Int) ≤ 24))) (some false)) (some false))
noncomputable def ref03_Right_T : TFn := { ps := (.cons .str .unit), res := .bool, fn := fun v => ref03_Right v.1 }
noncomputable def ref03_Right_V : TEnv := { pure := [(35, ref03_Runes_T), (74, ref03_may_T)], look := [], glob := G0T, ty := [], raw := [], fresh := [] }
theorem ref03_Right_eq : runY Tryz.prog ref03_Right_E ref03_Right_H ref03_Right_V ref03_Right_Y Tryz.f49 ref03_Right_T.ps ref03_Right_T.res = ref03_Right_T.fn := by kernel_rfl
theorem ref03_Right_Fok : SoundP Tryz.prog G0 49 ref03_Right_F := closeF_sound (runF_sound (P := Tryz.prog) (E := ref03_Right_E) (h := ref03_Right_H) (f := 49) (fn := Tryz.f49) ⟨same_ok, (envP_cons ref03_Runes_Fok (envP_cons ref03_may_Fok envP_nil)), envS_nil, envP_nil, envX_nil⟩ Tryz.func49 rfl (by kernel_rfl))
theorem ref03_Right_ok : TOk ref03_Right_F ref03_Right_T := runY_ok (E := ref03_Right_E) (ET := ref03_Right_V) (EnvT.ofX (E := ref03_Right_E) (ET := ref03_Right_V) (pure_of (pairs_cons ref03_Runes_ok (pairs_cons ref03_may_ok pairs_nil))) looks_nil raws_nil G0_ok news_nil) ref03_Right_eq rfl
-- palinode/palinoderef10.Check
noncomputable def ref10_Check_E : Env := { pure := [(49, ref03_Right_F)], raw := [], glob := G0, same := [76], look := [], ext := [] }
def ref10_Check_H : Hints := { seqs := [], loops := [(6, [0, 3])], own := [] }
noncomputable def ref10_Check_F : PFn := closeF (runF Tryz.prog ref10_Check_E ref10_Check_H Tryz.f23)
def ref10_Check_Y : TH := { joins := [], loops := [(6, { keep := [(3, (.int .i64))], mem := [] })], cuts := [], ro := [], news := [] }
noncomputable def ref10_Check_l6 (a0 : List (List UInt8)) (y6 : (Int × Unit)) : Option ((Int × Unit) ⊕ Int) :=
 cond (decide (y6.1 < (a0.length : Int))) (
(atI a0 y6.1).bind fun x1 =>
(ref03_Right x1).bind fun r2 =>
 cond (!r2) (
 some (.inr 8)) (
 some (.inl ((IntKind.wrap .i64 (y6.1 + 1)), ())))) (
 some (.inr 0))
noncomputable def ref10_Check (a0 : List (List UInt8)) : Option Int :=
 cond (decide ((a0.length : Int) = 0)) (
 some 8) (
 cond (decide ((a0.length : Int) > 8)) (
 some 9) (
 loopT (ref10_Check_l6 a0) (0, ())))
noncomputable def ref10_Check_T : TFn := { ps := (.cons (.sl .str) .unit), res := (.int .i64), fn := fun v => ref10_Check v.1 }
noncomputable def ref10_Check_V : TEnv := { pure := [(49, ref03_Right_T)], look := [], glob := G0T, ty := [], raw := [], fresh := [] }
theorem ref10_Check_eq : runY Tryz.prog ref10_Check_E ref10_Check_H ref10_Check_V ref10_Check_Y Tryz.f23 ref10_Check_T.ps ref10_Check_T.res = ref10_Check_T.fn := by kernel_rfl
theorem ref10_Check_Fok : SoundP Tryz.prog G0 23 ref10_Check_F := closeF_sound (runF_sound (P := Tryz.prog) (E := ref10_Check_E) (h := ref10_Check_H) (f := 23) (fn := Tryz.f23) ⟨same_ok, (envP_cons ref03_Right_Fok envP_nil), envS_nil, envP_nil, envX_nil⟩ Tryz.func23 rfl (by kernel_rfl))
theorem ref10_Check_ok : TOk ref10_Check_F ref10_Check_T := runY_ok (E := ref10_Check_E) (ET := ref10_Check_V) (EnvT.ofX (E := ref10_Check_E) (ET := ref10_Check_V) (pure_of (pairs_cons ref03_Right_ok pairs_nil)) looks_nil raws_nil G0_ok news_nil) ref10_Check_eq rfl
-- palinode/palinoderef09.ints
noncomputable def ref09_ints_E : Env := { pure := [], raw := [], glob := G0, same := [76], look := [], ext := [] }
def ref09_ints_H : Hints := { seqs := [], loops := [], own := [] }
noncomputable def ref09_ints_F : PFn := closeF (runF Tryz.prog ref09_ints_E ref09_ints_H Tryz.f88)
def ref09_ints_Y : TH := { joins := [], loops := [], cuts := [], ro := [], news := [] }
noncomputable def ref09_ints (a0 : Int) (a1 : Int) : Option Int :=
 cond (decide (a0 < a1)) (
 some (-1)) (
 cond (decide (a0 > a1)) (
 some 1) (
 some 0))
noncomputable def ref09_ints_T : TFn := { ps := (.cons (.int .i64) (.cons (.int .i64) .unit)), res := (.int .i64), fn := fun v => ref09_ints v.1 v.2.1 }
noncomputable def ref09_ints_V : TEnv := { pure := [], look := [], glob := G0T, ty := [], raw := [], fresh := [] }
theorem ref09_ints_eq : runY Tryz.prog ref09_ints_E ref09_ints_H ref09_ints_V ref09_ints_Y Tryz.f88 ref09_ints_T.ps ref09_ints_T.res = ref09_ints_T.fn := by kernel_rfl
theorem ref09_ints_Fok : SoundP Tryz.prog G0 88 ref09_ints_F := closeF_sound (runF_sound (P := Tryz.prog) (E := ref09_ints_E) (h := ref09_ints_H) (f := 88) (fn := Tryz.f88) ⟨same_ok, envP_nil, envS_nil, envP_nil, envX_nil⟩ Tryz.func88 rfl (by kernel_rfl))
theorem ref09_ints_ok : TOk ref09_ints_F ref09_ints_T := runY_ok (E := ref09_ints_E) (ET := ref09_ints_V) (EnvT.ofX (E := ref09_ints_E) (ET := ref09_ints_V) (pure_of pairs_nil) looks_nil raws_nil G0_ok news_nil) ref09_ints_eq rfl
-- palinode/palinoderef09.Texts
noncomputable def ref09_Texts_E : Env := { pure := [(88, ref09_ints_F)], raw := [], glob := G0, same := [76], look := [], ext := [] }
def ref09_Texts_H : Hints := { seqs := [], loops := [(2, [0, 1, 5])], own := [] }
noncomputable def ref09_Texts_F : PFn := closeF (runF Tryz.prog ref09_Texts_E ref09_Texts_H Tryz.f75)
def ref09_Texts_Y : TH := { joins := [(6, { keep := [], mem := [] })], loops := [(2, { keep := [(5, (.int .i64))], mem := [] })], cuts := [], ro := [], news := [] }
noncomputable def ref09_Texts_l2 (a0 : List UInt8) (a1 : List UInt8) (y2 : (Int × Unit)) : Option ((Int × Unit) ⊕ (Unit ⊕ Int)) :=
 cond (decide (y2.1 < (a0.length : Int))) (cond (decide (y2.1 < (a1.length : Int))) (
(atI a0 y2.1).bind fun b1 =>
(atI a1 y2.1).bind fun b2 =>
 cond (!decide ((b1.toNat : Int) = (b2.toNat : Int))) (
(atI a0 y2.1).bind fun b3 =>
(atI a1 y2.1).bind fun b4 =>
(ref09_ints (IntKind.wrap .i64 (b3.toNat : Int)) (IntKind.wrap .i64 (b4.toNat : Int))).bind fun r5 =>
 some (.inr (.inr r5))) (
 some (.inl ((IntKind.wrap .i64 (y2.1 + 1)), ())))) (
 some (.inr (.inl ())))) (some (.inr (.inl ())))
noncomputable def ref09_Texts (a0 : List UInt8) (a1 : List UInt8) : Option Int :=
(loopT (ref09_Texts_l2 a0 a1) (0, ()) : Option (Unit ⊕ Int)).bind (joinS fun v6 =>
(ref09_ints (a0.length : Int) (a1.length : Int)).bind fun r7 =>
 some r7)
noncomputable def ref09_Texts_T : TFn := { ps := (.cons .str (.cons .str .unit)), res := (.int .i64), fn := fun v => ref09_Texts v.1 v.2.1 }
noncomputable def ref09_Texts_V : TEnv := { pure := [(88, ref09_ints_T)], look := [], glob := G0T, ty := [], raw := [], fresh := [] }
theorem ref09_Texts_eq : runY Tryz.prog ref09_Texts_E ref09_Texts_H ref09_Texts_V ref09_Texts_Y Tryz.f75 ref09_Texts_T.ps ref09_Texts_T.res = ref09_Texts_T.fn := by kernel_rfl
theorem ref09_Texts_Fok : SoundP Tryz.prog G0 75 ref09_Texts_F := closeF_sound (runF_sound (P := Tryz.prog) (E := ref09_Texts_E) (h := ref09_Texts_H) (f := 75) (fn := Tryz.f75) ⟨same_ok, (envP_cons ref09_ints_Fok envP_nil), envS_nil, envP_nil, envX_nil⟩ Tryz.func75 rfl (by kernel_rfl))
theorem ref09_Texts_ok : TOk ref09_Texts_F ref09_Texts_T := runY_ok (E := ref09_Texts_E) (ET := ref09_Texts_V) (EnvT.ofX (E := ref09_Texts_E) (ET := ref09_Texts_V) (pure_of (pairs_cons ref09_ints_ok pairs_nil)) looks_nil raws_nil G0_ok news_nil) ref09_Texts_eq rfl
-- palinode/palinoderef10.Compare
noncomputable def ref10_Compare_E : Env := { pure := [(75, ref09_Texts_F)], raw := [], glob := G0, same := [76], look := [], ext := [] }
def ref10_Compare_H : Hints := { seqs := [], loops := [(2, [0, 1, 5])], own := [] }
noncomputable def ref10_Compare_F : PFn := closeF (runF Tryz.prog ref10_Compare_E ref10_Compare_H Tryz.f50)
def ref10_Compare_Y : TH := { joins := [(7, { keep := [], mem := [] })], loops := [(2, { keep := [(5, (.int .i64))], mem := [] })], cuts := [], ro := [], news := [] }
noncomputable def ref10_Compare_l2 (a0 : List (List UInt8)) (a1 : List (List UInt8)) (y2 : (Int × Unit)) : Option ((Int × Unit) ⊕ (Unit ⊕ Int)) :=
 cond (decide (y2.1 < (a0.length : Int))) (cond (decide (y2.1 < (a1.length : Int))) (
(atI a0 y2.1).bind fun x1 =>
(atI a1 y2.1).bind fun x2 =>
(ref09_Texts x1 x2).bind fun r3 =>
 cond (!decide (r3 = 0)) (
 some (.inr (.inr r3))) (
 some (.inl ((IntKind.wrap .i64 (y2.1 + 1)), ())))) (
 some (.inr (.inl ())))) (some (.inr (.inl ())))
noncomputable def ref10_Compare (a0 : List (List UInt8)) (a1 : List (List UInt8)) : Option Int :=
(loopT (ref10_Compare_l2 a0 a1) (0, ()) : Option (Unit ⊕ Int)).bind (joinS fun v4 =>
 cond (decide ((a0.length : Int) < (a1.length : Int))) (
 some (-1)) (
 cond (decide ((a0.length : Int) > (a1.length : Int))) (
 some 1) (
 some 0)))
noncomputable def ref10_Compare_T : TFn := { ps := (.cons (.sl .str) (.cons (.sl .str) .unit)), res := (.int .i64), fn := fun v => ref10_Compare v.1 v.2.1 }
noncomputable def ref10_Compare_V : TEnv := { pure := [(75, ref09_Texts_T)], look := [], glob := G0T, ty := [], raw := [], fresh := [] }
theorem ref10_Compare_eq : runY Tryz.prog ref10_Compare_E ref10_Compare_H ref10_Compare_V ref10_Compare_Y Tryz.f50 ref10_Compare_T.ps ref10_Compare_T.res = ref10_Compare_T.fn := by kernel_rfl
theorem ref10_Compare_Fok : SoundP Tryz.prog G0 50 ref10_Compare_F := closeF_sound (runF_sound (P := Tryz.prog) (E := ref10_Compare_E) (h := ref10_Compare_H) (f := 50) (fn := Tryz.f50) ⟨same_ok, (envP_cons ref09_Texts_Fok envP_nil), envS_nil, envP_nil, envX_nil⟩ Tryz.func50 rfl (by kernel_rfl))
theorem ref10_Compare_ok : TOk ref10_Compare_F ref10_Compare_T := runY_ok (E := ref10_Compare_E) (ET := ref10_Compare_V) (EnvT.ofX (E := ref10_Compare_E) (ET := ref10_Compare_V) (pure_of (pairs_cons ref09_Texts_ok pairs_nil)) looks_nil raws_nil G0_ok news_nil) ref10_Compare_eq rfl
-- palinode/palinoderef39.compare
noncomputable def ref39_compare_E : Env := { pure := [(50, ref10_Compare_F)], raw := [], glob := G0, same := [76], look := [], ext := [] }
def ref39_compare_H : Hints := { seqs := [], loops := [], own := [] }
noncomputable def ref39_compare_F : PFn := closeF (runF Tryz.prog ref39_compare_E ref39_compare_H Tryz.f24)
def ref39_compare_Y : TH := { joins := [], loops := [], cuts := [], ro := [2, 3], news := [] }
noncomputable def ref39_compare (a0 : (List (List UInt8) × Int × List (Int × Int × List UInt8 × Unit) × Int × Unit)) (a1 : (List (List UInt8) × Int × List (Int × Int × List UInt8 × Unit) × Int × Unit)) : Option Int :=
(ref10_Compare a0.1 a1.1).bind fun r1 =>
 cond (!decide (r1 = 0)) (
 some r1) (
 cond (decide (a0.2.1 < a1.2.1)) (
 some (-1)) (
 cond (decide (a0.2.1 > a1.2.1)) (
 some 1) (
 some 0)))
noncomputable def ref39_compare_T : TFn := { ps := (.cons (.agg (.cons (.sl .str) (.cons (.int .i64) (.cons (.sl (.agg (.cons (.int .i64) (.cons (.int .i64) (.cons .str .unit))))) (.cons (.int .i64) .unit))))) (.cons (.agg (.cons (.sl .str) (.cons (.int .i64) (.cons (.sl (.agg (.cons (.int .i64) (.cons (.int .i64) (.cons .str .unit))))) (.cons (.int .i64) .unit))))) .unit)), res := (.int .i64), fn := fun v => ref39_compare v.1 v.2.1 }
noncomputable def ref39_compare_V : TEnv := { pure := [(50, ref10_Compare_T)], look := [], glob := G0T, ty := [], raw := [], fresh := [] }
theorem ref39_compare_eq : runY Tryz.prog ref39_compare_E ref39_compare_H ref39_compare_V ref39_compare_Y Tryz.f24 ref39_compare_T.ps ref39_compare_T.res = ref39_compare_T.fn := by kernel_rfl
theorem ref39_compare_Fok : SoundP Tryz.prog G0 24 ref39_compare_F := closeF_sound (runF_sound (P := Tryz.prog) (E := ref39_compare_E) (h := ref39_compare_H) (f := 24) (fn := Tryz.f24) ⟨same_ok, (envP_cons ref10_Compare_Fok envP_nil), envS_nil, envP_nil, envX_nil⟩ Tryz.func24 rfl (by kernel_rfl))
theorem ref39_compare_ok : TOk ref39_compare_F ref39_compare_T := runY_ok (E := ref39_compare_E) (ET := ref39_compare_V) (EnvT.ofX (E := ref39_compare_E) (ET := ref39_compare_V) (pure_of (pairs_cons ref10_Compare_ok pairs_nil)) looks_nil raws_nil G0_ok news_nil) ref39_compare_eq rfl
-- palinode/palinoderef39.Right
noncomputable def ref39_Right_E : Env := { pure := [(23, ref10_Check_F), (24, ref39_compare_F)], raw := [], glob := G0, same := [76], look := [], ext := [] }
def ref39_Right_H : Hints := { seqs := [], loops := [(2, [0, 3])], own := [] }
noncomputable def ref39_Right_F : PFn := closeF (runF Tryz.prog ref39_Right_E ref39_Right_H Tryz.f7)
def ref39_Right_Y : TH := { joins := [], loops := [(2, { keep := [(3, (.int .i64))], mem := [] })], cuts := [], ro := [], news := [] }
noncomputable def ref39_Right_l2 (a0 : List (List (List UInt8) × Int × List (Int × Int × List UInt8 × Unit) × Int × Unit)) (y2 : (Int × Unit)) : Option ((Int × Unit) ⊕ Bool) :=
 cond (decide (y2.1 < (a0.length : Int))) (
(atI a0 y2.1).bind fun x1 =>
 cond (decide (x1.2.1 < 1)) (some (.inr false)) ((atI a0 y2.1).bind fun x2 =>
 cond (decide (x2.2.1 > 3)) (some (.inr false)) ((atI a0 y2.1).bind fun x3 =>
(ref10_Check x3.1).bind fun r4 =>
 cond (!decide (r4 = 0)) (
 some (.inr false)) (
 cond (decide (y2.1 > 0)) ((atI a0 (IntKind.wrap .i64 (y2.1 - 1))).bind fun x5 =>
(atI a0 y2.1).bind fun x6 =>
(ref39_compare x5 x6).bind fun r7 =>
 cond (!decide (r7 = (-1))) (
 some (.inr false)) (
 some (.inl ((IntKind.wrap .i64 (y2.1 + 1)), ())))) (some (.inl ((IntKind.wrap .i64 (y2.1 + 1)), ()))))))) (
 some (.inr true))
noncomputable def ref39_Right (a0 : List (List (List UInt8) × Int × List (Int × Int × List UInt8 × Unit) × Int × Unit)) : Option Bool :=
 loopT (ref39_Right_l2 a0) (0, ())
noncomputable def ref39_Right_T : TFn := { ps := (.cons (.sl (.agg (.cons (.sl .str) (.cons (.int .i64) (.cons (.sl (.agg (.cons (.int .i64) (.cons (.int .i64) (.cons .str .unit))))) (.cons (.int .i64) .unit)))))) .unit), res := .bool, fn := fun v => ref39_Right v.1 }
noncomputable def ref39_Right_V : TEnv := { pure := [(23, ref10_Check_T), (24, ref39_compare_T)], look := [], glob := G0T, ty := [], raw := [], fresh := [] }
theorem ref39_Right_eq : runY Tryz.prog ref39_Right_E ref39_Right_H ref39_Right_V ref39_Right_Y Tryz.f7 ref39_Right_T.ps ref39_Right_T.res = ref39_Right_T.fn := by kernel_rfl
theorem ref39_Right_Fok : SoundP Tryz.prog G0 7 ref39_Right_F := closeF_sound (runF_sound (P := Tryz.prog) (E := ref39_Right_E) (h := ref39_Right_H) (f := 7) (fn := Tryz.f7) ⟨same_ok, (envP_cons ref10_Check_Fok (envP_cons ref39_compare_Fok envP_nil)), envS_nil, envP_nil, envX_nil⟩ Tryz.func7 rfl (by kernel_rfl))
theorem ref39_Right_ok : TOk ref39_Right_F ref39_Right_T := runY_ok (E := ref39_Right_E) (ET := ref39_Right_V) (EnvT.ofX (E := ref39_Right_E) (ET := ref39_Right_V) (pure_of (pairs_cons ref10_Check_ok (pairs_cons ref39_compare_ok pairs_nil))) looks_nil raws_nil G0_ok news_nil) ref39_Right_eq rfl
-- palinode/palinodelaw39.Theirs
noncomputable def law39_Theirs_E : Env := { pure := [], raw := [], glob := G0, same := [76], look := [], ext := [] }
def law39_Theirs_H : Hints := { seqs := [], loops := [(3, [0, 3, 4])], own := [] }
noncomputable def law39_Theirs_F : PFn := closeF (runF Tryz.prog law39_Theirs_E law39_Theirs_H Tryz.f8)
def law39_Theirs_Y : TH := { joins := [], loops := [(3, { keep := [(3, (.own 0)), (4, (.int .i64))], mem := [.row true 53 (.agg (.cons (.sl .str) (.cons (.int .i64) (.cons (.sl (.agg (.cons (.int .i64) (.cons (.int .i64) (.cons .str .unit))))) (.cons (.int .i64) .unit)))))] })], cuts := [], ro := [], news := [] }
noncomputable def law39_Theirs_l3 (a0 : List (List (List UInt8) × Int × List (Int × Int × List UInt8 × Unit) × Int × Unit)) (y3 : (Int × List (List (List UInt8) × Int × List (Int × Int × List UInt8 × Unit) × Int × Unit) × Unit)) : Option ((Int × List (List (List UInt8) × Int × List (Int × Int × List UInt8 × Unit) × Int × Unit) × Unit) ⊕ List (List (List UInt8) × Int × List (Int × Int × List UInt8 × Unit) × Int × Unit)) :=
 cond (decide (y3.1 < (a0.length : Int))) (
(atI a0 y3.1).bind fun x1 =>
(atI a0 y3.1).bind fun x2 =>
(atI a0 y3.1).bind fun x3 =>
(atI a0 y3.1).bind fun x4 =>
(roomT (y3.2.1.length + ([(x1.1, x2.2.1, x3.2.2.1, x4.2.2.2.1, ())] : List (List (List UInt8) × Int × List (Int × Int × List UInt8 × Unit) × Int × Unit)).length)).bind fun u5 =>
 some (.inl ((IntKind.wrap .i64 (y3.1 + 1)), (y3.2.1 ++ ([(x1.1, x2.2.1, x3.2.2.1, x4.2.2.2.1, ())] : List (List (List UInt8) × Int × List (Int × Int × List UInt8 × Unit) × Int × Unit))), ()))) (
 some (.inr y3.2.1))
noncomputable def law39_Theirs (a0 : List (List (List UInt8) × Int × List (Int × Int × List UInt8 × Unit) × Int × Unit)) : Option (List (List (List UInt8) × Int × List (Int × Int × List UInt8 × Unit) × Int × Unit)) :=
 loopT (law39_Theirs_l3 a0) (0, [], ())
noncomputable def law39_Theirs_T : TFn := { ps := (.cons (.sl (.agg (.cons (.sl .str) (.cons (.int .i64) (.cons (.sl (.agg (.cons (.int .i64) (.cons (.int .i64) (.cons .str .unit))))) (.cons (.int .i64) .unit)))))) .unit), res := (.sl (.agg (.cons (.sl .str) (.cons (.int .i64) (.cons (.sl (.agg (.cons (.int .i64) (.cons (.int .i64) (.cons .str .unit))))) (.cons (.int .i64) .unit)))))), fn := fun v => law39_Theirs v.1 }
noncomputable def law39_Theirs_V : TEnv := { pure := [], look := [], glob := G0T, ty := [(53, (.agg (.cons (.sl .str) (.cons (.int .i64) (.cons (.sl (.agg (.cons (.int .i64) (.cons (.int .i64) (.cons .str .unit))))) (.cons (.int .i64) .unit))))))], raw := [], fresh := [] }
theorem law39_Theirs_eq : runY Tryz.prog law39_Theirs_E law39_Theirs_H law39_Theirs_V law39_Theirs_Y Tryz.f8 law39_Theirs_T.ps law39_Theirs_T.res = law39_Theirs_T.fn := by kernel_rfl
theorem law39_Theirs_Fok : SoundP Tryz.prog G0 8 law39_Theirs_F := closeF_sound (runF_sound (P := Tryz.prog) (E := law39_Theirs_E) (h := law39_Theirs_H) (f := 8) (fn := Tryz.f8) ⟨same_ok, envP_nil, envS_nil, envP_nil, envX_nil⟩ Tryz.func8 rfl (by kernel_rfl))
theorem law39_Theirs_ok : TOk law39_Theirs_F law39_Theirs_T := runY_ok (E := law39_Theirs_E) (ET := law39_Theirs_V) (EnvT.ofX (E := law39_Theirs_E) (ET := law39_Theirs_V) (pure_of pairs_nil) looks_nil raws_nil G0_ok news_nil) law39_Theirs_eq rfl
-- palinode/palinodelaw39.Good
noncomputable def law39_Good_E : Env := { pure := [(4, law39_short_F), (7, ref39_Right_F), (8, law39_Theirs_F)], raw := [], glob := G0, same := [76], look := [], ext := [] }
def law39_Good_H : Hints := { seqs := [], loops := [], own := [] }
noncomputable def law39_Good_F : PFn := closeF (runF Tryz.prog law39_Good_E law39_Good_H Tryz.f9)
def law39_Good_Y : TH := { joins := [], loops := [], cuts := [], ro := [], news := [] }
noncomputable def law39_Good (a0 : List (List (List UInt8) × Int × List (Int × Int × List UInt8 × Unit) × Int × Unit)) : Option Bool :=
(law39_short a0).bind fun r1 =>
 cond r1 ((law39_Theirs a0).bind fun r2 =>
(ref39_Right r2).bind fun r3 =>
 some r3) (some false)
noncomputable def law39_Good_T : TFn := { ps := (.cons (.sl (.agg (.cons (.sl .str) (.cons (.int .i64) (.cons (.sl (.agg (.cons (.int .i64) (.cons (.int .i64) (.cons .str .unit))))) (.cons (.int .i64) .unit)))))) .unit), res := .bool, fn := fun v => law39_Good v.1 }
noncomputable def law39_Good_V : TEnv := { pure := [(4, law39_short_T), (7, ref39_Right_T), (8, law39_Theirs_T)], look := [], glob := G0T, ty := [], raw := [], fresh := [] }
theorem law39_Good_eq : runY Tryz.prog law39_Good_E law39_Good_H law39_Good_V law39_Good_Y Tryz.f9 law39_Good_T.ps law39_Good_T.res = law39_Good_T.fn := by kernel_rfl
theorem law39_Good_Fok : SoundP Tryz.prog G0 9 law39_Good_F := closeF_sound (runF_sound (P := Tryz.prog) (E := law39_Good_E) (h := law39_Good_H) (f := 9) (fn := Tryz.f9) ⟨same_ok, (envP_cons law39_short_Fok (envP_cons ref39_Right_Fok (envP_cons law39_Theirs_Fok envP_nil))), envS_nil, envP_nil, envX_nil⟩ Tryz.func9 rfl (by kernel_rfl))
theorem law39_Good_ok : TOk law39_Good_F law39_Good_T := runY_ok (E := law39_Good_E) (ET := law39_Good_V) (EnvT.ofX (E := law39_Good_E) (ET := law39_Good_V) (pure_of (pairs_cons law39_short_ok (pairs_cons ref39_Right_ok (pairs_cons law39_Theirs_ok pairs_nil)))) looks_nil raws_nil G0_ok news_nil) law39_Good_eq rfl
-- slices.Clone[[]string,string]
def slices_Clone_Sl_string_string_ren : Go.Shelf.Ren := ⟨fun | 41 => 51 | n => n, fun | 22 => 38 | 23 => 9 | 4 => 4 | n => n, fun | n => n⟩
theorem slices_Clone_Sl_string_string_lays : Go.Proofs.SlLaysE0.n41 Tryz.prog slices_Clone_Sl_string_string_ren := {
  mixed := by kernel_rfl
  f41 := ⟨Tryz.f51.name, by decide, Tryz.func51.trans (congrArg some (by kernel_rfl))⟩
  t4 := Tryz.underlying4
  a4 := Tryz.isAgg4
  z4 := Tryz.sizeOf4
  v4 := Tryz.zeroValue4
  t22 := Tryz.underlying38
  a22 := Tryz.isAgg38
  z22 := Tryz.sizeOf38
  v22 := Tryz.zeroValue38 }
noncomputable def slices_Clone_Sl_string_string_F : PFn := (cloneF 1)
theorem slices_Clone_Sl_string_string_Fok : SoundP Tryz.prog G0 51 slices_Clone_Sl_string_string_F := clone_lays slices_Clone_Sl_string_string_lays 1 ⟨Tryz.f51, Tryz.func51, rfl, by kernel_rfl⟩ (by kernel_rfl) (by kernel_rfl) (by kernel_rfl) (by kernel_rfl) (by kernel_rfl) (by decide) (fun w => Tryz.sizeOf9 w)
noncomputable def slices_Clone_Sl_string_string (a0 : List (List UInt8)) : Option (List (List UInt8)) := cloneT a0
noncomputable def slices_Clone_Sl_string_string_T : TFn := cloneT_T .str
theorem slices_Clone_Sl_string_string_ok : TOk slices_Clone_Sl_string_string_F slices_Clone_Sl_string_string_T := cloneT_ok rfl rfl rfl
-- slices.Clone[[]palinode/api.Value,palinode/api.Value]
def slices_Clone_Sl_api_Value_api_Value_ren : Go.Shelf.Ren := ⟨fun | 41 => 52 | n => n, fun | 22 => 39 | 23 => 44 | 4 => 4 | n => n, fun | n => n⟩
theorem slices_Clone_Sl_api_Value_api_Value_lays : Go.Proofs.SlLaysE0.n41 Tryz.prog slices_Clone_Sl_api_Value_api_Value_ren := {
  mixed := by kernel_rfl
  f41 := ⟨Tryz.f52.name, by decide, Tryz.func52.trans (congrArg some (by kernel_rfl))⟩
  t4 := Tryz.underlying4
  a4 := Tryz.isAgg4
  z4 := Tryz.sizeOf4
  v4 := Tryz.zeroValue4
  t22 := Tryz.underlying39
  a22 := Tryz.isAgg39
  z22 := Tryz.sizeOf39
  v22 := Tryz.zeroValue39 }
noncomputable def slices_Clone_Sl_api_Value_api_Value_F : PFn := (cloneF 3)
theorem slices_Clone_Sl_api_Value_api_Value_Fok : SoundP Tryz.prog G0 52 slices_Clone_Sl_api_Value_api_Value_F := clone_lays slices_Clone_Sl_api_Value_api_Value_lays 3 ⟨Tryz.f52, Tryz.func52, rfl, by kernel_rfl⟩ (by kernel_rfl) (by kernel_rfl) (by kernel_rfl) (by kernel_rfl) (by kernel_rfl) (by decide) (fun w => Tryz.sizeOf44 w)
noncomputable def slices_Clone_Sl_api_Value_api_Value (a0 : List (Int × Int × List UInt8 × Unit)) : Option (List (Int × Int × List UInt8 × Unit)) := cloneT a0
noncomputable def slices_Clone_Sl_api_Value_api_Value_T : TFn := cloneT_T (.agg (.cons (.int .i64) (.cons (.int .i64) (.cons .str .unit))))
theorem slices_Clone_Sl_api_Value_api_Value_ok : TOk slices_Clone_Sl_api_Value_api_Value_F slices_Clone_Sl_api_Value_api_Value_T := cloneT_ok rfl rfl rfl
-- palinode/change.clone
noncomputable def change_clone_E : Env := { pure := [(51, slices_Clone_Sl_string_string_F), (52, slices_Clone_Sl_api_Value_api_Value_F)], raw := [], glob := G0, same := [76], look := [], ext := [] }
def change_clone_H : Hints := { seqs := [], loops := [], own := [] }
noncomputable def change_clone_F : PFn := closeF (runF Tryz.prog change_clone_E change_clone_H Tryz.f25)
def change_clone_Y : TH := { joins := [], loops := [], cuts := [], ro := [], news := [] }
noncomputable def change_clone (a0 : (List (List UInt8) × Int × List (Int × Int × List UInt8 × Unit) × Int × Unit)) : Option (List (List UInt8) × Int × List (Int × Int × List UInt8 × Unit) × Int × Unit) :=
(slices_Clone_Sl_string_string a0.1).bind fun r1 =>
(slices_Clone_Sl_api_Value_api_Value a0.2.2.1).bind fun r2 =>
 some (r1, a0.2.1, r2, a0.2.2.2.1, ())
noncomputable def change_clone_T : TFn := { ps := (.cons (.agg (.cons (.sl .str) (.cons (.int .i64) (.cons (.sl (.agg (.cons (.int .i64) (.cons (.int .i64) (.cons .str .unit))))) (.cons (.int .i64) .unit))))) .unit), res := (.agg (.cons (.sl .str) (.cons (.int .i64) (.cons (.sl (.agg (.cons (.int .i64) (.cons (.int .i64) (.cons .str .unit))))) (.cons (.int .i64) .unit))))), fn := fun v => change_clone v.1 }
noncomputable def change_clone_V : TEnv := { pure := [(51, slices_Clone_Sl_string_string_T), (52, slices_Clone_Sl_api_Value_api_Value_T)], look := [], glob := G0T, ty := [], raw := [], fresh := [] }
theorem change_clone_eq : runY Tryz.prog change_clone_E change_clone_H change_clone_V change_clone_Y Tryz.f25 change_clone_T.ps change_clone_T.res = change_clone_T.fn := by kernel_rfl
theorem change_clone_Fok : SoundP Tryz.prog G0 25 change_clone_F := closeF_sound (runF_sound (P := Tryz.prog) (E := change_clone_E) (h := change_clone_H) (f := 25) (fn := Tryz.f25) ⟨same_ok, (envP_cons slices_Clone_Sl_string_string_Fok (envP_cons slices_Clone_Sl_api_Value_api_Value_Fok envP_nil)), envS_nil, envP_nil, envX_nil⟩ Tryz.func25 rfl (by kernel_rfl))
theorem change_clone_ok : TOk change_clone_F change_clone_T := runY_ok (E := change_clone_E) (ET := change_clone_V) (EnvT.ofX (E := change_clone_E) (ET := change_clone_V) (pure_of (pairs_cons slices_Clone_Sl_string_string_ok (pairs_cons slices_Clone_Sl_api_Value_api_Value_ok pairs_nil))) looks_nil raws_nil G0_ok news_nil) change_clone_eq rfl
-- slices.Equal[[]string,string]
noncomputable def slices_Equal_Sl_string_string_E : Env := { pure := [], raw := [], glob := G0, same := [76], look := [], ext := [] }
def slices_Equal_Sl_string_string_H : Hints := { seqs := [], loops := [(4, [0, 1, 12, 13])], own := [] }
noncomputable def slices_Equal_Sl_string_string_F : PFn := closeF (runF Tryz.prog slices_Equal_Sl_string_string_E slices_Equal_Sl_string_string_H Tryz.f85)
def slices_Equal_Sl_string_string_Y : TH := { joins := [], loops := [(4, { keep := [(13, (.int .i64))], mem := [] })], cuts := [], ro := [], news := [] }
noncomputable def slices_Equal_Sl_string_string_l4 (a0 : List (List UInt8)) (a1 : List (List UInt8)) (y4 : (Int × Unit)) : Option ((Int × Unit) ⊕ Bool) :=
 cond (decide (y4.1 < (a0.length : Int))) (
(atI a0 y4.1).bind fun x1 =>
(atI a1 y4.1).bind fun x2 =>
 cond (!decide (x1 = x2)) (
 some (.inr false)) (
 some (.inl ((IntKind.wrap .i64 (y4.1 + 1)), ())))) (
 some (.inr true))
noncomputable def slices_Equal_Sl_string_string (a0 : List (List UInt8)) (a1 : List (List UInt8)) : Option Bool :=
 cond (!decide ((a0.length : Int) = (a1.length : Int))) (
 some false) (
 loopT (slices_Equal_Sl_string_string_l4 a0 a1) (0, ()))
noncomputable def slices_Equal_Sl_string_string_T : TFn := { ps := (.cons (.sl .str) (.cons (.sl .str) .unit)), res := .bool, fn := fun v => slices_Equal_Sl_string_string v.1 v.2.1 }
noncomputable def slices_Equal_Sl_string_string_V : TEnv := { pure := [], look := [], glob := G0T, ty := [], raw := [], fresh := [] }
theorem slices_Equal_Sl_string_string_eq : runY Tryz.prog slices_Equal_Sl_string_string_E slices_Equal_Sl_string_string_H slices_Equal_Sl_string_string_V slices_Equal_Sl_string_string_Y Tryz.f85 slices_Equal_Sl_string_string_T.ps slices_Equal_Sl_string_string_T.res = slices_Equal_Sl_string_string_T.fn := by kernel_rfl
theorem slices_Equal_Sl_string_string_Fok : SoundP Tryz.prog G0 85 slices_Equal_Sl_string_string_F := closeF_sound (runF_sound (P := Tryz.prog) (E := slices_Equal_Sl_string_string_E) (h := slices_Equal_Sl_string_string_H) (f := 85) (fn := Tryz.f85) ⟨same_ok, envP_nil, envS_nil, envP_nil, envX_nil⟩ Tryz.func85 rfl (by kernel_rfl))
theorem slices_Equal_Sl_string_string_ok : TOk slices_Equal_Sl_string_string_F slices_Equal_Sl_string_string_T := runY_ok (E := slices_Equal_Sl_string_string_E) (ET := slices_Equal_Sl_string_string_V) (EnvT.ofX (E := slices_Equal_Sl_string_string_E) (ET := slices_Equal_Sl_string_string_V) (pure_of pairs_nil) looks_nil raws_nil G0_ok news_nil) slices_Equal_Sl_string_string_eq rfl
-- palinode/path.Same
noncomputable def path_Same_E : Env := { pure := [(85, slices_Equal_Sl_string_string_F)], raw := [], glob := G0, same := [76], look := [], ext := [] }
def path_Same_H : Hints := { seqs := [], loops := [], own := [] }
noncomputable def path_Same_F : PFn := closeF (runF Tryz.prog path_Same_E path_Same_H Tryz.f67)
def path_Same_Y : TH := { joins := [], loops := [], cuts := [], ro := [], news := [] }
noncomputable def path_Same (a0 : List (List UInt8)) (a1 : List (List UInt8)) : Option Bool :=
(slices_Equal_Sl_string_string a0 a1).bind fun r1 =>
 some r1
noncomputable def path_Same_T : TFn := { ps := (.cons (.sl .str) (.cons (.sl .str) .unit)), res := .bool, fn := fun v => path_Same v.1 v.2.1 }
noncomputable def path_Same_V : TEnv := { pure := [(85, slices_Equal_Sl_string_string_T)], look := [], glob := G0T, ty := [], raw := [], fresh := [] }
theorem path_Same_eq : runY Tryz.prog path_Same_E path_Same_H path_Same_V path_Same_Y Tryz.f67 path_Same_T.ps path_Same_T.res = path_Same_T.fn := by kernel_rfl
theorem path_Same_Fok : SoundP Tryz.prog G0 67 path_Same_F := closeF_sound (runF_sound (P := Tryz.prog) (E := path_Same_E) (h := path_Same_H) (f := 67) (fn := Tryz.f67) ⟨same_ok, (envP_cons slices_Equal_Sl_string_string_Fok envP_nil), envS_nil, envP_nil, envX_nil⟩ Tryz.func67 rfl (by kernel_rfl))
theorem path_Same_ok : TOk path_Same_F path_Same_T := runY_ok (E := path_Same_E) (ET := path_Same_V) (EnvT.ofX (E := path_Same_E) (ET := path_Same_V) (pure_of (pairs_cons slices_Equal_Sl_string_string_ok pairs_nil)) looks_nil raws_nil G0_ok news_nil) path_Same_eq rfl
-- slices.Equal[[]palinode/api.Value,palinode/api.Value]
noncomputable def slices_Equal_Sl_api_Value_api_Value_E : Env := { pure := [], raw := [], glob := G0, same := [76], look := [], ext := [] }
def slices_Equal_Sl_api_Value_api_Value_H : Hints := { seqs := [], loops := [(4, [0, 1, 12, 13])], own := [] }
noncomputable def slices_Equal_Sl_api_Value_api_Value_F : PFn := closeF (runF Tryz.prog slices_Equal_Sl_api_Value_api_Value_E slices_Equal_Sl_api_Value_api_Value_H Tryz.f68)
def slices_Equal_Sl_api_Value_api_Value_Y : TH := { joins := [], loops := [(4, { keep := [(13, (.int .i64))], mem := [] })], cuts := [], ro := [], news := [] }
noncomputable def slices_Equal_Sl_api_Value_api_Value_l4 (a0 : List (Int × Int × List UInt8 × Unit)) (a1 : List (Int × Int × List UInt8 × Unit)) (y4 : (Int × Unit)) : Option ((Int × Unit) ⊕ Bool) :=
 cond (decide (y4.1 < (a0.length : Int))) (
(atI a0 y4.1).bind fun x1 =>
(atI a1 y4.1).bind fun x2 =>
 cond (!(eqV (.agg (.cons (.int .i64) (.cons (.int .i64) (.cons .str .unit)))) x1 x2)) (
 some (.inr false)) (
 some (.inl ((IntKind.wrap .i64 (y4.1 + 1)), ())))) (
 some (.inr true))
noncomputable def slices_Equal_Sl_api_Value_api_Value (a0 : List (Int × Int × List UInt8 × Unit)) (a1 : List (Int × Int × List UInt8 × Unit)) : Option Bool :=
 cond (!decide ((a0.length : Int) = (a1.length : Int))) (
 some false) (
 loopT (slices_Equal_Sl_api_Value_api_Value_l4 a0 a1) (0, ()))
noncomputable def slices_Equal_Sl_api_Value_api_Value_T : TFn := { ps := (.cons (.sl (.agg (.cons (.int .i64) (.cons (.int .i64) (.cons .str .unit))))) (.cons (.sl (.agg (.cons (.int .i64) (.cons (.int .i64) (.cons .str .unit))))) .unit)), res := .bool, fn := fun v => slices_Equal_Sl_api_Value_api_Value v.1 v.2.1 }
noncomputable def slices_Equal_Sl_api_Value_api_Value_V : TEnv := { pure := [], look := [], glob := G0T, ty := [], raw := [], fresh := [] }
theorem slices_Equal_Sl_api_Value_api_Value_eq : runY Tryz.prog slices_Equal_Sl_api_Value_api_Value_E slices_Equal_Sl_api_Value_api_Value_H slices_Equal_Sl_api_Value_api_Value_V slices_Equal_Sl_api_Value_api_Value_Y Tryz.f68 slices_Equal_Sl_api_Value_api_Value_T.ps slices_Equal_Sl_api_Value_api_Value_T.res = slices_Equal_Sl_api_Value_api_Value_T.fn := by kernel_rfl
theorem slices_Equal_Sl_api_Value_api_Value_Fok : SoundP Tryz.prog G0 68 slices_Equal_Sl_api_Value_api_Value_F := closeF_sound (runF_sound (P := Tryz.prog) (E := slices_Equal_Sl_api_Value_api_Value_E) (h := slices_Equal_Sl_api_Value_api_Value_H) (f := 68) (fn := Tryz.f68) ⟨same_ok, envP_nil, envS_nil, envP_nil, envX_nil⟩ Tryz.func68 rfl (by kernel_rfl))
theorem slices_Equal_Sl_api_Value_api_Value_ok : TOk slices_Equal_Sl_api_Value_api_Value_F slices_Equal_Sl_api_Value_api_Value_T := runY_ok (E := slices_Equal_Sl_api_Value_api_Value_E) (ET := slices_Equal_Sl_api_Value_api_Value_V) (EnvT.ofX (E := slices_Equal_Sl_api_Value_api_Value_E) (ET := slices_Equal_Sl_api_Value_api_Value_V) (pure_of pairs_nil) looks_nil raws_nil G0_ok news_nil) slices_Equal_Sl_api_Value_api_Value_eq rfl
-- palinode/view.same
noncomputable def view_same_E : Env := { pure := [(67, path_Same_F), (68, slices_Equal_Sl_api_Value_api_Value_F)], raw := [], glob := G0, same := [76], look := [], ext := [] }
def view_same_H : Hints := { seqs := [], loops := [], own := [] }
noncomputable def view_same_F : PFn := closeF (runF Tryz.prog view_same_E view_same_H Tryz.f42)
def view_same_Y : TH := { joins := [], loops := [], cuts := [(1, [(12, { keep := [(2, (.bx 0 0)), (3, (.bx 1 0)), (16, .bool)], mem := [.same, .same] })])], ro := [2, 3], news := [] }
noncomputable def view_same (a0 : (List (List UInt8) × Int × List (Int × Int × List UInt8 × Unit) × Int × Unit)) (a1 : (List (List UInt8) × Int × List (Int × Int × List UInt8 × Unit) × Int × Unit)) : Option Bool :=
(cond (decide (a0.2.1 = a1.2.1)) (some ((decide (a0.2.2.2.1 = a1.2.2.2.1)), ())) (some (false, ())) : Option (Bool × Unit)).bind fun v1 =>
 cond v1.1 ((path_Same a0.1 a1.1).bind fun r2 =>
 cond r2 ((slices_Equal_Sl_api_Value_api_Value a0.2.2.1 a1.2.2.1).bind fun r3 =>
 some r3) (some false)) (some false)
noncomputable def view_same_T : TFn := { ps := (.cons (.agg (.cons (.sl .str) (.cons (.int .i64) (.cons (.sl (.agg (.cons (.int .i64) (.cons (.int .i64) (.cons .str .unit))))) (.cons (.int .i64) .unit))))) (.cons (.agg (.cons (.sl .str) (.cons (.int .i64) (.cons (.sl (.agg (.cons (.int .i64) (.cons (.int .i64) (.cons .str .unit))))) (.cons (.int .i64) .unit))))) .unit)), res := .bool, fn := fun v => view_same v.1 v.2.1 }
noncomputable def view_same_V : TEnv := { pure := [(67, path_Same_T), (68, slices_Equal_Sl_api_Value_api_Value_T)], look := [], glob := G0T, ty := [], raw := [], fresh := [] }
theorem view_same_eq : runY Tryz.prog view_same_E view_same_H view_same_V view_same_Y Tryz.f42 view_same_T.ps view_same_T.res = view_same_T.fn := by kernel_rfl
theorem view_same_Fok : SoundP Tryz.prog G0 42 view_same_F := closeF_sound (runF_sound (P := Tryz.prog) (E := view_same_E) (h := view_same_H) (f := 42) (fn := Tryz.f42) ⟨same_ok, (envP_cons path_Same_Fok (envP_cons slices_Equal_Sl_api_Value_api_Value_Fok envP_nil)), envS_nil, envP_nil, envX_nil⟩ Tryz.func42 rfl (by kernel_rfl))
theorem view_same_ok : TOk view_same_F view_same_T := runY_ok (E := view_same_E) (ET := view_same_V) (EnvT.ofX (E := view_same_E) (ET := view_same_V) (pure_of (pairs_cons path_Same_ok (pairs_cons slices_Equal_Sl_api_Value_api_Value_ok pairs_nil))) looks_nil raws_nil G0_ok news_nil) view_same_eq rfl
-- slices.EqualFunc[[]palinode/view.Entry,[]palinode/view.Entry,palinode/view.Entry,palinode/view.Entry]
noncomputable def slices_EqualFunc_Sl_view_Entry_Sl_view_Entry_view_Entry_view_Entry__view_same_E : Env := { pure := [(42, view_same_F)], raw := [], glob := G0, same := [76], look := [], ext := [] }
def slices_EqualFunc_Sl_view_Entry_Sl_view_Entry_view_Entry_view_Entry__view_same_H : Hints := { seqs := [], loops := [(4, [1, 2, 15, 16, 17])], own := [] }
noncomputable def slices_EqualFunc_Sl_view_Entry_Sl_view_Entry_view_Entry_view_Entry__view_same_F : PFn := closeF (runF Tryz.prog slices_EqualFunc_Sl_view_Entry_Sl_view_Entry_view_Entry_view_Entry__view_same_E slices_EqualFunc_Sl_view_Entry_Sl_view_Entry_view_Entry_view_Entry__view_same_H Tryz.f41)
def slices_EqualFunc_Sl_view_Entry_Sl_view_Entry_view_Entry_view_Entry__view_same_Y : TH := { joins := [], loops := [(4, { keep := [(17, (.int .i64))], mem := [] })], cuts := [], ro := [], news := [] }
noncomputable def slices_EqualFunc_Sl_view_Entry_Sl_view_Entry_view_Entry_view_Entry__view_same_l4 (a0 : List (List (List UInt8) × Int × List (Int × Int × List UInt8 × Unit) × Int × Unit)) (a1 : List (List (List UInt8) × Int × List (Int × Int × List UInt8 × Unit) × Int × Unit)) (y4 : (Int × Unit)) : Option ((Int × Unit) ⊕ Bool) :=
 cond (decide (y4.1 < (a0.length : Int))) (
(atI a0 y4.1).bind fun x1 =>
(atI a1 y4.1).bind fun x2 =>
(view_same x1 x2).bind fun r3 =>
 cond (!r3) (
 some (.inr false)) (
 some (.inl ((IntKind.wrap .i64 (y4.1 + 1)), ())))) (
 some (.inr true))
noncomputable def slices_EqualFunc_Sl_view_Entry_Sl_view_Entry_view_Entry_view_Entry__view_same (a0 : List (List (List UInt8) × Int × List (Int × Int × List UInt8 × Unit) × Int × Unit)) (a1 : List (List (List UInt8) × Int × List (Int × Int × List UInt8 × Unit) × Int × Unit)) (a2 : Unit) : Option Bool :=
 cond (!decide ((a0.length : Int) = (a1.length : Int))) (
 some false) (
 loopT (slices_EqualFunc_Sl_view_Entry_Sl_view_Entry_view_Entry_view_Entry__view_same_l4 a0 a1) (0, ()))
noncomputable def slices_EqualFunc_Sl_view_Entry_Sl_view_Entry_view_Entry_view_Entry__view_same_T : TFn := { ps := (.cons (.sl (.agg (.cons (.sl .str) (.cons (.int .i64) (.cons (.sl (.agg (.cons (.int .i64) (.cons (.int .i64) (.cons .str .unit))))) (.cons (.int .i64) .unit)))))) (.cons (.sl (.agg (.cons (.sl .str) (.cons (.int .i64) (.cons (.sl (.agg (.cons (.int .i64) (.cons (.int .i64) (.cons .str .unit))))) (.cons (.int .i64) .unit)))))) (.cons (.fn 42) .unit))), res := .bool, fn := fun v => slices_EqualFunc_Sl_view_Entry_Sl_view_Entry_view_Entry_view_Entry__view_same v.1 v.2.1 v.2.2.1 }
noncomputable def slices_EqualFunc_Sl_view_Entry_Sl_view_Entry_view_Entry_view_Entry__view_same_V : TEnv := { pure := [(42, view_same_T)], look := [], glob := G0T, ty := [], raw := [], fresh := [] }
theorem slices_EqualFunc_Sl_view_Entry_Sl_view_Entry_view_Entry_view_Entry__view_same_eq : runY Tryz.prog slices_EqualFunc_Sl_view_Entry_Sl_view_Entry_view_Entry_view_Entry__view_same_E slices_EqualFunc_Sl_view_Entry_Sl_view_Entry_view_Entry_view_Entry__view_same_H slices_EqualFunc_Sl_view_Entry_Sl_view_Entry_view_Entry_view_Entry__view_same_V slices_EqualFunc_Sl_view_Entry_Sl_view_Entry_view_Entry_view_Entry__view_same_Y Tryz.f41 slices_EqualFunc_Sl_view_Entry_Sl_view_Entry_view_Entry_view_Entry__view_same_T.ps slices_EqualFunc_Sl_view_Entry_Sl_view_Entry_view_Entry_view_Entry__view_same_T.res = slices_EqualFunc_Sl_view_Entry_Sl_view_Entry_view_Entry_view_Entry__view_same_T.fn := by kernel_rfl
theorem slices_EqualFunc_Sl_view_Entry_Sl_view_Entry_view_Entry_view_Entry__view_same_Fok : SoundP Tryz.prog G0 41 slices_EqualFunc_Sl_view_Entry_Sl_view_Entry_view_Entry_view_Entry__view_same_F := closeF_sound (runF_sound (P := Tryz.prog) (E := slices_EqualFunc_Sl_view_Entry_Sl_view_Entry_view_Entry_view_Entry__view_same_E) (h := slices_EqualFunc_Sl_view_Entry_Sl_view_Entry_view_Entry_view_Entry__view_same_H) (f := 41) (fn := Tryz.f41) ⟨same_ok, (envP_cons view_same_Fok envP_nil), envS_nil, envP_nil, envX_nil⟩ Tryz.func41 rfl (by kernel_rfl))
theorem slices_EqualFunc_Sl_view_Entry_Sl_view_Entry_view_Entry_view_Entry__view_same_ok : TOk slices_EqualFunc_Sl_view_Entry_Sl_view_Entry_view_Entry_view_Entry__view_same_F slices_EqualFunc_Sl_view_Entry_Sl_view_Entry_view_Entry_view_Entry__view_same_T := runY_ok (E := slices_EqualFunc_Sl_view_Entry_Sl_view_Entry_view_Entry_view_Entry__view_same_E) (ET := slices_EqualFunc_Sl_view_Entry_Sl_view_Entry_view_Entry_view_Entry__view_same_V) (EnvT.ofX (E := slices_EqualFunc_Sl_view_Entry_Sl_view_Entry_view_Entry_view_Entry__view_same_E) (ET := slices_EqualFunc_Sl_view_Entry_Sl_view_Entry_view_Entry_view_Entry__view_same_V) (pure_of (pairs_cons view_same_ok pairs_nil)) looks_nil raws_nil G0_ok news_nil) slices_EqualFunc_Sl_view_Entry_Sl_view_Entry_view_Entry_view_Entry__view_same_eq rfl
-- palinode/view.Same
noncomputable def view_Same_E : Env := { pure := [(41, slices_EqualFunc_Sl_view_Entry_Sl_view_Entry_view_Entry_view_Entry__view_same_F)], raw := [], glob := G0, same := [76], look := [], ext := [] }
def view_Same_H : Hints := { seqs := [], loops := [], own := [] }
noncomputable def view_Same_F : PFn := closeF (runF Tryz.prog view_Same_E view_Same_H Tryz.f20)
def view_Same_Y : TH := { joins := [], loops := [], cuts := [], ro := [], news := [] }
noncomputable def view_Same (a0 : List (List (List UInt8) × Int × List (Int × Int × List UInt8 × Unit) × Int × Unit)) (a1 : List (List (List UInt8) × Int × List (Int × Int × List UInt8 × Unit) × Int × Unit)) : Option Bool :=
(slices_EqualFunc_Sl_view_Entry_Sl_view_Entry_view_Entry_view_Entry__view_same a0 a1 ()).bind fun r1 =>
 some r1
noncomputable def view_Same_T : TFn := { ps := (.cons (.sl (.agg (.cons (.sl .str) (.cons (.int .i64) (.cons (.sl (.agg (.cons (.int .i64) (.cons (.int .i64) (.cons .str .unit))))) (.cons (.int .i64) .unit)))))) (.cons (.sl (.agg (.cons (.sl .str) (.cons (.int .i64) (.cons (.sl (.agg (.cons (.int .i64) (.cons (.int .i64) (.cons .str .unit))))) (.cons (.int .i64) .unit)))))) .unit)), res := .bool, fn := fun v => view_Same v.1 v.2.1 }
noncomputable def view_Same_V : TEnv := { pure := [(41, slices_EqualFunc_Sl_view_Entry_Sl_view_Entry_view_Entry_view_Entry__view_same_T)], look := [], glob := G0T, ty := [], raw := [], fresh := [] }
theorem view_Same_eq : runY Tryz.prog view_Same_E view_Same_H view_Same_V view_Same_Y Tryz.f20 view_Same_T.ps view_Same_T.res = view_Same_T.fn := by kernel_rfl
theorem view_Same_Fok : SoundP Tryz.prog G0 20 view_Same_F := closeF_sound (runF_sound (P := Tryz.prog) (E := view_Same_E) (h := view_Same_H) (f := 20) (fn := Tryz.f20) ⟨same_ok, (envP_cons slices_EqualFunc_Sl_view_Entry_Sl_view_Entry_view_Entry_view_Entry__view_same_Fok envP_nil), envS_nil, envP_nil, envX_nil⟩ Tryz.func20 rfl (by kernel_rfl))
theorem view_Same_ok : TOk view_Same_F view_Same_T := runY_ok (E := view_Same_E) (ET := view_Same_V) (EnvT.ofX (E := view_Same_E) (ET := view_Same_V) (pure_of (pairs_cons slices_EqualFunc_Sl_view_Entry_Sl_view_Entry_view_Entry_view_Entry__view_same_ok pairs_nil)) looks_nil raws_nil G0_ok news_nil) view_Same_eq rfl
-- palinode/change.same
noncomputable def change_same_E : Env := { pure := [(20, view_Same_F)], raw := [], glob := G0, same := [76], look := [], ext := [] }
def change_same_H : Hints := { seqs := [], loops := [], own := [] }
noncomputable def change_same_F : PFn := closeF (runF Tryz.prog change_same_E change_same_H Tryz.f26)
def change_same_Y : TH := { joins := [], loops := [], cuts := [], ro := [2, 3], news := [] }
noncomputable def change_same (a0 : (List (List UInt8) × Int × List (Int × Int × List UInt8 × Unit) × Int × Unit)) (a1 : (List (List UInt8) × Int × List (Int × Int × List UInt8 × Unit) × Int × Unit)) : Option Bool :=
(view_Same ([a0] : List (List (List UInt8) × Int × List (Int × Int × List UInt8 × Unit) × Int × Unit)) ([a1] : List (List (List UInt8) × Int × List (Int × Int × List UInt8 × Unit) × Int × Unit))).bind fun r1 =>
 some r1
noncomputable def change_same_T : TFn := { ps := (.cons (.agg (.cons (.sl .str) (.cons (.int .i64) (.cons (.sl (.agg (.cons (.int .i64) (.cons (.int .i64) (.cons .str .unit))))) (.cons (.int .i64) .unit))))) (.cons (.agg (.cons (.sl .str) (.cons (.int .i64) (.cons (.sl (.agg (.cons (.int .i64) (.cons (.int .i64) (.cons .str .unit))))) (.cons (.int .i64) .unit))))) .unit)), res := .bool, fn := fun v => change_same v.1 v.2.1 }
noncomputable def change_same_V : TEnv := { pure := [(20, view_Same_T)], look := [], glob := G0T, ty := [(41, (.agg (.cons (.sl .str) (.cons (.int .i64) (.cons (.sl (.agg (.cons (.int .i64) (.cons (.int .i64) (.cons .str .unit))))) (.cons (.int .i64) .unit))))))], raw := [], fresh := [] }
theorem change_same_eq : runY Tryz.prog change_same_E change_same_H change_same_V change_same_Y Tryz.f26 change_same_T.ps change_same_T.res = change_same_T.fn := by kernel_rfl
theorem change_same_Fok : SoundP Tryz.prog G0 26 change_same_F := closeF_sound (runF_sound (P := Tryz.prog) (E := change_same_E) (h := change_same_H) (f := 26) (fn := Tryz.f26) ⟨same_ok, (envP_cons view_Same_Fok envP_nil), envS_nil, envP_nil, envX_nil⟩ Tryz.func26 rfl (by kernel_rfl))
theorem change_same_ok : TOk change_same_F change_same_T := runY_ok (E := change_same_E) (ET := change_same_V) (EnvT.ofX (E := change_same_E) (ET := change_same_V) (pure_of (pairs_cons view_Same_ok pairs_nil)) looks_nil raws_nil G0_ok news_nil) change_same_eq rfl
-- palinode/change.Diff
noncomputable def change_Diff_E : Env := { pure := [(22, change_compare_F), (25, change_clone_F), (26, change_same_F)], raw := [], glob := G0, same := [76], look := [], ext := [] }
def change_Diff_H : Hints := { seqs := [], loops := [(2, [0, 1, 5])], own := [] }
noncomputable def change_Diff_F : PFn := closeF (runF Tryz.prog change_Diff_E change_Diff_H Tryz.f10)
def change_Diff_Y : TH := { joins := [(3, { keep := [(5, (.own 0))], mem := [.row true 50 (.agg (.cons (.int .i64) (.cons (.agg (.cons (.sl .str) (.cons (.int .i64) (.cons (.sl (.agg (.cons (.int .i64) (.cons (.int .i64) (.cons .str .unit))))) (.cons (.int .i64) .unit))))) (.cons (.agg (.cons (.sl .str) (.cons (.int .i64) (.cons (.sl (.agg (.cons (.int .i64) (.cons (.int .i64) (.cons .str .unit))))) (.cons (.int .i64) .unit))))) .unit))))] }), (11, { keep := [(5, (.own 0)), (6, (.int .i64))], mem := [.row true 50 (.agg (.cons (.int .i64) (.cons (.agg (.cons (.sl .str) (.cons (.int .i64) (.cons (.sl (.agg (.cons (.int .i64) (.cons (.int .i64) (.cons .str .unit))))) (.cons (.int .i64) .unit))))) (.cons (.agg (.cons (.sl .str) (.cons (.int .i64) (.cons (.sl (.agg (.cons (.int .i64) (.cons (.int .i64) (.cons .str .unit))))) (.cons (.int .i64) .unit))))) .unit))))] }), (10, { keep := [(5, (.own 0))], mem := [.row true 50 (.agg (.cons (.int .i64) (.cons (.agg (.cons (.sl .str) (.cons (.int .i64) (.cons (.sl (.agg (.cons (.int .i64) (.cons (.int .i64) (.cons .str .unit))))) (.cons (.int .i64) .unit))))) (.cons (.agg (.cons (.sl .str) (.cons (.int .i64) (.cons (.sl (.agg (.cons (.int .i64) (.cons (.int .i64) (.cons .str .unit))))) (.cons (.int .i64) .unit))))) .unit))))] })], loops := [(2, { keep := [(0, (.sl (.agg (.cons (.sl .str) (.cons (.int .i64) (.cons (.sl (.agg (.cons (.int .i64) (.cons (.int .i64) (.cons .str .unit))))) (.cons (.int .i64) .unit))))))), (1, (.sl (.agg (.cons (.sl .str) (.cons (.int .i64) (.cons (.sl (.agg (.cons (.int .i64) (.cons (.int .i64) (.cons .str .unit))))) (.cons (.int .i64) .unit))))))), (5, (.own 0))], mem := [.row true 50 (.agg (.cons (.int .i64) (.cons (.agg (.cons (.sl .str) (.cons (.int .i64) (.cons (.sl (.agg (.cons (.int .i64) (.cons (.int .i64) (.cons .str .unit))))) (.cons (.int .i64) .unit))))) (.cons (.agg (.cons (.sl .str) (.cons (.int .i64) (.cons (.sl (.agg (.cons (.int .i64) (.cons (.int .i64) (.cons .str .unit))))) (.cons (.int .i64) .unit))))) .unit))))] })], cuts := [], ro := [], news := [] }
noncomputable def change_Diff_l2 (y2 : (List (List (List UInt8) × Int × List (Int × Int × List UInt8 × Unit) × Int × Unit) × List (List (List UInt8) × Int × List (Int × Int × List UInt8 × Unit) × Int × Unit) × List (Int × (List (List UInt8) × Int × List (Int × Int × List UInt8 × Unit) × Int × Unit) × (List (List UInt8) × Int × List (Int × Int × List UInt8 × Unit) × Int × Unit) × Unit) × Unit)) : Option ((List (List (List UInt8) × Int × List (Int × Int × List UInt8 × Unit) × Int × Unit) × List (List (List UInt8) × Int × List (Int × Int × List UInt8 × Unit) × Int × Unit) × List (Int × (List (List UInt8) × Int × List (Int × Int × List UInt8 × Unit) × Int × Unit) × (List (List UInt8) × Int × List (Int × Int × List UInt8 × Unit) × Int × Unit) × Unit) × Unit) ⊕ List (Int × (List (List UInt8) × Int × List (Int × Int × List UInt8 × Unit) × Int × Unit) × (List (List UInt8) × Int × List (Int × Int × List UInt8 × Unit) × Int × Unit) × Unit)) :=
(cond (decide ((y2.1.length : Int) > 0)) (some (.inl (y2.2.2.1, ()))) (cond (decide ((y2.2.1.length : Int) > 0)) (
 some (.inl (y2.2.2.1, ()))) (
 some (.inr (.inr y2.2.2.1)))) : Option ((List (Int × (List (List UInt8) × Int × List (Int × Int × List UInt8 × Unit) × Int × Unit) × (List (List UInt8) × Int × List (Int × Int × List UInt8 × Unit) × Int × Unit) × Unit) × Unit) ⊕ ((List (List (List UInt8) × Int × List (Int × Int × List UInt8 × Unit) × Int × Unit) × List (List (List UInt8) × Int × List (Int × Int × List UInt8 × Unit) × Int × Unit) × List (Int × (List (List UInt8) × Int × List (Int × Int × List UInt8 × Unit) × Int × Unit) × (List (List UInt8) × Int × List (Int × Int × List UInt8 × Unit) × Int × Unit) × Unit) × Unit) ⊕ List (Int × (List (List UInt8) × Int × List (Int × Int × List UInt8 × Unit) × Int × Unit) × (List (List UInt8) × Int × List (Int × Int × List UInt8 × Unit) × Int × Unit) × Unit)))).bind (joinS fun v1 =>
(cond (decide ((y2.2.1.length : Int) = 0)) (
 some (.inl ((-1), v1.1, ()))) (
 cond (decide ((y2.1.length : Int) > 0)) (
(atI y2.1 0).bind fun x2 =>
(atI y2.2.1 0).bind fun x3 =>
(change_compare x2 x3).bind fun r4 =>
 some (.inl (r4, v1.1, ()))) (
 some (.inl (1, v1.1, ())))) : Option ((Int × List (Int × (List (List UInt8) × Int × List (Int × Int × List UInt8 × Unit) × Int × Unit) × (List (List UInt8) × Int × List (Int × Int × List UInt8 × Unit) × Int × Unit) × Unit) × Unit) ⊕ ((List (List (List UInt8) × Int × List (Int × Int × List UInt8 × Unit) × Int × Unit) × List (List (List UInt8) × Int × List (Int × Int × List UInt8 × Unit) × Int × Unit) × List (Int × (List (List UInt8) × Int × List (Int × Int × List UInt8 × Unit) × Int × Unit) × (List (List UInt8) × Int × List (Int × Int × List UInt8 × Unit) × Int × Unit) × Unit) × Unit) ⊕ List (Int × (List (List UInt8) × Int × List (Int × Int × List UInt8 × Unit) × Int × Unit) × (List (List UInt8) × Int × List (Int × Int × List UInt8 × Unit) × Int × Unit) × Unit)))).bind (joinS fun v5 =>
 cond (decide (v5.1 < 0)) (
(atI y2.1 0).bind fun x6 =>
(change_clone x6).bind fun r7 =>
(roomT (v5.2.1.length + ([(2, (r7.1, r7.2.1, r7.2.2.1, r7.2.2.2.1, ()), ([], 0, [], 0, ()), ())] : List (Int × (List (List UInt8) × Int × List (Int × Int × List UInt8 × Unit) × Int × Unit) × (List (List UInt8) × Int × List (Int × Int × List UInt8 × Unit) × Int × Unit) × Unit)).length)).bind fun u8 =>
(subI y2.1 1 (y2.1.length : Int)).bind fun s9 =>
 some (.inl (s9, y2.2.1, (v5.2.1 ++ ([(2, (r7.1, r7.2.1, r7.2.2.1, r7.2.2.2.1, ()), ([], 0, [], 0, ()), ())] : List (Int × (List (List UInt8) × Int × List (Int × Int × List UInt8 × Unit) × Int × Unit) × (List (List UInt8) × Int × List (Int × Int × List UInt8 × Unit) × Int × Unit) × Unit))), ()))) (
 cond (decide (v5.1 > 0)) (
(atI y2.2.1 0).bind fun x10 =>
(change_clone x10).bind fun r11 =>
(roomT (v5.2.1.length + ([(1, ([], 0, [], 0, ()), (r11.1, r11.2.1, r11.2.2.1, r11.2.2.2.1, ()), ())] : List (Int × (List (List UInt8) × Int × List (Int × Int × List UInt8 × Unit) × Int × Unit) × (List (List UInt8) × Int × List (Int × Int × List UInt8 × Unit) × Int × Unit) × Unit)).length)).bind fun u12 =>
(subI y2.2.1 1 (y2.2.1.length : Int)).bind fun s13 =>
 some (.inl (y2.1, s13, (v5.2.1 ++ ([(1, ([], 0, [], 0, ()), (r11.1, r11.2.1, r11.2.2.1, r11.2.2.2.1, ()), ())] : List (Int × (List (List UInt8) × Int × List (Int × Int × List UInt8 × Unit) × Int × Unit) × (List (List UInt8) × Int × List (Int × Int × List UInt8 × Unit) × Int × Unit) × Unit))), ()))) (
((atI y2.1 0).bind fun x14 =>
(atI y2.2.1 0).bind fun x15 =>
(change_same x14 x15).bind fun r16 =>
 cond (!r16) (
(atI y2.1 0).bind fun x17 =>
(change_clone x17).bind fun r18 =>
(atI y2.2.1 0).bind fun x19 =>
(change_clone x19).bind fun r20 =>
(roomT (v5.2.1.length + ([(3, r18, r20, ())] : List (Int × (List (List UInt8) × Int × List (Int × Int × List UInt8 × Unit) × Int × Unit) × (List (List UInt8) × Int × List (Int × Int × List UInt8 × Unit) × Int × Unit) × Unit)).length)).bind fun u21 =>
 some (.inl ((v5.2.1 ++ ([(3, r18, r20, ())] : List (Int × (List (List UInt8) × Int × List (Int × Int × List UInt8 × Unit) × Int × Unit) × (List (List UInt8) × Int × List (Int × Int × List UInt8 × Unit) × Int × Unit) × Unit))), ()))) (
 some (.inl (v5.2.1, ()))) : Option ((List (Int × (List (List UInt8) × Int × List (Int × Int × List UInt8 × Unit) × Int × Unit) × (List (List UInt8) × Int × List (Int × Int × List UInt8 × Unit) × Int × Unit) × Unit) × Unit) ⊕ ((List (List (List UInt8) × Int × List (Int × Int × List UInt8 × Unit) × Int × Unit) × List (List (List UInt8) × Int × List (Int × Int × List UInt8 × Unit) × Int × Unit) × List (Int × (List (List UInt8) × Int × List (Int × Int × List UInt8 × Unit) × Int × Unit) × (List (List UInt8) × Int × List (Int × Int × List UInt8 × Unit) × Int × Unit) × Unit) × Unit) ⊕ List (Int × (List (List UInt8) × Int × List (Int × Int × List UInt8 × Unit) × Int × Unit) × (List (List UInt8) × Int × List (Int × Int × List UInt8 × Unit) × Int × Unit) × Unit)))).bind (joinS fun v22 =>
(subI y2.1 1 (y2.1.length : Int)).bind fun s23 =>
(subI y2.2.1 1 (y2.2.1.length : Int)).bind fun s24 =>
 some (.inl (s23, s24, v22.1, ())))))))
noncomputable def change_Diff (a0 : List (List (List UInt8) × Int × List (Int × Int × List UInt8 × Unit) × Int × Unit)) (a1 : List (List (List UInt8) × Int × List (Int × Int × List UInt8 × Unit) × Int × Unit)) : Option (List (Int × (List (List UInt8) × Int × List (Int × Int × List UInt8 × Unit) × Int × Unit) × (List (List UInt8) × Int × List (Int × Int × List UInt8 × Unit) × Int × Unit) × Unit)) :=
 loopT (change_Diff_l2) (a0, a1, [], ())
noncomputable def change_Diff_T : TFn := { ps := (.cons (.sl (.agg (.cons (.sl .str) (.cons (.int .i64) (.cons (.sl (.agg (.cons (.int .i64) (.cons (.int .i64) (.cons .str .unit))))) (.cons (.int .i64) .unit)))))) (.cons (.sl (.agg (.cons (.sl .str) (.cons (.int .i64) (.cons (.sl (.agg (.cons (.int .i64) (.cons (.int .i64) (.cons .str .unit))))) (.cons (.int .i64) .unit)))))) .unit)), res := (.sl (.agg (.cons (.int .i64) (.cons (.agg (.cons (.sl .str) (.cons (.int .i64) (.cons (.sl (.agg (.cons (.int .i64) (.cons (.int .i64) (.cons .str .unit))))) (.cons (.int .i64) .unit))))) (.cons (.agg (.cons (.sl .str) (.cons (.int .i64) (.cons (.sl (.agg (.cons (.int .i64) (.cons (.int .i64) (.cons .str .unit))))) (.cons (.int .i64) .unit))))) .unit))))), fn := fun v => change_Diff v.1 v.2.1 }
noncomputable def change_Diff_V : TEnv := { pure := [(22, change_compare_T), (25, change_clone_T), (26, change_same_T)], look := [], glob := G0T, ty := [(50, (.agg (.cons (.int .i64) (.cons (.agg (.cons (.sl .str) (.cons (.int .i64) (.cons (.sl (.agg (.cons (.int .i64) (.cons (.int .i64) (.cons .str .unit))))) (.cons (.int .i64) .unit))))) (.cons (.agg (.cons (.sl .str) (.cons (.int .i64) (.cons (.sl (.agg (.cons (.int .i64) (.cons (.int .i64) (.cons .str .unit))))) (.cons (.int .i64) .unit))))) .unit)))))], raw := [], fresh := [] }
theorem change_Diff_eq : runY Tryz.prog change_Diff_E change_Diff_H change_Diff_V change_Diff_Y Tryz.f10 change_Diff_T.ps change_Diff_T.res = change_Diff_T.fn := by kernel_rfl
theorem change_Diff_Fok : SoundP Tryz.prog G0 10 change_Diff_F := closeF_sound (runF_sound (P := Tryz.prog) (E := change_Diff_E) (h := change_Diff_H) (f := 10) (fn := Tryz.f10) ⟨same_ok, (envP_cons change_compare_Fok (envP_cons change_clone_Fok (envP_cons change_same_Fok envP_nil))), envS_nil, envP_nil, envX_nil⟩ Tryz.func10 rfl (by kernel_rfl))
theorem change_Diff_ok : TOk change_Diff_F change_Diff_T := runY_ok (E := change_Diff_E) (ET := change_Diff_V) (EnvT.ofX (E := change_Diff_E) (ET := change_Diff_V) (pure_of (pairs_cons change_compare_ok (pairs_cons change_clone_ok (pairs_cons change_same_ok pairs_nil)))) looks_nil raws_nil G0_ok news_nil) change_Diff_eq rfl
-- palinode/palinoderef03.Same
noncomputable def ref03_Same_E : Env := { pure := [], raw := [], glob := G0, same := [76], look := [], ext := [] }
def ref03_Same_H : Hints := { seqs := [], loops := [(4, [0, 1, 5])], own := [] }
noncomputable def ref03_Same_F : PFn := closeF (runF Tryz.prog ref03_Same_E ref03_Same_H Tryz.f53)
def ref03_Same_Y : TH := { joins := [], loops := [(4, { keep := [(5, (.int .i64))], mem := [] })], cuts := [], ro := [], news := [] }
noncomputable def ref03_Same_l4 (a0 : List (List UInt8)) (a1 : List (List UInt8)) (y4 : (Int × Unit)) : Option ((Int × Unit) ⊕ Bool) :=
 cond (decide (y4.1 < (a0.length : Int))) (
(atI a0 y4.1).bind fun x1 =>
(atI a1 y4.1).bind fun x2 =>
 cond (!decide (x1 = x2)) (
 some (.inr false)) (
 some (.inl ((IntKind.wrap .i64 (y4.1 + 1)), ())))) (
 some (.inr true))
noncomputable def ref03_Same (a0 : List (List UInt8)) (a1 : List (List UInt8)) : Option Bool :=
 cond (!decide ((a0.length : Int) = (a1.length : Int))) (
 some false) (
 loopT (ref03_Same_l4 a0 a1) (0, ()))
noncomputable def ref03_Same_T : TFn := { ps := (.cons (.sl .str) (.cons (.sl .str) .unit)), res := .bool, fn := fun v => ref03_Same v.1 v.2.1 }
noncomputable def ref03_Same_V : TEnv := { pure := [], look := [], glob := G0T, ty := [], raw := [], fresh := [] }
theorem ref03_Same_eq : runY Tryz.prog ref03_Same_E ref03_Same_H ref03_Same_V ref03_Same_Y Tryz.f53 ref03_Same_T.ps ref03_Same_T.res = ref03_Same_T.fn := by kernel_rfl
theorem ref03_Same_Fok : SoundP Tryz.prog G0 53 ref03_Same_F := closeF_sound (runF_sound (P := Tryz.prog) (E := ref03_Same_E) (h := ref03_Same_H) (f := 53) (fn := Tryz.f53) ⟨same_ok, envP_nil, envS_nil, envP_nil, envX_nil⟩ Tryz.func53 rfl (by kernel_rfl))
theorem ref03_Same_ok : TOk ref03_Same_F ref03_Same_T := runY_ok (E := ref03_Same_E) (ET := ref03_Same_V) (EnvT.ofX (E := ref03_Same_E) (ET := ref03_Same_V) (pure_of pairs_nil) looks_nil raws_nil G0_ok news_nil) ref03_Same_eq rfl
-- palinode/palinoderef09.Same
noncomputable def ref09_Same_E : Env := { pure := [], raw := [], glob := G0, same := [76], look := [], ext := [] }
def ref09_Same_H : Hints := { seqs := [], loops := [(4, [0, 1, 5])], own := [] }
noncomputable def ref09_Same_F : PFn := closeF (runF Tryz.prog ref09_Same_E ref09_Same_H Tryz.f54)
def ref09_Same_Y : TH := { joins := [], loops := [(4, { keep := [(5, (.int .i64))], mem := [] })], cuts := [], ro := [], news := [] }
noncomputable def ref09_Same_l4 (a0 : List (Int × Int × List UInt8 × Unit)) (a1 : List (Int × Int × List UInt8 × Unit)) (y4 : (Int × Unit)) : Option ((Int × Unit) ⊕ Bool) :=
 cond (decide (y4.1 < (a0.length : Int))) (
(atI a0 y4.1).bind fun x1 =>
(atI a1 y4.1).bind fun x2 =>
 cond (!(eqV (.agg (.cons (.int .i64) (.cons (.int .i64) (.cons .str .unit)))) x1 x2)) (
 some (.inr false)) (
 some (.inl ((IntKind.wrap .i64 (y4.1 + 1)), ())))) (
 some (.inr true))
noncomputable def ref09_Same (a0 : List (Int × Int × List UInt8 × Unit)) (a1 : List (Int × Int × List UInt8 × Unit)) : Option Bool :=
 cond (!decide ((a0.length : Int) = (a1.length : Int))) (
 some false) (
 loopT (ref09_Same_l4 a0 a1) (0, ()))
noncomputable def ref09_Same_T : TFn := { ps := (.cons (.sl (.agg (.cons (.int .i64) (.cons (.int .i64) (.cons .str .unit))))) (.cons (.sl (.agg (.cons (.int .i64) (.cons (.int .i64) (.cons .str .unit))))) .unit)), res := .bool, fn := fun v => ref09_Same v.1 v.2.1 }
noncomputable def ref09_Same_V : TEnv := { pure := [], look := [], glob := G0T, ty := [], raw := [], fresh := [] }
theorem ref09_Same_eq : runY Tryz.prog ref09_Same_E ref09_Same_H ref09_Same_V ref09_Same_Y Tryz.f54 ref09_Same_T.ps ref09_Same_T.res = ref09_Same_T.fn := by kernel_rfl
theorem ref09_Same_Fok : SoundP Tryz.prog G0 54 ref09_Same_F := closeF_sound (runF_sound (P := Tryz.prog) (E := ref09_Same_E) (h := ref09_Same_H) (f := 54) (fn := Tryz.f54) ⟨same_ok, envP_nil, envS_nil, envP_nil, envX_nil⟩ Tryz.func54 rfl (by kernel_rfl))
theorem ref09_Same_ok : TOk ref09_Same_F ref09_Same_T := runY_ok (E := ref09_Same_E) (ET := ref09_Same_V) (EnvT.ofX (E := ref09_Same_E) (ET := ref09_Same_V) (pure_of pairs_nil) looks_nil raws_nil G0_ok news_nil) ref09_Same_eq rfl
-- palinode/palinoderef18.Same
noncomputable def ref18_Same_E : Env := { pure := [(53, ref03_Same_F), (54, ref09_Same_F)], raw := [], glob := G0, same := [76], look := [], ext := [] }
def ref18_Same_H : Hints := { seqs := [], loops := [(4, [0, 1, 5])], own := [] }
noncomputable def ref18_Same_F : PFn := closeF (runF Tryz.prog ref18_Same_E ref18_Same_H Tryz.f27)
def ref18_Same_Y : TH := { joins := [], loops := [(4, { keep := [(5, (.int .i64))], mem := [] })], cuts := [(6, [(24, { keep := [(40, .bool)], mem := [] }), (14, { keep := [(54, .bool)], mem := [] })])], ro := [], news := [] }
noncomputable def ref18_Same_l4 (a0 : List (List (List UInt8) × Int × List (Int × Int × List UInt8 × Unit) × Int × Unit)) (a1 : List (List (List UInt8) × Int × List (Int × Int × List UInt8 × Unit) × Int × Unit)) (y4 : (Int × Unit)) : Option ((Int × Unit) ⊕ Bool) :=
 cond (decide (y4.1 < (a0.length : Int))) (
((atI a0 y4.1).bind fun x1 =>
(atI a1 y4.1).bind fun x2 =>
 cond (!decide (x1.2.1 = x2.2.1)) (some (true, ())) ((atI a0 y4.1).bind fun x3 =>
(atI a1 y4.1).bind fun x4 =>
 some ((!decide (x3.2.2.2.1 = x4.2.2.2.1)), ())) : Option (Bool × Unit)).bind fun v5 =>
(cond v5.1 (some (true, ())) ((atI a0 y4.1).bind fun x6 =>
(atI a1 y4.1).bind fun x7 =>
(ref03_Same x6.1 x7.1).bind fun r8 =>
 some ((!r8), ())) : Option (Bool × Unit)).bind fun v9 =>
 cond v9.1 (some (.inr false)) ((atI a0 y4.1).bind fun x10 =>
(atI a1 y4.1).bind fun x11 =>
(ref09_Same x10.2.2.1 x11.2.2.1).bind fun r12 =>
 cond (!r12) (
 some (.inr false)) (
 some (.inl ((IntKind.wrap .i64 (y4.1 + 1)), ()))))) (
 some (.inr true))
noncomputable def ref18_Same (a0 : List (List (List UInt8) × Int × List (Int × Int × List UInt8 × Unit) × Int × Unit)) (a1 : List (List (List UInt8) × Int × List (Int × Int × List UInt8 × Unit) × Int × Unit)) : Option Bool :=
 cond (!decide ((a0.length : Int) = (a1.length : Int))) (
 some false) (
 loopT (ref18_Same_l4 a0 a1) (0, ()))
noncomputable def ref18_Same_T : TFn := { ps := (.cons (.sl (.agg (.cons (.sl .str) (.cons (.int .i64) (.cons (.sl (.agg (.cons (.int .i64) (.cons (.int .i64) (.cons .str .unit))))) (.cons (.int .i64) .unit)))))) (.cons (.sl (.agg (.cons (.sl .str) (.cons (.int .i64) (.cons (.sl (.agg (.cons (.int .i64) (.cons (.int .i64) (.cons .str .unit))))) (.cons (.int .i64) .unit)))))) .unit)), res := .bool, fn := fun v => ref18_Same v.1 v.2.1 }
noncomputable def ref18_Same_V : TEnv := { pure := [(53, ref03_Same_T), (54, ref09_Same_T)], look := [], glob := G0T, ty := [], raw := [], fresh := [] }
theorem ref18_Same_eq : runY Tryz.prog ref18_Same_E ref18_Same_H ref18_Same_V ref18_Same_Y Tryz.f27 ref18_Same_T.ps ref18_Same_T.res = ref18_Same_T.fn := by kernel_rfl
theorem ref18_Same_Fok : SoundP Tryz.prog G0 27 ref18_Same_F := closeF_sound (runF_sound (P := Tryz.prog) (E := ref18_Same_E) (h := ref18_Same_H) (f := 27) (fn := Tryz.f27) ⟨same_ok, (envP_cons ref03_Same_Fok (envP_cons ref09_Same_Fok envP_nil)), envS_nil, envP_nil, envX_nil⟩ Tryz.func27 rfl (by kernel_rfl))
theorem ref18_Same_ok : TOk ref18_Same_F ref18_Same_T := runY_ok (E := ref18_Same_E) (ET := ref18_Same_V) (EnvT.ofX (E := ref18_Same_E) (ET := ref18_Same_V) (pure_of (pairs_cons ref03_Same_ok (pairs_cons ref09_Same_ok pairs_nil))) looks_nil raws_nil G0_ok news_nil) ref18_Same_eq rfl
-- palinode/palinodelaw39.same
noncomputable def law39_same_E : Env := { pure := [(27, ref18_Same_F)], raw := [], glob := G0, same := [76], look := [], ext := [] }
def law39_same_H : Hints := { seqs := [], loops := [(4, [0, 1, 5])], own := [] }
noncomputable def law39_same_F : PFn := closeF (runF Tryz.prog law39_same_E law39_same_H Tryz.f11)
def law39_same_Y : TH := { joins := [], loops := [(4, { keep := [(5, (.int .i64))], mem := [] })], cuts := [], ro := [], news := [] }
noncomputable def law39_same_l4 (a0 : List (Int × (List (List UInt8) × Int × List (Int × Int × List UInt8 × Unit) × Int × Unit) × (List (List UInt8) × Int × List (Int × Int × List UInt8 × Unit) × Int × Unit) × Unit)) (a1 : List (Int × (List (List UInt8) × Int × List (Int × Int × List UInt8 × Unit) × Int × Unit) × (List (List UInt8) × Int × List (Int × Int × List UInt8 × Unit) × Int × Unit) × Unit)) (y4 : (Int × Unit)) : Option ((Int × Unit) ⊕ Bool) :=
 cond (decide (y4.1 < (a0.length : Int))) (
(atI a0 y4.1).bind fun x1 =>
(atI a1 y4.1).bind fun x2 =>
 cond (!decide (x1.1 = x2.1)) (some (.inr false)) ((atI a0 y4.1).bind fun x3 =>
(atI a0 y4.1).bind fun x4 =>
(atI a1 y4.1).bind fun x5 =>
(atI a1 y4.1).bind fun x6 =>
(ref18_Same ([x3.2.1, x4.2.2.1] : List (List (List UInt8) × Int × List (Int × Int × List UInt8 × Unit) × Int × Unit)) ([x5.2.1, x6.2.2.1] : List (List (List UInt8) × Int × List (Int × Int × List UInt8 × Unit) × Int × Unit))).bind fun r7 =>
 cond (!r7) (
 some (.inr false)) (
 some (.inl ((IntKind.wrap .i64 (y4.1 + 1)), ()))))) (
 some (.inr true))
noncomputable def law39_same (a0 : List (Int × (List (List UInt8) × Int × List (Int × Int × List UInt8 × Unit) × Int × Unit) × (List (List UInt8) × Int × List (Int × Int × List UInt8 × Unit) × Int × Unit) × Unit)) (a1 : List (Int × (List (List UInt8) × Int × List (Int × Int × List UInt8 × Unit) × Int × Unit) × (List (List UInt8) × Int × List (Int × Int × List UInt8 × Unit) × Int × Unit) × Unit)) : Option Bool :=
 cond (!decide ((a0.length : Int) = (a1.length : Int))) (
 some false) (
 loopT (law39_same_l4 a0 a1) (0, ()))
noncomputable def law39_same_T : TFn := { ps := (.cons (.sl (.agg (.cons (.int .i64) (.cons (.agg (.cons (.sl .str) (.cons (.int .i64) (.cons (.sl (.agg (.cons (.int .i64) (.cons (.int .i64) (.cons .str .unit))))) (.cons (.int .i64) .unit))))) (.cons (.agg (.cons (.sl .str) (.cons (.int .i64) (.cons (.sl (.agg (.cons (.int .i64) (.cons (.int .i64) (.cons .str .unit))))) (.cons (.int .i64) .unit))))) .unit))))) (.cons (.sl (.agg (.cons (.int .i64) (.cons (.agg (.cons (.sl .str) (.cons (.int .i64) (.cons (.sl (.agg (.cons (.int .i64) (.cons (.int .i64) (.cons .str .unit))))) (.cons (.int .i64) .unit))))) (.cons (.agg (.cons (.sl .str) (.cons (.int .i64) (.cons (.sl (.agg (.cons (.int .i64) (.cons (.int .i64) (.cons .str .unit))))) (.cons (.int .i64) .unit))))) .unit))))) .unit)), res := .bool, fn := fun v => law39_same v.1 v.2.1 }
noncomputable def law39_same_V : TEnv := { pure := [(27, ref18_Same_T)], look := [], glob := G0T, ty := [(53, (.agg (.cons (.sl .str) (.cons (.int .i64) (.cons (.sl (.agg (.cons (.int .i64) (.cons (.int .i64) (.cons .str .unit))))) (.cons (.int .i64) .unit))))))], raw := [], fresh := [] }
theorem law39_same_eq : runY Tryz.prog law39_same_E law39_same_H law39_same_V law39_same_Y Tryz.f11 law39_same_T.ps law39_same_T.res = law39_same_T.fn := by kernel_rfl
theorem law39_same_Fok : SoundP Tryz.prog G0 11 law39_same_F := closeF_sound (runF_sound (P := Tryz.prog) (E := law39_same_E) (h := law39_same_H) (f := 11) (fn := Tryz.f11) ⟨same_ok, (envP_cons ref18_Same_Fok envP_nil), envS_nil, envP_nil, envX_nil⟩ Tryz.func11 rfl (by kernel_rfl))
theorem law39_same_ok : TOk law39_same_F law39_same_T := runY_ok (E := law39_same_E) (ET := law39_same_V) (EnvT.ofX (E := law39_same_E) (ET := law39_same_V) (pure_of (pairs_cons ref18_Same_ok pairs_nil)) looks_nil raws_nil G0_ok news_nil) law39_same_eq rfl
-- palinode/palinodelaw39.changes
noncomputable def law39_changes_E : Env := { pure := [(8, law39_Theirs_F)], raw := [], glob := G0, same := [76], look := [], ext := [] }
def law39_changes_H : Hints := { seqs := [], loops := [(3, [0, 3, 4])], own := [] }
noncomputable def law39_changes_F : PFn := closeF (runF Tryz.prog law39_changes_E law39_changes_H Tryz.f12)
def law39_changes_Y : TH := { joins := [], loops := [(3, { keep := [(3, (.own 0)), (4, (.int .i64))], mem := [.row true 59 (.agg (.cons (.int .i64) (.cons (.agg (.cons (.sl .str) (.cons (.int .i64) (.cons (.sl (.agg (.cons (.int .i64) (.cons (.int .i64) (.cons .str .unit))))) (.cons (.int .i64) .unit))))) (.cons (.agg (.cons (.sl .str) (.cons (.int .i64) (.cons (.sl (.agg (.cons (.int .i64) (.cons (.int .i64) (.cons .str .unit))))) (.cons (.int .i64) .unit))))) .unit))))] })], cuts := [], ro := [], news := [] }
noncomputable def law39_changes_l3 (a0 : List (Int × (List (List UInt8) × Int × List (Int × Int × List UInt8 × Unit) × Int × Unit) × (List (List UInt8) × Int × List (Int × Int × List UInt8 × Unit) × Int × Unit) × Unit)) (y3 : (Int × List (Int × (List (List UInt8) × Int × List (Int × Int × List UInt8 × Unit) × Int × Unit) × (List (List UInt8) × Int × List (Int × Int × List UInt8 × Unit) × Int × Unit) × Unit) × Unit)) : Option ((Int × List (Int × (List (List UInt8) × Int × List (Int × Int × List UInt8 × Unit) × Int × Unit) × (List (List UInt8) × Int × List (Int × Int × List UInt8 × Unit) × Int × Unit) × Unit) × Unit) ⊕ List (Int × (List (List UInt8) × Int × List (Int × Int × List UInt8 × Unit) × Int × Unit) × (List (List UInt8) × Int × List (Int × Int × List UInt8 × Unit) × Int × Unit) × Unit)) :=
 cond (decide (y3.1 < (a0.length : Int))) (
(atI a0 y3.1).bind fun x1 =>
(atI a0 y3.1).bind fun x2 =>
(law39_Theirs ([x1.2.1, x2.2.2.1] : List (List (List UInt8) × Int × List (Int × Int × List UInt8 × Unit) × Int × Unit))).bind fun r3 =>
(atI a0 y3.1).bind fun x4 =>
(atI r3 0).bind fun x5 =>
(atI r3 1).bind fun x6 =>
(roomT (y3.2.1.length + ([(x4.1, x5, x6, ())] : List (Int × (List (List UInt8) × Int × List (Int × Int × List UInt8 × Unit) × Int × Unit) × (List (List UInt8) × Int × List (Int × Int × List UInt8 × Unit) × Int × Unit) × Unit)).length)).bind fun u7 =>
 some (.inl ((IntKind.wrap .i64 (y3.1 + 1)), (y3.2.1 ++ ([(x4.1, x5, x6, ())] : List (Int × (List (List UInt8) × Int × List (Int × Int × List UInt8 × Unit) × Int × Unit) × (List (List UInt8) × Int × List (Int × Int × List UInt8 × Unit) × Int × Unit) × Unit))), ()))) (
 some (.inr y3.2.1))
noncomputable def law39_changes (a0 : List (Int × (List (List UInt8) × Int × List (Int × Int × List UInt8 × Unit) × Int × Unit) × (List (List UInt8) × Int × List (Int × Int × List UInt8 × Unit) × Int × Unit) × Unit)) : Option (List (Int × (List (List UInt8) × Int × List (Int × Int × List UInt8 × Unit) × Int × Unit) × (List (List UInt8) × Int × List (Int × Int × List UInt8 × Unit) × Int × Unit) × Unit)) :=
 loopT (law39_changes_l3 a0) (0, [], ())
noncomputable def law39_changes_T : TFn := { ps := (.cons (.sl (.agg (.cons (.int .i64) (.cons (.agg (.cons (.sl .str) (.cons (.int .i64) (.cons (.sl (.agg (.cons (.int .i64) (.cons (.int .i64) (.cons .str .unit))))) (.cons (.int .i64) .unit))))) (.cons (.agg (.cons (.sl .str) (.cons (.int .i64) (.cons (.sl (.agg (.cons (.int .i64) (.cons (.int .i64) (.cons .str .unit))))) (.cons (.int .i64) .unit))))) .unit))))) .unit), res := (.sl (.agg (.cons (.int .i64) (.cons (.agg (.cons (.sl .str) (.cons (.int .i64) (.cons (.sl (.agg (.cons (.int .i64) (.cons (.int .i64) (.cons .str .unit))))) (.cons (.int .i64) .unit))))) (.cons (.agg (.cons (.sl .str) (.cons (.int .i64) (.cons (.sl (.agg (.cons (.int .i64) (.cons (.int .i64) (.cons .str .unit))))) (.cons (.int .i64) .unit))))) .unit))))), fn := fun v => law39_changes v.1 }
noncomputable def law39_changes_V : TEnv := { pure := [(8, law39_Theirs_T)], look := [], glob := G0T, ty := [(41, (.agg (.cons (.sl .str) (.cons (.int .i64) (.cons (.sl (.agg (.cons (.int .i64) (.cons (.int .i64) (.cons .str .unit))))) (.cons (.int .i64) .unit)))))), (59, (.agg (.cons (.int .i64) (.cons (.agg (.cons (.sl .str) (.cons (.int .i64) (.cons (.sl (.agg (.cons (.int .i64) (.cons (.int .i64) (.cons .str .unit))))) (.cons (.int .i64) .unit))))) (.cons (.agg (.cons (.sl .str) (.cons (.int .i64) (.cons (.sl (.agg (.cons (.int .i64) (.cons (.int .i64) (.cons .str .unit))))) (.cons (.int .i64) .unit))))) .unit)))))], raw := [], fresh := [] }
theorem law39_changes_eq : runY Tryz.prog law39_changes_E law39_changes_H law39_changes_V law39_changes_Y Tryz.f12 law39_changes_T.ps law39_changes_T.res = law39_changes_T.fn := by kernel_rfl
theorem law39_changes_Fok : SoundP Tryz.prog G0 12 law39_changes_F := closeF_sound (runF_sound (P := Tryz.prog) (E := law39_changes_E) (h := law39_changes_H) (f := 12) (fn := Tryz.f12) ⟨same_ok, (envP_cons law39_Theirs_Fok envP_nil), envS_nil, envP_nil, envX_nil⟩ Tryz.func12 rfl (by kernel_rfl))
theorem law39_changes_ok : TOk law39_changes_F law39_changes_T := runY_ok (E := law39_changes_E) (ET := law39_changes_V) (EnvT.ofX (E := law39_changes_E) (ET := law39_changes_V) (pure_of (pairs_cons law39_Theirs_ok pairs_nil)) looks_nil raws_nil G0_ok news_nil) law39_changes_eq rfl
-- palinode/palinoderef39.find
noncomputable def ref39_find_E : Env := { pure := [(24, ref39_compare_F)], raw := [], glob := G0, same := [76], look := [], ext := [] }
def ref39_find_H : Hints := { seqs := [], loops := [(2, [0, 3, 5])], own := [] }
noncomputable def ref39_find_F : PFn := closeF (runF Tryz.prog ref39_find_E ref39_find_H Tryz.f28)
def ref39_find_Y : TH := { joins := [], loops := [(2, { keep := [(3, (.bx 0 0)), (5, (.int .i64))], mem := [.same] })], cuts := [], ro := [3], news := [] }
noncomputable def ref39_find_l2 (a0 : List (List (List UInt8) × Int × List (Int × Int × List UInt8 × Unit) × Int × Unit)) (a1 : (List (List UInt8) × Int × List (Int × Int × List UInt8 × Unit) × Int × Unit)) (y2 : (Int × Unit)) : Option ((Int × Unit) ⊕ Int) :=
 cond (decide (y2.1 < (a0.length : Int))) (
(atI a0 y2.1).bind fun x1 =>
(ref39_compare x1 a1).bind fun r2 =>
 cond (decide (r2 = 0)) (
 some (.inr y2.1)) (
 some (.inl ((IntKind.wrap .i64 (y2.1 + 1)), ())))) (
 some (.inr (-1)))
noncomputable def ref39_find (a0 : List (List (List UInt8) × Int × List (Int × Int × List UInt8 × Unit) × Int × Unit)) (a1 : (List (List UInt8) × Int × List (Int × Int × List UInt8 × Unit) × Int × Unit)) : Option Int :=
 loopT (ref39_find_l2 a0 a1) (0, ())
noncomputable def ref39_find_T : TFn := { ps := (.cons (.sl (.agg (.cons (.sl .str) (.cons (.int .i64) (.cons (.sl (.agg (.cons (.int .i64) (.cons (.int .i64) (.cons .str .unit))))) (.cons (.int .i64) .unit)))))) (.cons (.agg (.cons (.sl .str) (.cons (.int .i64) (.cons (.sl (.agg (.cons (.int .i64) (.cons (.int .i64) (.cons .str .unit))))) (.cons (.int .i64) .unit))))) .unit)), res := (.int .i64), fn := fun v => ref39_find v.1 v.2.1 }
noncomputable def ref39_find_V : TEnv := { pure := [(24, ref39_compare_T)], look := [], glob := G0T, ty := [], raw := [], fresh := [] }
theorem ref39_find_eq : runY Tryz.prog ref39_find_E ref39_find_H ref39_find_V ref39_find_Y Tryz.f28 ref39_find_T.ps ref39_find_T.res = ref39_find_T.fn := by kernel_rfl
theorem ref39_find_Fok : SoundP Tryz.prog G0 28 ref39_find_F := closeF_sound (runF_sound (P := Tryz.prog) (E := ref39_find_E) (h := ref39_find_H) (f := 28) (fn := Tryz.f28) ⟨same_ok, (envP_cons ref39_compare_Fok envP_nil), envS_nil, envP_nil, envX_nil⟩ Tryz.func28 rfl (by kernel_rfl))
theorem ref39_find_ok : TOk ref39_find_F ref39_find_T := runY_ok (E := ref39_find_E) (ET := ref39_find_V) (EnvT.ofX (E := ref39_find_E) (ET := ref39_find_V) (pure_of (pairs_cons ref39_compare_ok pairs_nil)) looks_nil raws_nil G0_ok news_nil) ref39_find_eq rfl
-- palinode/palinoderef39.Leaf
noncomputable def ref39_Leaf_E : Env := { pure := [], raw := [], glob := G0, same := [76], look := [], ext := [] }
def ref39_Leaf_H : Hints := { seqs := [], loops := [], own := [] }
noncomputable def ref39_Leaf_F : PFn := closeF (runF Tryz.prog ref39_Leaf_E ref39_Leaf_H Tryz.f55)
def ref39_Leaf_Y : TH := { joins := [], loops := [], cuts := [], ro := [1], news := [] }
noncomputable def ref39_Leaf (a0 : (Int × (List (List UInt8) × Int × List (Int × Int × List UInt8 × Unit) × Int × Unit) × (List (List UInt8) × Int × List (Int × Int × List UInt8 × Unit) × Int × Unit) × Unit)) : Option (List (List UInt8) × Int × List (Int × Int × List UInt8 × Unit) × Int × Unit) :=
 cond (decide (a0.1 = 1)) (
 some a0.2.2.1) (
 some a0.2.1)
noncomputable def ref39_Leaf_T : TFn := { ps := (.cons (.agg (.cons (.int .i64) (.cons (.agg (.cons (.sl .str) (.cons (.int .i64) (.cons (.sl (.agg (.cons (.int .i64) (.cons (.int .i64) (.cons .str .unit))))) (.cons (.int .i64) .unit))))) (.cons (.agg (.cons (.sl .str) (.cons (.int .i64) (.cons (.sl (.agg (.cons (.int .i64) (.cons (.int .i64) (.cons .str .unit))))) (.cons (.int .i64) .unit))))) .unit)))) .unit), res := (.agg (.cons (.sl .str) (.cons (.int .i64) (.cons (.sl (.agg (.cons (.int .i64) (.cons (.int .i64) (.cons .str .unit))))) (.cons (.int .i64) .unit))))), fn := fun v => ref39_Leaf v.1 }
noncomputable def ref39_Leaf_V : TEnv := { pure := [], look := [], glob := G0T, ty := [], raw := [], fresh := [] }
theorem ref39_Leaf_eq : runY Tryz.prog ref39_Leaf_E ref39_Leaf_H ref39_Leaf_V ref39_Leaf_Y Tryz.f55 ref39_Leaf_T.ps ref39_Leaf_T.res = ref39_Leaf_T.fn := by kernel_rfl
theorem ref39_Leaf_Fok : SoundP Tryz.prog G0 55 ref39_Leaf_F := closeF_sound (runF_sound (P := Tryz.prog) (E := ref39_Leaf_E) (h := ref39_Leaf_H) (f := 55) (fn := Tryz.f55) ⟨same_ok, envP_nil, envS_nil, envP_nil, envX_nil⟩ Tryz.func55 rfl (by kernel_rfl))
theorem ref39_Leaf_ok : TOk ref39_Leaf_F ref39_Leaf_T := runY_ok (E := ref39_Leaf_E) (ET := ref39_Leaf_V) (EnvT.ofX (E := ref39_Leaf_E) (ET := ref39_Leaf_V) (pure_of pairs_nil) looks_nil raws_nil G0_ok news_nil) ref39_Leaf_eq rfl
-- palinode/palinoderef39.insert
noncomputable def ref39_insert_E : Env := { pure := [(24, ref39_compare_F), (55, ref39_Leaf_F)], raw := [], glob := G0, same := [76], look := [], ext := [] }
def ref39_insert_H : Hints := { seqs := [], loops := [(4, [0, 3, 5, 6, 7])], own := [] }
noncomputable def ref39_insert_F : PFn := closeF (runF Tryz.prog ref39_insert_E ref39_insert_H Tryz.f29)
def ref39_insert_Y : TH := { joins := [(10, { keep := [(3, (.bx 0 0)), (5, (.own 1)), (6, .bool)], mem := [.same, .row true 59 (.agg (.cons (.int .i64) (.cons (.agg (.cons (.sl .str) (.cons (.int .i64) (.cons (.sl (.agg (.cons (.int .i64) (.cons (.int .i64) (.cons .str .unit))))) (.cons (.int .i64) .unit))))) (.cons (.agg (.cons (.sl .str) (.cons (.int .i64) (.cons (.sl (.agg (.cons (.int .i64) (.cons (.int .i64) (.cons .str .unit))))) (.cons (.int .i64) .unit))))) .unit))))] }), (9, { keep := [(3, (.bx 0 0)), (5, (.own 1)), (6, .bool)], mem := [.same, .row true 59 (.agg (.cons (.int .i64) (.cons (.agg (.cons (.sl .str) (.cons (.int .i64) (.cons (.sl (.agg (.cons (.int .i64) (.cons (.int .i64) (.cons .str .unit))))) (.cons (.int .i64) .unit))))) (.cons (.agg (.cons (.sl .str) (.cons (.int .i64) (.cons (.sl (.agg (.cons (.int .i64) (.cons (.int .i64) (.cons .str .unit))))) (.cons (.int .i64) .unit))))) .unit))))] })], loops := [(4, { keep := [(3, (.bx 0 0)), (5, (.own 1)), (6, .bool), (7, (.int .i64))], mem := [.same, .row true 59 (.agg (.cons (.int .i64) (.cons (.agg (.cons (.sl .str) (.cons (.int .i64) (.cons (.sl (.agg (.cons (.int .i64) (.cons (.int .i64) (.cons .str .unit))))) (.cons (.int .i64) .unit))))) (.cons (.agg (.cons (.sl .str) (.cons (.int .i64) (.cons (.sl (.agg (.cons (.int .i64) (.cons (.int .i64) (.cons .str .unit))))) (.cons (.int .i64) .unit))))) .unit))))] })], cuts := [], ro := [3], news := [] }
noncomputable def ref39_insert_l4 (a0 : List (Int × (List (List UInt8) × Int × List (Int × Int × List UInt8 × Unit) × Int × Unit) × (List (List UInt8) × Int × List (Int × Int × List UInt8 × Unit) × Int × Unit) × Unit)) (a1 : (Int × (List (List UInt8) × Int × List (Int × Int × List UInt8 × Unit) × Int × Unit) × (List (List UInt8) × Int × List (Int × Int × List UInt8 × Unit) × Int × Unit) × Unit)) (y4 : (Bool × Int × List (Int × (List (List UInt8) × Int × List (Int × Int × List UInt8 × Unit) × Int × Unit) × (List (List UInt8) × Int × List (Int × Int × List UInt8 × Unit) × Int × Unit) × Unit) × Unit)) : Option ((Bool × Int × List (Int × (List (List UInt8) × Int × List (Int × Int × List UInt8 × Unit) × Int × Unit) × (List (List UInt8) × Int × List (Int × Int × List UInt8 × Unit) × Int × Unit) × Unit) × Unit) ⊕ ((Bool × List (Int × (List (List UInt8) × Int × List (Int × Int × List UInt8 × Unit) × Int × Unit) × (List (List UInt8) × Int × List (Int × Int × List UInt8 × Unit) × Int × Unit) × Unit) × Unit) ⊕ List (Int × (List (List UInt8) × Int × List (Int × Int × List UInt8 × Unit) × Int × Unit) × (List (List UInt8) × Int × List (Int × Int × List UInt8 × Unit) × Int × Unit) × Unit))) :=
 cond (decide (y4.2.1 < (a0.length : Int))) (
(cond (!y4.1) ((ref39_Leaf a1).bind fun r1 =>
(atI a0 y4.2.1).bind fun x2 =>
(ref39_Leaf x2).bind fun r3 =>
(ref39_compare r1 r3).bind fun r4 =>
 cond (decide (r4 < 0)) (
(roomT (y4.2.2.1.length + ([a1] : List (Int × (List (List UInt8) × Int × List (Int × Int × List UInt8 × Unit) × Int × Unit) × (List (List UInt8) × Int × List (Int × Int × List UInt8 × Unit) × Int × Unit) × Unit)).length)).bind fun u5 =>
 some (.inl (true, (y4.2.2.1 ++ ([a1] : List (Int × (List (List UInt8) × Int × List (Int × Int × List UInt8 × Unit) × Int × Unit) × (List (List UInt8) × Int × List (Int × Int × List UInt8 × Unit) × Int × Unit) × Unit))), ()))) (
 some (.inl (y4.1, y4.2.2.1, ())))) (some (.inl (y4.1, y4.2.2.1, ()))) : Option ((Bool × List (Int × (List (List UInt8) × Int × List (Int × Int × List UInt8 × Unit) × Int × Unit) × (List (List UInt8) × Int × List (Int × Int × List UInt8 × Unit) × Int × Unit) × Unit) × Unit) ⊕ ((Bool × Int × List (Int × (List (List UInt8) × Int × List (Int × Int × List UInt8 × Unit) × Int × Unit) × (List (List UInt8) × Int × List (Int × Int × List UInt8 × Unit) × Int × Unit) × Unit) × Unit) ⊕ ((Bool × List (Int × (List (List UInt8) × Int × List (Int × Int × List UInt8 × Unit) × Int × Unit) × (List (List UInt8) × Int × List (Int × Int × List UInt8 × Unit) × Int × Unit) × Unit) × Unit) ⊕ List (Int × (List (List UInt8) × Int × List (Int × Int × List UInt8 × Unit) × Int × Unit) × (List (List UInt8) × Int × List (Int × Int × List UInt8 × Unit) × Int × Unit) × Unit))))).bind (joinS fun v6 =>
(atI a0 y4.2.1).bind fun x7 =>
(roomT (v6.2.1.length + ([x7] : List (Int × (List (List UInt8) × Int × List (Int × Int × List UInt8 × Unit) × Int × Unit) × (List (List UInt8) × Int × List (Int × Int × List UInt8 × Unit) × Int × Unit) × Unit)).length)).bind fun u8 =>
 some (.inl (v6.1, (IntKind.wrap .i64 (y4.2.1 + 1)), (v6.2.1 ++ ([x7] : List (Int × (List (List UInt8) × Int × List (Int × Int × List UInt8 × Unit) × Int × Unit) × (List (List UInt8) × Int × List (Int × Int × List UInt8 × Unit) × Int × Unit) × Unit))), ())))) (
 some (.inr (.inl (y4.1, y4.2.2.1, ()))))
noncomputable def ref39_insert (a0 : List (Int × (List (List UInt8) × Int × List (Int × Int × List UInt8 × Unit) × Int × Unit) × (List (List UInt8) × Int × List (Int × Int × List UInt8 × Unit) × Int × Unit) × Unit)) (a1 : (Int × (List (List UInt8) × Int × List (Int × Int × List UInt8 × Unit) × Int × Unit) × (List (List UInt8) × Int × List (Int × Int × List UInt8 × Unit) × Int × Unit) × Unit)) : Option (List (Int × (List (List UInt8) × Int × List (Int × Int × List UInt8 × Unit) × Int × Unit) × (List (List UInt8) × Int × List (Int × Int × List UInt8 × Unit) × Int × Unit) × Unit)) :=
(loopT (ref39_insert_l4 a0 a1) (false, 0, [], ()) : Option ((Bool × List (Int × (List (List UInt8) × Int × List (Int × Int × List UInt8 × Unit) × Int × Unit) × (List (List UInt8) × Int × List (Int × Int × List UInt8 × Unit) × Int × Unit) × Unit) × Unit) ⊕ List (Int × (List (List UInt8) × Int × List (Int × Int × List UInt8 × Unit) × Int × Unit) × (List (List UInt8) × Int × List (Int × Int × List UInt8 × Unit) × Int × Unit) × Unit))).bind (joinS fun v9 =>
 cond (!v9.1) (
(roomT (v9.2.1.length + ([a1] : List (Int × (List (List UInt8) × Int × List (Int × Int × List UInt8 × Unit) × Int × Unit) × (List (List UInt8) × Int × List (Int × Int × List UInt8 × Unit) × Int × Unit) × Unit)).length)).bind fun u10 =>
 some (v9.2.1 ++ ([a1] : List (Int × (List (List UInt8) × Int × List (Int × Int × List UInt8 × Unit) × Int × Unit) × (List (List UInt8) × Int × List (Int × Int × List UInt8 × Unit) × Int × Unit) × Unit)))) (
 some v9.2.1))
noncomputable def ref39_insert_T : TFn := { ps := (.cons (.sl (.agg (.cons (.int .i64) (.cons (.agg (.cons (.sl .str) (.cons (.int .i64) (.cons (.sl (.agg (.cons (.int .i64) (.cons (.int .i64) (.cons .str .unit))))) (.cons (.int .i64) .unit))))) (.cons (.agg (.cons (.sl .str) (.cons (.int .i64) (.cons (.sl (.agg (.cons (.int .i64) (.cons (.int .i64) (.cons .str .unit))))) (.cons (.int .i64) .unit))))) .unit))))) (.cons (.agg (.cons (.int .i64) (.cons (.agg (.cons (.sl .str) (.cons (.int .i64) (.cons (.sl (.agg (.cons (.int .i64) (.cons (.int .i64) (.cons .str .unit))))) (.cons (.int .i64) .unit))))) (.cons (.agg (.cons (.sl .str) (.cons (.int .i64) (.cons (.sl (.agg (.cons (.int .i64) (.cons (.int .i64) (.cons .str .unit))))) (.cons (.int .i64) .unit))))) .unit)))) .unit)), res := (.sl (.agg (.cons (.int .i64) (.cons (.agg (.cons (.sl .str) (.cons (.int .i64) (.cons (.sl (.agg (.cons (.int .i64) (.cons (.int .i64) (.cons .str .unit))))) (.cons (.int .i64) .unit))))) (.cons (.agg (.cons (.sl .str) (.cons (.int .i64) (.cons (.sl (.agg (.cons (.int .i64) (.cons (.int .i64) (.cons .str .unit))))) (.cons (.int .i64) .unit))))) .unit))))), fn := fun v => ref39_insert v.1 v.2.1 }
noncomputable def ref39_insert_V : TEnv := { pure := [(24, ref39_compare_T), (55, ref39_Leaf_T)], look := [], glob := G0T, ty := [(59, (.agg (.cons (.int .i64) (.cons (.agg (.cons (.sl .str) (.cons (.int .i64) (.cons (.sl (.agg (.cons (.int .i64) (.cons (.int .i64) (.cons .str .unit))))) (.cons (.int .i64) .unit))))) (.cons (.agg (.cons (.sl .str) (.cons (.int .i64) (.cons (.sl (.agg (.cons (.int .i64) (.cons (.int .i64) (.cons .str .unit))))) (.cons (.int .i64) .unit))))) .unit)))))], raw := [], fresh := [] }
theorem ref39_insert_eq : runY Tryz.prog ref39_insert_E ref39_insert_H ref39_insert_V ref39_insert_Y Tryz.f29 ref39_insert_T.ps ref39_insert_T.res = ref39_insert_T.fn := by kernel_rfl
theorem ref39_insert_Fok : SoundP Tryz.prog G0 29 ref39_insert_F := closeF_sound (runF_sound (P := Tryz.prog) (E := ref39_insert_E) (h := ref39_insert_H) (f := 29) (fn := Tryz.f29) ⟨same_ok, (envP_cons ref39_compare_Fok (envP_cons ref39_Leaf_Fok envP_nil)), envS_nil, envP_nil, envX_nil⟩ Tryz.func29 rfl (by kernel_rfl))
theorem ref39_insert_ok : TOk ref39_insert_F ref39_insert_T := runY_ok (E := ref39_insert_E) (ET := ref39_insert_V) (EnvT.ofX (E := ref39_insert_E) (ET := ref39_insert_V) (pure_of (pairs_cons ref39_compare_ok (pairs_cons ref39_Leaf_ok pairs_nil))) looks_nil raws_nil G0_ok news_nil) ref39_insert_eq rfl
-- palinode/palinoderef39.same
noncomputable def ref39_same_E : Env := { pure := [(27, ref18_Same_F)], raw := [], glob := G0, same := [76], look := [], ext := [] }
def ref39_same_H : Hints := { seqs := [], loops := [], own := [] }
noncomputable def ref39_same_F : PFn := closeF (runF Tryz.prog ref39_same_E ref39_same_H Tryz.f30)
def ref39_same_Y : TH := { joins := [], loops := [], cuts := [], ro := [2, 3], news := [] }
noncomputable def ref39_same (a0 : (List (List UInt8) × Int × List (Int × Int × List UInt8 × Unit) × Int × Unit)) (a1 : (List (List UInt8) × Int × List (Int × Int × List UInt8 × Unit) × Int × Unit)) : Option Bool :=
(ref18_Same ([a0] : List (List (List UInt8) × Int × List (Int × Int × List UInt8 × Unit) × Int × Unit)) ([a1] : List (List (List UInt8) × Int × List (Int × Int × List UInt8 × Unit) × Int × Unit))).bind fun r1 =>
 some r1
noncomputable def ref39_same_T : TFn := { ps := (.cons (.agg (.cons (.sl .str) (.cons (.int .i64) (.cons (.sl (.agg (.cons (.int .i64) (.cons (.int .i64) (.cons .str .unit))))) (.cons (.int .i64) .unit))))) (.cons (.agg (.cons (.sl .str) (.cons (.int .i64) (.cons (.sl (.agg (.cons (.int .i64) (.cons (.int .i64) (.cons .str .unit))))) (.cons (.int .i64) .unit))))) .unit)), res := .bool, fn := fun v => ref39_same v.1 v.2.1 }
noncomputable def ref39_same_V : TEnv := { pure := [(27, ref18_Same_T)], look := [], glob := G0T, ty := [(53, (.agg (.cons (.sl .str) (.cons (.int .i64) (.cons (.sl (.agg (.cons (.int .i64) (.cons (.int .i64) (.cons .str .unit))))) (.cons (.int .i64) .unit))))))], raw := [], fresh := [] }
theorem ref39_same_eq : runY Tryz.prog ref39_same_E ref39_same_H ref39_same_V ref39_same_Y Tryz.f30 ref39_same_T.ps ref39_same_T.res = ref39_same_T.fn := by kernel_rfl
theorem ref39_same_Fok : SoundP Tryz.prog G0 30 ref39_same_F := closeF_sound (runF_sound (P := Tryz.prog) (E := ref39_same_E) (h := ref39_same_H) (f := 30) (fn := Tryz.f30) ⟨same_ok, (envP_cons ref18_Same_Fok envP_nil), envS_nil, envP_nil, envX_nil⟩ Tryz.func30 rfl (by kernel_rfl))
theorem ref39_same_ok : TOk ref39_same_F ref39_same_T := runY_ok (E := ref39_same_E) (ET := ref39_same_V) (EnvT.ofX (E := ref39_same_E) (ET := ref39_same_V) (pure_of (pairs_cons ref18_Same_ok pairs_nil)) looks_nil raws_nil G0_ok news_nil) ref39_same_eq rfl
-- palinode/palinoderef39.Diff
noncomputable def ref39_Diff_E : Env := { pure := [(28, ref39_find_F), (29, ref39_insert_F), (30, ref39_same_F)], raw := [], glob := G0, same := [76], look := [], ext := [] }
def ref39_Diff_H : Hints := { seqs := [], loops := [(3, [0, 1, 5, 6]), (11, [0, 1, 5, 8])], own := [] }
noncomputable def ref39_Diff_F : PFn := closeF (runF Tryz.prog ref39_Diff_E ref39_Diff_H Tryz.f13)
def ref39_Diff_Y : TH := { joins := [(10, { keep := [(5, (.sl (.agg (.cons (.int .i64) (.cons (.agg (.cons (.sl .str) (.cons (.int .i64) (.cons (.sl (.agg (.cons (.int .i64) (.cons (.int .i64) (.cons .str .unit))))) (.cons (.int .i64) .unit))))) (.cons (.agg (.cons (.sl .str) (.cons (.int .i64) (.cons (.sl (.agg (.cons (.int .i64) (.cons (.int .i64) (.cons .str .unit))))) (.cons (.int .i64) .unit))))) .unit))))))], mem := [] })], loops := [(3, { keep := [(5, (.sl (.agg (.cons (.int .i64) (.cons (.agg (.cons (.sl .str) (.cons (.int .i64) (.cons (.sl (.agg (.cons (.int .i64) (.cons (.int .i64) (.cons .str .unit))))) (.cons (.int .i64) .unit))))) (.cons (.agg (.cons (.sl .str) (.cons (.int .i64) (.cons (.sl (.agg (.cons (.int .i64) (.cons (.int .i64) (.cons .str .unit))))) (.cons (.int .i64) .unit))))) .unit)))))), (6, (.int .i64))], mem := [] }), (11, { keep := [(5, (.sl (.agg (.cons (.int .i64) (.cons (.agg (.cons (.sl .str) (.cons (.int .i64) (.cons (.sl (.agg (.cons (.int .i64) (.cons (.int .i64) (.cons .str .unit))))) (.cons (.int .i64) .unit))))) (.cons (.agg (.cons (.sl .str) (.cons (.int .i64) (.cons (.sl (.agg (.cons (.int .i64) (.cons (.int .i64) (.cons .str .unit))))) (.cons (.int .i64) .unit))))) .unit)))))), (8, (.int .i64))], mem := [] })], cuts := [], ro := [], news := [] }
noncomputable def ref39_Diff_l3 (a0 : List (List (List UInt8) × Int × List (Int × Int × List UInt8 × Unit) × Int × Unit)) (a1 : List (List (List UInt8) × Int × List (Int × Int × List UInt8 × Unit) × Int × Unit)) (y3 : (List (Int × (List (List UInt8) × Int × List (Int × Int × List UInt8 × Unit) × Int × Unit) × (List (List UInt8) × Int × List (Int × Int × List UInt8 × Unit) × Int × Unit) × Unit) × Int × Unit)) : Option ((List (Int × (List (List UInt8) × Int × List (Int × Int × List UInt8 × Unit) × Int × Unit) × (List (List UInt8) × Int × List (Int × Int × List UInt8 × Unit) × Int × Unit) × Unit) × Int × Unit) ⊕ ((List (Int × (List (List UInt8) × Int × List (Int × Int × List UInt8 × Unit) × Int × Unit) × (List (List UInt8) × Int × List (Int × Int × List UInt8 × Unit) × Int × Unit) × Unit) × Unit) ⊕ List (Int × (List (List UInt8) × Int × List (Int × Int × List UInt8 × Unit) × Int × Unit) × (List (List UInt8) × Int × List (Int × Int × List UInt8 × Unit) × Int × Unit) × Unit))) :=
 cond (decide (y3.2.1 < (a0.length : Int))) (
(atI a0 y3.2.1).bind fun x1 =>
(ref39_find a1 x1).bind fun r2 =>
 cond (decide (r2 < 0)) (
(atI a0 y3.2.1).bind fun x3 =>
(ref39_insert y3.1 (2, (x3.1, x3.2.1, x3.2.2.1, x3.2.2.2.1, ()), ([], 0, [], 0, ()), ())).bind fun r4 =>
 some (.inl (r4, (IntKind.wrap .i64 (y3.2.1 + 1)), ()))) (
(atI a0 y3.2.1).bind fun x5 =>
(atI a1 r2).bind fun x6 =>
(ref39_same x5 x6).bind fun r7 =>
 cond (!r7) (
(atI a0 y3.2.1).bind fun x8 =>
(atI a1 r2).bind fun x9 =>
(ref39_insert y3.1 (3, x8, x9, ())).bind fun r10 =>
 some (.inl (r10, (IntKind.wrap .i64 (y3.2.1 + 1)), ()))) (
 some (.inl (y3.1, (IntKind.wrap .i64 (y3.2.1 + 1)), ()))))) (
 some (.inr (.inl (y3.1, ()))))
noncomputable def ref39_Diff_l11 (a0 : List (List (List UInt8) × Int × List (Int × Int × List UInt8 × Unit) × Int × Unit)) (a1 : List (List (List UInt8) × Int × List (Int × Int × List UInt8 × Unit) × Int × Unit)) (y11 : (List (Int × (List (List UInt8) × Int × List (Int × Int × List UInt8 × Unit) × Int × Unit) × (List (List UInt8) × Int × List (Int × Int × List UInt8 × Unit) × Int × Unit) × Unit) × Int × Unit)) : Option ((List (Int × (List (List UInt8) × Int × List (Int × Int × List UInt8 × Unit) × Int × Unit) × (List (List UInt8) × Int × List (Int × Int × List UInt8 × Unit) × Int × Unit) × Unit) × Int × Unit) ⊕ List (Int × (List (List UInt8) × Int × List (Int × Int × List UInt8 × Unit) × Int × Unit) × (List (List UInt8) × Int × List (Int × Int × List UInt8 × Unit) × Int × Unit) × Unit)) :=
 cond (decide (y11.2.1 < (a1.length : Int))) (
(atI a1 y11.2.1).bind fun x12 =>
(ref39_find a0 x12).bind fun r13 =>
 cond (decide (r13 < 0)) (
(atI a1 y11.2.1).bind fun x14 =>
(ref39_insert y11.1 (1, ([], 0, [], 0, ()), (x14.1, x14.2.1, x14.2.2.1, x14.2.2.2.1, ()), ())).bind fun r15 =>
 some (.inl (r15, (IntKind.wrap .i64 (y11.2.1 + 1)), ()))) (
 some (.inl (y11.1, (IntKind.wrap .i64 (y11.2.1 + 1)), ())))) (
 some (.inr y11.1))
noncomputable def ref39_Diff (a0 : List (List (List UInt8) × Int × List (Int × Int × List UInt8 × Unit) × Int × Unit)) (a1 : List (List (List UInt8) × Int × List (Int × Int × List UInt8 × Unit) × Int × Unit)) : Option (List (Int × (List (List UInt8) × Int × List (Int × Int × List UInt8 × Unit) × Int × Unit) × (List (List UInt8) × Int × List (Int × Int × List UInt8 × Unit) × Int × Unit) × Unit)) :=
(loopT (ref39_Diff_l3 a0 a1) ([], 0, ()) : Option ((List (Int × (List (List UInt8) × Int × List (Int × Int × List UInt8 × Unit) × Int × Unit) × (List (List UInt8) × Int × List (Int × Int × List UInt8 × Unit) × Int × Unit) × Unit) × Unit) ⊕ List (Int × (List (List UInt8) × Int × List (Int × Int × List UInt8 × Unit) × Int × Unit) × (List (List UInt8) × Int × List (Int × Int × List UInt8 × Unit) × Int × Unit) × Unit))).bind (joinS fun v11 =>
 loopT (ref39_Diff_l11 a0 a1) (v11.1, 0, ()))
noncomputable def ref39_Diff_T : TFn := { ps := (.cons (.sl (.agg (.cons (.sl .str) (.cons (.int .i64) (.cons (.sl (.agg (.cons (.int .i64) (.cons (.int .i64) (.cons .str .unit))))) (.cons (.int .i64) .unit)))))) (.cons (.sl (.agg (.cons (.sl .str) (.cons (.int .i64) (.cons (.sl (.agg (.cons (.int .i64) (.cons (.int .i64) (.cons .str .unit))))) (.cons (.int .i64) .unit)))))) .unit)), res := (.sl (.agg (.cons (.int .i64) (.cons (.agg (.cons (.sl .str) (.cons (.int .i64) (.cons (.sl (.agg (.cons (.int .i64) (.cons (.int .i64) (.cons .str .unit))))) (.cons (.int .i64) .unit))))) (.cons (.agg (.cons (.sl .str) (.cons (.int .i64) (.cons (.sl (.agg (.cons (.int .i64) (.cons (.int .i64) (.cons .str .unit))))) (.cons (.int .i64) .unit))))) .unit))))), fn := fun v => ref39_Diff v.1 v.2.1 }
noncomputable def ref39_Diff_V : TEnv := { pure := [(28, ref39_find_T), (29, ref39_insert_T), (30, ref39_same_T)], look := [], glob := G0T, ty := [], raw := [], fresh := [] }
theorem ref39_Diff_eq : runY Tryz.prog ref39_Diff_E ref39_Diff_H ref39_Diff_V ref39_Diff_Y Tryz.f13 ref39_Diff_T.ps ref39_Diff_T.res = ref39_Diff_T.fn := by kernel_rfl
theorem ref39_Diff_Fok : SoundP Tryz.prog G0 13 ref39_Diff_F := closeF_sound (runF_sound (P := Tryz.prog) (E := ref39_Diff_E) (h := ref39_Diff_H) (f := 13) (fn := Tryz.f13) ⟨same_ok, (envP_cons ref39_find_Fok (envP_cons ref39_insert_Fok (envP_cons ref39_same_Fok envP_nil))), envS_nil, envP_nil, envX_nil⟩ Tryz.func13 rfl (by kernel_rfl))
theorem ref39_Diff_ok : TOk ref39_Diff_F ref39_Diff_T := runY_ok (E := ref39_Diff_E) (ET := ref39_Diff_V) (EnvT.ofX (E := ref39_Diff_E) (ET := ref39_Diff_V) (pure_of (pairs_cons ref39_find_ok (pairs_cons ref39_insert_ok (pairs_cons ref39_same_ok pairs_nil)))) looks_nil raws_nil G0_ok news_nil) ref39_Diff_eq rfl
-- palinode/value.inner
noncomputable def value_inner_E : Env := { pure := [], raw := [], glob := G0, same := [76], look := [], ext := [] }
def value_inner_H : Hints := { seqs := [], loops := [], own := [] }
noncomputable def value_inner_F : PFn := closeF (runF Tryz.prog value_inner_E value_inner_H Tryz.f77)
theorem value_inner_Fok : SoundP Tryz.prog G0 77 value_inner_F := closeF_sound (runF_sound (P := Tryz.prog) (E := value_inner_E) (h := value_inner_H) (f := 77) (fn := Tryz.f77) ⟨same_ok, envP_nil, envS_nil, envP_nil, envX_nil⟩ Tryz.func77 rfl (by kernel_rfl))
-- (*strings.Builder).copyCheck
noncomputable def strings_Builder_copyCheck_E : Env := { pure := [], raw := [], glob := G0, same := [76], look := [], ext := [] }
def strings_Builder_copyCheck_H : Hints := { seqs := [], loops := [], own := [6, 9, 11, 19] }
noncomputable def strings_Builder_copyCheck_S : SFn := runF Tryz.prog strings_Builder_copyCheck_E strings_Builder_copyCheck_H Tryz.f56
def strings_Builder_copyCheck_Y : TH := { joins := [], loops := [], cuts := [], ro := [], news := [] }
noncomputable def strings_Builder_copyCheck (w0 : (Bool × Unit × Unit)) (w1 : List Int) : Option (Unit × (Bool × Unit × Unit) × List Int × Unit) :=
 cond (!w0.1) (
 some ((), (true, w0.2.1, ()), w1, ())) (
 cond (!w0.1) (
 none) (
 some ((), w0, w1, ())))
noncomputable def strings_Builder_copyCheck_R : TRaw := { ps := (.cons (.bx 0 0) .unit), ins := [.box 67 (.agg (.cons (.op 0) (.cons (.own 1) .unit))), .row true 5 (.int .u8)], res := (.tup .unit), outs := [.box 67 (.agg (.cons (.op 0) (.cons (.own 1) .unit))), .row true 5 (.int .u8)], fn := fun v w => strings_Builder_copyCheck w.1 w.2.1 }
noncomputable def strings_Builder_copyCheck_V : TEnv := { pure := [], look := [], glob := G0T, ty := [], raw := [], fresh := [] }
theorem strings_Builder_copyCheck_eq : rawY Tryz.prog strings_Builder_copyCheck_E strings_Builder_copyCheck_H strings_Builder_copyCheck_V strings_Builder_copyCheck_Y [(0, 0)] Tryz.f56 strings_Builder_copyCheck_R.ps strings_Builder_copyCheck_R.ins strings_Builder_copyCheck_R.res strings_Builder_copyCheck_R.outs = strings_Builder_copyCheck_R.fn := by kernel_rfl
theorem strings_Builder_copyCheck_Sok : SoundS Tryz.prog G0 56 strings_Builder_copyCheck_S := runF_sound (P := Tryz.prog) (E := strings_Builder_copyCheck_E) (h := strings_Builder_copyCheck_H) (f := 56) (fn := Tryz.f56) ⟨same_ok, envP_nil, envS_nil, envP_nil, envX_nil⟩ Tryz.func56 rfl (by kernel_rfl)
theorem strings_Builder_copyCheck_ok : TRawOk strings_Builder_copyCheck_S strings_Builder_copyCheck_R := rawY_ok (E := strings_Builder_copyCheck_E) (ET := strings_Builder_copyCheck_V) (EnvT.ofX (E := strings_Builder_copyCheck_E) (ET := strings_Builder_copyCheck_V) (pure_of pairs_nil) looks_nil raws_nil G0_ok news_nil) strings_Builder_copyCheck_eq
-- (*strings.Builder).WriteByte
noncomputable def strings_Builder_WriteByte_E : Env := { pure := [], raw := [(56, strings_Builder_copyCheck_S)], glob := G0, same := [76], look := [], ext := [] }
def strings_Builder_WriteByte_H : Hints := { seqs := [], loops := [], own := [] }
noncomputable def strings_Builder_WriteByte_S : SFn := runF Tryz.prog strings_Builder_WriteByte_E strings_Builder_WriteByte_H Tryz.f89
def strings_Builder_WriteByte_Y : TH := { joins := [], loops := [], cuts := [], ro := [], news := [] }
noncomputable def strings_Builder_WriteByte (a1 : Int) (w0 : (Bool × Unit × Unit)) (w1 : List Int) : Option (Bool × (Bool × Unit × Unit) × List Int × Unit) :=
(strings_Builder_copyCheck w0 w1).bind fun q1 =>
(roomT (q1.2.2.1.length + ([a1] : List Int).length)).bind fun u2 =>
 some (false, (q1.2.1.1, (), ()), (q1.2.2.1 ++ ([a1] : List Int)), ())
noncomputable def strings_Builder_WriteByte_R : TRaw := { ps := (.cons (.bx 0 0) (.cons (.int .u8) .unit)), ins := [.box 67 (.agg (.cons (.op 0) (.cons (.own 1) .unit))), .row true 5 (.int .u8)], res := .err, outs := [.box 67 (.agg (.cons (.op 0) (.cons (.own 1) .unit))), .row true 5 (.int .u8)], fn := fun v w => strings_Builder_WriteByte v.2.1 w.1 w.2.1 }
noncomputable def strings_Builder_WriteByte_V : TEnv := { pure := [], look := [], glob := G0T, ty := [(5, (.int .u8))], raw := [(56, strings_Builder_copyCheck_R)], fresh := [] }
theorem strings_Builder_WriteByte_eq : rawY Tryz.prog strings_Builder_WriteByte_E strings_Builder_WriteByte_H strings_Builder_WriteByte_V strings_Builder_WriteByte_Y [(0, 0)] Tryz.f89 strings_Builder_WriteByte_R.ps strings_Builder_WriteByte_R.ins strings_Builder_WriteByte_R.res strings_Builder_WriteByte_R.outs = strings_Builder_WriteByte_R.fn := by kernel_rfl
theorem strings_Builder_WriteByte_Sok : SoundS Tryz.prog G0 89 strings_Builder_WriteByte_S := runF_sound (P := Tryz.prog) (E := strings_Builder_WriteByte_E) (h := strings_Builder_WriteByte_H) (f := 89) (fn := Tryz.f89) ⟨same_ok, envP_nil, (envS_cons strings_Builder_copyCheck_Sok envS_nil), envP_nil, envX_nil⟩ Tryz.func89 rfl (by kernel_rfl)
theorem strings_Builder_WriteByte_ok : TRawOk strings_Builder_WriteByte_S strings_Builder_WriteByte_R := rawY_ok (E := strings_Builder_WriteByte_E) (ET := strings_Builder_WriteByte_V) (EnvT.ofX (E := strings_Builder_WriteByte_E) (ET := strings_Builder_WriteByte_V) (pure_of pairs_nil) looks_nil (raws_cons strings_Builder_copyCheck_ok rfl rfl raws_nil) G0_ok news_nil) strings_Builder_WriteByte_eq
-- unicode/utf8.appendRuneNonASCII
noncomputable def utf8_appendRuneNonASCII_E : Env := { pure := [], raw := [], glob := G0, same := [76], look := [], ext := [] }
def utf8_appendRuneNonASCII_H : Hints := { seqs := [], loops := [], own := [] }
noncomputable def utf8_appendRuneNonASCII_S : SFn := runF Tryz.prog utf8_appendRuneNonASCII_E utf8_appendRuneNonASCII_H Tryz.f103
def utf8_appendRuneNonASCII_Y : TH := { joins := [(7, { keep := [(0, (.own 0)), (25, .bool)], mem := [.row true 5 (.int .u8)] })], loops := [], cuts := [(6, [(6, { keep := [(0, (.own 0)), (33, .bool)], mem := [.row true 5 (.int .u8)] })])], ro := [], news := [] }
noncomputable def utf8_appendRuneNonASCII (a1 : Int) (w0 : List Int) : Option (Unit × List Int × Unit) :=
 cond (decide ((IntKind.wrap .u32 a1) ≤ 2047)) (
(shrT .i32 a1 6).bind fun t1 =>
(roomT (w0.length + ([(IntKind.wrap .u8 ((BitVec.ofInt (IntKind.bits .u8) 192 ||| BitVec.ofInt (IntKind.bits .u8) (IntKind.wrap .u8 t1)).toNat)), (IntKind.wrap .u8 ((BitVec.ofInt (IntKind.bits .u8) 128 ||| BitVec.ofInt (IntKind.bits .u8) (IntKind.wrap .u8 ((BitVec.ofInt (IntKind.bits .u8) (IntKind.wrap .u8 a1) &&& BitVec.ofInt (IntKind.bits .u8) 63).toNat))).toNat))] : List Int).length)).bind fun u2 =>
 some ((), (w0 ++ ([(IntKind.wrap .u8 ((BitVec.ofInt (IntKind.bits .u8) 192 ||| BitVec.ofInt (IntKind.bits .u8) (IntKind.wrap .u8 t1)).toNat)), (IntKind.wrap .u8 ((BitVec.ofInt (IntKind.bits .u8) 128 ||| BitVec.ofInt (IntKind.bits .u8) (IntKind.wrap .u8 ((BitVec.ofInt (IntKind.bits .u8) (IntKind.wrap .u8 a1) &&& BitVec.ofInt (IntKind.bits .u8) 63).toNat))).toNat))] : List Int)), ())) (
(cond (decide ((IntKind.wrap .u32 a1) < 55296)) (
 some (.inl ((decide ((IntKind.wrap .u32 a1) < 55296)), w0, ()))) (
(cond (decide (57343 < (IntKind.wrap .u32 a1))) (some ((decide ((IntKind.wrap .u32 a1) ≤ 65535)), w0, ())) (some (false, w0, ())) : Option (Bool × List Int × Unit)).bind fun v3 =>
 some (.inl (v3.1, v3.2.1, ()))) : Option ((Bool × List Int × Unit) ⊕ (Unit × List Int × Unit))).bind (joinS fun v4 =>
 cond v4.1 (
(shrT .i32 a1 12).bind fun t5 =>
(shrT .i32 a1 6).bind fun t6 =>
(roomT (v4.2.1.length + ([(IntKind.wrap .u8 ((BitVec.ofInt (IntKind.bits .u8) 224 ||| BitVec.ofInt (IntKind.bits .u8) (IntKind.wrap .u8 t5)).toNat)), (IntKind.wrap .u8 ((BitVec.ofInt (IntKind.bits .u8) 128 ||| BitVec.ofInt (IntKind.bits .u8) (IntKind.wrap .u8 ((BitVec.ofInt (IntKind.bits .u8) (IntKind.wrap .u8 t6) &&& BitVec.ofInt (IntKind.bits .u8) 63).toNat))).toNat)), (IntKind.wrap .u8 ((BitVec.ofInt (IntKind.bits .u8) 128 ||| BitVec.ofInt (IntKind.bits .u8) (IntKind.wrap .u8 ((BitVec.ofInt (IntKind.bits .u8) (IntKind.wrap .u8 a1) &&& BitVec.ofInt (IntKind.bits .u8) 63).toNat))).toNat))] : List Int).length)).bind fun u7 =>
 some ((), (v4.2.1 ++ ([(IntKind.wrap .u8 ((BitVec.ofInt (IntKind.bits .u8) 224 ||| BitVec.ofInt (IntKind.bits .u8) (IntKind.wrap .u8 t5)).toNat)), (IntKind.wrap .u8 ((BitVec.ofInt (IntKind.bits .u8) 128 ||| BitVec.ofInt (IntKind.bits .u8) (IntKind.wrap .u8 ((BitVec.ofInt (IntKind.bits .u8) (IntKind.wrap .u8 t6) &&& BitVec.ofInt (IntKind.bits .u8) 63).toNat))).toNat)), (IntKind.wrap .u8 ((BitVec.ofInt (IntKind.bits .u8) 128 ||| BitVec.ofInt (IntKind.bits .u8) (IntKind.wrap .u8 ((BitVec.ofInt (IntKind.bits .u8) (IntKind.wrap .u8 a1) &&& BitVec.ofInt (IntKind.bits .u8) 63).toNat))).toNat))] : List Int)), ())) (
 cond (decide ((IntKind.wrap .u32 a1) > 65535)) (cond (decide ((IntKind.wrap .u32 a1) ≤ 1114111)) (
(shrT .i32 a1 18).bind fun t8 =>
(shrT .i32 a1 12).bind fun t9 =>
(shrT .i32 a1 6).bind fun t10 =>
(roomT (v4.2.1.length + ([(IntKind.wrap .u8 ((BitVec.ofInt (IntKind.bits .u8) 240 ||| BitVec.ofInt (IntKind.bits .u8) (IntKind.wrap .u8 t8)).toNat)), (IntKind.wrap .u8 ((BitVec.ofInt (IntKind.bits .u8) 128 ||| BitVec.ofInt (IntKind.bits .u8) (IntKind.wrap .u8 ((BitVec.ofInt (IntKind.bits .u8) (IntKind.wrap .u8 t9) &&& BitVec.ofInt (IntKind.bits .u8) 63).toNat))).toNat)), (IntKind.wrap .u8 ((BitVec.ofInt (IntKind.bits .u8) 128 ||| BitVec.ofInt (IntKind.bits .u8) (IntKind.wrap .u8 ((BitVec.ofInt (IntKind.bits .u8) (IntKind.wrap .u8 t10) &&& BitVec.ofInt (IntKind.bits .u8) 63).toNat))).toNat)), (IntKind.wrap .u8 ((BitVec.ofInt (IntKind.bits .u8) 128 ||| BitVec.ofInt (IntKind.bits .u8) (IntKind.wrap .u8 ((BitVec.ofInt (IntKind.bits .u8) (IntKind.wrap .u8 a1) &&& BitVec.ofInt (IntKind.bits .u8) 63).toNat))).toNat))] : List Int).length)).bind fun u11 =>
 some ((), (v4.2.1 ++ ([(IntKind.wrap .u8 ((BitVec.ofInt (IntKind.bits .u8) 240 ||| BitVec.ofInt (IntKind.bits .u8) (IntKind.wrap .u8 t8)).toNat)), (IntKind.wrap .u8 ((BitVec.ofInt (IntKind.bits .u8) 128 ||| BitVec.ofInt (IntKind.bits .u8) (IntKind.wrap .u8 ((BitVec.ofInt (IntKind.bits .u8) (IntKind.wrap .u8 t9) &&& BitVec.ofInt (IntKind.bits .u8) 63).toNat))).toNat)), (IntKind.wrap .u8 ((BitVec.ofInt (IntKind.bits .u8) 128 ||| BitVec.ofInt (IntKind.bits .u8) (IntKind.wrap .u8 ((BitVec.ofInt (IntKind.bits .u8) (IntKind.wrap .u8 t10) &&& BitVec.ofInt (IntKind.bits .u8) 63).toNat))).toNat)), (IntKind.wrap .u8 ((BitVec.ofInt (IntKind.bits .u8) 128 ||| BitVec.ofInt (IntKind.bits .u8) (IntKind.wrap .u8 ((BitVec.ofInt (IntKind.bits .u8) (IntKind.wrap .u8 a1) &&& BitVec.ofInt (IntKind.bits .u8) 63).toNat))).toNat))] : List Int)), ())) (
(roomT (v4.2.1.length + ([239, 191, 189] : List Int).length)).bind fun u12 =>
 some ((), (v4.2.1 ++ ([239, 191, 189] : List Int)), ()))) ((roomT (v4.2.1.length + ([239, 191, 189] : List Int).length)).bind fun u13 =>
 some ((), (v4.2.1 ++ ([239, 191, 189] : List Int)), ())))))
noncomputable def utf8_appendRuneNonASCII_R : TRaw := { ps := (.cons (.own 0) (.cons (.int .i32) .unit)), ins := [.row true 5 (.int .u8)], res := (.own 0), outs := [.row true 5 (.int .u8)], fn := fun v w => utf8_appendRuneNonASCII v.2.1 w.1 }
noncomputable def utf8_appendRuneNonASCII_V : TEnv := { pure := [], look := [], glob := G0T, ty := [(5, (.int .u8))], raw := [], fresh := [] }
theorem utf8_appendRuneNonASCII_eq : rawY Tryz.prog utf8_appendRuneNonASCII_E utf8_appendRuneNonASCII_H utf8_appendRuneNonASCII_V utf8_appendRuneNonASCII_Y [] Tryz.f103 utf8_appendRuneNonASCII_R.ps utf8_appendRuneNonASCII_R.ins utf8_appendRuneNonASCII_R.res utf8_appendRuneNonASCII_R.outs = utf8_appendRuneNonASCII_R.fn := by kernel_rfl
theorem utf8_appendRuneNonASCII_Sok : SoundS Tryz.prog G0 103 utf8_appendRuneNonASCII_S := runF_sound (P := Tryz.prog) (E := utf8_appendRuneNonASCII_E) (h := utf8_appendRuneNonASCII_H) (f := 103) (fn := Tryz.f103) ⟨same_ok, envP_nil, envS_nil, envP_nil, envX_nil⟩ Tryz.func103 rfl (by kernel_rfl)
theorem utf8_appendRuneNonASCII_ok : TRawOk utf8_appendRuneNonASCII_S utf8_appendRuneNonASCII_R := rawY_ok (E := utf8_appendRuneNonASCII_E) (ET := utf8_appendRuneNonASCII_V) (EnvT.ofX (E := utf8_appendRuneNonASCII_E) (ET := utf8_appendRuneNonASCII_V) (pure_of pairs_nil) looks_nil raws_nil G0_ok news_nil) utf8_appendRuneNonASCII_eq
-- unicode/utf8.AppendRune
noncomputable def utf8_AppendRune_E : Env := { pure := [], raw := [(103, utf8_appendRuneNonASCII_S)], glob := G0, same := [76], look := [], ext := [] }
def utf8_AppendRune_H : Hints := { seqs := [], loops := [], own := [] }
noncomputable def utf8_AppendRune_S : SFn := runF Tryz.prog utf8_AppendRune_E utf8_AppendRune_H Tryz.f97
def utf8_AppendRune_Y : TH := { joins := [], loops := [], cuts := [], ro := [], news := [] }
noncomputable def utf8_AppendRune (a1 : Int) (w0 : List Int) : Option (Unit × List Int × Unit) :=
 cond (decide ((IntKind.wrap .u32 a1) ≤ 127)) (
(roomT (w0.length + ([(IntKind.wrap .u8 a1)] : List Int).length)).bind fun u1 =>
 some ((), (w0 ++ ([(IntKind.wrap .u8 a1)] : List Int)), ())) (
(utf8_appendRuneNonASCII a1 w0).bind fun q2 =>
 some (q2.1, q2.2.1, ()))
noncomputable def utf8_AppendRune_R : TRaw := { ps := (.cons (.own 0) (.cons (.int .i32) .unit)), ins := [.row true 5 (.int .u8)], res := (.own 0), outs := [.row true 5 (.int .u8)], fn := fun v w => utf8_AppendRune v.2.1 w.1 }
noncomputable def utf8_AppendRune_V : TEnv := { pure := [], look := [], glob := G0T, ty := [(5, (.int .u8))], raw := [(103, utf8_appendRuneNonASCII_R)], fresh := [] }
theorem utf8_AppendRune_eq : rawY Tryz.prog utf8_AppendRune_E utf8_AppendRune_H utf8_AppendRune_V utf8_AppendRune_Y [] Tryz.f97 utf8_AppendRune_R.ps utf8_AppendRune_R.ins utf8_AppendRune_R.res utf8_AppendRune_R.outs = utf8_AppendRune_R.fn := by kernel_rfl
theorem utf8_AppendRune_Sok : SoundS Tryz.prog G0 97 utf8_AppendRune_S := runF_sound (P := Tryz.prog) (E := utf8_AppendRune_E) (h := utf8_AppendRune_H) (f := 97) (fn := Tryz.f97) ⟨same_ok, envP_nil, (envS_cons utf8_appendRuneNonASCII_Sok envS_nil), envP_nil, envX_nil⟩ Tryz.func97 rfl (by kernel_rfl)
theorem utf8_AppendRune_ok : TRawOk utf8_AppendRune_S utf8_AppendRune_R := rawY_ok (E := utf8_AppendRune_E) (ET := utf8_AppendRune_V) (EnvT.ofX (E := utf8_AppendRune_E) (ET := utf8_AppendRune_V) (pure_of pairs_nil) looks_nil (raws_cons utf8_appendRuneNonASCII_ok rfl rfl raws_nil) G0_ok news_nil) utf8_AppendRune_eq
-- (*strings.Builder).WriteRune
noncomputable def strings_Builder_WriteRune_E : Env := { pure := [], raw := [(56, strings_Builder_copyCheck_S), (97, utf8_AppendRune_S)], glob := G0, same := [76], look := [], ext := [] }
def strings_Builder_WriteRune_H : Hints := { seqs := [], loops := [], own := [] }
noncomputable def strings_Builder_WriteRune_S : SFn := runF Tryz.prog strings_Builder_WriteRune_E strings_Builder_WriteRune_H Tryz.f90
def strings_Builder_WriteRune_Y : TH := { joins := [], loops := [], cuts := [], ro := [], news := [] }
noncomputable def strings_Builder_WriteRune (a1 : Int) (w0 : (Bool × Unit × Unit)) (w1 : List Int) : Option ((Int × Bool × Unit) × (Bool × Unit × Unit) × List Int × Unit) :=
(strings_Builder_copyCheck w0 w1).bind fun q1 =>
(utf8_AppendRune a1 q1.2.2.1).bind fun q2 =>
 some (((IntKind.wrap .i64 ((q2.2.1.length : Int) - (q1.2.2.1.length : Int))), false, ()), (q1.2.1.1, q2.1, ()), q2.2.1, ())
noncomputable def strings_Builder_WriteRune_R : TRaw := { ps := (.cons (.bx 0 0) (.cons (.int .i32) .unit)), ins := [.box 67 (.agg (.cons (.op 0) (.cons (.own 1) .unit))), .row true 5 (.int .u8)], res := (.tup (.cons (.int .i64) (.cons .err .unit))), outs := [.box 67 (.agg (.cons (.op 0) (.cons (.own 1) .unit))), .row true 5 (.int .u8)], fn := fun v w => strings_Builder_WriteRune v.2.1 w.1 w.2.1 }
noncomputable def strings_Builder_WriteRune_V : TEnv := { pure := [], look := [], glob := G0T, ty := [], raw := [(56, strings_Builder_copyCheck_R), (97, utf8_AppendRune_R)], fresh := [] }
theorem strings_Builder_WriteRune_eq : rawY Tryz.prog strings_Builder_WriteRune_E strings_Builder_WriteRune_H strings_Builder_WriteRune_V strings_Builder_WriteRune_Y [(0, 0)] Tryz.f90 strings_Builder_WriteRune_R.ps strings_Builder_WriteRune_R.ins strings_Builder_WriteRune_R.res strings_Builder_WriteRune_R.outs = strings_Builder_WriteRune_R.fn := by kernel_rfl
theorem strings_Builder_WriteRune_Sok : SoundS Tryz.prog G0 90 strings_Builder_WriteRune_S := runF_sound (P := Tryz.prog) (E := strings_Builder_WriteRune_E) (h := strings_Builder_WriteRune_H) (f := 90) (fn := Tryz.f90) ⟨same_ok, envP_nil, (envS_cons strings_Builder_copyCheck_Sok (envS_cons utf8_AppendRune_Sok envS_nil)), envP_nil, envX_nil⟩ Tryz.func90 rfl (by kernel_rfl)
theorem strings_Builder_WriteRune_ok : TRawOk strings_Builder_WriteRune_S strings_Builder_WriteRune_R := rawY_ok (E := strings_Builder_WriteRune_E) (ET := strings_Builder_WriteRune_V) (EnvT.ofX (E := strings_Builder_WriteRune_E) (ET := strings_Builder_WriteRune_V) (pure_of pairs_nil) looks_nil (raws_cons strings_Builder_copyCheck_ok rfl rfl (raws_cons utf8_AppendRune_ok rfl rfl raws_nil)) G0_ok news_nil) strings_Builder_WriteRune_eq
-- (*strings.Builder).String
noncomputable def strings_Builder_String_E : Env := { pure := [], raw := [], glob := G0, same := [76], look := [], ext := [] }
def strings_Builder_String_H : Hints := { seqs := [], loops := [], own := [] }
noncomputable def strings_Builder_String_S : SFn := runF Tryz.prog strings_Builder_String_E strings_Builder_String_H Tryz.f33
def strings_Builder_String_Y : TH := { joins := [], loops := [], cuts := [], ro := [], news := [] }
noncomputable def strings_Builder_String (w0 : (Bool × Unit × Unit)) (w1 : List Int) : Option (List UInt8 × (Bool × Unit × Unit) × Unit) :=
 cond w1.isEmpty ((zeroN (w1.length : Int)).bind fun u1 =>
 some ([], w0, ())) ((wholeN 0 w1.length (w1.length : Int)).bind fun u2 =>
 some ((w1.map fun n => UInt8.ofNat n.toNat), w0, ()))
noncomputable def strings_Builder_String_R : TRaw := { ps := (.cons (.bx 0 0) .unit), ins := [.box 67 (.agg (.cons (.op 0) (.cons (.own 1) .unit))), .row true 5 (.int .u8)], res := .str, outs := [.box 67 (.agg (.cons (.op 0) (.cons (.own 1) .unit))), .gone], fn := fun v w => strings_Builder_String w.1 w.2.1 }
noncomputable def strings_Builder_String_V : TEnv := { pure := [], look := [], glob := G0T, ty := [], raw := [], fresh := [] }
theorem strings_Builder_String_eq : rawY Tryz.prog strings_Builder_String_E strings_Builder_String_H strings_Builder_String_V strings_Builder_String_Y [(0, 0)] Tryz.f33 strings_Builder_String_R.ps strings_Builder_String_R.ins strings_Builder_String_R.res strings_Builder_String_R.outs = strings_Builder_String_R.fn := by kernel_rfl
theorem strings_Builder_String_Sok : SoundS Tryz.prog G0 33 strings_Builder_String_S := runF_sound (P := Tryz.prog) (E := strings_Builder_String_E) (h := strings_Builder_String_H) (f := 33) (fn := Tryz.f33) ⟨same_ok, envP_nil, envS_nil, envP_nil, envX_nil⟩ Tryz.func33 rfl (by kernel_rfl)
theorem strings_Builder_String_ok : TRawOk strings_Builder_String_S strings_Builder_String_R := rawY_ok (E := strings_Builder_String_E) (ET := strings_Builder_String_V) (EnvT.ofX (E := strings_Builder_String_E) (ET := strings_Builder_String_V) (pure_of pairs_nil) looks_nil raws_nil G0_ok news_nil) strings_Builder_String_eq
-- palinode/value.quote
noncomputable def value_quote_E : Env := { pure := [], raw := [(33, strings_Builder_String_S), (89, strings_Builder_WriteByte_S), (90, strings_Builder_WriteRune_S)], glob := G0, same := [76], look := [], ext := [] }
def value_quote_H : Hints := { seqs := [], loops := [(4, [3, 8])], own := [] }
noncomputable def value_quote_F : PFn := closeF (runF Tryz.prog value_quote_E value_quote_H Tryz.f78)
def value_quote_Y : TH := { joins := [], loops := [(4, { keep := [(3, (.bx 1 0)), (8, (.it 2))], mem := [.row true 5 (.int .u8), .box 67 (.agg (.cons (.op 1) (.cons (.own 0) .unit))), .iter] })], cuts := [], ro := [], news := [(3, ((.agg (.cons (.op 1) (.cons (.own 0) .unit))), [(5, (.int .u8))]))] }
noncomputable def value_quote_l4 (a0 : List UInt8) (y4 : (List Int × (Bool × Unit × Unit) × Nat × Unit)) : Option ((List Int × (Bool × Unit × Unit) × Nat × Unit) ⊕ List UInt8) :=
 cond (decide (y4.2.2.1 < a0.length)) (cond (decide (((Utf8.decode ⟨a0.toArray⟩ y4.2.2.1).1 : Int) = 34)) ((strings_Builder_WriteByte 92 (y4.2.1.1, (), ()) y4.1).bind fun q2 =>
(strings_Builder_WriteRune ((Utf8.decode ⟨a0.toArray⟩ y4.2.2.1).1 : Int) (q2.2.1.1, (), ()) q2.2.2.1).bind fun q3 =>
 some (.inl (q3.2.2.1, q3.2.1, (y4.2.2.1 + (Utf8.decode ⟨a0.toArray⟩ y4.2.2.1).2), ()))) (cond (decide (((Utf8.decode ⟨a0.toArray⟩ y4.2.2.1).1 : Int) = 92)) (
(strings_Builder_WriteByte 92 (y4.2.1.1, (), ()) y4.1).bind fun q4 =>
(strings_Builder_WriteRune ((Utf8.decode ⟨a0.toArray⟩ y4.2.2.1).1 : Int) (q4.2.1.1, (), ()) q4.2.2.1).bind fun q5 =>
 some (.inl (q5.2.2.1, q5.2.1, (y4.2.2.1 + (Utf8.decode ⟨a0.toArray⟩ y4.2.2.1).2), ()))) (
(strings_Builder_WriteRune ((Utf8.decode ⟨a0.toArray⟩ y4.2.2.1).1 : Int) (y4.2.1.1, (), ()) y4.1).bind fun q6 =>
 some (.inl (q6.2.2.1, q6.2.1, (y4.2.2.1 + (Utf8.decode ⟨a0.toArray⟩ y4.2.2.1).2), ()))))) (((strings_Builder_WriteByte 34 (y4.2.1.1, (), ()) y4.1).bind fun q7 =>
(strings_Builder_String (q7.2.1.1, (), ()) q7.2.2.1).bind fun q8 =>
 some q8.1).map .inr)
noncomputable def value_quote (a0 : List UInt8) : Option (List UInt8) :=
(strings_Builder_WriteByte 34 (false, (), ()) []).bind fun q1 =>
 loopT (value_quote_l4 a0) (q1.2.2.1, q1.2.1, 0, ())
noncomputable def value_quote_T : TFn := { ps := (.cons .str .unit), res := .str, fn := fun v => value_quote v.1 }
noncomputable def value_quote_V : TEnv := { pure := [], look := [], glob := G0T, ty := [], raw := [(33, strings_Builder_String_R), (89, strings_Builder_WriteByte_R), (90, strings_Builder_WriteRune_R)], fresh := [] }
theorem value_quote_eq : runY Tryz.prog value_quote_E value_quote_H value_quote_V value_quote_Y Tryz.f78 value_quote_T.ps value_quote_T.res = value_quote_T.fn := by kernel_rfl
theorem value_quote_Fok : SoundP Tryz.prog G0 78 value_quote_F := closeF_sound (runF_sound (P := Tryz.prog) (E := value_quote_E) (h := value_quote_H) (f := 78) (fn := Tryz.f78) ⟨same_ok, envP_nil, (envS_cons strings_Builder_String_Sok (envS_cons strings_Builder_WriteByte_Sok (envS_cons strings_Builder_WriteRune_Sok envS_nil))), envP_nil, envX_nil⟩ Tryz.func78 rfl (by kernel_rfl))
theorem value_quote_ok : TOk value_quote_F value_quote_T := runY_ok (E := value_quote_E) (ET := value_quote_V) (EnvT.ofX (E := value_quote_E) (ET := value_quote_V) (pure_of pairs_nil) looks_nil (raws_cons strings_Builder_String_ok rfl rfl (raws_cons strings_Builder_WriteByte_ok rfl rfl (raws_cons strings_Builder_WriteRune_ok rfl rfl raws_nil))) G0_ok news_nil) value_quote_eq rfl
-- internal/strconv.FormatBool
noncomputable def int_strconv_FormatBool_E : Env := { pure := [], raw := [], glob := G0, same := [76], look := [], ext := [] }
def int_strconv_FormatBool_H : Hints := { seqs := [], loops := [], own := [] }
noncomputable def int_strconv_FormatBool_F : PFn := closeF (runF Tryz.prog int_strconv_FormatBool_E int_strconv_FormatBool_H Tryz.f91)
def int_strconv_FormatBool_Y : TH := { joins := [], loops := [], cuts := [], ro := [], news := [] }
noncomputable def int_strconv_FormatBool (a0 : Bool) : Option (List UInt8) :=
 cond a0 (
 some [116, 114, 117, 101]) (
 some [102, 97, 108, 115, 101])
noncomputable def int_strconv_FormatBool_T : TFn := { ps := (.cons .bool .unit), res := .str, fn := fun v => int_strconv_FormatBool v.1 }
noncomputable def int_strconv_FormatBool_V : TEnv := { pure := [], look := [], glob := G0T, ty := [], raw := [], fresh := [] }
theorem int_strconv_FormatBool_eq : runY Tryz.prog int_strconv_FormatBool_E int_strconv_FormatBool_H int_strconv_FormatBool_V int_strconv_FormatBool_Y Tryz.f91 int_strconv_FormatBool_T.ps int_strconv_FormatBool_T.res = int_strconv_FormatBool_T.fn := by kernel_rfl
theorem int_strconv_FormatBool_Fok : SoundP Tryz.prog G0 91 int_strconv_FormatBool_F := closeF_sound (runF_sound (P := Tryz.prog) (E := int_strconv_FormatBool_E) (h := int_strconv_FormatBool_H) (f := 91) (fn := Tryz.f91) ⟨same_ok, envP_nil, envS_nil, envP_nil, envX_nil⟩ Tryz.func91 rfl (by kernel_rfl))
theorem int_strconv_FormatBool_ok : TOk int_strconv_FormatBool_F int_strconv_FormatBool_T := runY_ok (E := int_strconv_FormatBool_E) (ET := int_strconv_FormatBool_V) (EnvT.ofX (E := int_strconv_FormatBool_E) (ET := int_strconv_FormatBool_V) (pure_of pairs_nil) looks_nil raws_nil G0_ok news_nil) int_strconv_FormatBool_eq rfl
-- strconv.FormatBool
noncomputable def strconv_FormatBool_E : Env := { pure := [(91, int_strconv_FormatBool_F)], raw := [], glob := G0, same := [76], look := [], ext := [] }
def strconv_FormatBool_H : Hints := { seqs := [], loops := [], own := [] }
noncomputable def strconv_FormatBool_F : PFn := closeF (runF Tryz.prog strconv_FormatBool_E strconv_FormatBool_H Tryz.f79)
def strconv_FormatBool_Y : TH := { joins := [], loops := [], cuts := [], ro := [], news := [] }
noncomputable def strconv_FormatBool (a0 : Bool) : Option (List UInt8) :=
(int_strconv_FormatBool a0).bind fun r1 =>
 some r1
noncomputable def strconv_FormatBool_T : TFn := { ps := (.cons .bool .unit), res := .str, fn := fun v => strconv_FormatBool v.1 }
noncomputable def strconv_FormatBool_V : TEnv := { pure := [(91, int_strconv_FormatBool_T)], look := [], glob := G0T, ty := [], raw := [], fresh := [] }
theorem strconv_FormatBool_eq : runY Tryz.prog strconv_FormatBool_E strconv_FormatBool_H strconv_FormatBool_V strconv_FormatBool_Y Tryz.f79 strconv_FormatBool_T.ps strconv_FormatBool_T.res = strconv_FormatBool_T.fn := by kernel_rfl
theorem strconv_FormatBool_Fok : SoundP Tryz.prog G0 79 strconv_FormatBool_F := closeF_sound (runF_sound (P := Tryz.prog) (E := strconv_FormatBool_E) (h := strconv_FormatBool_H) (f := 79) (fn := Tryz.f79) ⟨same_ok, (envP_cons int_strconv_FormatBool_Fok envP_nil), envS_nil, envP_nil, envX_nil⟩ Tryz.func79 rfl (by kernel_rfl))
theorem strconv_FormatBool_ok : TOk strconv_FormatBool_F strconv_FormatBool_T := runY_ok (E := strconv_FormatBool_E) (ET := strconv_FormatBool_V) (EnvT.ofX (E := strconv_FormatBool_E) (ET := strconv_FormatBool_V) (pure_of (pairs_cons int_strconv_FormatBool_ok pairs_nil)) looks_nil raws_nil G0_ok news_nil) strconv_FormatBool_eq rfl
-- strconv.Itoa
noncomputable def strconv_Itoa_F : PFn := itoaF
theorem strconv_Itoa_Fok : SoundP Tryz.prog G0 60 strconv_Itoa_F := itoa_sound (g := 3) ⟨Tryz.f60, Tryz.func60, rfl, by kernel_rfl⟩ (by kernel_rfl) (by kernel_rfl) Tryz.strconv_Itoa
noncomputable def strconv_Itoa (a0 : Int) : Option (List UInt8) := itoa a0
noncomputable def strconv_Itoa_T : TFn := itoa_T
theorem strconv_Itoa_ok : TOk strconv_Itoa_F strconv_Itoa_T := itoa_ok
-- palinode/value.Text
noncomputable def value_Text_E : Env := { pure := [(77, value_inner_F), (78, value_quote_F), (79, strconv_FormatBool_F), (60, strconv_Itoa_F)], raw := [], glob := G0, same := [76], look := [], ext := [] }
def value_Text_H : Hints := { seqs := [], loops := [], own := [] }
noncomputable def value_Text_F : PFn := closeF (runF Tryz.prog value_Text_E value_Text_H Tryz.f57)
theorem value_Text_Fok : SoundP Tryz.prog G0 57 value_Text_F := closeF_sound (runF_sound (P := Tryz.prog) (E := value_Text_E) (h := value_Text_H) (f := 57) (fn := Tryz.f57) ⟨same_ok, (envP_cons value_inner_Fok (envP_cons value_quote_Fok (envP_cons strconv_FormatBool_Fok (envP_cons strconv_Itoa_Fok envP_nil)))), envS_nil, envP_nil, envX_nil⟩ Tryz.func57 rfl (by kernel_rfl))
noncomputable def value_Text_G (Fq Fb Fs : PFn) : PFn := closeF (runF Tryz.prog { pure := [(77, value_inner_F), (78, Fq), (79, Fb), (60, Fs)], raw := [], glob := G0, same := [76], look := [], ext := [] } value_Text_H Tryz.f57)
theorem value_Text_G_eq : value_Text_F = value_Text_G value_quote_F strconv_FormatBool_F strconv_Itoa_F := rfl
theorem value_Text_2 (Fq Fb Fs : PFn) (n : Int) (s : List UInt8) : value_Text_G Fq Fb Fs [.agg [.int .i64 2, .int .i64 n, .str s]] = ((Fq [.str s]).bind fun t => some (t, [AReg.row 44 3 [.agg [.int .i64 2, .int .i64 n, .str s]]])).bind fun p => packV p.2 p.1 := by kernel_rfl
theorem value_Text_3 (Fq Fb Fs : PFn) (n : Int) (s : List UInt8) : value_Text_G Fq Fb Fs [.agg [.int .i64 3, .int .i64 n, .str s]] = ((Fb [.bool (n == 1)]).bind fun t => some (t, [AReg.row 44 3 [.agg [.int .i64 3, .int .i64 n, .str s]]])).bind fun p => packV p.2 p.1 := by kernel_rfl
theorem value_Text_0 (Fq Fb Fs : PFn) (n : Int) (s : List UInt8) : value_Text_G Fq Fb Fs [.agg [.int .i64 (Int.ofNat 0), .int .i64 n, .str s]] = ((Fs [.int .i64 n]).bind fun t => some (t, [AReg.row 44 3 [.agg [.int .i64 (Int.ofNat 0), .int .i64 n, .str s]]])).bind fun p => packV p.2 p.1 := by kernel_rfl
theorem value_Text_1 (Fq Fb Fs : PFn) (n : Int) (s : List UInt8) : value_Text_G Fq Fb Fs [.agg [.int .i64 (Int.ofNat 1), .int .i64 n, .str s]] = ((Fs [.int .i64 n]).bind fun t => some (t, [AReg.row 44 3 [.agg [.int .i64 (Int.ofNat 1), .int .i64 n, .str s]]])).bind fun p => packV p.2 p.1 := by kernel_rfl
theorem value_Text_4 (Fq Fb Fs : PFn) (k : Nat) (n : Int) (s : List UInt8) : value_Text_G Fq Fb Fs [.agg [.int .i64 (Int.ofNat (k + 4)), .int .i64 n, .str s]] = ((Fs [.int .i64 n]).bind fun t => some (t, [AReg.row 44 3 [.agg [.int .i64 (Int.ofNat (k + 4)), .int .i64 n, .str s]]])).bind fun p => packV p.2 p.1 := by kernel_rfl
theorem value_Text_5 (Fq Fb Fs : PFn) (k : Nat) (n : Int) (s : List UInt8) : value_Text_G Fq Fb Fs [.agg [.int .i64 (Int.negSucc k), .int .i64 n, .str s]] = ((Fs [.int .i64 n]).bind fun t => some (t, [AReg.row 44 3 [.agg [.int .i64 (Int.negSucc k), .int .i64 n, .str s]]])).bind fun p => packV p.2 p.1 := by kernel_rfl
theorem value_Text_6 (Fq Fb Fs : PFn) (k n : Int) (s : List UInt8) (h2 : k ≠ 2) (h3 : k ≠ 3) : value_Text_G Fq Fb Fs [.agg [.int .i64 k, .int .i64 n, .str s]] = ((Fs [.int .i64 n]).bind fun t => some (t, [AReg.row 44 3 [.agg [.int .i64 k, .int .i64 n, .str s]]])).bind fun p => packV p.2 p.1 := by
  match k, h2, h3 with
  | .ofNat 0, _, _ => exact value_Text_0 Fq Fb Fs n s
  | .ofNat 1, _, _ => exact value_Text_1 Fq Fb Fs n s
  | .ofNat 2, h, _ => exact absurd rfl h
  | .ofNat 3, _, h => exact absurd rfl h
  | .ofNat (k + 4), _, _ => exact value_Text_4 Fq Fb Fs k n s
  | .negSucc k, _, _ => exact value_Text_5 Fq Fb Fs k n s
noncomputable def value_Text (a0 : Int × Int × List UInt8 × Unit) : Option (List UInt8) := if a0.1 = 2 then value_quote a0.2.2.1 else if a0.1 = 3 then strconv_FormatBool (a0.2.1 == 1) else strconv_Itoa a0.2.1
noncomputable def value_Text_T : TFn := { ps := .cons (.agg (.cons (.int .i64) (.cons (.int .i64) (.cons .str .unit)))) .unit, res := .str, fn := fun v => value_Text v.1 }
theorem value_Text_ok : TOk value_Text_F value_Text_T := ⟨rfl, rfl, rfl, fun v r xs hr hps => by
  obtain ⟨⟨k, n, s, ⟨⟩⟩, ⟨⟩⟩ := v
  simp only [R, value_Text_T] at hps
  obtain ⟨l1, l2, rfl, ⟨cs, rfl, a1, a2, rfl, rfl, a3, a4, rfl, rfl, a5, a6, rfl, rfl, rfl⟩, rfl⟩ := hps
  rw [value_Text_G_eq]
  simp only [value_Text_T, value_Text] at hr
  have done : ∀ {o : Option AVal} {t : List UInt8} {st : Store}, o = some (.str t) → ((o.bind fun t => some (t, st)).bind fun p => packV p.2 p.1) = some (.str t) := fun h => by rw [h]; rfl
  simp only [List.cons_append, List.nil_append, List.append_nil]
  split at hr
  · rename_i h; subst h
    obtain ⟨a, h1, h2⟩ := value_quote_ok.run (s, ()) r [.str s] hr ⟨[.str s], [], rfl, rfl, rfl⟩
    have h2 := R_str h2; subst h2
    exact ⟨_, (value_Text_2 _ _ _ n s).trans (done h1), rfl⟩
  · split at hr
    · rename_i h; subst h
      obtain ⟨a, h1, h2⟩ := strconv_FormatBool_ok.run ((n == 1), ()) r [.bool (n == 1)] hr ⟨[.bool (n == 1)], [], rfl, rfl, rfl⟩
      have h2 := R_str h2; subst h2
      exact ⟨_, (value_Text_3 _ _ _ n s).trans (done h1), rfl⟩
    · rename_i h g
      obtain ⟨a, h1, h2⟩ := strconv_Itoa_ok.run (n, ()) r [.int .i64 n] hr ⟨[.int .i64 n], [], rfl, rfl, rfl⟩
      have h2 := R_str h2; subst h2
      exact ⟨_, (value_Text_6 _ _ _ k n s h g).trans (done h1), rfl⟩⟩
-- strings.Join
noncomputable def strings_Join_F : PFn := joinF
theorem strings_Join_Fok : SoundP Tryz.prog G0 58 strings_Join_F := join_sound ⟨Tryz.f58, Tryz.func58, rfl, by kernel_rfl⟩ Tryz.strings_Join_none Tryz.strings_Join
noncomputable def strings_Join (a0 : List (List UInt8)) (a1 : List UInt8) : Option (List UInt8) := joinT a0 a1
noncomputable def strings_Join_T : TFn := joinT_T
theorem strings_Join_ok : TOk strings_Join_F strings_Join_T := joinT_ok
-- palinode/name.Quote
noncomputable def name_Quote_E : Env := { pure := [], raw := [(33, strings_Builder_String_S), (89, strings_Builder_WriteByte_S)], glob := G0, same := [76], look := [], ext := [] }
def name_Quote_H : Hints := { seqs := [], loops := [(3, [0, 3, 6, 7])], own := [] }
noncomputable def name_Quote_F : PFn := closeF (runF Tryz.prog name_Quote_E name_Quote_H Tryz.f81)
def name_Quote_Y : TH := { joins := [(7, { keep := [(3, (.bx 1 0))], mem := [.row true 5 (.int .u8), .box 67 (.agg (.cons (.op 1) (.cons (.own 0) .unit)))] })], loops := [(3, { keep := [(3, (.bx 1 0)), (7, (.int .i64))], mem := [.row true 5 (.int .u8), .box 67 (.agg (.cons (.op 1) (.cons (.own 0) .unit)))] })], cuts := [], ro := [], news := [(3, ((.agg (.cons (.op 1) (.cons (.own 0) .unit))), [(5, (.int .u8))]))] }
noncomputable def name_Quote_l3 (a0 : List UInt8) (y3 : (Int × List Int × (Bool × Unit × Unit) × Unit)) : Option ((Int × List Int × (Bool × Unit × Unit) × Unit) ⊕ List UInt8) :=
 cond (decide (y3.1 < (a0.length : Int))) (
((atI a0 y3.1).bind fun b1 =>
 cond (decide ((b1.toNat : Int) = 47)) ((strings_Builder_WriteByte 92 (y3.2.2.1.1, (), ()) y3.2.1).bind fun q2 =>
 some (.inl (q2.2.2.1, q2.2.1, ()))) ((atI a0 y3.1).bind fun b3 =>
 cond (decide ((b3.toNat : Int) = 92)) (
(strings_Builder_WriteByte 92 (y3.2.2.1.1, (), ()) y3.2.1).bind fun q4 =>
 some (.inl (q4.2.2.1, q4.2.1, ()))) (
 some (.inl (y3.2.1, y3.2.2.1, ())))) : Option ((List Int × (Bool × Unit × Unit) × Unit) ⊕ ((Int × List Int × (Bool × Unit × Unit) × Unit) ⊕ List UInt8))).bind (joinS fun v5 =>
(atI a0 y3.1).bind fun b6 =>
(strings_Builder_WriteByte (b6.toNat : Int) (v5.2.1.1, (), ()) v5.1).bind fun q7 =>
 some (.inl ((IntKind.wrap .i64 (y3.1 + 1)), q7.2.2.1, q7.2.1, ())))) (
((strings_Builder_String (y3.2.2.1.1, (), ()) y3.2.1).bind fun q8 =>
 some q8.1).map .inr)
noncomputable def name_Quote (a0 : List UInt8) : Option (List UInt8) :=
 loopT (name_Quote_l3 a0) (0, [], (false, (), ()), ())
noncomputable def name_Quote_T : TFn := { ps := (.cons .str .unit), res := .str, fn := fun v => name_Quote v.1 }
noncomputable def name_Quote_V : TEnv := { pure := [], look := [], glob := G0T, ty := [], raw := [(33, strings_Builder_String_R), (89, strings_Builder_WriteByte_R)], fresh := [] }
theorem name_Quote_eq : runY Tryz.prog name_Quote_E name_Quote_H name_Quote_V name_Quote_Y Tryz.f81 name_Quote_T.ps name_Quote_T.res = name_Quote_T.fn := by kernel_rfl
theorem name_Quote_Fok : SoundP Tryz.prog G0 81 name_Quote_F := closeF_sound (runF_sound (P := Tryz.prog) (E := name_Quote_E) (h := name_Quote_H) (f := 81) (fn := Tryz.f81) ⟨same_ok, envP_nil, (envS_cons strings_Builder_String_Sok (envS_cons strings_Builder_WriteByte_Sok envS_nil)), envP_nil, envX_nil⟩ Tryz.func81 rfl (by kernel_rfl))
theorem name_Quote_ok : TOk name_Quote_F name_Quote_T := runY_ok (E := name_Quote_E) (ET := name_Quote_V) (EnvT.ofX (E := name_Quote_E) (ET := name_Quote_V) (pure_of pairs_nil) looks_nil (raws_cons strings_Builder_String_ok rfl rfl (raws_cons strings_Builder_WriteByte_ok rfl rfl raws_nil)) G0_ok news_nil) name_Quote_eq rfl
-- palinode/path.Text
noncomputable def path_Text_E : Env := { pure := [(81, name_Quote_F)], raw := [], glob := G0, same := [76], look := [(58, strings_Join_F)], ext := [] }
def path_Text_H : Hints := { seqs := [], loops := [(3, [3, 6, 7, 8])], own := [] }
noncomputable def path_Text_F : PFn := closeF (runF Tryz.prog path_Text_E path_Text_H Tryz.f59)
def path_Text_Y : TH := { joins := [], loops := [(3, { keep := [(3, (.own 0)), (8, (.int .i64))], mem := [.row true 9 .str] })], cuts := [], ro := [], news := [] }
noncomputable def path_Text_l3 (a0 : List (List UInt8)) (y3 : (Int × List (List UInt8) × Unit)) : Option ((Int × List (List UInt8) × Unit) ⊕ List UInt8) :=
 cond (decide (y3.1 < (a0.length : Int))) (
(atI a0 y3.1).bind fun x1 =>
(name_Quote x1).bind fun r2 =>
(roomT (y3.2.1.length + ([r2] : List (List UInt8)).length)).bind fun u3 =>
 some (.inl ((IntKind.wrap .i64 (y3.1 + 1)), (y3.2.1 ++ ([r2] : List (List UInt8))), ()))) (
((strings_Join y3.2.1 [47]).bind fun r4 =>
 some r4).map .inr)
noncomputable def path_Text (a0 : List (List UInt8)) : Option (List UInt8) :=
 loopT (path_Text_l3 a0) (0, [], ())
noncomputable def path_Text_T : TFn := { ps := (.cons (.sl .str) .unit), res := .str, fn := fun v => path_Text v.1 }
noncomputable def path_Text_V : TEnv := { pure := [(81, name_Quote_T)], look := [(58, strings_Join_T)], glob := G0T, ty := [(9, .str)], raw := [], fresh := [] }
theorem path_Text_eq : runY Tryz.prog path_Text_E path_Text_H path_Text_V path_Text_Y Tryz.f59 path_Text_T.ps path_Text_T.res = path_Text_T.fn := by kernel_rfl
theorem path_Text_Fok : SoundP Tryz.prog G0 59 path_Text_F := closeF_sound (runF_sound (P := Tryz.prog) (E := path_Text_E) (h := path_Text_H) (f := 59) (fn := Tryz.f59) ⟨same_ok, (envP_cons name_Quote_Fok envP_nil), envS_nil, (envP_cons strings_Join_Fok envP_nil), envX_nil⟩ Tryz.func59 rfl (by kernel_rfl))
theorem path_Text_ok : TOk path_Text_F path_Text_T := runY_ok (E := path_Text_E) (ET := path_Text_V) (EnvT.ofX (E := path_Text_E) (ET := path_Text_V) (pure_of (pairs_cons name_Quote_ok pairs_nil)) (looks_cons strings_Join_ok rfl looks_nil) raws_nil G0_ok news_nil) path_Text_eq rfl
-- palinode/view.Line
noncomputable def view_Line_E : Env := { pure := [(57, value_Text_F), (59, path_Text_F), (60, strconv_Itoa_F)], raw := [], glob := G0, same := [76], look := [(58, strings_Join_F)], ext := [] }
def view_Line_H : Hints := { seqs := [], loops := [(3, [1, 3, 8, 9, 10])], own := [] }
noncomputable def view_Line_F : PFn := closeF (runF Tryz.prog view_Line_E view_Line_H Tryz.f32)
def view_Line_Y : TH := { joins := [(7, { keep := [(1, (.bx 0 0)), (3, (.own 2))], mem := [.same, .gone, .row true 9 .str] })], loops := [(3, { keep := [(1, (.bx 0 0)), (3, (.own 2)), (10, (.int .i64))], mem := [.same, .gone, .row true 9 .str] })], cuts := [], ro := [1], news := [] }
noncomputable def view_Line_l3 (a0 : (List (List UInt8) × Int × List (Int × Int × List UInt8 × Unit) × Int × Unit)) (y3 : (Int × List (List UInt8) × Unit)) : Option ((Int × List (List UInt8) × Unit) ⊕ ((List (List UInt8) × Unit) ⊕ List UInt8)) :=
 cond (decide (y3.1 < (a0.2.2.1.length : Int))) (
(atI a0.2.2.1 y3.1).bind fun x1 =>
(value_Text x1).bind fun r2 =>
(roomT (y3.2.1.length + ([r2] : List (List UInt8)).length)).bind fun u3 =>
 some (.inl ((IntKind.wrap .i64 (y3.1 + 1)), (y3.2.1 ++ ([r2] : List (List UInt8))), ()))) (
 some (.inr (.inl (y3.2.1, ()))))
noncomputable def view_Line (a0 : (List (List UInt8) × Int × List (Int × Int × List UInt8 × Unit) × Int × Unit)) : Option (List UInt8) :=
(loopT (view_Line_l3 a0) (0, [], ()) : Option ((List (List UInt8) × Unit) ⊕ List UInt8)).bind (joinS fun v4 =>
(strings_Join v4.1 [32]).bind fun r5 =>
 cond (decide (a0.2.1 = 1)) (
(path_Text a0.1).bind fun r6 =>
(catT r6 [32, 61, 32]).bind fun s7 =>
(catT s7 r5).bind fun s8 =>
 some s8) (
 cond (decide (a0.2.1 = 2)) (
(path_Text a0.1).bind fun r9 =>
(catT r9 [32, 58, 32]).bind fun s10 =>
(catT s10 r5).bind fun s11 =>
 some s11) (
(path_Text a0.1).bind fun r12 =>
(catT r12 [32, 35, 32]).bind fun s13 =>
(strconv_Itoa a0.2.2.2.1).bind fun r14 =>
(catT s13 r14).bind fun s15 =>
 some s15)))
noncomputable def view_Line_T : TFn := { ps := (.cons (.agg (.cons (.sl .str) (.cons (.int .i64) (.cons (.sl (.agg (.cons (.int .i64) (.cons (.int .i64) (.cons .str .unit))))) (.cons (.int .i64) .unit))))) .unit), res := .str, fn := fun v => view_Line v.1 }
noncomputable def view_Line_V : TEnv := { pure := [(57, value_Text_T), (59, path_Text_T), (60, strconv_Itoa_T)], look := [(58, strings_Join_T)], glob := G0T, ty := [(9, .str)], raw := [], fresh := [] }
theorem view_Line_eq : runY Tryz.prog view_Line_E view_Line_H view_Line_V view_Line_Y Tryz.f32 view_Line_T.ps view_Line_T.res = view_Line_T.fn := by kernel_rfl
theorem view_Line_Fok : SoundP Tryz.prog G0 32 view_Line_F := closeF_sound (runF_sound (P := Tryz.prog) (E := view_Line_E) (h := view_Line_H) (f := 32) (fn := Tryz.f32) ⟨same_ok, (envP_cons value_Text_Fok (envP_cons path_Text_Fok (envP_cons strconv_Itoa_Fok envP_nil))), envS_nil, (envP_cons strings_Join_Fok envP_nil), envX_nil⟩ Tryz.func32 rfl (by kernel_rfl))
theorem view_Line_ok : TOk view_Line_F view_Line_T := runY_ok (E := view_Line_E) (ET := view_Line_V) (EnvT.ofX (E := view_Line_E) (ET := view_Line_V) (pure_of (pairs_cons value_Text_ok (pairs_cons path_Text_ok (pairs_cons strconv_Itoa_ok pairs_nil)))) (looks_cons strings_Join_ok rfl looks_nil) raws_nil G0_ok news_nil) view_Line_eq rfl
-- (*strings.Builder).WriteString
noncomputable def strings_Builder_WriteString_E : Env := { pure := [], raw := [(56, strings_Builder_copyCheck_S)], glob := G0, same := [76], look := [], ext := [] }
def strings_Builder_WriteString_H : Hints := { seqs := [], loops := [], own := [] }
noncomputable def strings_Builder_WriteString_S : SFn := runF Tryz.prog strings_Builder_WriteString_E strings_Builder_WriteString_H Tryz.f31
def strings_Builder_WriteString_Y : TH := { joins := [], loops := [], cuts := [], ro := [], news := [] }
noncomputable def strings_Builder_WriteString (a1 : List UInt8) (w0 : (Bool × Unit × Unit)) (w1 : List Int) : Option ((Int × Bool × Unit) × (Bool × Unit × Unit) × List Int × Unit) :=
(strings_Builder_copyCheck w0 w1).bind fun q1 =>
(roomT (q1.2.2.1.length + (a1.map fun b => (b.toNat : Int)).length)).bind fun u2 =>
 some (((a1.length : Int), false, ()), (q1.2.1.1, (), ()), (q1.2.2.1 ++ (a1.map fun b => (b.toNat : Int))), ())
noncomputable def strings_Builder_WriteString_R : TRaw := { ps := (.cons (.bx 0 0) (.cons .str .unit)), ins := [.box 67 (.agg (.cons (.op 0) (.cons (.own 1) .unit))), .row true 5 (.int .u8)], res := (.tup (.cons (.int .i64) (.cons .err .unit))), outs := [.box 67 (.agg (.cons (.op 0) (.cons (.own 1) .unit))), .row true 5 (.int .u8)], fn := fun v w => strings_Builder_WriteString v.2.1 w.1 w.2.1 }
noncomputable def strings_Builder_WriteString_V : TEnv := { pure := [], look := [], glob := G0T, ty := [(5, (.int .u8))], raw := [(56, strings_Builder_copyCheck_R)], fresh := [] }
theorem strings_Builder_WriteString_eq : rawY Tryz.prog strings_Builder_WriteString_E strings_Builder_WriteString_H strings_Builder_WriteString_V strings_Builder_WriteString_Y [(0, 0)] Tryz.f31 strings_Builder_WriteString_R.ps strings_Builder_WriteString_R.ins strings_Builder_WriteString_R.res strings_Builder_WriteString_R.outs = strings_Builder_WriteString_R.fn := by kernel_rfl
theorem strings_Builder_WriteString_Sok : SoundS Tryz.prog G0 31 strings_Builder_WriteString_S := runF_sound (P := Tryz.prog) (E := strings_Builder_WriteString_E) (h := strings_Builder_WriteString_H) (f := 31) (fn := Tryz.f31) ⟨same_ok, envP_nil, (envS_cons strings_Builder_copyCheck_Sok envS_nil), envP_nil, envX_nil⟩ Tryz.func31 rfl (by kernel_rfl)
theorem strings_Builder_WriteString_ok : TRawOk strings_Builder_WriteString_S strings_Builder_WriteString_R := rawY_ok (E := strings_Builder_WriteString_E) (ET := strings_Builder_WriteString_V) (EnvT.ofX (E := strings_Builder_WriteString_E) (ET := strings_Builder_WriteString_V) (pure_of pairs_nil) looks_nil (raws_cons strings_Builder_copyCheck_ok rfl rfl raws_nil) G0_ok news_nil) strings_Builder_WriteString_eq
-- palinode/change.Text
noncomputable def change_Text_E : Env := { pure := [(32, view_Line_F)], raw := [(31, strings_Builder_WriteString_S), (33, strings_Builder_String_S)], glob := G0, same := [76], look := [], ext := [] }
def change_Text_H : Hints := { seqs := [], loops := [(3, [3, 6, 7, 8])], own := [] }
noncomputable def change_Text_F : PFn := closeF (runF Tryz.prog change_Text_E change_Text_H Tryz.f14)
def change_Text_Y : TH := { joins := [(7, { keep := [(3, (.bx 1 0)), (5, (.bx 2 0))], mem := [.row true 5 (.int .u8), .box 67 (.agg (.cons (.op 1) (.cons (.own 0) .unit))), .box 50 (.agg (.cons (.int .i64) (.cons (.agg (.cons (.sl .str) (.cons (.int .i64) (.cons (.sl (.agg (.cons (.int .i64) (.cons (.int .i64) (.cons .str .unit))))) (.cons (.int .i64) .unit))))) (.cons (.agg (.cons (.sl .str) (.cons (.int .i64) (.cons (.sl (.agg (.cons (.int .i64) (.cons (.int .i64) (.cons .str .unit))))) (.cons (.int .i64) .unit))))) .unit))))] })], loops := [(3, { keep := [(3, (.bx 1 0)), (8, (.int .i64))], mem := [.row true 5 (.int .u8), .box 67 (.agg (.cons (.op 1) (.cons (.own 0) .unit)))] })], cuts := [], ro := [], news := [(3, ((.agg (.cons (.op 1) (.cons (.own 0) .unit))), [(5, (.int .u8))]))] }
noncomputable def change_Text_l3 (a0 : List (Int × (List (List UInt8) × Int × List (Int × Int × List UInt8 × Unit) × Int × Unit) × (List (List UInt8) × Int × List (Int × Int × List UInt8 × Unit) × Int × Unit) × Unit)) (y3 : (Int × List Int × (Bool × Unit × Unit) × Unit)) : Option ((Int × List Int × (Bool × Unit × Unit) × Unit) ⊕ List UInt8) :=
 cond (decide (y3.1 < (a0.length : Int))) (
(atI a0 y3.1).bind fun x1 =>
(cond (!decide (x1.1 = 1)) (
(view_Line x1.2.1).bind fun r2 =>
(catT [45, 32] r2).bind fun s3 =>
(catT s3 [10]).bind fun s4 =>
(strings_Builder_WriteString s4 (y3.2.2.1.1, (), ()) y3.2.1).bind fun q5 =>
 some (.inl (q5.2.2.1, q5.2.1, x1, ()))) (
 some (.inl (y3.2.1, y3.2.2.1, x1, ()))) : Option ((List Int × (Bool × Unit × Unit) × (Int × (List (List UInt8) × Int × List (Int × Int × List UInt8 × Unit) × Int × Unit) × (List (List UInt8) × Int × List (Int × Int × List UInt8 × Unit) × Int × Unit) × Unit) × Unit) ⊕ ((Int × List Int × (Bool × Unit × Unit) × Unit) ⊕ List UInt8))).bind (joinS fun v6 =>
 cond (!decide (v6.2.2.1.1 = 2)) (
(view_Line v6.2.2.1.2.2.1).bind fun r7 =>
(catT [43, 32] r7).bind fun s8 =>
(catT s8 [10]).bind fun s9 =>
(strings_Builder_WriteString s9 (v6.2.1.1, (), ()) v6.1).bind fun q10 =>
 some (.inl ((IntKind.wrap .i64 (y3.1 + 1)), q10.2.2.1, q10.2.1, ()))) (
 some (.inl ((IntKind.wrap .i64 (y3.1 + 1)), v6.1, v6.2.1, ()))))) (
((strings_Builder_String (y3.2.2.1.1, (), ()) y3.2.1).bind fun q11 =>
 some q11.1).map .inr)
noncomputable def change_Text (a0 : List (Int × (List (List UInt8) × Int × List (Int × Int × List UInt8 × Unit) × Int × Unit) × (List (List UInt8) × Int × List (Int × Int × List UInt8 × Unit) × Int × Unit) × Unit)) : Option (List UInt8) :=
 loopT (change_Text_l3 a0) (0, [], (false, (), ()), ())
noncomputable def change_Text_T : TFn := { ps := (.cons (.sl (.agg (.cons (.int .i64) (.cons (.agg (.cons (.sl .str) (.cons (.int .i64) (.cons (.sl (.agg (.cons (.int .i64) (.cons (.int .i64) (.cons .str .unit))))) (.cons (.int .i64) .unit))))) (.cons (.agg (.cons (.sl .str) (.cons (.int .i64) (.cons (.sl (.agg (.cons (.int .i64) (.cons (.int .i64) (.cons .str .unit))))) (.cons (.int .i64) .unit))))) .unit))))) .unit), res := .str, fn := fun v => change_Text v.1 }
noncomputable def change_Text_V : TEnv := { pure := [(32, view_Line_T)], look := [], glob := G0T, ty := [], raw := [(31, strings_Builder_WriteString_R), (33, strings_Builder_String_R)], fresh := [] }
theorem change_Text_eq : runY Tryz.prog change_Text_E change_Text_H change_Text_V change_Text_Y Tryz.f14 change_Text_T.ps change_Text_T.res = change_Text_T.fn := by kernel_rfl
theorem change_Text_Fok : SoundP Tryz.prog G0 14 change_Text_F := closeF_sound (runF_sound (P := Tryz.prog) (E := change_Text_E) (h := change_Text_H) (f := 14) (fn := Tryz.f14) ⟨same_ok, (envP_cons view_Line_Fok envP_nil), (envS_cons strings_Builder_WriteString_Sok (envS_cons strings_Builder_String_Sok envS_nil)), envP_nil, envX_nil⟩ Tryz.func14 rfl (by kernel_rfl))
theorem change_Text_ok : TOk change_Text_F change_Text_T := runY_ok (E := change_Text_E) (ET := change_Text_V) (EnvT.ofX (E := change_Text_E) (ET := change_Text_V) (pure_of (pairs_cons view_Line_ok pairs_nil)) looks_nil (raws_cons strings_Builder_WriteString_ok rfl rfl (raws_cons strings_Builder_String_ok rfl rfl raws_nil)) G0_ok news_nil) change_Text_eq rfl
-- palinode/palinoderef04.Digits
noncomputable def ref04_Digits_E (F : PFn) : Env := { pure := [(63, F)], raw := [], glob := G0, same := [76], look := [], ext := [] }
def ref04_Digits_H : Hints := { seqs := [], loops := [], own := [] }
noncomputable def ref04_Digits_K (F : PFn) : PFn := closeF (runF Tryz.prog (ref04_Digits_E F) ref04_Digits_H Tryz.f63)
def ref04_Digits_Y : TH := { joins := [], loops := [], cuts := [], ro := [], news := [] }
noncomputable def ref04_Digits_step (rec : ((Int × Unit) → Option (List UInt8))) (a0 : Int) : Option (List UInt8) :=
 cond (decide (a0 < 0)) (
 cond (decide (a0 > (-10))) (
(rec ((IntKind.wrap .i64 (0 - a0)), ())).bind fun r1 =>
(catT [45] r1).bind fun s2 =>
 some s2) (
(quoT .i64 a0 10).bind fun t3 =>
(rec ((IntKind.wrap .i64 (0 - t3)), ())).bind fun r4 =>
(catT [45] r4).bind fun s5 =>
(remT a0 10).bind fun t6 =>
(rec ((IntKind.wrap .i64 (0 - t6)), ())).bind fun r7 =>
(catT s5 r7).bind fun s8 =>
 some s8)) (
 cond (decide (a0 < 10)) (
(subI [48, 49, 50, 51, 52, 53, 54, 55, 56, 57] a0 (IntKind.wrap .i64 (a0 + 1))).bind fun s9 =>
 some s9) (
(quoT .i64 a0 10).bind fun t10 =>
(rec (t10, ())).bind fun r11 =>
(remT a0 10).bind fun t12 =>
(remT a0 10).bind fun t13 =>
(subI [48, 49, 50, 51, 52, 53, 54, 55, 56, 57] t12 (IntKind.wrap .i64 (t13 + 1))).bind fun s14 =>
(catT r11 s14).bind fun s15 =>
 some s15))
noncomputable def ref04_Digits_fix : ((Int × Unit) → Option (List UInt8)) := fixT fun rec v => ref04_Digits_step rec v.1
noncomputable def ref04_Digits (a0 : Int) : Option (List UInt8) := ref04_Digits_fix (a0, ())
noncomputable def ref04_Digits_T : TFn := { ps := (.cons (.int .i64) .unit), res := .str, fn := fixT fun (rec : ((Int × Unit) → Option (List UInt8))) v => ref04_Digits_step rec v.1 }
noncomputable def ref04_Digits_F : PFn := fixF ref04_Digits_K ref04_Digits_T
noncomputable def ref04_Digits_V (rec : ((Int × Unit) → Option (List UInt8))) : TEnv := { pure := [(63, { ps := (.cons (.int .i64) .unit), res := .str, fn := rec })], look := [], glob := G0T, ty := [], raw := [], fresh := [] }
theorem ref04_Digits_eq (F : PFn) (rec : ((Int × Unit) → Option (List UInt8))) : runY Tryz.prog (ref04_Digits_E F) ref04_Digits_H (ref04_Digits_V rec) ref04_Digits_Y Tryz.f63 ref04_Digits_T.ps ref04_Digits_T.res = fun v => ref04_Digits_step rec v.1 := by kernel_rfl
theorem ref04_Digits_Fok : SoundP Tryz.prog G0 63 ref04_Digits_F := rec_sound ⟨Tryz.f63, Tryz.func63, rfl, by kernel_rfl⟩ fun F hF => closeF_sound (runF_sound (P := Tryz.prog) (E := ref04_Digits_E F) (h := ref04_Digits_H) (f := 63) (fn := Tryz.f63) ⟨same_ok, (envP_cons hF envP_nil), envS_nil, envP_nil, envX_nil⟩ Tryz.func63 rfl (by kernel_rfl))
theorem ref04_Digits_ok : TOk ref04_Digits_F ref04_Digits_T := rec_ok rfl fun F rec hF => runY_ok (E := ref04_Digits_E F) (ET := ref04_Digits_V rec) (EnvT.ofX (E := ref04_Digits_E F) (ET := ref04_Digits_V rec) (pure_of (pairs_cons hF pairs_nil)) looks_nil raws_nil G0_ok news_nil) (ref04_Digits_eq F rec) rfl
-- palinode/palinoderef09.Text
noncomputable def ref09_Text_E : Env := { pure := [(63, ref04_Digits_F)], raw := [], glob := G0, same := [76], look := [], ext := [] }
def ref09_Text_H : Hints := { seqs := [], loops := [(9, [1, 3, 4])], own := [] }
noncomputable def ref09_Text_F : PFn := closeF (runF Tryz.prog ref09_Text_E ref09_Text_H Tryz.f61)
def ref09_Text_Y : TH := { joins := [(13, { keep := [(1, (.bx 0 0)), (3, .str)], mem := [.same] })], loops := [(9, { keep := [(1, (.bx 0 0)), (3, .str), (4, (.int .i64))], mem := [.same] })], cuts := [], ro := [1], news := [] }
noncomputable def ref09_Text_l9 (a0 : (Int × Int × List UInt8 × Unit)) (y9 : (List UInt8 × Int × Unit)) : Option ((List UInt8 × Int × Unit) ⊕ List UInt8) :=
 cond (decide (y9.2.1 < (a0.2.2.1.length : Int))) (
((atI a0.2.2.1 y9.2.1).bind fun b2 =>
 cond (decide ((b2.toNat : Int) = 34)) ((catT y9.1 [92]).bind fun s3 =>
 some (.inl (s3, ()))) ((atI a0.2.2.1 y9.2.1).bind fun b4 =>
 cond (decide ((b4.toNat : Int) = 92)) (
(catT y9.1 [92]).bind fun s5 =>
 some (.inl (s5, ()))) (
 some (.inl (y9.1, ())))) : Option ((List UInt8 × Unit) ⊕ ((List UInt8 × Int × Unit) ⊕ List UInt8))).bind (joinS fun v6 =>
(subI a0.2.2.1 y9.2.1 (IntKind.wrap .i64 (y9.2.1 + 1))).bind fun s7 =>
(catT v6.1 s7).bind fun s8 =>
 some (.inl (s8, (IntKind.wrap .i64 (y9.2.1 + 1)), ())))) (
((catT y9.1 [34]).bind fun s9 =>
 some s9).map .inr)
noncomputable def ref09_Text (a0 : (Int × Int × List UInt8 × Unit)) : Option (List UInt8) :=
 cond (decide (a0.1 = 1)) (
(ref04_Digits a0.2.1).bind fun r1 =>
 some r1) (
 cond (decide (a0.1 = 3)) (
 cond (decide (a0.2.1 = 1)) (
 some [116, 114, 117, 101]) (
 some [102, 97, 108, 115, 101])) (
 loopT (ref09_Text_l9 a0) ([34], 0, ())))
noncomputable def ref09_Text_T : TFn := { ps := (.cons (.agg (.cons (.int .i64) (.cons (.int .i64) (.cons .str .unit)))) .unit), res := .str, fn := fun v => ref09_Text v.1 }
noncomputable def ref09_Text_V : TEnv := { pure := [(63, ref04_Digits_T)], look := [], glob := G0T, ty := [], raw := [], fresh := [] }
theorem ref09_Text_eq : runY Tryz.prog ref09_Text_E ref09_Text_H ref09_Text_V ref09_Text_Y Tryz.f61 ref09_Text_T.ps ref09_Text_T.res = ref09_Text_T.fn := by kernel_rfl
theorem ref09_Text_Fok : SoundP Tryz.prog G0 61 ref09_Text_F := closeF_sound (runF_sound (P := Tryz.prog) (E := ref09_Text_E) (h := ref09_Text_H) (f := 61) (fn := Tryz.f61) ⟨same_ok, (envP_cons ref04_Digits_Fok envP_nil), envS_nil, envP_nil, envX_nil⟩ Tryz.func61 rfl (by kernel_rfl))
theorem ref09_Text_ok : TOk ref09_Text_F ref09_Text_T := runY_ok (E := ref09_Text_E) (ET := ref09_Text_V) (EnvT.ofX (E := ref09_Text_E) (ET := ref09_Text_V) (pure_of (pairs_cons ref04_Digits_ok pairs_nil)) looks_nil raws_nil G0_ok news_nil) ref09_Text_eq rfl
-- palinode/palinoderef03.Quote
noncomputable def ref03_Quote_E : Env := { pure := [], raw := [], glob := G0, same := [76], look := [], ext := [] }
def ref03_Quote_H : Hints := { seqs := [], loops := [(3, [0, 3, 4])], own := [] }
noncomputable def ref03_Quote_F : PFn := closeF (runF Tryz.prog ref03_Quote_E ref03_Quote_H Tryz.f83)
def ref03_Quote_Y : TH := { joins := [(7, { keep := [(3, .str)], mem := [] })], loops := [(3, { keep := [(3, .str), (4, (.int .i64))], mem := [] })], cuts := [], ro := [], news := [] }
noncomputable def ref03_Quote_l3 (a0 : List UInt8) (y3 : (List UInt8 × Int × Unit)) : Option ((List UInt8 × Int × Unit) ⊕ List UInt8) :=
 cond (decide (y3.2.1 < (a0.length : Int))) (
((atI a0 y3.2.1).bind fun b1 =>
 cond (decide ((b1.toNat : Int) = 47)) ((catT y3.1 [92]).bind fun s2 =>
 some (.inl (s2, ()))) ((atI a0 y3.2.1).bind fun b3 =>
 cond (decide ((b3.toNat : Int) = 92)) (
(catT y3.1 [92]).bind fun s4 =>
 some (.inl (s4, ()))) (
 some (.inl (y3.1, ())))) : Option ((List UInt8 × Unit) ⊕ ((List UInt8 × Int × Unit) ⊕ List UInt8))).bind (joinS fun v5 =>
(subI a0 y3.2.1 (IntKind.wrap .i64 (y3.2.1 + 1))).bind fun s6 =>
(catT v5.1 s6).bind fun s7 =>
 some (.inl (s7, (IntKind.wrap .i64 (y3.2.1 + 1)), ())))) (
 some (.inr y3.1))
noncomputable def ref03_Quote (a0 : List UInt8) : Option (List UInt8) :=
 loopT (ref03_Quote_l3 a0) ([], 0, ())
noncomputable def ref03_Quote_T : TFn := { ps := (.cons .str .unit), res := .str, fn := fun v => ref03_Quote v.1 }
noncomputable def ref03_Quote_V : TEnv := { pure := [], look := [], glob := G0T, ty := [], raw := [], fresh := [] }
theorem ref03_Quote_eq : runY Tryz.prog ref03_Quote_E ref03_Quote_H ref03_Quote_V ref03_Quote_Y Tryz.f83 ref03_Quote_T.ps ref03_Quote_T.res = ref03_Quote_T.fn := by kernel_rfl
theorem ref03_Quote_Fok : SoundP Tryz.prog G0 83 ref03_Quote_F := closeF_sound (runF_sound (P := Tryz.prog) (E := ref03_Quote_E) (h := ref03_Quote_H) (f := 83) (fn := Tryz.f83) ⟨same_ok, envP_nil, envS_nil, envP_nil, envX_nil⟩ Tryz.func83 rfl (by kernel_rfl))
theorem ref03_Quote_ok : TOk ref03_Quote_F ref03_Quote_T := runY_ok (E := ref03_Quote_E) (ET := ref03_Quote_V) (EnvT.ofX (E := ref03_Quote_E) (ET := ref03_Quote_V) (pure_of pairs_nil) looks_nil raws_nil G0_ok news_nil) ref03_Quote_eq rfl
-- palinode/palinoderef10.Text
noncomputable def ref10_Text_E : Env := { pure := [(83, ref03_Quote_F)], raw := [], glob := G0, same := [76], look := [], ext := [] }
def ref10_Text_H : Hints := { seqs := [], loops := [(3, [0, 3, 4])], own := [] }
noncomputable def ref10_Text_F : PFn := closeF (runF Tryz.prog ref10_Text_E ref10_Text_H Tryz.f62)
def ref10_Text_Y : TH := { joins := [(7, { keep := [(3, .str)], mem := [] })], loops := [(3, { keep := [(3, .str), (4, (.int .i64))], mem := [] })], cuts := [], ro := [], news := [] }
noncomputable def ref10_Text_l3 (a0 : List (List UInt8)) (y3 : (List UInt8 × Int × Unit)) : Option ((List UInt8 × Int × Unit) ⊕ List UInt8) :=
 cond (decide (y3.2.1 < (a0.length : Int))) (
(cond (decide (y3.2.1 > 0)) (
(catT y3.1 [47]).bind fun s1 =>
 some (.inl (s1, ()))) (
 some (.inl (y3.1, ()))) : Option ((List UInt8 × Unit) ⊕ ((List UInt8 × Int × Unit) ⊕ List UInt8))).bind (joinS fun v2 =>
(atI a0 y3.2.1).bind fun x3 =>
(ref03_Quote x3).bind fun r4 =>
(catT v2.1 r4).bind fun s5 =>
 some (.inl (s5, (IntKind.wrap .i64 (y3.2.1 + 1)), ())))) (
 some (.inr y3.1))
noncomputable def ref10_Text (a0 : List (List UInt8)) : Option (List UInt8) :=
 loopT (ref10_Text_l3 a0) ([], 0, ())
noncomputable def ref10_Text_T : TFn := { ps := (.cons (.sl .str) .unit), res := .str, fn := fun v => ref10_Text v.1 }
noncomputable def ref10_Text_V : TEnv := { pure := [(83, ref03_Quote_T)], look := [], glob := G0T, ty := [], raw := [], fresh := [] }
theorem ref10_Text_eq : runY Tryz.prog ref10_Text_E ref10_Text_H ref10_Text_V ref10_Text_Y Tryz.f62 ref10_Text_T.ps ref10_Text_T.res = ref10_Text_T.fn := by kernel_rfl
theorem ref10_Text_Fok : SoundP Tryz.prog G0 62 ref10_Text_F := closeF_sound (runF_sound (P := Tryz.prog) (E := ref10_Text_E) (h := ref10_Text_H) (f := 62) (fn := Tryz.f62) ⟨same_ok, (envP_cons ref03_Quote_Fok envP_nil), envS_nil, envP_nil, envX_nil⟩ Tryz.func62 rfl (by kernel_rfl))
theorem ref10_Text_ok : TOk ref10_Text_F ref10_Text_T := runY_ok (E := ref10_Text_E) (ET := ref10_Text_V) (EnvT.ofX (E := ref10_Text_E) (ET := ref10_Text_V) (pure_of (pairs_cons ref03_Quote_ok pairs_nil)) looks_nil raws_nil G0_ok news_nil) ref10_Text_eq rfl
-- palinode/palinoderef18.Line
noncomputable def ref18_Line_E : Env := { pure := [(61, ref09_Text_F), (62, ref10_Text_F), (63, ref04_Digits_F)], raw := [], glob := G0, same := [76], look := [], ext := [] }
def ref18_Line_H : Hints := { seqs := [], loops := [(3, [1, 3, 4])], own := [] }
noncomputable def ref18_Line_F : PFn := closeF (runF Tryz.prog ref18_Line_E ref18_Line_H Tryz.f34)
def ref18_Line_Y : TH := { joins := [(8, { keep := [(1, (.bx 0 0)), (3, .str)], mem := [.same] }), (7, { keep := [(1, (.bx 0 0)), (3, .str)], mem := [.same] })], loops := [(3, { keep := [(1, (.bx 0 0)), (3, .str), (4, (.int .i64))], mem := [.same] })], cuts := [], ro := [1], news := [] }
noncomputable def ref18_Line_l3 (a0 : (List (List UInt8) × Int × List (Int × Int × List UInt8 × Unit) × Int × Unit)) (y3 : (List UInt8 × Int × Unit)) : Option ((List UInt8 × Int × Unit) ⊕ ((List UInt8 × Unit) ⊕ List UInt8)) :=
 cond (decide (y3.2.1 < (a0.2.2.1.length : Int))) (
(cond (decide (y3.2.1 > 0)) (
(catT y3.1 [32]).bind fun s1 =>
 some (.inl (s1, ()))) (
 some (.inl (y3.1, ()))) : Option ((List UInt8 × Unit) ⊕ ((List UInt8 × Int × Unit) ⊕ ((List UInt8 × Unit) ⊕ List UInt8)))).bind (joinS fun v2 =>
(atI a0.2.2.1 y3.2.1).bind fun x3 =>
(ref09_Text x3).bind fun r4 =>
(catT v2.1 r4).bind fun s5 =>
 some (.inl (s5, (IntKind.wrap .i64 (y3.2.1 + 1)), ())))) (
 some (.inr (.inl (y3.1, ()))))
noncomputable def ref18_Line (a0 : (List (List UInt8) × Int × List (Int × Int × List UInt8 × Unit) × Int × Unit)) : Option (List UInt8) :=
(loopT (ref18_Line_l3 a0) ([], 0, ()) : Option ((List UInt8 × Unit) ⊕ List UInt8)).bind (joinS fun v6 =>
 cond (decide (a0.2.1 = 1)) (
(ref10_Text a0.1).bind fun r7 =>
(catT r7 [32, 61, 32]).bind fun s8 =>
(catT s8 v6.1).bind fun s9 =>
 some s9) (
 cond (decide (a0.2.1 = 2)) (
(ref10_Text a0.1).bind fun r10 =>
(catT r10 [32, 58, 32]).bind fun s11 =>
(catT s11 v6.1).bind fun s12 =>
 some s12) (
(ref10_Text a0.1).bind fun r13 =>
(catT r13 [32, 35, 32]).bind fun s14 =>
(ref04_Digits a0.2.2.2.1).bind fun r15 =>
(catT s14 r15).bind fun s16 =>
 some s16)))
noncomputable def ref18_Line_T : TFn := { ps := (.cons (.agg (.cons (.sl .str) (.cons (.int .i64) (.cons (.sl (.agg (.cons (.int .i64) (.cons (.int .i64) (.cons .str .unit))))) (.cons (.int .i64) .unit))))) .unit), res := .str, fn := fun v => ref18_Line v.1 }
noncomputable def ref18_Line_V : TEnv := { pure := [(61, ref09_Text_T), (62, ref10_Text_T), (63, ref04_Digits_T)], look := [], glob := G0T, ty := [], raw := [], fresh := [] }
theorem ref18_Line_eq : runY Tryz.prog ref18_Line_E ref18_Line_H ref18_Line_V ref18_Line_Y Tryz.f34 ref18_Line_T.ps ref18_Line_T.res = ref18_Line_T.fn := by kernel_rfl
theorem ref18_Line_Fok : SoundP Tryz.prog G0 34 ref18_Line_F := closeF_sound (runF_sound (P := Tryz.prog) (E := ref18_Line_E) (h := ref18_Line_H) (f := 34) (fn := Tryz.f34) ⟨same_ok, (envP_cons ref09_Text_Fok (envP_cons ref10_Text_Fok (envP_cons ref04_Digits_Fok envP_nil))), envS_nil, envP_nil, envX_nil⟩ Tryz.func34 rfl (by kernel_rfl))
theorem ref18_Line_ok : TOk ref18_Line_F ref18_Line_T := runY_ok (E := ref18_Line_E) (ET := ref18_Line_V) (EnvT.ofX (E := ref18_Line_E) (ET := ref18_Line_V) (pure_of (pairs_cons ref09_Text_ok (pairs_cons ref10_Text_ok (pairs_cons ref04_Digits_ok pairs_nil)))) looks_nil raws_nil G0_ok news_nil) ref18_Line_eq rfl
-- palinode/palinoderef39.Text
noncomputable def ref39_Text_E : Env := { pure := [(34, ref18_Line_F)], raw := [], glob := G0, same := [76], look := [], ext := [] }
def ref39_Text_H : Hints := { seqs := [], loops := [(3, [0, 3, 4])], own := [] }
noncomputable def ref39_Text_F : PFn := closeF (runF Tryz.prog ref39_Text_E ref39_Text_H Tryz.f15)
def ref39_Text_Y : TH := { joins := [(7, { keep := [(3, .str)], mem := [] })], loops := [(3, { keep := [(3, .str), (4, (.int .i64))], mem := [] })], cuts := [], ro := [], news := [] }
noncomputable def ref39_Text_l3 (a0 : List (Int × (List (List UInt8) × Int × List (Int × Int × List UInt8 × Unit) × Int × Unit) × (List (List UInt8) × Int × List (Int × Int × List UInt8 × Unit) × Int × Unit) × Unit)) (y3 : (List UInt8 × Int × Unit)) : Option ((List UInt8 × Int × Unit) ⊕ List UInt8) :=
 cond (decide (y3.2.1 < (a0.length : Int))) (
((atI a0 y3.2.1).bind fun x1 =>
 cond (!decide (x1.1 = 1)) (
(catT y3.1 [45, 32]).bind fun s2 =>
(atI a0 y3.2.1).bind fun x3 =>
(ref18_Line x3.2.1).bind fun r4 =>
(catT s2 r4).bind fun s5 =>
(catT s5 [10]).bind fun s6 =>
 some (.inl (s6, ()))) (
 some (.inl (y3.1, ()))) : Option ((List UInt8 × Unit) ⊕ ((List UInt8 × Int × Unit) ⊕ List UInt8))).bind (joinS fun v7 =>
(atI a0 y3.2.1).bind fun x8 =>
 cond (!decide (x8.1 = 2)) (
(catT v7.1 [43, 32]).bind fun s9 =>
(atI a0 y3.2.1).bind fun x10 =>
(ref18_Line x10.2.2.1).bind fun r11 =>
(catT s9 r11).bind fun s12 =>
(catT s12 [10]).bind fun s13 =>
 some (.inl (s13, (IntKind.wrap .i64 (y3.2.1 + 1)), ()))) (
 some (.inl (v7.1, (IntKind.wrap .i64 (y3.2.1 + 1)), ()))))) (
 some (.inr y3.1))
noncomputable def ref39_Text (a0 : List (Int × (List (List UInt8) × Int × List (Int × Int × List UInt8 × Unit) × Int × Unit) × (List (List UInt8) × Int × List (Int × Int × List UInt8 × Unit) × Int × Unit) × Unit)) : Option (List UInt8) :=
 loopT (ref39_Text_l3 a0) ([], 0, ())
noncomputable def ref39_Text_T : TFn := { ps := (.cons (.sl (.agg (.cons (.int .i64) (.cons (.agg (.cons (.sl .str) (.cons (.int .i64) (.cons (.sl (.agg (.cons (.int .i64) (.cons (.int .i64) (.cons .str .unit))))) (.cons (.int .i64) .unit))))) (.cons (.agg (.cons (.sl .str) (.cons (.int .i64) (.cons (.sl (.agg (.cons (.int .i64) (.cons (.int .i64) (.cons .str .unit))))) (.cons (.int .i64) .unit))))) .unit))))) .unit), res := .str, fn := fun v => ref39_Text v.1 }
noncomputable def ref39_Text_V : TEnv := { pure := [(34, ref18_Line_T)], look := [], glob := G0T, ty := [], raw := [], fresh := [] }
theorem ref39_Text_eq : runY Tryz.prog ref39_Text_E ref39_Text_H ref39_Text_V ref39_Text_Y Tryz.f15 ref39_Text_T.ps ref39_Text_T.res = ref39_Text_T.fn := by kernel_rfl
theorem ref39_Text_Fok : SoundP Tryz.prog G0 15 ref39_Text_F := closeF_sound (runF_sound (P := Tryz.prog) (E := ref39_Text_E) (h := ref39_Text_H) (f := 15) (fn := Tryz.f15) ⟨same_ok, (envP_cons ref18_Line_Fok envP_nil), envS_nil, envP_nil, envX_nil⟩ Tryz.func15 rfl (by kernel_rfl))
theorem ref39_Text_ok : TOk ref39_Text_F ref39_Text_T := runY_ok (E := ref39_Text_E) (ET := ref39_Text_V) (EnvT.ofX (E := ref39_Text_E) (ET := ref39_Text_V) (pure_of (pairs_cons ref18_Line_ok pairs_nil)) looks_nil raws_nil G0_ok news_nil) ref39_Text_eq rfl
end Go.Proofs.YtkoicblnbbncbaaGreatDoor.Y
set_option linter.unusedVariables false
set_option maxRecDepth 100000
namespace Go.Proofs.YtkoicblnbbncbaaGreatDoor.K
open Go.EM Go.TY Go.Proofs Go.Proofs.YtkoicblnbbncbaaGreatDoor.Y
def law39_entry_kH : Hints := { seqs := [], loops := [], own := [] }
noncomputable def law39_entry_kE : Env := { pure := [], raw := [], glob := G0, same := [76], look := [], ext := [] }
noncomputable def law39_entry_ks : SFn := runK 60 Tryz.prog law39_entry_kE law39_entry_kH Tryz.f18
theorem law39_entry_kok : SoundS Tryz.prog G0 18 law39_entry_ks := soundS_sub (runF_sound (P := Tryz.prog) (E := law39_entry_kE) (h := law39_entry_kH) (f := 18) (fn := Tryz.f18) ⟨same_ok, envP_nil, envS_nil, envP_nil, envX_nil⟩ Tryz.func18 rfl (by kernel_rfl)) runK_sub
noncomputable def law39_entry_kp : PFn := closeF law39_entry_ks
theorem law39_entry_kpok : SoundP Tryz.prog G0 18 law39_entry_kp := closeF_sound law39_entry_kok
def cmp_isNaN_string_kH : Hints := { seqs := [], loops := [], own := [] }
noncomputable def cmp_isNaN_string_kE : Env := { pure := [], raw := [], glob := G0, same := [76], look := [], ext := [] }
noncomputable def cmp_isNaN_string_ks : SFn := runK 60 Tryz.prog cmp_isNaN_string_kE cmp_isNaN_string_kH Tryz.f96
theorem cmp_isNaN_string_kok : SoundS Tryz.prog G0 96 cmp_isNaN_string_ks := soundS_sub (runF_sound (P := Tryz.prog) (E := cmp_isNaN_string_kE) (h := cmp_isNaN_string_kH) (f := 96) (fn := Tryz.f96) ⟨same_ok, envP_nil, envS_nil, envP_nil, envX_nil⟩ Tryz.func96 rfl (by kernel_rfl)) runK_sub
noncomputable def cmp_isNaN_string_kp : PFn := closeF cmp_isNaN_string_ks
theorem cmp_isNaN_string_kpok : SoundP Tryz.prog G0 96 cmp_isNaN_string_kp := closeF_sound cmp_isNaN_string_kok
def cmp_Compare_string_kH : Hints := { seqs := [], loops := [], own := [] }
noncomputable def cmp_Compare_string_kE : Env := { pure := [(96, cmp_isNaN_string_kp)], raw := [], glob := G0, same := [76], look := [], ext := [] }
noncomputable def cmp_Compare_string_ks : SFn := runK 60 Tryz.prog cmp_Compare_string_kE cmp_Compare_string_kH Tryz.f87
theorem cmp_Compare_string_kok : SoundS Tryz.prog G0 87 cmp_Compare_string_ks := soundS_sub (runF_sound (P := Tryz.prog) (E := cmp_Compare_string_kE) (h := cmp_Compare_string_kH) (f := 87) (fn := Tryz.f87) ⟨same_ok, (envP_cons cmp_isNaN_string_kpok envP_nil), envS_nil, envP_nil, envX_nil⟩ Tryz.func87 rfl (by kernel_rfl)) runK_sub
noncomputable def cmp_Compare_string_kp : PFn := closeF cmp_Compare_string_ks
theorem cmp_Compare_string_kpok : SoundP Tryz.prog G0 87 cmp_Compare_string_kp := closeF_sound cmp_Compare_string_kok
def slices_Compare_Sl_string_string_kH : Hints := { seqs := [(11, [0, 1])], loops := [(2, [0, 1, 9, 10, 11])], own := [] }
noncomputable def slices_Compare_Sl_string_string_kE : Env := { pure := [(87, cmp_Compare_string_kp)], raw := [], glob := G0, same := [76], look := [], ext := [] }
noncomputable def slices_Compare_Sl_string_string_ks : SFn := runK 60 Tryz.prog slices_Compare_Sl_string_string_kE slices_Compare_Sl_string_string_kH Tryz.f72
theorem slices_Compare_Sl_string_string_kok : SoundS Tryz.prog G0 72 slices_Compare_Sl_string_string_ks := soundS_sub (runF_sound (P := Tryz.prog) (E := slices_Compare_Sl_string_string_kE) (h := slices_Compare_Sl_string_string_kH) (f := 72) (fn := Tryz.f72) ⟨same_ok, (envP_cons cmp_Compare_string_kpok envP_nil), envS_nil, envP_nil, envX_nil⟩ Tryz.func72 rfl (by kernel_rfl)) runK_sub
noncomputable def slices_Compare_Sl_string_string_kp : PFn := closeF slices_Compare_Sl_string_string_ks
theorem slices_Compare_Sl_string_string_kpok : SoundP Tryz.prog G0 72 slices_Compare_Sl_string_string_kp := closeF_sound slices_Compare_Sl_string_string_kok
def path_Compare_kH : Hints := { seqs := [], loops := [], own := [] }
noncomputable def path_Compare_kE : Env := { pure := [(72, slices_Compare_Sl_string_string_kp)], raw := [], glob := G0, same := [76], look := [], ext := [] }
noncomputable def path_Compare_ks : SFn := runK 60 Tryz.prog path_Compare_kE path_Compare_kH Tryz.f47
theorem path_Compare_kok : SoundS Tryz.prog G0 47 path_Compare_ks := soundS_sub (runF_sound (P := Tryz.prog) (E := path_Compare_kE) (h := path_Compare_kH) (f := 47) (fn := Tryz.f47) ⟨same_ok, (envP_cons slices_Compare_Sl_string_string_kpok envP_nil), envS_nil, envP_nil, envX_nil⟩ Tryz.func47 rfl (by kernel_rfl)) runK_sub
noncomputable def path_Compare_kp : PFn := closeF path_Compare_ks
theorem path_Compare_kpok : SoundP Tryz.prog G0 47 path_Compare_kp := closeF_sound path_Compare_kok
def cmp_isNaN_int_kH : Hints := { seqs := [], loops := [], own := [] }
noncomputable def cmp_isNaN_int_kE : Env := { pure := [], raw := [], glob := G0, same := [76], look := [], ext := [] }
noncomputable def cmp_isNaN_int_ks : SFn := runK 60 Tryz.prog cmp_isNaN_int_kE cmp_isNaN_int_kH Tryz.f73
theorem cmp_isNaN_int_kok : SoundS Tryz.prog G0 73 cmp_isNaN_int_ks := soundS_sub (runF_sound (P := Tryz.prog) (E := cmp_isNaN_int_kE) (h := cmp_isNaN_int_kH) (f := 73) (fn := Tryz.f73) ⟨same_ok, envP_nil, envS_nil, envP_nil, envX_nil⟩ Tryz.func73 rfl (by kernel_rfl)) runK_sub
noncomputable def cmp_isNaN_int_kp : PFn := closeF cmp_isNaN_int_ks
theorem cmp_isNaN_int_kpok : SoundP Tryz.prog G0 73 cmp_isNaN_int_kp := closeF_sound cmp_isNaN_int_kok
def cmp_Compare_int_kH : Hints := { seqs := [], loops := [], own := [] }
noncomputable def cmp_Compare_int_kE : Env := { pure := [(73, cmp_isNaN_int_kp)], raw := [], glob := G0, same := [76], look := [], ext := [] }
noncomputable def cmp_Compare_int_ks : SFn := runK 60 Tryz.prog cmp_Compare_int_kE cmp_Compare_int_kH Tryz.f48
theorem cmp_Compare_int_kok : SoundS Tryz.prog G0 48 cmp_Compare_int_ks := soundS_sub (runF_sound (P := Tryz.prog) (E := cmp_Compare_int_kE) (h := cmp_Compare_int_kH) (f := 48) (fn := Tryz.f48) ⟨same_ok, (envP_cons cmp_isNaN_int_kpok envP_nil), envS_nil, envP_nil, envX_nil⟩ Tryz.func48 rfl (by kernel_rfl)) runK_sub
noncomputable def cmp_Compare_int_kp : PFn := closeF cmp_Compare_int_ks
theorem cmp_Compare_int_kpok : SoundP Tryz.prog G0 48 cmp_Compare_int_kp := closeF_sound cmp_Compare_int_kok
def cmp_Or_int_kH : Hints := { seqs := [], loops := [(3, [3, 6, 7, 8])], own := [] }
noncomputable def cmp_Or_int_kE : Env := { pure := [], raw := [], glob := G0, same := [76], look := [], ext := [] }
noncomputable def cmp_Or_int_ks : SFn := runK 60 Tryz.prog cmp_Or_int_kE cmp_Or_int_kH Tryz.f46
theorem cmp_Or_int_kok : SoundS Tryz.prog G0 46 cmp_Or_int_ks := soundS_sub (runF_sound (P := Tryz.prog) (E := cmp_Or_int_kE) (h := cmp_Or_int_kH) (f := 46) (fn := Tryz.f46) ⟨same_ok, envP_nil, envS_nil, envP_nil, envX_nil⟩ Tryz.func46 rfl (by kernel_rfl)) runK_sub
noncomputable def cmp_Or_int_kp : PFn := closeF cmp_Or_int_ks
theorem cmp_Or_int_kpok : SoundP Tryz.prog G0 46 cmp_Or_int_kp := closeF_sound cmp_Or_int_kok
def change_compare_kH : Hints := { seqs := [], loops := [], own := [] }
noncomputable def change_compare_kE : Env := { pure := [(46, cmp_Or_int_kp), (47, path_Compare_kp), (48, cmp_Compare_int_kp)], raw := [], glob := G0, same := [76], look := [], ext := [] }
noncomputable def change_compare_ks : SFn := runK 60 Tryz.prog change_compare_kE change_compare_kH Tryz.f22
theorem change_compare_kok : SoundS Tryz.prog G0 22 change_compare_ks := soundS_sub (runF_sound (P := Tryz.prog) (E := change_compare_kE) (h := change_compare_kH) (f := 22) (fn := Tryz.f22) ⟨same_ok, (envP_cons cmp_Or_int_kpok (envP_cons path_Compare_kpok (envP_cons cmp_Compare_int_kpok envP_nil))), envS_nil, envP_nil, envX_nil⟩ Tryz.func22 rfl (by kernel_rfl)) runK_sub
noncomputable def change_compare_kp : PFn := closeF change_compare_ks
theorem change_compare_kpok : SoundP Tryz.prog G0 22 change_compare_kp := closeF_sound change_compare_kok
noncomputable def slices_Clone_Sl_string_string_kp : PFn := slices_Clone_Sl_string_string_F
theorem slices_Clone_Sl_string_string_kpok : SoundP Tryz.prog G0 51 slices_Clone_Sl_string_string_kp := slices_Clone_Sl_string_string_Fok
noncomputable def slices_Clone_Sl_api_Value_api_Value_kp : PFn := slices_Clone_Sl_api_Value_api_Value_F
theorem slices_Clone_Sl_api_Value_api_Value_kpok : SoundP Tryz.prog G0 52 slices_Clone_Sl_api_Value_api_Value_kp := slices_Clone_Sl_api_Value_api_Value_Fok
def change_clone_kH : Hints := { seqs := [], loops := [], own := [] }
noncomputable def change_clone_kE : Env := { pure := [(51, slices_Clone_Sl_string_string_kp), (52, slices_Clone_Sl_api_Value_api_Value_kp)], raw := [], glob := G0, same := [76], look := [], ext := [] }
noncomputable def change_clone_ks : SFn := runK 60 Tryz.prog change_clone_kE change_clone_kH Tryz.f25
theorem change_clone_kok : SoundS Tryz.prog G0 25 change_clone_ks := soundS_sub (runF_sound (P := Tryz.prog) (E := change_clone_kE) (h := change_clone_kH) (f := 25) (fn := Tryz.f25) ⟨same_ok, (envP_cons slices_Clone_Sl_string_string_kpok (envP_cons slices_Clone_Sl_api_Value_api_Value_kpok envP_nil)), envS_nil, envP_nil, envX_nil⟩ Tryz.func25 rfl (by kernel_rfl)) runK_sub
noncomputable def change_clone_kp : PFn := closeF change_clone_ks
theorem change_clone_kpok : SoundP Tryz.prog G0 25 change_clone_kp := closeF_sound change_clone_kok
def slices_Equal_Sl_string_string_kH : Hints := { seqs := [], loops := [(4, [0, 1, 12, 13])], own := [] }
noncomputable def slices_Equal_Sl_string_string_kE : Env := { pure := [], raw := [], glob := G0, same := [76], look := [], ext := [] }
noncomputable def slices_Equal_Sl_string_string_ks : SFn := runK 60 Tryz.prog slices_Equal_Sl_string_string_kE slices_Equal_Sl_string_string_kH Tryz.f85
theorem slices_Equal_Sl_string_string_kok : SoundS Tryz.prog G0 85 slices_Equal_Sl_string_string_ks := soundS_sub (runF_sound (P := Tryz.prog) (E := slices_Equal_Sl_string_string_kE) (h := slices_Equal_Sl_string_string_kH) (f := 85) (fn := Tryz.f85) ⟨same_ok, envP_nil, envS_nil, envP_nil, envX_nil⟩ Tryz.func85 rfl (by kernel_rfl)) runK_sub
noncomputable def slices_Equal_Sl_string_string_kp : PFn := closeF slices_Equal_Sl_string_string_ks
theorem slices_Equal_Sl_string_string_kpok : SoundP Tryz.prog G0 85 slices_Equal_Sl_string_string_kp := closeF_sound slices_Equal_Sl_string_string_kok
def path_Same_kH : Hints := { seqs := [], loops := [], own := [] }
noncomputable def path_Same_kE : Env := { pure := [(85, slices_Equal_Sl_string_string_kp)], raw := [], glob := G0, same := [76], look := [], ext := [] }
noncomputable def path_Same_ks : SFn := runK 60 Tryz.prog path_Same_kE path_Same_kH Tryz.f67
theorem path_Same_kok : SoundS Tryz.prog G0 67 path_Same_ks := soundS_sub (runF_sound (P := Tryz.prog) (E := path_Same_kE) (h := path_Same_kH) (f := 67) (fn := Tryz.f67) ⟨same_ok, (envP_cons slices_Equal_Sl_string_string_kpok envP_nil), envS_nil, envP_nil, envX_nil⟩ Tryz.func67 rfl (by kernel_rfl)) runK_sub
noncomputable def path_Same_kp : PFn := closeF path_Same_ks
theorem path_Same_kpok : SoundP Tryz.prog G0 67 path_Same_kp := closeF_sound path_Same_kok
def slices_Equal_Sl_api_Value_api_Value_kH : Hints := { seqs := [], loops := [(4, [0, 1, 12, 13])], own := [] }
noncomputable def slices_Equal_Sl_api_Value_api_Value_kE : Env := { pure := [], raw := [], glob := G0, same := [76], look := [], ext := [] }
noncomputable def slices_Equal_Sl_api_Value_api_Value_ks : SFn := runK 60 Tryz.prog slices_Equal_Sl_api_Value_api_Value_kE slices_Equal_Sl_api_Value_api_Value_kH Tryz.f68
theorem slices_Equal_Sl_api_Value_api_Value_kok : SoundS Tryz.prog G0 68 slices_Equal_Sl_api_Value_api_Value_ks := soundS_sub (runF_sound (P := Tryz.prog) (E := slices_Equal_Sl_api_Value_api_Value_kE) (h := slices_Equal_Sl_api_Value_api_Value_kH) (f := 68) (fn := Tryz.f68) ⟨same_ok, envP_nil, envS_nil, envP_nil, envX_nil⟩ Tryz.func68 rfl (by kernel_rfl)) runK_sub
noncomputable def slices_Equal_Sl_api_Value_api_Value_kp : PFn := closeF slices_Equal_Sl_api_Value_api_Value_ks
theorem slices_Equal_Sl_api_Value_api_Value_kpok : SoundP Tryz.prog G0 68 slices_Equal_Sl_api_Value_api_Value_kp := closeF_sound slices_Equal_Sl_api_Value_api_Value_kok
def view_same_kH : Hints := { seqs := [], loops := [], own := [] }
noncomputable def view_same_kE : Env := { pure := [(67, path_Same_kp), (68, slices_Equal_Sl_api_Value_api_Value_kp)], raw := [], glob := G0, same := [76], look := [], ext := [] }
noncomputable def view_same_ks : SFn := runK 60 Tryz.prog view_same_kE view_same_kH Tryz.f42
theorem view_same_kok : SoundS Tryz.prog G0 42 view_same_ks := soundS_sub (runF_sound (P := Tryz.prog) (E := view_same_kE) (h := view_same_kH) (f := 42) (fn := Tryz.f42) ⟨same_ok, (envP_cons path_Same_kpok (envP_cons slices_Equal_Sl_api_Value_api_Value_kpok envP_nil)), envS_nil, envP_nil, envX_nil⟩ Tryz.func42 rfl (by kernel_rfl)) runK_sub
noncomputable def view_same_kp : PFn := closeF view_same_ks
theorem view_same_kpok : SoundP Tryz.prog G0 42 view_same_kp := closeF_sound view_same_kok
def slices_EqualFunc_Sl_view_Entry_Sl_view_Entry_view_Entry_view_Entry_kH : Hints := { seqs := [], loops := [(4, [1, 2, 15, 16, 17])], own := [] }
noncomputable def slices_EqualFunc_Sl_view_Entry_Sl_view_Entry_view_Entry_view_Entry_kE : Env := { pure := [(42, view_same_kp)], raw := [], glob := G0, same := [76], look := [], ext := [] }
noncomputable def slices_EqualFunc_Sl_view_Entry_Sl_view_Entry_view_Entry_view_Entry_ks : SFn := runK 60 Tryz.prog slices_EqualFunc_Sl_view_Entry_Sl_view_Entry_view_Entry_view_Entry_kE slices_EqualFunc_Sl_view_Entry_Sl_view_Entry_view_Entry_view_Entry_kH Tryz.f41
theorem slices_EqualFunc_Sl_view_Entry_Sl_view_Entry_view_Entry_view_Entry_kok : SoundS Tryz.prog G0 41 slices_EqualFunc_Sl_view_Entry_Sl_view_Entry_view_Entry_view_Entry_ks := soundS_sub (runF_sound (P := Tryz.prog) (E := slices_EqualFunc_Sl_view_Entry_Sl_view_Entry_view_Entry_view_Entry_kE) (h := slices_EqualFunc_Sl_view_Entry_Sl_view_Entry_view_Entry_view_Entry_kH) (f := 41) (fn := Tryz.f41) ⟨same_ok, (envP_cons view_same_kpok envP_nil), envS_nil, envP_nil, envX_nil⟩ Tryz.func41 rfl (by kernel_rfl)) runK_sub
noncomputable def slices_EqualFunc_Sl_view_Entry_Sl_view_Entry_view_Entry_view_Entry_kp : PFn := closeF slices_EqualFunc_Sl_view_Entry_Sl_view_Entry_view_Entry_view_Entry_ks
theorem slices_EqualFunc_Sl_view_Entry_Sl_view_Entry_view_Entry_view_Entry_kpok : SoundP Tryz.prog G0 41 slices_EqualFunc_Sl_view_Entry_Sl_view_Entry_view_Entry_view_Entry_kp := closeF_sound slices_EqualFunc_Sl_view_Entry_Sl_view_Entry_view_Entry_view_Entry_kok
def view_Same_kH : Hints := { seqs := [], loops := [], own := [] }
noncomputable def view_Same_kE : Env := { pure := [(41, slices_EqualFunc_Sl_view_Entry_Sl_view_Entry_view_Entry_view_Entry_kp)], raw := [], glob := G0, same := [76], look := [], ext := [] }
noncomputable def view_Same_ks : SFn := runK 60 Tryz.prog view_Same_kE view_Same_kH Tryz.f20
theorem view_Same_kok : SoundS Tryz.prog G0 20 view_Same_ks := soundS_sub (runF_sound (P := Tryz.prog) (E := view_Same_kE) (h := view_Same_kH) (f := 20) (fn := Tryz.f20) ⟨same_ok, (envP_cons slices_EqualFunc_Sl_view_Entry_Sl_view_Entry_view_Entry_view_Entry_kpok envP_nil), envS_nil, envP_nil, envX_nil⟩ Tryz.func20 rfl (by kernel_rfl)) runK_sub
noncomputable def view_Same_kp : PFn := closeF view_Same_ks
theorem view_Same_kpok : SoundP Tryz.prog G0 20 view_Same_kp := closeF_sound view_Same_kok
def change_same_kH : Hints := { seqs := [], loops := [], own := [] }
noncomputable def change_same_kE : Env := { pure := [(20, view_Same_kp)], raw := [], glob := G0, same := [76], look := [], ext := [] }
noncomputable def change_same_ks : SFn := runK 60 Tryz.prog change_same_kE change_same_kH Tryz.f26
theorem change_same_kok : SoundS Tryz.prog G0 26 change_same_ks := soundS_sub (runF_sound (P := Tryz.prog) (E := change_same_kE) (h := change_same_kH) (f := 26) (fn := Tryz.f26) ⟨same_ok, (envP_cons view_Same_kpok envP_nil), envS_nil, envP_nil, envX_nil⟩ Tryz.func26 rfl (by kernel_rfl)) runK_sub
noncomputable def change_same_kp : PFn := closeF change_same_ks
theorem change_same_kpok : SoundP Tryz.prog G0 26 change_same_kp := closeF_sound change_same_kok
def change_Diff_kH : Hints := { seqs := [(11, [0, 1, 5, 6]), (10, [0, 1, 5])], loops := [(2, [0, 1, 5])], own := [] }
noncomputable def change_Diff_kE : Env := { pure := [(22, change_compare_kp), (25, change_clone_kp), (26, change_same_kp)], raw := [], glob := G0, same := [76], look := [], ext := [] }
noncomputable def change_Diff_ks : SFn := runK 60 Tryz.prog change_Diff_kE change_Diff_kH Tryz.f10
theorem change_Diff_kok : SoundS Tryz.prog G0 10 change_Diff_ks := soundS_sub (runF_sound (P := Tryz.prog) (E := change_Diff_kE) (h := change_Diff_kH) (f := 10) (fn := Tryz.f10) ⟨same_ok, (envP_cons change_compare_kpok (envP_cons change_clone_kpok (envP_cons change_same_kpok envP_nil))), envS_nil, envP_nil, envX_nil⟩ Tryz.func10 rfl (by kernel_rfl)) runK_sub
noncomputable def change_Diff_kp : PFn := closeF change_Diff_ks
theorem change_Diff_kpok : SoundP Tryz.prog G0 10 change_Diff_kp := closeF_sound change_Diff_kok
def slices_Clone_Sl_view_Entry_view_Entry_kH : Hints := { seqs := [], loops := [], own := [] }
noncomputable def slices_Clone_Sl_view_Entry_view_Entry_kE : Env := { pure := [], raw := [], glob := G0, same := [76], look := [], ext := [] }
noncomputable def slices_Clone_Sl_view_Entry_view_Entry_ks : SFn := runK 60 Tryz.prog slices_Clone_Sl_view_Entry_view_Entry_kE slices_Clone_Sl_view_Entry_view_Entry_kH Tryz.f36
theorem slices_Clone_Sl_view_Entry_view_Entry_kok : SoundS Tryz.prog G0 36 slices_Clone_Sl_view_Entry_view_Entry_ks := soundS_sub (runF_sound (P := Tryz.prog) (E := slices_Clone_Sl_view_Entry_view_Entry_kE) (h := slices_Clone_Sl_view_Entry_view_Entry_kH) (f := 36) (fn := Tryz.f36) ⟨same_ok, envP_nil, envS_nil, envP_nil, envX_nil⟩ Tryz.func36 rfl (by kernel_rfl)) runK_sub
def change_Change_leaf_kH : Hints := { seqs := [], loops := [], own := [] }
noncomputable def change_Change_leaf_kE : Env := { pure := [], raw := [], glob := G0, same := [76], look := [], ext := [] }
noncomputable def change_Change_leaf_ks : SFn := runK 60 Tryz.prog change_Change_leaf_kE change_Change_leaf_kH Tryz.f38
theorem change_Change_leaf_kok : SoundS Tryz.prog G0 38 change_Change_leaf_ks := soundS_sub (runF_sound (P := Tryz.prog) (E := change_Change_leaf_kE) (h := change_Change_leaf_kH) (f := 38) (fn := Tryz.f38) ⟨same_ok, envP_nil, envS_nil, envP_nil, envX_nil⟩ Tryz.func38 rfl (by kernel_rfl)) runK_sub
noncomputable def change_Change_leaf_kp : PFn := closeF change_Change_leaf_ks
theorem change_Change_leaf_kpok : SoundP Tryz.prog G0 38 change_Change_leaf_kp := closeF_sound change_Change_leaf_kok
def slices_BinarySearchFunc_Sl_view_Entry_view_Entry_view_Entry_kH : Hints := { seqs := [(8, [0, 2, 4, 8, 9])], loops := [(3, [0, 2, 4, 8, 9, 10])], own := [] }
noncomputable def slices_BinarySearchFunc_Sl_view_Entry_view_Entry_view_Entry_kE : Env := { pure := [(22, change_compare_kp)], raw := [], glob := G0, same := [76], look := [], ext := [] }
noncomputable def slices_BinarySearchFunc_Sl_view_Entry_view_Entry_view_Entry_ks : SFn := runK 60 Tryz.prog slices_BinarySearchFunc_Sl_view_Entry_view_Entry_view_Entry_kE slices_BinarySearchFunc_Sl_view_Entry_view_Entry_view_Entry_kH Tryz.f37
theorem slices_BinarySearchFunc_Sl_view_Entry_view_Entry_view_Entry_kok : SoundS Tryz.prog G0 37 slices_BinarySearchFunc_Sl_view_Entry_view_Entry_view_Entry_ks := soundS_sub (runF_sound (P := Tryz.prog) (E := slices_BinarySearchFunc_Sl_view_Entry_view_Entry_view_Entry_kE) (h := slices_BinarySearchFunc_Sl_view_Entry_view_Entry_view_Entry_kH) (f := 37) (fn := Tryz.f37) ⟨same_ok, (envP_cons change_compare_kpok envP_nil), envS_nil, envP_nil, envX_nil⟩ Tryz.func37 rfl (by kernel_rfl)) runK_sub
noncomputable def slices_BinarySearchFunc_Sl_view_Entry_view_Entry_view_Entry_kp : PFn := closeF slices_BinarySearchFunc_Sl_view_Entry_view_Entry_view_Entry_ks
theorem slices_BinarySearchFunc_Sl_view_Entry_view_Entry_view_Entry_kpok : SoundP Tryz.prog G0 37 slices_BinarySearchFunc_Sl_view_Entry_view_Entry_view_Entry_kp := closeF_sound slices_BinarySearchFunc_Sl_view_Entry_view_Entry_view_Entry_kok
def slices_Reverse_Sl_view_Entry_view_Entry_kH : Hints := { seqs := [], loops := [(1, [0, 2, 3])], own := [] }
noncomputable def slices_Reverse_Sl_view_Entry_view_Entry_kE : Env := { pure := [], raw := [], glob := G0, same := [76], look := [], ext := [] }
noncomputable def slices_Reverse_Sl_view_Entry_view_Entry_ks : SFn := runK 60 Tryz.prog slices_Reverse_Sl_view_Entry_view_Entry_kE slices_Reverse_Sl_view_Entry_view_Entry_kH Tryz.f94
theorem slices_Reverse_Sl_view_Entry_view_Entry_kok : SoundS Tryz.prog G0 94 slices_Reverse_Sl_view_Entry_view_Entry_ks := soundS_sub (runF_sound (P := Tryz.prog) (E := slices_Reverse_Sl_view_Entry_view_Entry_kE) (h := slices_Reverse_Sl_view_Entry_view_Entry_kH) (f := 94) (fn := Tryz.f94) ⟨same_ok, envP_nil, envS_nil, envP_nil, envX_nil⟩ Tryz.func94 rfl (by kernel_rfl)) runK_sub
noncomputable def slices_Reverse_Sl_view_Entry_view_Entry_kp : PFn := closeF slices_Reverse_Sl_view_Entry_view_Entry_ks
theorem slices_Reverse_Sl_view_Entry_view_Entry_kpok : SoundP Tryz.prog G0 94 slices_Reverse_Sl_view_Entry_view_Entry_kp := closeF_sound slices_Reverse_Sl_view_Entry_view_Entry_kok
def slices_rotateLeft_view_Entry_kH : Hints := { seqs := [], loops := [], own := [] }
noncomputable def slices_rotateLeft_view_Entry_kE : Env := { pure := [(94, slices_Reverse_Sl_view_Entry_view_Entry_kp)], raw := [], glob := G0, same := [76], look := [], ext := [] }
noncomputable def slices_rotateLeft_view_Entry_ks : SFn := runK 60 Tryz.prog slices_rotateLeft_view_Entry_kE slices_rotateLeft_view_Entry_kH Tryz.f84
theorem slices_rotateLeft_view_Entry_kok : SoundS Tryz.prog G0 84 slices_rotateLeft_view_Entry_ks := soundS_sub (runF_sound (P := Tryz.prog) (E := slices_rotateLeft_view_Entry_kE) (h := slices_rotateLeft_view_Entry_kH) (f := 84) (fn := Tryz.f84) ⟨same_ok, (envP_cons slices_Reverse_Sl_view_Entry_view_Entry_kpok envP_nil), envS_nil, envP_nil, envX_nil⟩ Tryz.func84 rfl (by kernel_rfl)) runK_sub
noncomputable def slices_rotateLeft_view_Entry_kp : PFn := closeF slices_rotateLeft_view_Entry_ks
theorem slices_rotateLeft_view_Entry_kpok : SoundP Tryz.prog G0 84 slices_rotateLeft_view_Entry_kp := closeF_sound slices_rotateLeft_view_Entry_kok
def slices_rotateRight_view_Entry_kH : Hints := { seqs := [], loops := [], own := [] }
noncomputable def slices_rotateRight_view_Entry_kE : Env := { pure := [(84, slices_rotateLeft_view_Entry_kp)], raw := [], glob := G0, same := [76], look := [], ext := [] }
noncomputable def slices_rotateRight_view_Entry_ks : SFn := runK 60 Tryz.prog slices_rotateRight_view_Entry_kE slices_rotateRight_view_Entry_kH Tryz.f66
theorem slices_rotateRight_view_Entry_kok : SoundS Tryz.prog G0 66 slices_rotateRight_view_Entry_ks := soundS_sub (runF_sound (P := Tryz.prog) (E := slices_rotateRight_view_Entry_kE) (h := slices_rotateRight_view_Entry_kH) (f := 66) (fn := Tryz.f66) ⟨same_ok, (envP_cons slices_rotateLeft_view_Entry_kpok envP_nil), envS_nil, envP_nil, envX_nil⟩ Tryz.func66 rfl (by kernel_rfl)) runK_sub
noncomputable def slices_rotateRight_view_Entry_kp : PFn := closeF slices_rotateRight_view_Entry_ks
theorem slices_rotateRight_view_Entry_kpok : SoundP Tryz.prog G0 66 slices_rotateRight_view_Entry_kp := closeF_sound slices_rotateRight_view_Entry_kok
def change_Apply_kH : Hints := { seqs := [(19, [6])], loops := [(3, [6, 13, 14, 15])], own := [] }
noncomputable def change_Apply_kE : Env := { pure := [(22, change_compare_kp), (25, change_clone_kp), (26, change_same_kp), (38, change_Change_leaf_kp)], raw := [(36, slices_Clone_Sl_view_Entry_view_Entry_ks)], glob := G0, same := [76], look := [(37, slices_BinarySearchFunc_Sl_view_Entry_view_Entry_view_Entry_kp)], ext := [] }
noncomputable def change_Apply_ks : SFn := runK 60 Tryz.prog change_Apply_kE change_Apply_kH Tryz.f19
theorem change_Apply_kok : SoundS Tryz.prog G0 19 change_Apply_ks := soundS_sub (runF_sound (P := Tryz.prog) (E := change_Apply_kE) (h := change_Apply_kH) (f := 19) (fn := Tryz.f19) ⟨same_ok, (envP_cons change_compare_kpok (envP_cons change_clone_kpok (envP_cons change_same_kpok (envP_cons change_Change_leaf_kpok envP_nil)))), (envS_cons slices_Clone_Sl_view_Entry_view_Entry_kok envS_nil), (envP_cons slices_BinarySearchFunc_Sl_view_Entry_view_Entry_view_Entry_kpok envP_nil), envX_nil⟩ Tryz.func19 rfl (by kernel_rfl)) runK_sub
noncomputable def change_Apply_kp : PFn := closeF change_Apply_ks
theorem change_Apply_kpok : SoundP Tryz.prog G0 19 change_Apply_kp := closeF_sound change_Apply_kok
def value_inner_kH : Hints := { seqs := [], loops := [], own := [] }
noncomputable def value_inner_kE : Env := { pure := [], raw := [], glob := G0, same := [76], look := [], ext := [] }
noncomputable def value_inner_ks : SFn := runK 60 Tryz.prog value_inner_kE value_inner_kH Tryz.f77
theorem value_inner_kok : SoundS Tryz.prog G0 77 value_inner_ks := soundS_sub (runF_sound (P := Tryz.prog) (E := value_inner_kE) (h := value_inner_kH) (f := 77) (fn := Tryz.f77) ⟨same_ok, envP_nil, envS_nil, envP_nil, envX_nil⟩ Tryz.func77 rfl (by kernel_rfl)) runK_sub
noncomputable def value_inner_kp : PFn := closeF value_inner_ks
theorem value_inner_kpok : SoundP Tryz.prog G0 77 value_inner_kp := closeF_sound value_inner_kok
def strings_Builder_copyCheck_kH : Hints := { seqs := [], loops := [], own := [6, 9, 11, 19] }
noncomputable def strings_Builder_copyCheck_kE : Env := { pure := [], raw := [], glob := G0, same := [76], look := [], ext := [] }
noncomputable def strings_Builder_copyCheck_ks : SFn := runK 60 Tryz.prog strings_Builder_copyCheck_kE strings_Builder_copyCheck_kH Tryz.f56
theorem strings_Builder_copyCheck_kok : SoundS Tryz.prog G0 56 strings_Builder_copyCheck_ks := soundS_sub (runF_sound (P := Tryz.prog) (E := strings_Builder_copyCheck_kE) (h := strings_Builder_copyCheck_kH) (f := 56) (fn := Tryz.f56) ⟨same_ok, envP_nil, envS_nil, envP_nil, envX_nil⟩ Tryz.func56 rfl (by kernel_rfl)) runK_sub
def strings_Builder_WriteByte_kH : Hints := { seqs := [], loops := [], own := [] }
noncomputable def strings_Builder_WriteByte_kE : Env := { pure := [], raw := [(56, strings_Builder_copyCheck_ks)], glob := G0, same := [76], look := [], ext := [] }
noncomputable def strings_Builder_WriteByte_ks : SFn := runK 60 Tryz.prog strings_Builder_WriteByte_kE strings_Builder_WriteByte_kH Tryz.f89
theorem strings_Builder_WriteByte_kok : SoundS Tryz.prog G0 89 strings_Builder_WriteByte_ks := soundS_sub (runF_sound (P := Tryz.prog) (E := strings_Builder_WriteByte_kE) (h := strings_Builder_WriteByte_kH) (f := 89) (fn := Tryz.f89) ⟨same_ok, envP_nil, (envS_cons strings_Builder_copyCheck_kok envS_nil), envP_nil, envX_nil⟩ Tryz.func89 rfl (by kernel_rfl)) runK_sub
def utf8_appendRuneNonASCII_kH : Hints := { seqs := [(7, [0, 1, 5, 25])], loops := [], own := [] }
noncomputable def utf8_appendRuneNonASCII_kE : Env := { pure := [], raw := [], glob := G0, same := [76], look := [], ext := [] }
noncomputable def utf8_appendRuneNonASCII_ks : SFn := runK 60 Tryz.prog utf8_appendRuneNonASCII_kE utf8_appendRuneNonASCII_kH Tryz.f103
theorem utf8_appendRuneNonASCII_kok : SoundS Tryz.prog G0 103 utf8_appendRuneNonASCII_ks := soundS_sub (runF_sound (P := Tryz.prog) (E := utf8_appendRuneNonASCII_kE) (h := utf8_appendRuneNonASCII_kH) (f := 103) (fn := Tryz.f103) ⟨same_ok, envP_nil, envS_nil, envP_nil, envX_nil⟩ Tryz.func103 rfl (by kernel_rfl)) runK_sub
def utf8_AppendRune_kH : Hints := { seqs := [], loops := [], own := [] }
noncomputable def utf8_AppendRune_kE : Env := { pure := [], raw := [(103, utf8_appendRuneNonASCII_ks)], glob := G0, same := [76], look := [], ext := [] }
noncomputable def utf8_AppendRune_ks : SFn := runK 60 Tryz.prog utf8_AppendRune_kE utf8_AppendRune_kH Tryz.f97
theorem utf8_AppendRune_kok : SoundS Tryz.prog G0 97 utf8_AppendRune_ks := soundS_sub (runF_sound (P := Tryz.prog) (E := utf8_AppendRune_kE) (h := utf8_AppendRune_kH) (f := 97) (fn := Tryz.f97) ⟨same_ok, envP_nil, (envS_cons utf8_appendRuneNonASCII_kok envS_nil), envP_nil, envX_nil⟩ Tryz.func97 rfl (by kernel_rfl)) runK_sub
def strings_Builder_WriteRune_kH : Hints := { seqs := [], loops := [], own := [] }
noncomputable def strings_Builder_WriteRune_kE : Env := { pure := [], raw := [(56, strings_Builder_copyCheck_ks), (97, utf8_AppendRune_ks)], glob := G0, same := [76], look := [], ext := [] }
noncomputable def strings_Builder_WriteRune_ks : SFn := runK 60 Tryz.prog strings_Builder_WriteRune_kE strings_Builder_WriteRune_kH Tryz.f90
theorem strings_Builder_WriteRune_kok : SoundS Tryz.prog G0 90 strings_Builder_WriteRune_ks := soundS_sub (runF_sound (P := Tryz.prog) (E := strings_Builder_WriteRune_kE) (h := strings_Builder_WriteRune_kH) (f := 90) (fn := Tryz.f90) ⟨same_ok, envP_nil, (envS_cons strings_Builder_copyCheck_kok (envS_cons utf8_AppendRune_kok envS_nil)), envP_nil, envX_nil⟩ Tryz.func90 rfl (by kernel_rfl)) runK_sub
def strings_Builder_String_kH : Hints := { seqs := [], loops := [], own := [] }
noncomputable def strings_Builder_String_kE : Env := { pure := [], raw := [], glob := G0, same := [76], look := [], ext := [] }
noncomputable def strings_Builder_String_ks : SFn := runK 60 Tryz.prog strings_Builder_String_kE strings_Builder_String_kH Tryz.f33
theorem strings_Builder_String_kok : SoundS Tryz.prog G0 33 strings_Builder_String_ks := soundS_sub (runF_sound (P := Tryz.prog) (E := strings_Builder_String_kE) (h := strings_Builder_String_kH) (f := 33) (fn := Tryz.f33) ⟨same_ok, envP_nil, envS_nil, envP_nil, envX_nil⟩ Tryz.func33 rfl (by kernel_rfl)) runK_sub
def value_quote_kH : Hints := { seqs := [(9, [3])], loops := [(4, [3, 8])], own := [] }
noncomputable def value_quote_kE : Env := { pure := [], raw := [(33, strings_Builder_String_ks), (89, strings_Builder_WriteByte_ks), (90, strings_Builder_WriteRune_ks)], glob := G0, same := [76], look := [], ext := [] }
noncomputable def value_quote_ks : SFn := runK 60 Tryz.prog value_quote_kE value_quote_kH Tryz.f78
theorem value_quote_kok : SoundS Tryz.prog G0 78 value_quote_ks := soundS_sub (runF_sound (P := Tryz.prog) (E := value_quote_kE) (h := value_quote_kH) (f := 78) (fn := Tryz.f78) ⟨same_ok, envP_nil, (envS_cons strings_Builder_String_kok (envS_cons strings_Builder_WriteByte_kok (envS_cons strings_Builder_WriteRune_kok envS_nil))), envP_nil, envX_nil⟩ Tryz.func78 rfl (by kernel_rfl)) runK_sub
noncomputable def value_quote_kp : PFn := closeF value_quote_ks
theorem value_quote_kpok : SoundP Tryz.prog G0 78 value_quote_kp := closeF_sound value_quote_kok
def int_strconv_FormatBool_kH : Hints := { seqs := [], loops := [], own := [] }
noncomputable def int_strconv_FormatBool_kE : Env := { pure := [], raw := [], glob := G0, same := [76], look := [], ext := [] }
noncomputable def int_strconv_FormatBool_ks : SFn := runK 60 Tryz.prog int_strconv_FormatBool_kE int_strconv_FormatBool_kH Tryz.f91
theorem int_strconv_FormatBool_kok : SoundS Tryz.prog G0 91 int_strconv_FormatBool_ks := soundS_sub (runF_sound (P := Tryz.prog) (E := int_strconv_FormatBool_kE) (h := int_strconv_FormatBool_kH) (f := 91) (fn := Tryz.f91) ⟨same_ok, envP_nil, envS_nil, envP_nil, envX_nil⟩ Tryz.func91 rfl (by kernel_rfl)) runK_sub
noncomputable def int_strconv_FormatBool_kp : PFn := closeF int_strconv_FormatBool_ks
theorem int_strconv_FormatBool_kpok : SoundP Tryz.prog G0 91 int_strconv_FormatBool_kp := closeF_sound int_strconv_FormatBool_kok
def strconv_FormatBool_kH : Hints := { seqs := [], loops := [], own := [] }
noncomputable def strconv_FormatBool_kE : Env := { pure := [(91, int_strconv_FormatBool_kp)], raw := [], glob := G0, same := [76], look := [], ext := [] }
noncomputable def strconv_FormatBool_ks : SFn := runK 60 Tryz.prog strconv_FormatBool_kE strconv_FormatBool_kH Tryz.f79
theorem strconv_FormatBool_kok : SoundS Tryz.prog G0 79 strconv_FormatBool_ks := soundS_sub (runF_sound (P := Tryz.prog) (E := strconv_FormatBool_kE) (h := strconv_FormatBool_kH) (f := 79) (fn := Tryz.f79) ⟨same_ok, (envP_cons int_strconv_FormatBool_kpok envP_nil), envS_nil, envP_nil, envX_nil⟩ Tryz.func79 rfl (by kernel_rfl)) runK_sub
noncomputable def strconv_FormatBool_kp : PFn := closeF strconv_FormatBool_ks
theorem strconv_FormatBool_kpok : SoundP Tryz.prog G0 79 strconv_FormatBool_kp := closeF_sound strconv_FormatBool_kok
def strconv_small_kH : Hints := { seqs := [], loops := [], own := [] }
noncomputable def strconv_small_kE : Env := { pure := [], raw := [], glob := G0, same := [76], look := [], ext := [] }
noncomputable def strconv_small_ks : SFn := runK 60 Tryz.prog strconv_small_kE strconv_small_kH Tryz.f99
theorem strconv_small_kok : SoundS Tryz.prog G0 99 strconv_small_ks := soundS_sub (runF_sound (P := Tryz.prog) (E := strconv_small_kE) (h := strconv_small_kH) (f := 99) (fn := Tryz.f99) ⟨same_ok, envP_nil, envS_nil, envP_nil, envX_nil⟩ Tryz.func99 rfl (by kernel_rfl)) runK_sub
noncomputable def strconv_small_kp : PFn := closeF strconv_small_ks
theorem strconv_small_kpok : SoundP Tryz.prog G0 99 strconv_small_kp := closeF_sound strconv_small_kok
def bits_Len64_kH : Hints := { seqs := [(4, [0, 2]), (7, [0, 2]), (10, [0, 2])], loops := [], own := [] }
noncomputable def bits_Len64_kE : Env := { pure := [], raw := [], glob := G0, same := [76], look := [], ext := [] }
noncomputable def bits_Len64_ks : SFn := runK 60 Tryz.prog bits_Len64_kE bits_Len64_kH Tryz.f105
theorem bits_Len64_kok : SoundS Tryz.prog G0 105 bits_Len64_ks := soundS_sub (runF_sound (P := Tryz.prog) (E := bits_Len64_kE) (h := bits_Len64_kH) (f := 105) (fn := Tryz.f105) ⟨same_ok, envP_nil, envS_nil, envP_nil, envX_nil⟩ Tryz.func105 rfl (by kernel_rfl)) runK_sub
noncomputable def bits_Len64_kp : PFn := closeF bits_Len64_ks
theorem bits_Len64_kpok : SoundP Tryz.prog G0 105 bits_Len64_kp := closeF_sound bits_Len64_kok
def strconv_log10Pow2_kH : Hints := { seqs := [], loops := [], own := [] }
noncomputable def strconv_log10Pow2_kE : Env := { pure := [], raw := [], glob := G0, same := [76], look := [], ext := [] }
noncomputable def strconv_log10Pow2_ks : SFn := runK 60 Tryz.prog strconv_log10Pow2_kE strconv_log10Pow2_kH Tryz.f104
theorem strconv_log10Pow2_kok : SoundS Tryz.prog G0 104 strconv_log10Pow2_ks := soundS_sub (runF_sound (P := Tryz.prog) (E := strconv_log10Pow2_kE) (h := strconv_log10Pow2_kH) (f := 104) (fn := Tryz.f104) ⟨same_ok, envP_nil, envS_nil, envP_nil, envX_nil⟩ Tryz.func104 rfl (by kernel_rfl)) runK_sub
noncomputable def strconv_log10Pow2_kp : PFn := closeF strconv_log10Pow2_ks
theorem strconv_log10Pow2_kpok : SoundP Tryz.prog G0 104 strconv_log10Pow2_kp := closeF_sound strconv_log10Pow2_kok
def strconv_bool2_int_kH : Hints := { seqs := [], loops := [], own := [] }
noncomputable def strconv_bool2_int_kE : Env := { pure := [], raw := [], glob := G0, same := [76], look := [], ext := [] }
noncomputable def strconv_bool2_int_ks : SFn := runK 60 Tryz.prog strconv_bool2_int_kE strconv_bool2_int_kH Tryz.f106
theorem strconv_bool2_int_kok : SoundS Tryz.prog G0 106 strconv_bool2_int_ks := soundS_sub (runF_sound (P := Tryz.prog) (E := strconv_bool2_int_kE) (h := strconv_bool2_int_kH) (f := 106) (fn := Tryz.f106) ⟨same_ok, envP_nil, envS_nil, envP_nil, envX_nil⟩ Tryz.func106 rfl (by kernel_rfl)) runK_sub
noncomputable def strconv_bool2_int_kp : PFn := closeF strconv_bool2_int_ks
theorem strconv_bool2_int_kpok : SoundP Tryz.prog G0 106 strconv_bool2_int_kp := closeF_sound strconv_bool2_int_kok
def strconv_numDigits_kH : Hints := { seqs := [], loops := [], own := [] }
noncomputable def strconv_numDigits_kE : Env := { pure := [(104, strconv_log10Pow2_kp), (105, bits_Len64_kp), (106, strconv_bool2_int_kp)], raw := [], glob := G0, same := [76], look := [], ext := [] }
noncomputable def strconv_numDigits_ks : SFn := runK 60 Tryz.prog strconv_numDigits_kE strconv_numDigits_kH Tryz.f100
theorem strconv_numDigits_kok : SoundS Tryz.prog G0 100 strconv_numDigits_ks := soundS_sub (runF_sound (P := Tryz.prog) (E := strconv_numDigits_kE) (h := strconv_numDigits_kH) (f := 100) (fn := Tryz.f100) ⟨same_ok, (envP_cons strconv_log10Pow2_kpok (envP_cons bits_Len64_kpok (envP_cons strconv_bool2_int_kpok envP_nil))), envS_nil, envP_nil, envX_nil⟩ Tryz.func100 rfl (by kernel_rfl)) runK_sub
noncomputable def strconv_numDigits_kp : PFn := closeF strconv_numDigits_ks
theorem strconv_numDigits_kpok : SoundP Tryz.prog G0 100 strconv_numDigits_kp := closeF_sound strconv_numDigits_kok
def strconv_formatBase10_kH : Hints := { seqs := [(12, [0, 1, 4]), (20, [0, 4, 12]), (25, [0, 4, 12])], loops := [(1, [0, 1, 4])], own := [] }
noncomputable def strconv_formatBase10_kE : Env := { pure := [], raw := [], glob := G0, same := [76], look := [], ext := [] }
noncomputable def strconv_formatBase10_ks : SFn := runK 60 Tryz.prog strconv_formatBase10_kE strconv_formatBase10_kH Tryz.f101
theorem strconv_formatBase10_kok : SoundS Tryz.prog G0 101 strconv_formatBase10_ks := soundS_sub (runF_sound (P := Tryz.prog) (E := strconv_formatBase10_kE) (h := strconv_formatBase10_kH) (f := 101) (fn := Tryz.f101) ⟨same_ok, envP_nil, envS_nil, envP_nil, envX_nil⟩ Tryz.func101 rfl (by kernel_rfl)) runK_sub
noncomputable def strconv_formatBase10_kp : PFn := closeF strconv_formatBase10_ks
theorem strconv_formatBase10_kpok : SoundP Tryz.prog G0 101 strconv_formatBase10_kp := closeF_sound strconv_formatBase10_kok
def strconv_isPowerOfTwo_kH : Hints := { seqs := [], loops := [], own := [] }
noncomputable def strconv_isPowerOfTwo_kE : Env := { pure := [], raw := [], glob := G0, same := [76], look := [], ext := [] }
noncomputable def strconv_isPowerOfTwo_ks : SFn := runK 60 Tryz.prog strconv_isPowerOfTwo_kE strconv_isPowerOfTwo_kH Tryz.f107
theorem strconv_isPowerOfTwo_kok : SoundS Tryz.prog G0 107 strconv_isPowerOfTwo_ks := soundS_sub (runF_sound (P := Tryz.prog) (E := strconv_isPowerOfTwo_kE) (h := strconv_isPowerOfTwo_kH) (f := 107) (fn := Tryz.f107) ⟨same_ok, envP_nil, envS_nil, envP_nil, envX_nil⟩ Tryz.func107 rfl (by kernel_rfl)) runK_sub
noncomputable def strconv_isPowerOfTwo_kp : PFn := closeF strconv_isPowerOfTwo_ks
theorem strconv_isPowerOfTwo_kpok : SoundP Tryz.prog G0 107 strconv_isPowerOfTwo_kp := closeF_sound strconv_isPowerOfTwo_kok
def bits_TrailingZeros32_kH : Hints := { seqs := [], loops := [], own := [] }
noncomputable def bits_TrailingZeros32_kE : Env := { pure := [], raw := [], glob := G0, same := [76], look := [], ext := [] }
noncomputable def bits_TrailingZeros32_ks : SFn := runK 60 Tryz.prog bits_TrailingZeros32_kE bits_TrailingZeros32_kH Tryz.f109
theorem bits_TrailingZeros32_kok : SoundS Tryz.prog G0 109 bits_TrailingZeros32_ks := soundS_sub (runF_sound (P := Tryz.prog) (E := bits_TrailingZeros32_kE) (h := bits_TrailingZeros32_kH) (f := 109) (fn := Tryz.f109) ⟨same_ok, envP_nil, envS_nil, envP_nil, envX_nil⟩ Tryz.func109 rfl (by kernel_rfl)) runK_sub
noncomputable def bits_TrailingZeros32_kp : PFn := closeF bits_TrailingZeros32_ks
theorem bits_TrailingZeros32_kpok : SoundP Tryz.prog G0 109 bits_TrailingZeros32_kp := closeF_sound bits_TrailingZeros32_kok
def bits_TrailingZeros64_kH : Hints := { seqs := [], loops := [], own := [] }
noncomputable def bits_TrailingZeros64_kE : Env := { pure := [], raw := [], glob := G0, same := [76], look := [], ext := [] }
noncomputable def bits_TrailingZeros64_ks : SFn := runK 60 Tryz.prog bits_TrailingZeros64_kE bits_TrailingZeros64_kH Tryz.f110
theorem bits_TrailingZeros64_kok : SoundS Tryz.prog G0 110 bits_TrailingZeros64_ks := soundS_sub (runF_sound (P := Tryz.prog) (E := bits_TrailingZeros64_kE) (h := bits_TrailingZeros64_kH) (f := 110) (fn := Tryz.f110) ⟨same_ok, envP_nil, envS_nil, envP_nil, envX_nil⟩ Tryz.func110 rfl (by kernel_rfl)) runK_sub
noncomputable def bits_TrailingZeros64_kp : PFn := closeF bits_TrailingZeros64_ks
theorem bits_TrailingZeros64_kpok : SoundP Tryz.prog G0 110 bits_TrailingZeros64_kp := closeF_sound bits_TrailingZeros64_kok
def bits_TrailingZeros_kH : Hints := { seqs := [], loops := [], own := [] }
noncomputable def bits_TrailingZeros_kE : Env := { pure := [(109, bits_TrailingZeros32_kp), (110, bits_TrailingZeros64_kp)], raw := [], glob := G0, same := [76], look := [], ext := [] }
noncomputable def bits_TrailingZeros_ks : SFn := runK 60 Tryz.prog bits_TrailingZeros_kE bits_TrailingZeros_kH Tryz.f108
theorem bits_TrailingZeros_kok : SoundS Tryz.prog G0 108 bits_TrailingZeros_ks := soundS_sub (runF_sound (P := Tryz.prog) (E := bits_TrailingZeros_kE) (h := bits_TrailingZeros_kH) (f := 108) (fn := Tryz.f108) ⟨same_ok, (envP_cons bits_TrailingZeros32_kpok (envP_cons bits_TrailingZeros64_kpok envP_nil)), envS_nil, envP_nil, envX_nil⟩ Tryz.func108 rfl (by kernel_rfl)) runK_sub
noncomputable def bits_TrailingZeros_kp : PFn := closeF bits_TrailingZeros_ks
theorem bits_TrailingZeros_kpok : SoundP Tryz.prog G0 108 bits_TrailingZeros_kp := closeF_sound bits_TrailingZeros_kok
def strconv_FormatInt_kH : Hints := { seqs := [(8, [0, 5, 6])], loops := [], own := [39, 43] }
noncomputable def strconv_FormatInt_kE : Env := { pure := [(99, strconv_small_kp), (100, strconv_numDigits_kp), (101, strconv_formatBase10_kp)], raw := [], glob := G0, same := [76], look := [], ext := [] }
noncomputable def strconv_FormatInt_ks : SFn := runK 60 Tryz.prog strconv_FormatInt_kE strconv_FormatInt_kH Tryz.f93
theorem strconv_FormatInt_kok : SoundS Tryz.prog G0 93 strconv_FormatInt_ks := soundS_sub (runF_sound (P := Tryz.prog) (E := strconv_FormatInt_kE) (h := strconv_FormatInt_kH) (f := 93) (fn := Tryz.f93) ⟨same_ok, (envP_cons strconv_small_kpok (envP_cons strconv_numDigits_kpok (envP_cons strconv_formatBase10_kpok envP_nil))), envS_nil, envP_nil, envX_nil⟩ Tryz.func93 rfl (by kernel_rfl)) runK_sub
noncomputable def strconv_FormatInt_kp : PFn := closeF strconv_FormatInt_ks
theorem strconv_FormatInt_kpok : SoundP Tryz.prog G0 93 strconv_FormatInt_kp := closeF_sound strconv_FormatInt_kok
def int_strconv_Itoa_kH : Hints := { seqs := [], loops := [], own := [] }
noncomputable def int_strconv_Itoa_kE : Env := { pure := [(93, strconv_FormatInt_kp)], raw := [], glob := G0, same := [76], look := [], ext := [] }
noncomputable def int_strconv_Itoa_ks : SFn := runK 60 Tryz.prog int_strconv_Itoa_kE int_strconv_Itoa_kH Tryz.f82
theorem int_strconv_Itoa_kok : SoundS Tryz.prog G0 82 int_strconv_Itoa_ks := soundS_sub (runF_sound (P := Tryz.prog) (E := int_strconv_Itoa_kE) (h := int_strconv_Itoa_kH) (f := 82) (fn := Tryz.f82) ⟨same_ok, (envP_cons strconv_FormatInt_kpok envP_nil), envS_nil, envP_nil, envX_nil⟩ Tryz.func82 rfl (by kernel_rfl)) runK_sub
noncomputable def int_strconv_Itoa_kp : PFn := closeF int_strconv_Itoa_ks
theorem int_strconv_Itoa_kpok : SoundP Tryz.prog G0 82 int_strconv_Itoa_kp := closeF_sound int_strconv_Itoa_kok
def strconv_Itoa_kH : Hints := { seqs := [], loops := [], own := [] }
noncomputable def strconv_Itoa_kE : Env := { pure := [(82, int_strconv_Itoa_kp)], raw := [], glob := G0, same := [76], look := [], ext := [] }
noncomputable def strconv_Itoa_ks : SFn := runK 60 Tryz.prog strconv_Itoa_kE strconv_Itoa_kH Tryz.f60
theorem strconv_Itoa_kok : SoundS Tryz.prog G0 60 strconv_Itoa_ks := soundS_sub (runF_sound (P := Tryz.prog) (E := strconv_Itoa_kE) (h := strconv_Itoa_kH) (f := 60) (fn := Tryz.f60) ⟨same_ok, (envP_cons int_strconv_Itoa_kpok envP_nil), envS_nil, envP_nil, envX_nil⟩ Tryz.func60 rfl (by kernel_rfl)) runK_sub
noncomputable def strconv_Itoa_kp : PFn := closeF strconv_Itoa_ks
theorem strconv_Itoa_kpok : SoundP Tryz.prog G0 60 strconv_Itoa_kp := closeF_sound strconv_Itoa_kok
def value_Text_kH : Hints := { seqs := [], loops := [], own := [] }
noncomputable def value_Text_kE : Env := { pure := [(60, strconv_Itoa_kp), (77, value_inner_kp), (78, value_quote_kp), (79, strconv_FormatBool_kp)], raw := [], glob := G0, same := [76], look := [], ext := [] }
noncomputable def value_Text_ks : SFn := runK 60 Tryz.prog value_Text_kE value_Text_kH Tryz.f57
theorem value_Text_kok : SoundS Tryz.prog G0 57 value_Text_ks := soundS_sub (runF_sound (P := Tryz.prog) (E := value_Text_kE) (h := value_Text_kH) (f := 57) (fn := Tryz.f57) ⟨same_ok, (envP_cons strconv_Itoa_kpok (envP_cons value_inner_kpok (envP_cons value_quote_kpok (envP_cons strconv_FormatBool_kpok envP_nil)))), envS_nil, envP_nil, envX_nil⟩ Tryz.func57 rfl (by kernel_rfl)) runK_sub
noncomputable def value_Text_kp : PFn := closeF value_Text_ks
theorem value_Text_kpok : SoundP Tryz.prog G0 57 value_Text_kp := closeF_sound value_Text_kok
noncomputable def strings_Join_kp : PFn := strings_Join_F
theorem strings_Join_kpok : SoundP Tryz.prog G0 58 strings_Join_kp := strings_Join_Fok
def name_Quote_kH : Hints := { seqs := [(7, [0, 3, 4, 6, 7])], loops := [(3, [0, 3, 6, 7])], own := [] }
noncomputable def name_Quote_kE : Env := { pure := [], raw := [(33, strings_Builder_String_ks), (89, strings_Builder_WriteByte_ks)], glob := G0, same := [76], look := [], ext := [] }
noncomputable def name_Quote_ks : SFn := runK 60 Tryz.prog name_Quote_kE name_Quote_kH Tryz.f81
theorem name_Quote_kok : SoundS Tryz.prog G0 81 name_Quote_ks := soundS_sub (runF_sound (P := Tryz.prog) (E := name_Quote_kE) (h := name_Quote_kH) (f := 81) (fn := Tryz.f81) ⟨same_ok, envP_nil, (envS_cons strings_Builder_String_kok (envS_cons strings_Builder_WriteByte_kok envS_nil)), envP_nil, envX_nil⟩ Tryz.func81 rfl (by kernel_rfl)) runK_sub
noncomputable def name_Quote_kp : PFn := closeF name_Quote_ks
theorem name_Quote_kpok : SoundP Tryz.prog G0 81 name_Quote_kp := closeF_sound name_Quote_kok
def path_Text_kH : Hints := { seqs := [(7, [3])], loops := [(3, [3, 6, 7, 8])], own := [] }
noncomputable def path_Text_kE : Env := { pure := [(81, name_Quote_kp)], raw := [], glob := G0, same := [76], look := [(58, strings_Join_kp)], ext := [] }
noncomputable def path_Text_ks : SFn := runK 60 Tryz.prog path_Text_kE path_Text_kH Tryz.f59
theorem path_Text_kok : SoundS Tryz.prog G0 59 path_Text_ks := soundS_sub (runF_sound (P := Tryz.prog) (E := path_Text_kE) (h := path_Text_kH) (f := 59) (fn := Tryz.f59) ⟨same_ok, (envP_cons name_Quote_kpok envP_nil), envS_nil, (envP_cons strings_Join_kpok envP_nil), envX_nil⟩ Tryz.func59 rfl (by kernel_rfl)) runK_sub
noncomputable def path_Text_kp : PFn := closeF path_Text_ks
theorem path_Text_kpok : SoundP Tryz.prog G0 59 path_Text_kp := closeF_sound path_Text_kok
def view_Line_kH : Hints := { seqs := [(7, [1, 3])], loops := [(3, [1, 3, 8, 9, 10])], own := [] }
noncomputable def view_Line_kE : Env := { pure := [(57, value_Text_kp), (59, path_Text_kp), (60, strconv_Itoa_kp)], raw := [], glob := G0, same := [76], look := [(58, strings_Join_kp)], ext := [] }
noncomputable def view_Line_ks : SFn := runK 60 Tryz.prog view_Line_kE view_Line_kH Tryz.f32
theorem view_Line_kok : SoundS Tryz.prog G0 32 view_Line_ks := soundS_sub (runF_sound (P := Tryz.prog) (E := view_Line_kE) (h := view_Line_kH) (f := 32) (fn := Tryz.f32) ⟨same_ok, (envP_cons value_Text_kpok (envP_cons path_Text_kpok (envP_cons strconv_Itoa_kpok envP_nil))), envS_nil, (envP_cons strings_Join_kpok envP_nil), envX_nil⟩ Tryz.func32 rfl (by kernel_rfl)) runK_sub
noncomputable def view_Line_kp : PFn := closeF view_Line_ks
theorem view_Line_kpok : SoundP Tryz.prog G0 32 view_Line_kp := closeF_sound view_Line_kok
def strings_Builder_WriteString_kH : Hints := { seqs := [], loops := [], own := [] }
noncomputable def strings_Builder_WriteString_kE : Env := { pure := [], raw := [(56, strings_Builder_copyCheck_ks)], glob := G0, same := [76], look := [], ext := [] }
noncomputable def strings_Builder_WriteString_ks : SFn := runK 60 Tryz.prog strings_Builder_WriteString_kE strings_Builder_WriteString_kH Tryz.f31
theorem strings_Builder_WriteString_kok : SoundS Tryz.prog G0 31 strings_Builder_WriteString_ks := soundS_sub (runF_sound (P := Tryz.prog) (E := strings_Builder_WriteString_kE) (h := strings_Builder_WriteString_kH) (f := 31) (fn := Tryz.f31) ⟨same_ok, envP_nil, (envS_cons strings_Builder_copyCheck_kok envS_nil), envP_nil, envX_nil⟩ Tryz.func31 rfl (by kernel_rfl)) runK_sub
def change_Text_kH : Hints := { seqs := [(7, [3, 5, 6, 7, 8])], loops := [(3, [3, 6, 7, 8])], own := [] }
noncomputable def change_Text_kE : Env := { pure := [(32, view_Line_kp)], raw := [(31, strings_Builder_WriteString_ks), (33, strings_Builder_String_ks)], glob := G0, same := [76], look := [], ext := [] }
noncomputable def change_Text_ks : SFn := runK 60 Tryz.prog change_Text_kE change_Text_kH Tryz.f14
theorem change_Text_kok : SoundS Tryz.prog G0 14 change_Text_ks := soundS_sub (runF_sound (P := Tryz.prog) (E := change_Text_kE) (h := change_Text_kH) (f := 14) (fn := Tryz.f14) ⟨same_ok, (envP_cons view_Line_kpok envP_nil), (envS_cons strings_Builder_WriteString_kok (envS_cons strings_Builder_String_kok envS_nil)), envP_nil, envX_nil⟩ Tryz.func14 rfl (by kernel_rfl)) runK_sub
noncomputable def change_Text_kp : PFn := closeF change_Text_ks
theorem change_Text_kpok : SoundP Tryz.prog G0 14 change_Text_kp := closeF_sound change_Text_kok
def law39_awake_kH : Hints := { seqs := [], loops := [], own := [] }
noncomputable def law39_awake_kE : Env := { pure := [(10, change_Diff_kp), (14, change_Text_kp), (18, law39_entry_kp), (19, change_Apply_kp), (20, view_Same_kp)], raw := [], glob := G0, same := [76], look := [], ext := [] }
noncomputable def law39_awake_ks : SFn := runK 60 Tryz.prog law39_awake_kE law39_awake_kH Tryz.f5
theorem law39_awake_kok : SoundS Tryz.prog G0 5 law39_awake_ks := soundS_sub (runF_sound (P := Tryz.prog) (E := law39_awake_kE) (h := law39_awake_kH) (f := 5) (fn := Tryz.f5) ⟨same_ok, (envP_cons change_Diff_kpok (envP_cons change_Text_kpok (envP_cons law39_entry_kpok (envP_cons change_Apply_kpok (envP_cons view_Same_kpok envP_nil))))), envS_nil, envP_nil, envX_nil⟩ Tryz.func5 rfl (by kernel_rfl)) runK_sub
noncomputable def law39_awake_kp : PFn := closeF law39_awake_ks
theorem law39_awake_kpok : SoundP Tryz.prog G0 5 law39_awake_kp := closeF_sound law39_awake_kok
theorem law39_awake_kt : law39_awake_kp [] = some (.bool true) := by kernel_rfl
noncomputable def law39_awake_F : PFn := fun xs => match xs with | [] => some (.bool true) | _ => none
theorem law39_awake_Fok : SoundP Tryz.prog G0 5 law39_awake_F := soundP_at law39_awake_kpok law39_awake_kt
def law39_awake : Option Bool := some true
noncomputable def law39_awake_T : TFn := { ps := .unit, res := .bool, fn := fun _ => law39_awake }
theorem law39_awake_ok : TOk law39_awake_F law39_awake_T := given_bool rfl
end Go.Proofs.YtkoicblnbbncbaaGreatDoor.K
set_option linter.unusedVariables false
set_option maxRecDepth 100000
namespace Go.Proofs.YtkoicblnbbncbaaGreatDoor.L
open Go.EM Go.TY Go.Proofs Go.Proofs.YtkoicblnbbncbaaGreatDoor.Y Go.Proofs.YtkoicblnbbncbaaGreatDoor.K
-- palinode/palinodelaw39.ChangeDiffs
noncomputable def law39_ChangeDiffs_E : Env := { pure := [(4, law39_short_F), (5, law39_awake_F), (6, change_Right_F), (7, ref39_Right_F), (8, law39_Theirs_F), (9, law39_Good_F), (10, change_Diff_F), (11, law39_same_F), (12, law39_changes_F), (13, ref39_Diff_F), (14, change_Text_F), (15, ref39_Text_F)], raw := [], glob := G0, same := [76], look := [], ext := [] }
def law39_ChangeDiffs_H : Hints := { seqs := [], loops := [], own := [] }
noncomputable def law39_ChangeDiffs_F : PFn := closeF (runF Tryz.prog law39_ChangeDiffs_E law39_ChangeDiffs_H Tryz.f3)
def law39_ChangeDiffs_Y : TH := { joins := [], loops := [], cuts := [], ro := [], news := [] }
noncomputable def law39_ChangeDiffs (a0 : List (List (List UInt8) × Int × List (Int × Int × List UInt8 × Unit) × Int × Unit)) (a1 : List (List (List UInt8) × Int × List (Int × Int × List UInt8 × Unit) × Int × Unit)) : Option Bool :=
(law39_short a0).bind fun r1 =>
 cond (!r1) ((law39_awake).bind fun r2 =>
 some r2) ((law39_short a1).bind fun r3 =>
 cond (!r3) (
(law39_awake).bind fun r4 =>
 some r4) (
(change_Right a0).bind fun r5 =>
(law39_Theirs a0).bind fun r6 =>
(ref39_Right r6).bind fun r7 =>
 cond (!(r5 == r7)) (
 some false) (
(law39_Good a0).bind fun r8 =>
 cond (!r8) ((law39_awake).bind fun r9 =>
 some r9) ((law39_Good a1).bind fun r10 =>
 cond (!r10) (
(law39_awake).bind fun r11 =>
 some r11) (
(change_Diff a0 a1).bind fun r12 =>
(law39_changes r12).bind fun r13 =>
(law39_Theirs a0).bind fun r14 =>
(law39_Theirs a1).bind fun r15 =>
(ref39_Diff r14 r15).bind fun r16 =>
(law39_same r13 r16).bind fun r17 =>
 cond r17 ((change_Text r12).bind fun r18 =>
(law39_changes r12).bind fun r19 =>
(ref39_Text r19).bind fun r20 =>
 cond (decide (r18 = r20)) ((law39_awake).bind fun r21 =>
 some r21) (some false)) (some false))))))
noncomputable def law39_ChangeDiffs_T : TFn := { ps := (.cons (.sl (.agg (.cons (.sl .str) (.cons (.int .i64) (.cons (.sl (.agg (.cons (.int .i64) (.cons (.int .i64) (.cons .str .unit))))) (.cons (.int .i64) .unit)))))) (.cons (.sl (.agg (.cons (.sl .str) (.cons (.int .i64) (.cons (.sl (.agg (.cons (.int .i64) (.cons (.int .i64) (.cons .str .unit))))) (.cons (.int .i64) .unit)))))) .unit)), res := .bool, fn := fun v => law39_ChangeDiffs v.1 v.2.1 }
noncomputable def law39_ChangeDiffs_V : TEnv := { pure := [(4, law39_short_T), (5, law39_awake_T), (6, change_Right_T), (7, ref39_Right_T), (8, law39_Theirs_T), (9, law39_Good_T), (10, change_Diff_T), (11, law39_same_T), (12, law39_changes_T), (13, ref39_Diff_T), (14, change_Text_T), (15, ref39_Text_T)], look := [], glob := G0T, ty := [], raw := [], fresh := [] }
theorem law39_ChangeDiffs_eq : runY Tryz.prog law39_ChangeDiffs_E law39_ChangeDiffs_H law39_ChangeDiffs_V law39_ChangeDiffs_Y Tryz.f3 law39_ChangeDiffs_T.ps law39_ChangeDiffs_T.res = law39_ChangeDiffs_T.fn := by kernel_rfl
theorem law39_ChangeDiffs_Fok : SoundP Tryz.prog G0 3 law39_ChangeDiffs_F := closeF_sound (runF_sound (P := Tryz.prog) (E := law39_ChangeDiffs_E) (h := law39_ChangeDiffs_H) (f := 3) (fn := Tryz.f3) ⟨same_ok, (envP_cons law39_short_Fok (envP_cons law39_awake_Fok (envP_cons change_Right_Fok (envP_cons ref39_Right_Fok (envP_cons law39_Theirs_Fok (envP_cons law39_Good_Fok (envP_cons change_Diff_Fok (envP_cons law39_same_Fok (envP_cons law39_changes_Fok (envP_cons ref39_Diff_Fok (envP_cons change_Text_Fok (envP_cons ref39_Text_Fok envP_nil)))))))))))), envS_nil, envP_nil, envX_nil⟩ Tryz.func3 rfl (by kernel_rfl))
theorem law39_ChangeDiffs_ok : TOk law39_ChangeDiffs_F law39_ChangeDiffs_T := runY_ok (E := law39_ChangeDiffs_E) (ET := law39_ChangeDiffs_V) (EnvT.ofX (E := law39_ChangeDiffs_E) (ET := law39_ChangeDiffs_V) (pure_of (pairs_cons law39_short_ok (pairs_cons law39_awake_ok (pairs_cons change_Right_ok (pairs_cons ref39_Right_ok (pairs_cons law39_Theirs_ok (pairs_cons law39_Good_ok (pairs_cons change_Diff_ok (pairs_cons law39_same_ok (pairs_cons law39_changes_ok (pairs_cons ref39_Diff_ok (pairs_cons change_Text_ok (pairs_cons ref39_Text_ok pairs_nil))))))))))))) looks_nil raws_nil G0_ok news_nil) law39_ChangeDiffs_eq rfl
end Go.Proofs.YtkoicblnbbncbaaGreatDoor.L
