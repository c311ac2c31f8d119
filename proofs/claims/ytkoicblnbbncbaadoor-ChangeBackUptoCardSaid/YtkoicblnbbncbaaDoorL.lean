import Derived.Test.YtkoicblnbbncbaaDoorS
import Derived.Test.YtkoicblnbbncbaaDoorT24
import Derived.Test.YtkoicblnbbncbaaDoorE19
import Derived.Test.YtkoicblnbbncbaaDoorT14
set_option linter.unusedVariables false
set_option maxRecDepth 100000
namespace Go.Proofs.YtkoicblnbbncbaaDoor.Y
open Go.EM Go.TY Go.Proofs
noncomputable def G0 : List (Nat × AVal) := [(1, .rptr (Lib.pow10Tab.map (AVal.int .u64)))]
def G0T : List (Nat × TV) := []
theorem G0_ok : GlobsOk G0 G0T := globs_nil
theorem same_ok : ∀ f, memN f [67] = true → Same Tryd.prog f := by
  intro f h
  by_cases e67 : f = 67
  · subst e67; exact ⟨Tryd.f67, Tryd.func67, by kernel_rfl, by kernel_rfl, by kernel_rfl, by kernel_rfl⟩
  simp_all [memN]
-- palinode/palinoderef10.Short
noncomputable def ref10_Short_E : Env := { pure := [], raw := [], glob := G0, same := [67], look := [], ext := [] }
def ref10_Short_H : Hints := { seqs := [], loops := [(4, [0, 3])], own := [] }
noncomputable def ref10_Short_F : PFn := closeF (runF Tryd.prog ref10_Short_E ref10_Short_H Tryd.f21)
def ref10_Short_Y : TH := { joins := [], loops := [(4, { keep := [(3, (.int .i64))], mem := [] })], cuts := [], ro := [], news := [] }
noncomputable def ref10_Short_l4 (a0 : List (List UInt8)) (y4 : (Int × Unit)) : Option ((Int × Unit) ⊕ Bool) :=
 cond (decide (y4.1 < (a0.length : Int))) (
(atI a0 y4.1).bind fun x1 =>
 cond (decide ((x1.length : Int) > 120)) (
 some (.inr false)) (
 some (.inl ((IntKind.wrap .i64 (y4.1 + 1)), ())))) (
 some (.inr true))
noncomputable def ref10_Short (a0 : List (List UInt8)) : Option Bool :=
 cond (decide ((a0.length : Int) > 12)) (
 some false) (
 loopT (ref10_Short_l4 a0) (0, ()))
noncomputable def ref10_Short_T : TFn := { ps := (.cons (.sl .str) .unit), res := .bool, fn := fun v => ref10_Short v.1 }
noncomputable def ref10_Short_V : TEnv := { pure := [], look := [], glob := G0T, ty := [], raw := [], fresh := [] }
theorem ref10_Short_eq : runY Tryd.prog ref10_Short_E ref10_Short_H ref10_Short_V ref10_Short_Y Tryd.f21 ref10_Short_T.ps ref10_Short_T.res = ref10_Short_T.fn := by kernel_rfl
theorem ref10_Short_Fok : SoundP Tryd.prog G0 21 ref10_Short_F := closeF_sound (runF_sound (P := Tryd.prog) (E := ref10_Short_E) (h := ref10_Short_H) (f := 21) (fn := Tryd.f21) ⟨same_ok, envP_nil, envS_nil, envP_nil, envX_nil⟩ Tryd.func21 rfl (by kernel_rfl))
theorem ref10_Short_ok : TOk ref10_Short_F ref10_Short_T := runY_ok (E := ref10_Short_E) (ET := ref10_Short_V) (EnvT.ofX (E := ref10_Short_E) (ET := ref10_Short_V) (pure_of pairs_nil) looks_nil raws_nil G0_ok news_nil) ref10_Short_eq rfl
-- palinode/palinoderef03.Char
noncomputable def ref03_Char_E : Env := { pure := [], raw := [], glob := G0, same := [67], look := [], ext := [] }
def ref03_Char_H : Hints := { seqs := [], loops := [(17, [0, 4, 5, 6, 7])], own := [] }
noncomputable def ref03_Char_F : PFn := closeF (runF Tryd.prog ref03_Char_E ref03_Char_H Tryd.f60)
def ref03_Char_Y : TH := { joins := [(14, { keep := [(4, (.int .i64)), (5, (.int .i64)), (6, (.int .i64))], mem := [] }), (9, { keep := [(18, .bool)], mem := [] }), (22, { keep := [(4, (.int .i64))], mem := [] }), (24, { keep := [], mem := [] })], loops := [(17, { keep := [(4, (.int .i64)), (7, (.int .i64))], mem := [] })], cuts := [], ro := [], news := [] }
noncomputable def ref03_Char_l17 (a0 : List UInt8) (v3 : (Int × Int × Int × Unit)) (y17 : (Int × Int × Unit)) : Option ((Int × Int × Unit) ⊕ ((Int × Unit) ⊕ (Int × Int × Unit))) :=
 cond (decide (y17.2.1 < v3.2.1)) (
(atI a0 y17.2.1).bind fun b4 =>
 cond (decide ((b4.toNat : Int) < 128)) (some (.inr (.inr (0, 0, ())))) ((atI a0 y17.2.1).bind fun b5 =>
 cond (decide ((b5.toNat : Int) > 191)) (
 some (.inr (.inr (0, 0, ())))) (
(atI a0 y17.2.1).bind fun b6 =>
 some (.inl ((IntKind.wrap .i64 ((IntKind.wrap .i64 ((IntKind.wrap .i64 (64 * y17.1)) + (IntKind.wrap .i64 (b6.toNat : Int)))) - 128)), (IntKind.wrap .i64 (y17.2.1 + 1)), ()))))) (
 some (.inr (.inl (y17.1, ()))))
noncomputable def ref03_Char (a0 : List UInt8) : Option (Int × Int × Unit) :=
 cond (decide ((a0.length : Int) = 0)) (
 some (0, 0, ())) (
(atI a0 0).bind fun b1 =>
(cond (decide ((IntKind.wrap .i64 (b1.toNat : Int)) < 128)) (
 some (.inr ((IntKind.wrap .i64 (b1.toNat : Int)), 1, ()))) (
(cond (decide ((IntKind.wrap .i64 (b1.toNat : Int)) ≥ 194)) (some (.inl ((decide ((IntKind.wrap .i64 (b1.toNat : Int)) < 224)), ()))) (some (.inl (false, ()))) : Option ((Bool × Unit) ⊕ ((Int × Int × Int × Unit) ⊕ (Int × Int × Unit)))).bind (joinS fun v2 =>
 cond v2.1 (
 some (.inl ((IntKind.wrap .i64 ((IntKind.wrap .i64 (b1.toNat : Int)) - 192)), 2, 128, ()))) (
 cond (decide ((IntKind.wrap .i64 (b1.toNat : Int)) ≥ 224)) (cond (decide ((IntKind.wrap .i64 (b1.toNat : Int)) < 240)) (
 some (.inl ((IntKind.wrap .i64 ((IntKind.wrap .i64 (b1.toNat : Int)) - 224)), 3, 2048, ()))) (
 cond (decide ((IntKind.wrap .i64 (b1.toNat : Int)) ≥ 240)) (cond (decide ((IntKind.wrap .i64 (b1.toNat : Int)) < 245)) (
 some (.inl ((IntKind.wrap .i64 ((IntKind.wrap .i64 (b1.toNat : Int)) - 240)), 4, 65536, ()))) (
 some (.inr (0, 0, ())))) (some (.inr (0, 0, ()))))) (cond (decide ((IntKind.wrap .i64 (b1.toNat : Int)) ≥ 240)) (cond (decide ((IntKind.wrap .i64 (b1.toNat : Int)) < 245)) (
 some (.inl ((IntKind.wrap .i64 ((IntKind.wrap .i64 (b1.toNat : Int)) - 240)), 4, 65536, ()))) (
 some (.inr (0, 0, ())))) (some (.inr (0, 0, ()))))))) : Option ((Int × Int × Int × Unit) ⊕ (Int × Int × Unit))).bind (joinS fun v3 =>
 cond (decide ((a0.length : Int) < v3.2.1)) (
 some (0, 0, ())) (
(loopT (ref03_Char_l17 a0 v3) (v3.1, 1, ()) : Option ((Int × Unit) ⊕ (Int × Int × Unit))).bind (joinS fun v7 =>
(cond (decide (v7.1 < v3.2.2.1)) (some (.inr (0, 0, ()))) (cond (decide (v7.1 > 1114111)) (some (.inr (0, 0, ()))) (cond (decide (v7.1 ≥ 55296)) (cond (decide (v7.1 ≤ 57343)) (
 some (.inr (0, 0, ()))) (
 some (.inl ()))) (some (.inl ())))) : Option (Unit ⊕ (Int × Int × Unit))).bind (joinS fun v8 =>
 some (v7.1, v3.2.1, ()))))))
noncomputable def ref03_Char_T : TFn := { ps := (.cons .str .unit), res := (.tup (.cons (.int .i64) (.cons (.int .i64) .unit))), fn := fun v => ref03_Char v.1 }
noncomputable def ref03_Char_V : TEnv := { pure := [], look := [], glob := G0T, ty := [], raw := [], fresh := [] }
theorem ref03_Char_eq : runY Tryd.prog ref03_Char_E ref03_Char_H ref03_Char_V ref03_Char_Y Tryd.f60 ref03_Char_T.ps ref03_Char_T.res = ref03_Char_T.fn := by kernel_rfl
theorem ref03_Char_Fok : SoundP Tryd.prog G0 60 ref03_Char_F := closeF_sound (runF_sound (P := Tryd.prog) (E := ref03_Char_E) (h := ref03_Char_H) (f := 60) (fn := Tryd.f60) ⟨same_ok, envP_nil, envS_nil, envP_nil, envX_nil⟩ Tryd.func60 rfl (by kernel_rfl))
theorem ref03_Char_ok : TOk ref03_Char_F ref03_Char_T := runY_ok (E := ref03_Char_E) (ET := ref03_Char_V) (EnvT.ofX (E := ref03_Char_E) (ET := ref03_Char_V) (pure_of pairs_nil) looks_nil raws_nil G0_ok news_nil) ref03_Char_eq rfl
-- palinode/palinoderef03.Runes
noncomputable def ref03_Runes_E : Env := { pure := [(60, ref03_Char_F)], raw := [], glob := G0, same := [67], look := [], ext := [] }
def ref03_Runes_H : Hints := { seqs := [], loops := [(3, [0, 4, 5])], own := [] }
noncomputable def ref03_Runes_F : PFn := closeF (runF Tryd.prog ref03_Runes_E ref03_Runes_H Tryd.f43)
def ref03_Runes_Y : TH := { joins := [], loops := [(3, { keep := [(4, (.own 0)), (5, (.int .i64))], mem := [.row true 3 (.int .i64)] })], cuts := [], ro := [], news := [] }
noncomputable def ref03_Runes_l3 (a0 : List UInt8) (y3 : (Int × List Int × Unit)) : Option ((Int × List Int × Unit) ⊕ (List Int × Bool × Unit)) :=
 cond (decide (y3.1 < (a0.length : Int))) (
(subI a0 y3.1 (a0.length : Int)).bind fun s1 =>
(ref03_Char s1).bind fun r2 =>
 cond (decide (r2.2.1 = 0)) (
 some (.inr ([], false, ()))) (
(roomT (y3.2.1.length + ([r2.1] : List Int).length)).bind fun u3 =>
 some (.inl ((IntKind.wrap .i64 (y3.1 + r2.2.1)), (y3.2.1 ++ ([r2.1] : List Int)), ())))) (
 some (.inr (y3.2.1, true, ())))
noncomputable def ref03_Runes (a0 : List UInt8) : Option (List Int × Bool × Unit) :=
 loopT (ref03_Runes_l3 a0) (0, [], ())
noncomputable def ref03_Runes_T : TFn := { ps := (.cons .str .unit), res := (.tup (.cons (.sl (.int .i64)) (.cons .bool .unit))), fn := fun v => ref03_Runes v.1 }
noncomputable def ref03_Runes_V : TEnv := { pure := [(60, ref03_Char_T)], look := [], glob := G0T, ty := [(3, (.int .i64))], raw := [], fresh := [] }
theorem ref03_Runes_eq : runY Tryd.prog ref03_Runes_E ref03_Runes_H ref03_Runes_V ref03_Runes_Y Tryd.f43 ref03_Runes_T.ps ref03_Runes_T.res = ref03_Runes_T.fn := by kernel_rfl
theorem ref03_Runes_Fok : SoundP Tryd.prog G0 43 ref03_Runes_F := closeF_sound (runF_sound (P := Tryd.prog) (E := ref03_Runes_E) (h := ref03_Runes_H) (f := 43) (fn := Tryd.f43) ⟨same_ok, (envP_cons ref03_Char_Fok envP_nil), envS_nil, envP_nil, envX_nil⟩ Tryd.func43 rfl (by kernel_rfl))
theorem ref03_Runes_ok : TOk ref03_Runes_F ref03_Runes_T := runY_ok (E := ref03_Runes_E) (ET := ref03_Runes_V) (EnvT.ofX (E := ref03_Runes_E) (ET := ref03_Runes_V) (pure_of (pairs_cons ref03_Char_ok pairs_nil)) looks_nil raws_nil G0_ok news_nil) ref03_Runes_eq rfl
-- palinode/palinoderef09.Right
noncomputable def ref09_Right_E : Env := { pure := [(43, ref03_Runes_F)], raw := [], glob := G0, same := [67], look := [], ext := [] }
def ref09_Right_H : Hints := { seqs := [], loops := [], own := [] }
noncomputable def ref09_Right_F : PFn := closeF (runF Tryd.prog ref09_Right_E ref09_Right_H Tryd.f22)
def ref09_Right_Y : TH := { joins := [], loops := [], cuts := [], ro := [1], news := [] }
noncomputable def ref09_Right (a0 : (Int × Int × List UInt8 × Unit)) : Option Bool :=
 cond (decide (a0.1 = 1)) (
 cond (decide (a0.2.2.1 = [])) (cond (decide (a0.2.1 ≥ (-2147483647))) (some (decide (a0.2.1 ≤ 2147483647))) (some false)) (some false)) (
 cond (decide (a0.1 = 2)) (
(ref03_Runes a0.2.2.1).bind fun r1 =>
 cond (decide (a0.2.1 = 0)) (cond r1.2.1 (some (decide ((a0.2.2.1.length : Int) ≤ 64))) (some false)) (some false)) (
 cond (decide (a0.1 = 3)) (cond (decide (a0.2.2.1 = [])) (cond (decide (a0.2.1 ≥ 0)) (some (decide (a0.2.1 ≤ 1))) (some false)) (some false)) (some false)))
noncomputable def ref09_Right_T : TFn := { ps := (.cons (.agg (.cons (.int .i64) (.cons (.int .i64) (.cons .str .unit)))) .unit), res := .bool, fn := fun v => ref09_Right v.1 }
noncomputable def ref09_Right_V : TEnv := { pure := [(43, ref03_Runes_T)], look := [], glob := G0T, ty := [], raw := [], fresh := [] }
theorem ref09_Right_eq : runY Tryd.prog ref09_Right_E ref09_Right_H ref09_Right_V ref09_Right_Y Tryd.f22 ref09_Right_T.ps ref09_Right_T.res = ref09_Right_T.fn := by kernel_rfl
theorem ref09_Right_Fok : SoundP Tryd.prog G0 22 ref09_Right_F := closeF_sound (runF_sound (P := Tryd.prog) (E := ref09_Right_E) (h := ref09_Right_H) (f := 22) (fn := Tryd.f22) ⟨same_ok, (envP_cons ref03_Runes_Fok envP_nil), envS_nil, envP_nil, envX_nil⟩ Tryd.func22 rfl (by kernel_rfl))
theorem ref09_Right_ok : TOk ref09_Right_F ref09_Right_T := runY_ok (E := ref09_Right_E) (ET := ref09_Right_V) (EnvT.ofX (E := ref09_Right_E) (ET := ref09_Right_V) (pure_of (pairs_cons ref03_Runes_ok pairs_nil)) looks_nil raws_nil G0_ok news_nil) ref09_Right_eq rfl
-- palinode/palinodelaw39.short
noncomputable def law39_short_E : Env := { pure := [(21, ref10_Short_F), (22, ref09_Right_F)], raw := [], glob := G0, same := [67], look := [], ext := [] }
def law39_short_H : Hints := { seqs := [], loops := [(4, [0, 3]), (9, [0, 3, 4])], own := [] }
noncomputable def law39_short_F : PFn := closeF (runF Tryd.prog law39_short_E law39_short_H Tryd.f8)
def law39_short_Y : TH := { joins := [], loops := [(4, { keep := [(3, (.int .i64))], mem := [] }), (9, { keep := [(4, (.int .i64))], mem := [] })], cuts := [], ro := [], news := [] }
noncomputable def law39_short_l9 (y4 : (Int × Unit)) (a0 : List (List (List UInt8) × Int × List (Int × Int × List UInt8 × Unit) × Int × Unit)) (y9 : (Int × Unit)) : Option ((Int × Unit) ⊕ ((Int × Unit) ⊕ Bool)) :=
(atI a0 y4.1).bind fun x4 =>
 cond (decide (y9.1 < (x4.2.2.1.length : Int))) (
(atI a0 y4.1).bind fun x5 =>
(atI x5.2.2.1 y9.1).bind fun x6 =>
(ref09_Right x6).bind fun r7 =>
 cond (!r7) (
 some (.inr (.inr false))) (
 some (.inl ((IntKind.wrap .i64 (y9.1 + 1)), ())))) (
 some (.inr (.inl ((IntKind.wrap .i64 (y4.1 + 1)), ()))))
noncomputable def law39_short_l4 (a0 : List (List (List UInt8) × Int × List (Int × Int × List UInt8 × Unit) × Int × Unit)) (y4 : (Int × Unit)) : Option ((Int × Unit) ⊕ Bool) :=
 cond (decide (y4.1 < (a0.length : Int))) (
(atI a0 y4.1).bind fun x1 =>
(ref10_Short x1.1).bind fun r2 =>
 cond (!r2) (some (.inr false)) ((atI a0 y4.1).bind fun x3 =>
 cond (decide ((x3.2.2.1.length : Int) > 30)) (
 some (.inr false)) (
 loopT (law39_short_l9 y4 a0) (0, ())))) (
 some (.inr true))
noncomputable def law39_short (a0 : List (List (List UInt8) × Int × List (Int × Int × List UInt8 × Unit) × Int × Unit)) : Option Bool :=
 cond (decide ((a0.length : Int) > 30)) (
 some false) (
 loopT (law39_short_l4 a0) (0, ()))
noncomputable def law39_short_T : TFn := { ps := (.cons (.sl (.agg (.cons (.sl .str) (.cons (.int .i64) (.cons (.sl (.agg (.cons (.int .i64) (.cons (.int .i64) (.cons .str .unit))))) (.cons (.int .i64) .unit)))))) .unit), res := .bool, fn := fun v => law39_short v.1 }
noncomputable def law39_short_V : TEnv := { pure := [(21, ref10_Short_T), (22, ref09_Right_T)], look := [], glob := G0T, ty := [], raw := [], fresh := [] }
theorem law39_short_eq : runY Tryd.prog law39_short_E law39_short_H law39_short_V law39_short_Y Tryd.f8 law39_short_T.ps law39_short_T.res = law39_short_T.fn := by kernel_rfl
theorem law39_short_Fok : SoundP Tryd.prog G0 8 law39_short_F := closeF_sound (runF_sound (P := Tryd.prog) (E := law39_short_E) (h := law39_short_H) (f := 8) (fn := Tryd.f8) ⟨same_ok, (envP_cons ref10_Short_Fok (envP_cons ref09_Right_Fok envP_nil)), envS_nil, envP_nil, envX_nil⟩ Tryd.func8 rfl (by kernel_rfl))
theorem law39_short_ok : TOk law39_short_F law39_short_T := runY_ok (E := law39_short_E) (ET := law39_short_V) (EnvT.ofX (E := law39_short_E) (ET := law39_short_V) (pure_of (pairs_cons ref10_Short_ok (pairs_cons ref09_Right_ok pairs_nil))) looks_nil raws_nil G0_ok news_nil) law39_short_eq rfl
-- palinode/palinodelaw39.Theirs
noncomputable def law39_Theirs_E : Env := { pure := [], raw := [], glob := G0, same := [67], look := [], ext := [] }
def law39_Theirs_H : Hints := { seqs := [], loops := [(3, [0, 3, 4])], own := [] }
noncomputable def law39_Theirs_F : PFn := closeF (runF Tryd.prog law39_Theirs_E law39_Theirs_H Tryd.f11)
def law39_Theirs_Y : TH := { joins := [], loops := [(3, { keep := [(3, (.own 0)), (4, (.int .i64))], mem := [.row true 64 (.agg (.cons (.sl .str) (.cons (.int .i64) (.cons (.sl (.agg (.cons (.int .i64) (.cons (.int .i64) (.cons .str .unit))))) (.cons (.int .i64) .unit)))))] })], cuts := [], ro := [], news := [] }
noncomputable def law39_Theirs_l3 (a0 : List (List (List UInt8) × Int × List (Int × Int × List UInt8 × Unit) × Int × Unit)) (y3 : (Int × List (List (List UInt8) × Int × List (Int × Int × List UInt8 × Unit) × Int × Unit) × Unit)) : Option ((Int × List (List (List UInt8) × Int × List (Int × Int × List UInt8 × Unit) × Int × Unit) × Unit) ⊕ List (List (List UInt8) × Int × List (Int × Int × List UInt8 × Unit) × Int × Unit)) :=
 cond (decide (y3.1 < (a0.length : Int))) (
(atI a0 y3.1).bind fun x1 =>
(atI a0 y3.1).bind fun x2 =>
(atI a0 y3.1).bind fun x3 =>
(atI a0 y3.1).bind fun x4 =>
(roomT (y3.2.1.length + ([(x1.1, x2.2.1, x3.2.2.1, x4.2.2.2.1, ())] : List (List (List UInt8) × Int × List (Int × Int × List UInt8 × Unit) × Int × Unit)).length)).bind fun u5 =>
 some (.inl ((IntKind.wrap .i64 (y3.1 + 1)), (y3.2.1 ++ ([(x1.1, x2.2.1, x3.2.2.1, x4.2.2.2.1, ())] : List (List (List UInt8) × Int × List (Int × Int × List UInt8 × Unit) × Int × Unit))), ()))) (
 some (.inr y3.2.1))
noncomputable def law39_Theirs (a0 : List (List (List UInt8) × Int × List (Int × Int × List UInt8 × Unit) × Int × Unit)) : Option (List (List (List UInt8) × Int × List (Int × Int × List UInt8 × Unit) × Int × Unit)) :=
 loopT (law39_Theirs_l3 a0) (0, [], ())
noncomputable def law39_Theirs_T : TFn := { ps := (.cons (.sl (.agg (.cons (.sl .str) (.cons (.int .i64) (.cons (.sl (.agg (.cons (.int .i64) (.cons (.int .i64) (.cons .str .unit))))) (.cons (.int .i64) .unit)))))) .unit), res := (.sl (.agg (.cons (.sl .str) (.cons (.int .i64) (.cons (.sl (.agg (.cons (.int .i64) (.cons (.int .i64) (.cons .str .unit))))) (.cons (.int .i64) .unit)))))), fn := fun v => law39_Theirs v.1 }
noncomputable def law39_Theirs_V : TEnv := { pure := [], look := [], glob := G0T, ty := [(64, (.agg (.cons (.sl .str) (.cons (.int .i64) (.cons (.sl (.agg (.cons (.int .i64) (.cons (.int .i64) (.cons .str .unit))))) (.cons (.int .i64) .unit))))))], raw := [], fresh := [] }
theorem law39_Theirs_eq : runY Tryd.prog law39_Theirs_E law39_Theirs_H law39_Theirs_V law39_Theirs_Y Tryd.f11 law39_Theirs_T.ps law39_Theirs_T.res = law39_Theirs_T.fn := by kernel_rfl
theorem law39_Theirs_Fok : SoundP Tryd.prog G0 11 law39_Theirs_F := closeF_sound (runF_sound (P := Tryd.prog) (E := law39_Theirs_E) (h := law39_Theirs_H) (f := 11) (fn := Tryd.f11) ⟨same_ok, envP_nil, envS_nil, envP_nil, envX_nil⟩ Tryd.func11 rfl (by kernel_rfl))
theorem law39_Theirs_ok : TOk law39_Theirs_F law39_Theirs_T := runY_ok (E := law39_Theirs_E) (ET := law39_Theirs_V) (EnvT.ofX (E := law39_Theirs_E) (ET := law39_Theirs_V) (pure_of pairs_nil) looks_nil raws_nil G0_ok news_nil) law39_Theirs_eq rfl
-- palinode/palinoderef03.may
noncomputable def ref03_may_E : Env := { pure := [], raw := [], glob := G0, same := [67], look := [], ext := [] }
def ref03_may_H : Hints := { seqs := [], loops := [], own := [] }
noncomputable def ref03_may_F : PFn := closeF (runF Tryd.prog ref03_may_E ref03_may_H Tryd.f66)
def ref03_may_Y : TH := { joins := [], loops := [], cuts := [], ro := [], news := [] }
noncomputable def ref03_may (a0 : Int) : Option Bool :=
 cond (decide (a0 ≥ 32)) (cond (decide (a0 < 127)) (some (!decide (a0 = 65533))) (cond (decide (a0 > 159)) (some (!decide (a0 = 65533))) (some false))) (some false)
noncomputable def ref03_may_T : TFn := { ps := (.cons (.int .i64) .unit), res := .bool, fn := fun v => ref03_may v.1 }
noncomputable def ref03_may_V : TEnv := { pure := [], look := [], glob := G0T, ty := [], raw := [], fresh := [] }
theorem ref03_may_eq : runY Tryd.prog ref03_may_E ref03_may_H ref03_may_V ref03_may_Y Tryd.f66 ref03_may_T.ps ref03_may_T.res = ref03_may_T.fn := by kernel_rfl
theorem ref03_may_Fok : SoundP Tryd.prog G0 66 ref03_may_F := closeF_sound (runF_sound (P := Tryd.prog) (E := ref03_may_E) (h := ref03_may_H) (f := 66) (fn := Tryd.f66) ⟨same_ok, envP_nil, envS_nil, envP_nil, envX_nil⟩ Tryd.func66 rfl (by kernel_rfl))
theorem ref03_may_ok : TOk ref03_may_F ref03_may_T := runY_ok (E := ref03_may_E) (ET := ref03_may_V) (EnvT.ofX (E := ref03_may_E) (ET := ref03_may_V) (pure_of pairs_nil) looks_nil raws_nil G0_ok news_nil) ref03_may_eq rfl
-- palinode/palinoderef03.Right
noncomputable def ref03_Right_E : Env := { pure := [(43, ref03_Runes_F), (66, ref03_may_F)], raw := [], glob := G0, same := [67], look := [], ext := [] }
def ref03_Right_H : Hints := { seqs := [], loops := [(3, [3, 4, 5])], own := [] }
noncomputable def ref03_Right_F : PFn := closeF (runF Tryd.prog ref03_Right_E ref03_Right_H Tryd.f54)
def ref03_Right_Y : TH := { joins := [(7, { keep := [], mem := [] })], loops := [(3, { keep := [(5, (.int .i64))], mem := [] })], cuts := [], ro := [], news := [] }
noncomputable def ref03_Right_l3 (r1 : (List Int × Bool × Unit)) (y3 : (Int × Unit)) : Option ((Int × Unit) ⊕ (Unit ⊕ Bool)) :=
 cond (decide (y3.1 < (r1.1.length : Int))) (
(atI r1.1 y3.1).bind fun x2 =>
(ref03_may x2).bind fun r3 =>
 cond (!r3) (
 some (.inr (.inr false))) (
 some (.inl ((IntKind.wrap .i64 (y3.1 + 1)), ())))) (
 some (.inr (.inl ())))
noncomputable def ref03_Right (a0 : List UInt8) : Option Bool :=
(ref03_Runes a0).bind fun r1 =>
(loopT (ref03_Right_l3 r1) (0, ()) : Option (Unit ⊕ Bool)).bind (joinS fun v4 =>
 cond r1.2.1 (cond (decide ((r1.1.length : Int) ≥ 1)) (some (decide ((r1.1.length : Int) ≤ 24))) (some false)) (some false))
noncomputable def ref03_Right_T : TFn := { ps := (.cons .str .unit), res := .bool, fn := fun v => ref03_Right v.1 }
noncomputable def ref03_Right_V : TEnv := { pure := [(43, ref03_Runes_T), (66, ref03_may_T)], look := [], glob := G0T, ty := [], raw := [], fresh := [] }
theorem ref03_Right_eq : runY Tryd.prog ref03_Right_E ref03_Right_H ref03_Right_V ref03_Right_Y Tryd.f54 ref03_Right_T.ps ref03_Right_T.res = ref03_Right_T.fn := by kernel_rfl
theorem ref03_Right_Fok : SoundP Tryd.prog G0 54 ref03_Right_F := closeF_sound (runF_sound (P := Tryd.prog) (E := ref03_Right_E) (h := ref03_Right_H) (f := 54) (fn := Tryd.f54) ⟨same_ok, (envP_cons ref03_Runes_Fok (envP_cons ref03_may_Fok envP_nil)), envS_nil, envP_nil, envX_nil⟩ Tryd.func54 rfl (by kernel_rfl))
theorem ref03_Right_ok : TOk ref03_Right_F ref03_Right_T := runY_ok (E := ref03_Right_E) (ET := ref03_Right_V) (EnvT.ofX (E := ref03_Right_E) (ET := ref03_Right_V) (pure_of (pairs_cons ref03_Runes_ok (pairs_cons ref03_may_ok pairs_nil))) looks_nil raws_nil G0_ok news_nil) ref03_Right_eq rfl
-- palinode/palinoderef10.Check
noncomputable def ref10_Check_E : Env := { pure := [(54, ref03_Right_F)], raw := [], glob := G0, same := [67], look := [], ext := [] }
def ref10_Check_H : Hints := { seqs := [], loops := [(6, [0, 3])], own := [] }
noncomputable def ref10_Check_F : PFn := closeF (runF Tryd.prog ref10_Check_E ref10_Check_H Tryd.f39)
def ref10_Check_Y : TH := { joins := [], loops := [(6, { keep := [(3, (.int .i64))], mem := [] })], cuts := [], ro := [], news := [] }
noncomputable def ref10_Check_l6 (a0 : List (List UInt8)) (y6 : (Int × Unit)) : Option ((Int × Unit) ⊕ Int) :=
 cond (decide (y6.1 < (a0.length : Int))) (
(atI a0 y6.1).bind fun x1 =>
(ref03_Right x1).bind fun r2 =>
 cond (!r2) (
 some (.inr 8)) (
 some (.inl ((IntKind.wrap .i64 (y6.1 + 1)), ())))) (
 some (.inr 0))
noncomputable def ref10_Check (a0 : List (List UInt8)) : Option Int :=
 cond (decide ((a0.length : Int) = 0)) (
 some 8) (
 cond (decide ((a0.length : Int) > 8)) (
 some 9) (
 loopT (ref10_Check_l6 a0) (0, ())))
noncomputable def ref10_Check_T : TFn := { ps := (.cons (.sl .str) .unit), res := (.int .i64), fn := fun v => ref10_Check v.1 }
noncomputable def ref10_Check_V : TEnv := { pure := [(54, ref03_Right_T)], look := [], glob := G0T, ty := [], raw := [], fresh := [] }
theorem ref10_Check_eq : runY Tryd.prog ref10_Check_E ref10_Check_H ref10_Check_V ref10_Check_Y Tryd.f39 ref10_Check_T.ps ref10_Check_T.res = ref10_Check_T.fn := by kernel_rfl
theorem ref10_Check_Fok : SoundP Tryd.prog G0 39 ref10_Check_F := closeF_sound (runF_sound (P := Tryd.prog) (E := ref10_Check_E) (h := ref10_Check_H) (f := 39) (fn := Tryd.f39) ⟨same_ok, (envP_cons ref03_Right_Fok envP_nil), envS_nil, envP_nil, envX_nil⟩ Tryd.func39 rfl (by kernel_rfl))
theorem ref10_Check_ok : TOk ref10_Check_F ref10_Check_T := runY_ok (E := ref10_Check_E) (ET := ref10_Check_V) (EnvT.ofX (E := ref10_Check_E) (ET := ref10_Check_V) (pure_of (pairs_cons ref03_Right_ok pairs_nil)) looks_nil raws_nil G0_ok news_nil) ref10_Check_eq rfl
-- palinode/palinoderef09.ints
noncomputable def ref09_ints_E : Env := { pure := [], raw := [], glob := G0, same := [67], look := [], ext := [] }
def ref09_ints_H : Hints := { seqs := [], loops := [], own := [] }
noncomputable def ref09_ints_F : PFn := closeF (runF Tryd.prog ref09_ints_E ref09_ints_H Tryd.f76)
def ref09_ints_Y : TH := { joins := [], loops := [], cuts := [], ro := [], news := [] }
noncomputable def ref09_ints (a0 : Int) (a1 : Int) : Option Int :=
 cond (decide (a0 < a1)) (
 some (-1)) (
 cond (decide (a0 > a1)) (
 some 1) (
 some 0))
noncomputable def ref09_ints_T : TFn := { ps := (.cons (.int .i64) (.cons (.int .i64) .unit)), res := (.int .i64), fn := fun v => ref09_ints v.1 v.2.1 }
noncomputable def ref09_ints_V : TEnv := { pure := [], look := [], glob := G0T, ty := [], raw := [], fresh := [] }
theorem ref09_ints_eq : runY Tryd.prog ref09_ints_E ref09_ints_H ref09_ints_V ref09_ints_Y Tryd.f76 ref09_ints_T.ps ref09_ints_T.res = ref09_ints_T.fn := by kernel_rfl
theorem ref09_ints_Fok : SoundP Tryd.prog G0 76 ref09_ints_F := closeF_sound (runF_sound (P := Tryd.prog) (E := ref09_ints_E) (h := ref09_ints_H) (f := 76) (fn := Tryd.f76) ⟨same_ok, envP_nil, envS_nil, envP_nil, envX_nil⟩ Tryd.func76 rfl (by kernel_rfl))
theorem ref09_ints_ok : TOk ref09_ints_F ref09_ints_T := runY_ok (E := ref09_ints_E) (ET := ref09_ints_V) (EnvT.ofX (E := ref09_ints_E) (ET := ref09_ints_V) (pure_of pairs_nil) looks_nil raws_nil G0_ok news_nil) ref09_ints_eq rfl
-- palinode/palinoderef09.Texts
noncomputable def ref09_Texts_E : Env := { pure := [(76, ref09_ints_F)], raw := [], glob := G0, same := [67], look := [], ext := [] }
def ref09_Texts_H : Hints := { seqs := [], loops := [(2, [0, 1, 5])], own := [] }
noncomputable def ref09_Texts_F : PFn := closeF (runF Tryd.prog ref09_Texts_E ref09_Texts_H Tryd.f64)
def ref09_Texts_Y : TH := { joins := [(6, { keep := [], mem := [] })], loops := [(2, { keep := [(5, (.int .i64))], mem := [] })], cuts := [], ro := [], news := [] }
noncomputable def ref09_Texts_l2 (a0 : List UInt8) (a1 : List UInt8) (y2 : (Int × Unit)) : Option ((Int × Unit) ⊕ (Unit ⊕ Int)) :=
 cond (decide (y2.1 < (a0.length : Int))) (cond (decide (y2.1 < (a1.length : Int))) (
(atI a0 y2.1).bind fun b1 =>
(atI a1 y2.1).bind fun b2 =>
 cond (!decide ((b1.toNat : Int) = (b2.toNat : Int))) (
(atI a0 y2.1).bind fun b3 =>
(atI a1 y2.1).bind fun b4 =>
(ref09_ints (IntKind.wrap .i64 (b3.toNat : Int)) (IntKind.wrap .i64 (b4.toNat : Int))).bind fun r5 =>
 some (.inr (.inr r5))) (
 some (.inl ((IntKind.wrap .i64 (y2.1 + 1)), ())))) (
 some (.inr (.inl ())))) (some (.inr (.inl ())))
noncomputable def ref09_Texts (a0 : List UInt8) (a1 : List UInt8) : Option Int :=
(loopT (ref09_Texts_l2 a0 a1) (0, ()) : Option (Unit ⊕ Int)).bind (joinS fun v6 =>
(ref09_ints (a0.length : Int) (a1.length : Int)).bind fun r7 =>
 some r7)
noncomputable def ref09_Texts_T : TFn := { ps := (.cons .str (.cons .str .unit)), res := (.int .i64), fn := fun v => ref09_Texts v.1 v.2.1 }
noncomputable def ref09_Texts_V : TEnv := { pure := [(76, ref09_ints_T)], look := [], glob := G0T, ty := [], raw := [], fresh := [] }
theorem ref09_Texts_eq : runY Tryd.prog ref09_Texts_E ref09_Texts_H ref09_Texts_V ref09_Texts_Y Tryd.f64 ref09_Texts_T.ps ref09_Texts_T.res = ref09_Texts_T.fn := by kernel_rfl
theorem ref09_Texts_Fok : SoundP Tryd.prog G0 64 ref09_Texts_F := closeF_sound (runF_sound (P := Tryd.prog) (E := ref09_Texts_E) (h := ref09_Texts_H) (f := 64) (fn := Tryd.f64) ⟨same_ok, (envP_cons ref09_ints_Fok envP_nil), envS_nil, envP_nil, envX_nil⟩ Tryd.func64 rfl (by kernel_rfl))
theorem ref09_Texts_ok : TOk ref09_Texts_F ref09_Texts_T := runY_ok (E := ref09_Texts_E) (ET := ref09_Texts_V) (EnvT.ofX (E := ref09_Texts_E) (ET := ref09_Texts_V) (pure_of (pairs_cons ref09_ints_ok pairs_nil)) looks_nil raws_nil G0_ok news_nil) ref09_Texts_eq rfl
-- palinode/palinoderef10.Compare
noncomputable def ref10_Compare_E : Env := { pure := [(64, ref09_Texts_F)], raw := [], glob := G0, same := [67], look := [], ext := [] }
def ref10_Compare_H : Hints := { seqs := [], loops := [(2, [0, 1, 5])], own := [] }
noncomputable def ref10_Compare_F : PFn := closeF (runF Tryd.prog ref10_Compare_E ref10_Compare_H Tryd.f51)
def ref10_Compare_Y : TH := { joins := [(7, { keep := [], mem := [] })], loops := [(2, { keep := [(5, (.int .i64))], mem := [] })], cuts := [], ro := [], news := [] }
noncomputable def ref10_Compare_l2 (a0 : List (List UInt8)) (a1 : List (List UInt8)) (y2 : (Int × Unit)) : Option ((Int × Unit) ⊕ (Unit ⊕ Int)) :=
 cond (decide (y2.1 < (a0.length : Int))) (cond (decide (y2.1 < (a1.length : Int))) (
(atI a0 y2.1).bind fun x1 =>
(atI a1 y2.1).bind fun x2 =>
(ref09_Texts x1 x2).bind fun r3 =>
 cond (!decide (r3 = 0)) (
 some (.inr (.inr r3))) (
 some (.inl ((IntKind.wrap .i64 (y2.1 + 1)), ())))) (
 some (.inr (.inl ())))) (some (.inr (.inl ())))
noncomputable def ref10_Compare (a0 : List (List UInt8)) (a1 : List (List UInt8)) : Option Int :=
(loopT (ref10_Compare_l2 a0 a1) (0, ()) : Option (Unit ⊕ Int)).bind (joinS fun v4 =>
 cond (decide ((a0.length : Int) < (a1.length : Int))) (
 some (-1)) (
 cond (decide ((a0.length : Int) > (a1.length : Int))) (
 some 1) (
 some 0)))
noncomputable def ref10_Compare_T : TFn := { ps := (.cons (.sl .str) (.cons (.sl .str) .unit)), res := (.int .i64), fn := fun v => ref10_Compare v.1 v.2.1 }
noncomputable def ref10_Compare_V : TEnv := { pure := [(64, ref09_Texts_T)], look := [], glob := G0T, ty := [], raw := [], fresh := [] }
theorem ref10_Compare_eq : runY Tryd.prog ref10_Compare_E ref10_Compare_H ref10_Compare_V ref10_Compare_Y Tryd.f51 ref10_Compare_T.ps ref10_Compare_T.res = ref10_Compare_T.fn := by kernel_rfl
theorem ref10_Compare_Fok : SoundP Tryd.prog G0 51 ref10_Compare_F := closeF_sound (runF_sound (P := Tryd.prog) (E := ref10_Compare_E) (h := ref10_Compare_H) (f := 51) (fn := Tryd.f51) ⟨same_ok, (envP_cons ref09_Texts_Fok envP_nil), envS_nil, envP_nil, envX_nil⟩ Tryd.func51 rfl (by kernel_rfl))
theorem ref10_Compare_ok : TOk ref10_Compare_F ref10_Compare_T := runY_ok (E := ref10_Compare_E) (ET := ref10_Compare_V) (EnvT.ofX (E := ref10_Compare_E) (ET := ref10_Compare_V) (pure_of (pairs_cons ref09_Texts_ok pairs_nil)) looks_nil raws_nil G0_ok news_nil) ref10_Compare_eq rfl
-- palinode/palinoderef39.compare
noncomputable def ref39_compare_E : Env := { pure := [(51, ref10_Compare_F)], raw := [], glob := G0, same := [67], look := [], ext := [] }
def ref39_compare_H : Hints := { seqs := [], loops := [], own := [] }
noncomputable def ref39_compare_F : PFn := closeF (runF Tryd.prog ref39_compare_E ref39_compare_H Tryd.f34)
def ref39_compare_Y : TH := { joins := [], loops := [], cuts := [], ro := [2, 3], news := [] }
noncomputable def ref39_compare (a0 : (List (List UInt8) × Int × List (Int × Int × List UInt8 × Unit) × Int × Unit)) (a1 : (List (List UInt8) × Int × List (Int × Int × List UInt8 × Unit) × Int × Unit)) : Option Int :=
(ref10_Compare a0.1 a1.1).bind fun r1 =>
 cond (!decide (r1 = 0)) (
 some r1) (
 cond (decide (a0.2.1 < a1.2.1)) (
 some (-1)) (
 cond (decide (a0.2.1 > a1.2.1)) (
 some 1) (
 some 0)))
noncomputable def ref39_compare_T : TFn := { ps := (.cons (.agg (.cons (.sl .str) (.cons (.int .i64) (.cons (.sl (.agg (.cons (.int .i64) (.cons (.int .i64) (.cons .str .unit))))) (.cons (.int .i64) .unit))))) (.cons (.agg (.cons (.sl .str) (.cons (.int .i64) (.cons (.sl (.agg (.cons (.int .i64) (.cons (.int .i64) (.cons .str .unit))))) (.cons (.int .i64) .unit))))) .unit)), res := (.int .i64), fn := fun v => ref39_compare v.1 v.2.1 }
noncomputable def ref39_compare_V : TEnv := { pure := [(51, ref10_Compare_T)], look := [], glob := G0T, ty := [], raw := [], fresh := [] }
theorem ref39_compare_eq : runY Tryd.prog ref39_compare_E ref39_compare_H ref39_compare_V ref39_compare_Y Tryd.f34 ref39_compare_T.ps ref39_compare_T.res = ref39_compare_T.fn := by kernel_rfl
theorem ref39_compare_Fok : SoundP Tryd.prog G0 34 ref39_compare_F := closeF_sound (runF_sound (P := Tryd.prog) (E := ref39_compare_E) (h := ref39_compare_H) (f := 34) (fn := Tryd.f34) ⟨same_ok, (envP_cons ref10_Compare_Fok envP_nil), envS_nil, envP_nil, envX_nil⟩ Tryd.func34 rfl (by kernel_rfl))
theorem ref39_compare_ok : TOk ref39_compare_F ref39_compare_T := runY_ok (E := ref39_compare_E) (ET := ref39_compare_V) (EnvT.ofX (E := ref39_compare_E) (ET := ref39_compare_V) (pure_of (pairs_cons ref10_Compare_ok pairs_nil)) looks_nil raws_nil G0_ok news_nil) ref39_compare_eq rfl
-- palinode/palinoderef39.Right
noncomputable def ref39_Right_E : Env := { pure := [(34, ref39_compare_F), (39, ref10_Check_F)], raw := [], glob := G0, same := [67], look := [], ext := [] }
def ref39_Right_H : Hints := { seqs := [], loops := [(2, [0, 3])], own := [] }
noncomputable def ref39_Right_F : PFn := closeF (runF Tryd.prog ref39_Right_E ref39_Right_H Tryd.f18)
def ref39_Right_Y : TH := { joins := [], loops := [(2, { keep := [(3, (.int .i64))], mem := [] })], cuts := [], ro := [], news := [] }
noncomputable def ref39_Right_l2 (a0 : List (List (List UInt8) × Int × List (Int × Int × List UInt8 × Unit) × Int × Unit)) (y2 : (Int × Unit)) : Option ((Int × Unit) ⊕ Bool) :=
 cond (decide (y2.1 < (a0.length : Int))) (
(atI a0 y2.1).bind fun x1 =>
 cond (decide (x1.2.1 < 1)) (some (.inr false)) ((atI a0 y2.1).bind fun x2 =>
 cond (decide (x2.2.1 > 3)) (some (.inr false)) ((atI a0 y2.1).bind fun x3 =>
(ref10_Check x3.1).bind fun r4 =>
 cond (!decide (r4 = 0)) (
 some (.inr false)) (
 cond (decide (y2.1 > 0)) ((atI a0 (IntKind.wrap .i64 (y2.1 - 1))).bind fun x5 =>
(atI a0 y2.1).bind fun x6 =>
(ref39_compare x5 x6).bind fun r7 =>
 cond (!decide (r7 = (-1))) (
 some (.inr false)) (
 some (.inl ((IntKind.wrap .i64 (y2.1 + 1)), ())))) (some (.inl ((IntKind.wrap .i64 (y2.1 + 1)), ()))))))) (
 some (.inr true))
noncomputable def ref39_Right (a0 : List (List (List UInt8) × Int × List (Int × Int × List UInt8 × Unit) × Int × Unit)) : Option Bool :=
 loopT (ref39_Right_l2 a0) (0, ())
noncomputable def ref39_Right_T : TFn := { ps := (.cons (.sl (.agg (.cons (.sl .str) (.cons (.int .i64) (.cons (.sl (.agg (.cons (.int .i64) (.cons (.int .i64) (.cons .str .unit))))) (.cons (.int .i64) .unit)))))) .unit), res := .bool, fn := fun v => ref39_Right v.1 }
noncomputable def ref39_Right_V : TEnv := { pure := [(34, ref39_compare_T), (39, ref10_Check_T)], look := [], glob := G0T, ty := [], raw := [], fresh := [] }
theorem ref39_Right_eq : runY Tryd.prog ref39_Right_E ref39_Right_H ref39_Right_V ref39_Right_Y Tryd.f18 ref39_Right_T.ps ref39_Right_T.res = ref39_Right_T.fn := by kernel_rfl
theorem ref39_Right_Fok : SoundP Tryd.prog G0 18 ref39_Right_F := closeF_sound (runF_sound (P := Tryd.prog) (E := ref39_Right_E) (h := ref39_Right_H) (f := 18) (fn := Tryd.f18) ⟨same_ok, (envP_cons ref39_compare_Fok (envP_cons ref10_Check_Fok envP_nil)), envS_nil, envP_nil, envX_nil⟩ Tryd.func18 rfl (by kernel_rfl))
theorem ref39_Right_ok : TOk ref39_Right_F ref39_Right_T := runY_ok (E := ref39_Right_E) (ET := ref39_Right_V) (EnvT.ofX (E := ref39_Right_E) (ET := ref39_Right_V) (pure_of (pairs_cons ref39_compare_ok (pairs_cons ref10_Check_ok pairs_nil))) looks_nil raws_nil G0_ok news_nil) ref39_Right_eq rfl
-- palinode/palinodelaw39.Good
noncomputable def law39_Good_E : Env := { pure := [(8, law39_short_F), (11, law39_Theirs_F), (18, ref39_Right_F)], raw := [], glob := G0, same := [67], look := [], ext := [] }
def law39_Good_H : Hints := { seqs := [], loops := [], own := [] }
noncomputable def law39_Good_F : PFn := closeF (runF Tryd.prog law39_Good_E law39_Good_H Tryd.f6)
def law39_Good_Y : TH := { joins := [], loops := [], cuts := [], ro := [], news := [] }
noncomputable def law39_Good (a0 : List (List (List UInt8) × Int × List (Int × Int × List UInt8 × Unit) × Int × Unit)) : Option Bool :=
(law39_short a0).bind fun r1 =>
 cond r1 ((law39_Theirs a0).bind fun r2 =>
(ref39_Right r2).bind fun r3 =>
 some r3) (some false)
noncomputable def law39_Good_T : TFn := { ps := (.cons (.sl (.agg (.cons (.sl .str) (.cons (.int .i64) (.cons (.sl (.agg (.cons (.int .i64) (.cons (.int .i64) (.cons .str .unit))))) (.cons (.int .i64) .unit)))))) .unit), res := .bool, fn := fun v => law39_Good v.1 }
noncomputable def law39_Good_V : TEnv := { pure := [(8, law39_short_T), (11, law39_Theirs_T), (18, ref39_Right_T)], look := [], glob := G0T, ty := [], raw := [], fresh := [] }
theorem law39_Good_eq : runY Tryd.prog law39_Good_E law39_Good_H law39_Good_V law39_Good_Y Tryd.f6 law39_Good_T.ps law39_Good_T.res = law39_Good_T.fn := by kernel_rfl
theorem law39_Good_Fok : SoundP Tryd.prog G0 6 law39_Good_F := closeF_sound (runF_sound (P := Tryd.prog) (E := law39_Good_E) (h := law39_Good_H) (f := 6) (fn := Tryd.f6) ⟨same_ok, (envP_cons law39_short_Fok (envP_cons law39_Theirs_Fok (envP_cons ref39_Right_Fok envP_nil))), envS_nil, envP_nil, envX_nil⟩ Tryd.func6 rfl (by kernel_rfl))
theorem law39_Good_ok : TOk law39_Good_F law39_Good_T := runY_ok (E := law39_Good_E) (ET := law39_Good_V) (EnvT.ofX (E := law39_Good_E) (ET := law39_Good_V) (pure_of (pairs_cons law39_short_ok (pairs_cons law39_Theirs_ok (pairs_cons ref39_Right_ok pairs_nil)))) looks_nil raws_nil G0_ok news_nil) law39_Good_eq rfl
-- slices.Clone[[]palinode/view.Entry,palinode/view.Entry]
def slices_Clone_Sl_view_Entry_view_Entry_ren : Go.Shelf.Ren := ⟨fun | 41 => 23 | n => n, fun | 22 => 22 | 23 => 29 | 4 => 4 | n => n, fun | n => n⟩
theorem slices_Clone_Sl_view_Entry_view_Entry_lays : Go.Proofs.SlLaysE0.n41 Tryd.prog slices_Clone_Sl_view_Entry_view_Entry_ren := {
  mixed := by kernel_rfl
  f41 := ⟨Tryd.f23.name, by decide, Tryd.func23.trans (congrArg some (by kernel_rfl))⟩
  t4 := Tryd.underlying4
  a4 := Tryd.isAgg4
  z4 := Tryd.sizeOf4
  v4 := Tryd.zeroValue4
  t22 := Tryd.underlying22
  a22 := Tryd.isAgg22
  z22 := Tryd.sizeOf22
  v22 := Tryd.zeroValue22 }
noncomputable def slices_Clone_Sl_view_Entry_view_Entry_S : SFn := cloneS 4 29
theorem slices_Clone_Sl_view_Entry_view_Entry_Sok : SoundS Tryd.prog G0 23 slices_Clone_Sl_view_Entry_view_Entry_S := clone_own slices_Clone_Sl_view_Entry_view_Entry_lays rfl rfl (elem_lays (P := Tryd.prog) (te := 29) (M := 4) (by kernel_rfl) (by kernel_rfl) (by kernel_rfl) (by kernel_rfl) (by kernel_rfl) (by kernel_rfl) (by kernel_rfl) (by kernel_rfl)) ⟨Tryd.f23, Tryd.func23, rfl, by kernel_rfl⟩
noncomputable def slices_Clone_Sl_view_Entry_view_Entry (a0 : List (List (List UInt8) × Int × List (Int × Int × List UInt8 × Unit) × Int × Unit)) : Option (List (List (List UInt8) × Int × List (Int × Int × List UInt8 × Unit) × Int × Unit)) := cloneT a0
noncomputable def slices_Clone_Sl_view_Entry_view_Entry_N : TNew := cloneN 29 (.agg (.cons (.sl .str) (.cons (.int .i64) (.cons (.sl (.agg (.cons (.int .i64) (.cons (.int .i64) (.cons .str .unit))))) (.cons (.int .i64) .unit)))))
theorem slices_Clone_Sl_view_Entry_view_Entry_ok : TNewOk slices_Clone_Sl_view_Entry_view_Entry_S slices_Clone_Sl_view_Entry_view_Entry_N := cloneN_ok rfl rfl rfl
-- (palinode/change.Change).leaf
noncomputable def change_Change_leaf_E : Env := { pure := [], raw := [], glob := G0, same := [67], look := [], ext := [] }
def change_Change_leaf_H : Hints := { seqs := [], loops := [], own := [] }
noncomputable def change_Change_leaf_F : PFn := closeF (runF Tryd.prog change_Change_leaf_E change_Change_leaf_H Tryd.f25)
def change_Change_leaf_Y : TH := { joins := [], loops := [], cuts := [], ro := [1], news := [] }
noncomputable def change_Change_leaf (a0 : (Int × (List (List UInt8) × Int × List (Int × Int × List UInt8 × Unit) × Int × Unit) × (List (List UInt8) × Int × List (Int × Int × List UInt8 × Unit) × Int × Unit) × Unit)) : Option (List (List UInt8) × Int × List (Int × Int × List UInt8 × Unit) × Int × Unit) :=
 cond (decide (a0.1 = 1)) (
 some a0.2.2.1) (
 some a0.2.1)
noncomputable def change_Change_leaf_T : TFn := { ps := (.cons (.agg (.cons (.int .i64) (.cons (.agg (.cons (.sl .str) (.cons (.int .i64) (.cons (.sl (.agg (.cons (.int .i64) (.cons (.int .i64) (.cons .str .unit))))) (.cons (.int .i64) .unit))))) (.cons (.agg (.cons (.sl .str) (.cons (.int .i64) (.cons (.sl (.agg (.cons (.int .i64) (.cons (.int .i64) (.cons .str .unit))))) (.cons (.int .i64) .unit))))) .unit)))) .unit), res := (.agg (.cons (.sl .str) (.cons (.int .i64) (.cons (.sl (.agg (.cons (.int .i64) (.cons (.int .i64) (.cons .str .unit))))) (.cons (.int .i64) .unit))))), fn := fun v => change_Change_leaf v.1 }
noncomputable def change_Change_leaf_V : TEnv := { pure := [], look := [], glob := G0T, ty := [], raw := [], fresh := [] }
theorem change_Change_leaf_eq : runY Tryd.prog change_Change_leaf_E change_Change_leaf_H change_Change_leaf_V change_Change_leaf_Y Tryd.f25 change_Change_leaf_T.ps change_Change_leaf_T.res = change_Change_leaf_T.fn := by kernel_rfl
theorem change_Change_leaf_Fok : SoundP Tryd.prog G0 25 change_Change_leaf_F := closeF_sound (runF_sound (P := Tryd.prog) (E := change_Change_leaf_E) (h := change_Change_leaf_H) (f := 25) (fn := Tryd.f25) ⟨same_ok, envP_nil, envS_nil, envP_nil, envX_nil⟩ Tryd.func25 rfl (by kernel_rfl))
theorem change_Change_leaf_ok : TOk change_Change_leaf_F change_Change_leaf_T := runY_ok (E := change_Change_leaf_E) (ET := change_Change_leaf_V) (EnvT.ofX (E := change_Change_leaf_E) (ET := change_Change_leaf_V) (pure_of pairs_nil) looks_nil raws_nil G0_ok news_nil) change_Change_leaf_eq rfl
-- cmp.isNaN[string]
noncomputable def cmp_isNaN_string_E : Env := { pure := [], raw := [], glob := G0, same := [67], look := [], ext := [] }
def cmp_isNaN_string_H : Hints := { seqs := [], loops := [], own := [] }
noncomputable def cmp_isNaN_string_F : PFn := closeF (runF Tryd.prog cmp_isNaN_string_E cmp_isNaN_string_H Tryd.f82)
def cmp_isNaN_string_Y : TH := { joins := [], loops := [], cuts := [], ro := [], news := [] }
noncomputable def cmp_isNaN_string (a0 : List UInt8) : Option Bool :=
 some (!decide (a0 = a0))
noncomputable def cmp_isNaN_string_T : TFn := { ps := (.cons .str .unit), res := .bool, fn := fun v => cmp_isNaN_string v.1 }
noncomputable def cmp_isNaN_string_V : TEnv := { pure := [], look := [], glob := G0T, ty := [], raw := [], fresh := [] }
theorem cmp_isNaN_string_eq : runY Tryd.prog cmp_isNaN_string_E cmp_isNaN_string_H cmp_isNaN_string_V cmp_isNaN_string_Y Tryd.f82 cmp_isNaN_string_T.ps cmp_isNaN_string_T.res = cmp_isNaN_string_T.fn := by kernel_rfl
theorem cmp_isNaN_string_Fok : SoundP Tryd.prog G0 82 cmp_isNaN_string_F := closeF_sound (runF_sound (P := Tryd.prog) (E := cmp_isNaN_string_E) (h := cmp_isNaN_string_H) (f := 82) (fn := Tryd.f82) ⟨same_ok, envP_nil, envS_nil, envP_nil, envX_nil⟩ Tryd.func82 rfl (by kernel_rfl))
theorem cmp_isNaN_string_ok : TOk cmp_isNaN_string_F cmp_isNaN_string_T := runY_ok (E := cmp_isNaN_string_E) (ET := cmp_isNaN_string_V) (EnvT.ofX (E := cmp_isNaN_string_E) (ET := cmp_isNaN_string_V) (pure_of pairs_nil) looks_nil raws_nil G0_ok news_nil) cmp_isNaN_string_eq rfl
-- cmp.Compare[string]
noncomputable def cmp_Compare_string_E : Env := { pure := [(82, cmp_isNaN_string_F)], raw := [], glob := G0, same := [67], look := [], ext := [] }
def cmp_Compare_string_H : Hints := { seqs := [], loops := [], own := [] }
noncomputable def cmp_Compare_string_F : PFn := closeF (runF Tryd.prog cmp_Compare_string_E cmp_Compare_string_H Tryd.f74)
def cmp_Compare_string_Y : TH := { joins := [], loops := [], cuts := [], ro := [], news := [] }
noncomputable def cmp_Compare_string (a0 : List UInt8) (a1 : List UInt8) : Option Int :=
(cmp_isNaN_string a0).bind fun r1 =>
(cmp_isNaN_string a1).bind fun r2 =>
 cond r1 (
 cond r2 (
 some 0) (
 some (-1))) (
 cond r2 (
 some 1) (
 cond (Op.bytesLess a0 a1) (
 some (-1)) (
 cond (!(Op.bytesLess a0 a1 || decide (a0 = a1))) (
 some 1) (
 some 0))))
noncomputable def cmp_Compare_string_T : TFn := { ps := (.cons .str (.cons .str .unit)), res := (.int .i64), fn := fun v => cmp_Compare_string v.1 v.2.1 }
noncomputable def cmp_Compare_string_V : TEnv := { pure := [(82, cmp_isNaN_string_T)], look := [], glob := G0T, ty := [], raw := [], fresh := [] }
theorem cmp_Compare_string_eq : runY Tryd.prog cmp_Compare_string_E cmp_Compare_string_H cmp_Compare_string_V cmp_Compare_string_Y Tryd.f74 cmp_Compare_string_T.ps cmp_Compare_string_T.res = cmp_Compare_string_T.fn := by kernel_rfl
theorem cmp_Compare_string_Fok : SoundP Tryd.prog G0 74 cmp_Compare_string_F := closeF_sound (runF_sound (P := Tryd.prog) (E := cmp_Compare_string_E) (h := cmp_Compare_string_H) (f := 74) (fn := Tryd.f74) ⟨same_ok, (envP_cons cmp_isNaN_string_Fok envP_nil), envS_nil, envP_nil, envX_nil⟩ Tryd.func74 rfl (by kernel_rfl))
theorem cmp_Compare_string_ok : TOk cmp_Compare_string_F cmp_Compare_string_T := runY_ok (E := cmp_Compare_string_E) (ET := cmp_Compare_string_V) (EnvT.ofX (E := cmp_Compare_string_E) (ET := cmp_Compare_string_V) (pure_of (pairs_cons cmp_isNaN_string_ok pairs_nil)) looks_nil raws_nil G0_ok news_nil) cmp_Compare_string_eq rfl
-- slices.Compare[[]string,string]
noncomputable def slices_Compare_Sl_string_string_E : Env := { pure := [(74, cmp_Compare_string_F)], raw := [], glob := G0, same := [67], look := [], ext := [] }
def slices_Compare_Sl_string_string_H : Hints := { seqs := [], loops := [(2, [0, 1, 9, 10, 11])], own := [] }
noncomputable def slices_Compare_Sl_string_string_F : PFn := closeF (runF Tryd.prog slices_Compare_Sl_string_string_E slices_Compare_Sl_string_string_H Tryd.f61)
def slices_Compare_Sl_string_string_Y : TH := { joins := [(11, { keep := [], mem := [] })], loops := [(2, { keep := [(11, (.int .i64))], mem := [] })], cuts := [], ro := [], news := [] }
noncomputable def slices_Compare_Sl_string_string_l2 (a0 : List (List UInt8)) (a1 : List (List UInt8)) (y2 : (Int × Unit)) : Option ((Int × Unit) ⊕ (Unit ⊕ Int)) :=
 cond (decide (y2.1 < (a0.length : Int))) (
(atI a0 y2.1).bind fun x1 =>
 cond (decide (y2.1 ≥ (a1.length : Int))) (
 some (.inr (.inr 1))) (
(atI a1 y2.1).bind fun x2 =>
(cmp_Compare_string x1 x2).bind fun r3 =>
 cond (!decide (r3 = 0)) (
 some (.inr (.inr r3))) (
 some (.inl ((IntKind.wrap .i64 (y2.1 + 1)), ()))))) (
 some (.inr (.inl ())))
noncomputable def slices_Compare_Sl_string_string (a0 : List (List UInt8)) (a1 : List (List UInt8)) : Option Int :=
(loopT (slices_Compare_Sl_string_string_l2 a0 a1) (0, ()) : Option (Unit ⊕ Int)).bind (joinS fun v4 =>
 cond (decide ((a0.length : Int) < (a1.length : Int))) (
 some (-1)) (
 some 0))
noncomputable def slices_Compare_Sl_string_string_T : TFn := { ps := (.cons (.sl .str) (.cons (.sl .str) .unit)), res := (.int .i64), fn := fun v => slices_Compare_Sl_string_string v.1 v.2.1 }
noncomputable def slices_Compare_Sl_string_string_V : TEnv := { pure := [(74, cmp_Compare_string_T)], look := [], glob := G0T, ty := [], raw := [], fresh := [] }
theorem slices_Compare_Sl_string_string_eq : runY Tryd.prog slices_Compare_Sl_string_string_E slices_Compare_Sl_string_string_H slices_Compare_Sl_string_string_V slices_Compare_Sl_string_string_Y Tryd.f61 slices_Compare_Sl_string_string_T.ps slices_Compare_Sl_string_string_T.res = slices_Compare_Sl_string_string_T.fn := by kernel_rfl
theorem slices_Compare_Sl_string_string_Fok : SoundP Tryd.prog G0 61 slices_Compare_Sl_string_string_F := closeF_sound (runF_sound (P := Tryd.prog) (E := slices_Compare_Sl_string_string_E) (h := slices_Compare_Sl_string_string_H) (f := 61) (fn := Tryd.f61) ⟨same_ok, (envP_cons cmp_Compare_string_Fok envP_nil), envS_nil, envP_nil, envX_nil⟩ Tryd.func61 rfl (by kernel_rfl))
theorem slices_Compare_Sl_string_string_ok : TOk slices_Compare_Sl_string_string_F slices_Compare_Sl_string_string_T := runY_ok (E := slices_Compare_Sl_string_string_E) (ET := slices_Compare_Sl_string_string_V) (EnvT.ofX (E := slices_Compare_Sl_string_string_E) (ET := slices_Compare_Sl_string_string_V) (pure_of (pairs_cons cmp_Compare_string_ok pairs_nil)) looks_nil raws_nil G0_ok news_nil) slices_Compare_Sl_string_string_eq rfl
-- palinode/path.Compare
noncomputable def path_Compare_E : Env := { pure := [(61, slices_Compare_Sl_string_string_F)], raw := [], glob := G0, same := [67], look := [], ext := [] }
def path_Compare_H : Hints := { seqs := [], loops := [], own := [] }
noncomputable def path_Compare_F : PFn := closeF (runF Tryd.prog path_Compare_E path_Compare_H Tryd.f45)
def path_Compare_Y : TH := { joins := [], loops := [], cuts := [], ro := [], news := [] }
noncomputable def path_Compare (a0 : List (List UInt8)) (a1 : List (List UInt8)) : Option Int :=
(slices_Compare_Sl_string_string a0 a1).bind fun r1 =>
 some r1
noncomputable def path_Compare_T : TFn := { ps := (.cons (.sl .str) (.cons (.sl .str) .unit)), res := (.int .i64), fn := fun v => path_Compare v.1 v.2.1 }
noncomputable def path_Compare_V : TEnv := { pure := [(61, slices_Compare_Sl_string_string_T)], look := [], glob := G0T, ty := [], raw := [], fresh := [] }
theorem path_Compare_eq : runY Tryd.prog path_Compare_E path_Compare_H path_Compare_V path_Compare_Y Tryd.f45 path_Compare_T.ps path_Compare_T.res = path_Compare_T.fn := by kernel_rfl
theorem path_Compare_Fok : SoundP Tryd.prog G0 45 path_Compare_F := closeF_sound (runF_sound (P := Tryd.prog) (E := path_Compare_E) (h := path_Compare_H) (f := 45) (fn := Tryd.f45) ⟨same_ok, (envP_cons slices_Compare_Sl_string_string_Fok envP_nil), envS_nil, envP_nil, envX_nil⟩ Tryd.func45 rfl (by kernel_rfl))
theorem path_Compare_ok : TOk path_Compare_F path_Compare_T := runY_ok (E := path_Compare_E) (ET := path_Compare_V) (EnvT.ofX (E := path_Compare_E) (ET := path_Compare_V) (pure_of (pairs_cons slices_Compare_Sl_string_string_ok pairs_nil)) looks_nil raws_nil G0_ok news_nil) path_Compare_eq rfl
-- cmp.isNaN[int]
noncomputable def cmp_isNaN_int_E : Env := { pure := [], raw := [], glob := G0, same := [67], look := [], ext := [] }
def cmp_isNaN_int_H : Hints := { seqs := [], loops := [], own := [] }
noncomputable def cmp_isNaN_int_F : PFn := closeF (runF Tryd.prog cmp_isNaN_int_E cmp_isNaN_int_H Tryd.f62)
def cmp_isNaN_int_Y : TH := { joins := [], loops := [], cuts := [], ro := [], news := [] }
noncomputable def cmp_isNaN_int (a0 : Int) : Option Bool :=
 some (!decide (a0 = a0))
noncomputable def cmp_isNaN_int_T : TFn := { ps := (.cons (.int .i64) .unit), res := .bool, fn := fun v => cmp_isNaN_int v.1 }
noncomputable def cmp_isNaN_int_V : TEnv := { pure := [], look := [], glob := G0T, ty := [], raw := [], fresh := [] }
theorem cmp_isNaN_int_eq : runY Tryd.prog cmp_isNaN_int_E cmp_isNaN_int_H cmp_isNaN_int_V cmp_isNaN_int_Y Tryd.f62 cmp_isNaN_int_T.ps cmp_isNaN_int_T.res = cmp_isNaN_int_T.fn := by kernel_rfl
theorem cmp_isNaN_int_Fok : SoundP Tryd.prog G0 62 cmp_isNaN_int_F := closeF_sound (runF_sound (P := Tryd.prog) (E := cmp_isNaN_int_E) (h := cmp_isNaN_int_H) (f := 62) (fn := Tryd.f62) ⟨same_ok, envP_nil, envS_nil, envP_nil, envX_nil⟩ Tryd.func62 rfl (by kernel_rfl))
theorem cmp_isNaN_int_ok : TOk cmp_isNaN_int_F cmp_isNaN_int_T := runY_ok (E := cmp_isNaN_int_E) (ET := cmp_isNaN_int_V) (EnvT.ofX (E := cmp_isNaN_int_E) (ET := cmp_isNaN_int_V) (pure_of pairs_nil) looks_nil raws_nil G0_ok news_nil) cmp_isNaN_int_eq rfl
-- cmp.Compare[int]
noncomputable def cmp_Compare_int_E : Env := { pure := [(62, cmp_isNaN_int_F)], raw := [], glob := G0, same := [67], look := [], ext := [] }
def cmp_Compare_int_H : Hints := { seqs := [], loops := [], own := [] }
noncomputable def cmp_Compare_int_F : PFn := closeF (runF Tryd.prog cmp_Compare_int_E cmp_Compare_int_H Tryd.f46)
def cmp_Compare_int_Y : TH := { joins := [], loops := [], cuts := [], ro := [], news := [] }
noncomputable def cmp_Compare_int (a0 : Int) (a1 : Int) : Option Int :=
(cmp_isNaN_int a0).bind fun r1 =>
(cmp_isNaN_int a1).bind fun r2 =>
 cond r1 (
 cond r2 (
 some 0) (
 some (-1))) (
 cond r2 (
 some 1) (
 cond (decide (a0 < a1)) (
 some (-1)) (
 cond (decide (a0 > a1)) (
 some 1) (
 some 0))))
noncomputable def cmp_Compare_int_T : TFn := { ps := (.cons (.int .i64) (.cons (.int .i64) .unit)), res := (.int .i64), fn := fun v => cmp_Compare_int v.1 v.2.1 }
noncomputable def cmp_Compare_int_V : TEnv := { pure := [(62, cmp_isNaN_int_T)], look := [], glob := G0T, ty := [], raw := [], fresh := [] }
theorem cmp_Compare_int_eq : runY Tryd.prog cmp_Compare_int_E cmp_Compare_int_H cmp_Compare_int_V cmp_Compare_int_Y Tryd.f46 cmp_Compare_int_T.ps cmp_Compare_int_T.res = cmp_Compare_int_T.fn := by kernel_rfl
theorem cmp_Compare_int_Fok : SoundP Tryd.prog G0 46 cmp_Compare_int_F := closeF_sound (runF_sound (P := Tryd.prog) (E := cmp_Compare_int_E) (h := cmp_Compare_int_H) (f := 46) (fn := Tryd.f46) ⟨same_ok, (envP_cons cmp_isNaN_int_Fok envP_nil), envS_nil, envP_nil, envX_nil⟩ Tryd.func46 rfl (by kernel_rfl))
theorem cmp_Compare_int_ok : TOk cmp_Compare_int_F cmp_Compare_int_T := runY_ok (E := cmp_Compare_int_E) (ET := cmp_Compare_int_V) (EnvT.ofX (E := cmp_Compare_int_E) (ET := cmp_Compare_int_V) (pure_of (pairs_cons cmp_isNaN_int_ok pairs_nil)) looks_nil raws_nil G0_ok news_nil) cmp_Compare_int_eq rfl
-- cmp.Or[int]
noncomputable def cmp_Or_int_E : Env := { pure := [], raw := [], glob := G0, same := [67], look := [], ext := [] }
def cmp_Or_int_H : Hints := { seqs := [], loops := [(3, [3, 6, 7, 8])], own := [] }
noncomputable def cmp_Or_int_F : PFn := closeF (runF Tryd.prog cmp_Or_int_E cmp_Or_int_H Tryd.f44)
def cmp_Or_int_Y : TH := { joins := [], loops := [(3, { keep := [(8, (.int .i64))], mem := [] })], cuts := [], ro := [], news := [] }
noncomputable def cmp_Or_int_l3 (a0 : List Int) (y3 : (Int × Unit)) : Option ((Int × Unit) ⊕ Int) :=
 cond (decide (y3.1 < (a0.length : Int))) (
(atI a0 y3.1).bind fun x1 =>
 cond (!decide (x1 = 0)) (
 some (.inr x1)) (
 some (.inl ((IntKind.wrap .i64 (y3.1 + 1)), ())))) (
 some (.inr 0))
noncomputable def cmp_Or_int (a0 : List Int) : Option Int :=
 loopT (cmp_Or_int_l3 a0) (0, ())
noncomputable def cmp_Or_int_T : TFn := { ps := (.cons (.sl (.int .i64)) .unit), res := (.int .i64), fn := fun v => cmp_Or_int v.1 }
noncomputable def cmp_Or_int_V : TEnv := { pure := [], look := [], glob := G0T, ty := [], raw := [], fresh := [] }
theorem cmp_Or_int_eq : runY Tryd.prog cmp_Or_int_E cmp_Or_int_H cmp_Or_int_V cmp_Or_int_Y Tryd.f44 cmp_Or_int_T.ps cmp_Or_int_T.res = cmp_Or_int_T.fn := by kernel_rfl
theorem cmp_Or_int_Fok : SoundP Tryd.prog G0 44 cmp_Or_int_F := closeF_sound (runF_sound (P := Tryd.prog) (E := cmp_Or_int_E) (h := cmp_Or_int_H) (f := 44) (fn := Tryd.f44) ⟨same_ok, envP_nil, envS_nil, envP_nil, envX_nil⟩ Tryd.func44 rfl (by kernel_rfl))
theorem cmp_Or_int_ok : TOk cmp_Or_int_F cmp_Or_int_T := runY_ok (E := cmp_Or_int_E) (ET := cmp_Or_int_V) (EnvT.ofX (E := cmp_Or_int_E) (ET := cmp_Or_int_V) (pure_of pairs_nil) looks_nil raws_nil G0_ok news_nil) cmp_Or_int_eq rfl
-- palinode/change.compare
noncomputable def change_compare_E : Env := { pure := [(44, cmp_Or_int_F), (45, path_Compare_F), (46, cmp_Compare_int_F)], raw := [], glob := G0, same := [67], look := [], ext := [] }
def change_compare_H : Hints := { seqs := [], loops := [], own := [] }
noncomputable def change_compare_F : PFn := closeF (runF Tryd.prog change_compare_E change_compare_H Tryd.f26)
def change_compare_Y : TH := { joins := [], loops := [], cuts := [], ro := [2, 3], news := [] }
noncomputable def change_compare (a0 : (List (List UInt8) × Int × List (Int × Int × List UInt8 × Unit) × Int × Unit)) (a1 : (List (List UInt8) × Int × List (Int × Int × List UInt8 × Unit) × Int × Unit)) : Option Int :=
(path_Compare a0.1 a1.1).bind fun r1 =>
(cmp_Compare_int a0.2.1 a1.2.1).bind fun r2 =>
(cmp_Or_int ([r1, r2] : List Int)).bind fun r3 =>
 some r3
noncomputable def change_compare_T : TFn := { ps := (.cons (.agg (.cons (.sl .str) (.cons (.int .i64) (.cons (.sl (.agg (.cons (.int .i64) (.cons (.int .i64) (.cons .str .unit))))) (.cons (.int .i64) .unit))))) (.cons (.agg (.cons (.sl .str) (.cons (.int .i64) (.cons (.sl (.agg (.cons (.int .i64) (.cons (.int .i64) (.cons .str .unit))))) (.cons (.int .i64) .unit))))) .unit)), res := (.int .i64), fn := fun v => change_compare v.1 v.2.1 }
noncomputable def change_compare_V : TEnv := { pure := [(44, cmp_Or_int_T), (45, path_Compare_T), (46, cmp_Compare_int_T)], look := [], glob := G0T, ty := [(3, (.int .i64))], raw := [], fresh := [] }
theorem change_compare_eq : runY Tryd.prog change_compare_E change_compare_H change_compare_V change_compare_Y Tryd.f26 change_compare_T.ps change_compare_T.res = change_compare_T.fn := by kernel_rfl
theorem change_compare_Fok : SoundP Tryd.prog G0 26 change_compare_F := closeF_sound (runF_sound (P := Tryd.prog) (E := change_compare_E) (h := change_compare_H) (f := 26) (fn := Tryd.f26) ⟨same_ok, (envP_cons cmp_Or_int_Fok (envP_cons path_Compare_Fok (envP_cons cmp_Compare_int_Fok envP_nil))), envS_nil, envP_nil, envX_nil⟩ Tryd.func26 rfl (by kernel_rfl))
theorem change_compare_ok : TOk change_compare_F change_compare_T := runY_ok (E := change_compare_E) (ET := change_compare_V) (EnvT.ofX (E := change_compare_E) (ET := change_compare_V) (pure_of (pairs_cons cmp_Or_int_ok (pairs_cons path_Compare_ok (pairs_cons cmp_Compare_int_ok pairs_nil)))) looks_nil raws_nil G0_ok news_nil) change_compare_eq rfl
-- slices.Equal[[]string,string]
noncomputable def slices_Equal_Sl_string_string_E : Env := { pure := [], raw := [], glob := G0, same := [67], look := [], ext := [] }
def slices_Equal_Sl_string_string_H : Hints := { seqs := [], loops := [(4, [0, 1, 12, 13])], own := [] }
noncomputable def slices_Equal_Sl_string_string_F : PFn := closeF (runF Tryd.prog slices_Equal_Sl_string_string_E slices_Equal_Sl_string_string_H Tryd.f65)
def slices_Equal_Sl_string_string_Y : TH := { joins := [], loops := [(4, { keep := [(13, (.int .i64))], mem := [] })], cuts := [], ro := [], news := [] }
noncomputable def slices_Equal_Sl_string_string_l4 (a0 : List (List UInt8)) (a1 : List (List UInt8)) (y4 : (Int × Unit)) : Option ((Int × Unit) ⊕ Bool) :=
 cond (decide (y4.1 < (a0.length : Int))) (
(atI a0 y4.1).bind fun x1 =>
(atI a1 y4.1).bind fun x2 =>
 cond (!decide (x1 = x2)) (
 some (.inr false)) (
 some (.inl ((IntKind.wrap .i64 (y4.1 + 1)), ())))) (
 some (.inr true))
noncomputable def slices_Equal_Sl_string_string (a0 : List (List UInt8)) (a1 : List (List UInt8)) : Option Bool :=
 cond (!decide ((a0.length : Int) = (a1.length : Int))) (
 some false) (
 loopT (slices_Equal_Sl_string_string_l4 a0 a1) (0, ()))
noncomputable def slices_Equal_Sl_string_string_T : TFn := { ps := (.cons (.sl .str) (.cons (.sl .str) .unit)), res := .bool, fn := fun v => slices_Equal_Sl_string_string v.1 v.2.1 }
noncomputable def slices_Equal_Sl_string_string_V : TEnv := { pure := [], look := [], glob := G0T, ty := [], raw := [], fresh := [] }
theorem slices_Equal_Sl_string_string_eq : runY Tryd.prog slices_Equal_Sl_string_string_E slices_Equal_Sl_string_string_H slices_Equal_Sl_string_string_V slices_Equal_Sl_string_string_Y Tryd.f65 slices_Equal_Sl_string_string_T.ps slices_Equal_Sl_string_string_T.res = slices_Equal_Sl_string_string_T.fn := by kernel_rfl
theorem slices_Equal_Sl_string_string_Fok : SoundP Tryd.prog G0 65 slices_Equal_Sl_string_string_F := closeF_sound (runF_sound (P := Tryd.prog) (E := slices_Equal_Sl_string_string_E) (h := slices_Equal_Sl_string_string_H) (f := 65) (fn := Tryd.f65) ⟨same_ok, envP_nil, envS_nil, envP_nil, envX_nil⟩ Tryd.func65 rfl (by kernel_rfl))
theorem slices_Equal_Sl_string_string_ok : TOk slices_Equal_Sl_string_string_F slices_Equal_Sl_string_string_T := runY_ok (E := slices_Equal_Sl_string_string_E) (ET := slices_Equal_Sl_string_string_V) (EnvT.ofX (E := slices_Equal_Sl_string_string_E) (ET := slices_Equal_Sl_string_string_V) (pure_of pairs_nil) looks_nil raws_nil G0_ok news_nil) slices_Equal_Sl_string_string_eq rfl
-- palinode/path.Same
noncomputable def path_Same_E : Env := { pure := [(65, slices_Equal_Sl_string_string_F)], raw := [], glob := G0, same := [67], look := [], ext := [] }
def path_Same_H : Hints := { seqs := [], loops := [], own := [] }
noncomputable def path_Same_F : PFn := closeF (runF Tryd.prog path_Same_E path_Same_H Tryd.f52)
def path_Same_Y : TH := { joins := [], loops := [], cuts := [], ro := [], news := [] }
noncomputable def path_Same (a0 : List (List UInt8)) (a1 : List (List UInt8)) : Option Bool :=
(slices_Equal_Sl_string_string a0 a1).bind fun r1 =>
 some r1
noncomputable def path_Same_T : TFn := { ps := (.cons (.sl .str) (.cons (.sl .str) .unit)), res := .bool, fn := fun v => path_Same v.1 v.2.1 }
noncomputable def path_Same_V : TEnv := { pure := [(65, slices_Equal_Sl_string_string_T)], look := [], glob := G0T, ty := [], raw := [], fresh := [] }
theorem path_Same_eq : runY Tryd.prog path_Same_E path_Same_H path_Same_V path_Same_Y Tryd.f52 path_Same_T.ps path_Same_T.res = path_Same_T.fn := by kernel_rfl
theorem path_Same_Fok : SoundP Tryd.prog G0 52 path_Same_F := closeF_sound (runF_sound (P := Tryd.prog) (E := path_Same_E) (h := path_Same_H) (f := 52) (fn := Tryd.f52) ⟨same_ok, (envP_cons slices_Equal_Sl_string_string_Fok envP_nil), envS_nil, envP_nil, envX_nil⟩ Tryd.func52 rfl (by kernel_rfl))
theorem path_Same_ok : TOk path_Same_F path_Same_T := runY_ok (E := path_Same_E) (ET := path_Same_V) (EnvT.ofX (E := path_Same_E) (ET := path_Same_V) (pure_of (pairs_cons slices_Equal_Sl_string_string_ok pairs_nil)) looks_nil raws_nil G0_ok news_nil) path_Same_eq rfl
-- slices.Equal[[]palinode/api.Value,palinode/api.Value]
noncomputable def slices_Equal_Sl_api_Value_api_Value_E : Env := { pure := [], raw := [], glob := G0, same := [67], look := [], ext := [] }
def slices_Equal_Sl_api_Value_api_Value_H : Hints := { seqs := [], loops := [(4, [0, 1, 12, 13])], own := [] }
noncomputable def slices_Equal_Sl_api_Value_api_Value_F : PFn := closeF (runF Tryd.prog slices_Equal_Sl_api_Value_api_Value_E slices_Equal_Sl_api_Value_api_Value_H Tryd.f53)
def slices_Equal_Sl_api_Value_api_Value_Y : TH := { joins := [], loops := [(4, { keep := [(13, (.int .i64))], mem := [] })], cuts := [], ro := [], news := [] }
noncomputable def slices_Equal_Sl_api_Value_api_Value_l4 (a0 : List (Int × Int × List UInt8 × Unit)) (a1 : List (Int × Int × List UInt8 × Unit)) (y4 : (Int × Unit)) : Option ((Int × Unit) ⊕ Bool) :=
 cond (decide (y4.1 < (a0.length : Int))) (
(atI a0 y4.1).bind fun x1 =>
(atI a1 y4.1).bind fun x2 =>
 cond (!(eqV (.agg (.cons (.int .i64) (.cons (.int .i64) (.cons .str .unit)))) x1 x2)) (
 some (.inr false)) (
 some (.inl ((IntKind.wrap .i64 (y4.1 + 1)), ())))) (
 some (.inr true))
noncomputable def slices_Equal_Sl_api_Value_api_Value (a0 : List (Int × Int × List UInt8 × Unit)) (a1 : List (Int × Int × List UInt8 × Unit)) : Option Bool :=
 cond (!decide ((a0.length : Int) = (a1.length : Int))) (
 some false) (
 loopT (slices_Equal_Sl_api_Value_api_Value_l4 a0 a1) (0, ()))
noncomputable def slices_Equal_Sl_api_Value_api_Value_T : TFn := { ps := (.cons (.sl (.agg (.cons (.int .i64) (.cons (.int .i64) (.cons .str .unit))))) (.cons (.sl (.agg (.cons (.int .i64) (.cons (.int .i64) (.cons .str .unit))))) .unit)), res := .bool, fn := fun v => slices_Equal_Sl_api_Value_api_Value v.1 v.2.1 }
noncomputable def slices_Equal_Sl_api_Value_api_Value_V : TEnv := { pure := [], look := [], glob := G0T, ty := [], raw := [], fresh := [] }
theorem slices_Equal_Sl_api_Value_api_Value_eq : runY Tryd.prog slices_Equal_Sl_api_Value_api_Value_E slices_Equal_Sl_api_Value_api_Value_H slices_Equal_Sl_api_Value_api_Value_V slices_Equal_Sl_api_Value_api_Value_Y Tryd.f53 slices_Equal_Sl_api_Value_api_Value_T.ps slices_Equal_Sl_api_Value_api_Value_T.res = slices_Equal_Sl_api_Value_api_Value_T.fn := by kernel_rfl
theorem slices_Equal_Sl_api_Value_api_Value_Fok : SoundP Tryd.prog G0 53 slices_Equal_Sl_api_Value_api_Value_F := closeF_sound (runF_sound (P := Tryd.prog) (E := slices_Equal_Sl_api_Value_api_Value_E) (h := slices_Equal_Sl_api_Value_api_Value_H) (f := 53) (fn := Tryd.f53) ⟨same_ok, envP_nil, envS_nil, envP_nil, envX_nil⟩ Tryd.func53 rfl (by kernel_rfl))
theorem slices_Equal_Sl_api_Value_api_Value_ok : TOk slices_Equal_Sl_api_Value_api_Value_F slices_Equal_Sl_api_Value_api_Value_T := runY_ok (E := slices_Equal_Sl_api_Value_api_Value_E) (ET := slices_Equal_Sl_api_Value_api_Value_V) (EnvT.ofX (E := slices_Equal_Sl_api_Value_api_Value_E) (ET := slices_Equal_Sl_api_Value_api_Value_V) (pure_of pairs_nil) looks_nil raws_nil G0_ok news_nil) slices_Equal_Sl_api_Value_api_Value_eq rfl
-- palinode/view.same
noncomputable def view_same_E : Env := { pure := [(52, path_Same_F), (53, slices_Equal_Sl_api_Value_api_Value_F)], raw := [], glob := G0, same := [67], look := [], ext := [] }
def view_same_H : Hints := { seqs := [], loops := [], own := [] }
noncomputable def view_same_F : PFn := closeF (runF Tryd.prog view_same_E view_same_H Tryd.f38)
def view_same_Y : TH := { joins := [], loops := [], cuts := [(1, [(12, { keep := [(2, (.bx 0 0)), (3, (.bx 1 0)), (16, .bool)], mem := [.same, .same] })])], ro := [2, 3], news := [] }
noncomputable def view_same (a0 : (List (List UInt8) × Int × List (Int × Int × List UInt8 × Unit) × Int × Unit)) (a1 : (List (List UInt8) × Int × List (Int × Int × List UInt8 × Unit) × Int × Unit)) : Option Bool :=
(cond (decide (a0.2.1 = a1.2.1)) (some ((decide (a0.2.2.2.1 = a1.2.2.2.1)), ())) (some (false, ())) : Option (Bool × Unit)).bind fun v1 =>
 cond v1.1 ((path_Same a0.1 a1.1).bind fun r2 =>
 cond r2 ((slices_Equal_Sl_api_Value_api_Value a0.2.2.1 a1.2.2.1).bind fun r3 =>
 some r3) (some false)) (some false)
noncomputable def view_same_T : TFn := { ps := (.cons (.agg (.cons (.sl .str) (.cons (.int .i64) (.cons (.sl (.agg (.cons (.int .i64) (.cons (.int .i64) (.cons .str .unit))))) (.cons (.int .i64) .unit))))) (.cons (.agg (.cons (.sl .str) (.cons (.int .i64) (.cons (.sl (.agg (.cons (.int .i64) (.cons (.int .i64) (.cons .str .unit))))) (.cons (.int .i64) .unit))))) .unit)), res := .bool, fn := fun v => view_same v.1 v.2.1 }
noncomputable def view_same_V : TEnv := { pure := [(52, path_Same_T), (53, slices_Equal_Sl_api_Value_api_Value_T)], look := [], glob := G0T, ty := [], raw := [], fresh := [] }
theorem view_same_eq : runY Tryd.prog view_same_E view_same_H view_same_V view_same_Y Tryd.f38 view_same_T.ps view_same_T.res = view_same_T.fn := by kernel_rfl
theorem view_same_Fok : SoundP Tryd.prog G0 38 view_same_F := closeF_sound (runF_sound (P := Tryd.prog) (E := view_same_E) (h := view_same_H) (f := 38) (fn := Tryd.f38) ⟨same_ok, (envP_cons path_Same_Fok (envP_cons slices_Equal_Sl_api_Value_api_Value_Fok envP_nil)), envS_nil, envP_nil, envX_nil⟩ Tryd.func38 rfl (by kernel_rfl))
theorem view_same_ok : TOk view_same_F view_same_T := runY_ok (E := view_same_E) (ET := view_same_V) (EnvT.ofX (E := view_same_E) (ET := view_same_V) (pure_of (pairs_cons path_Same_ok (pairs_cons slices_Equal_Sl_api_Value_api_Value_ok pairs_nil))) looks_nil raws_nil G0_ok news_nil) view_same_eq rfl
-- slices.EqualFunc[[]palinode/view.Entry,[]palinode/view.Entry,palinode/view.Entry,palinode/view.Entry]
noncomputable def slices_EqualFunc_Sl_view_Entry_Sl_view_Entry_view_Entry_view_Entry__view_same_E : Env := { pure := [(38, view_same_F)], raw := [], glob := G0, same := [67], look := [], ext := [] }
def slices_EqualFunc_Sl_view_Entry_Sl_view_Entry_view_Entry_view_Entry__view_same_H : Hints := { seqs := [], loops := [(4, [1, 2, 15, 16, 17])], own := [] }
noncomputable def slices_EqualFunc_Sl_view_Entry_Sl_view_Entry_view_Entry_view_Entry__view_same_F : PFn := closeF (runF Tryd.prog slices_EqualFunc_Sl_view_Entry_Sl_view_Entry_view_Entry_view_Entry__view_same_E slices_EqualFunc_Sl_view_Entry_Sl_view_Entry_view_Entry_view_Entry__view_same_H Tryd.f37)
def slices_EqualFunc_Sl_view_Entry_Sl_view_Entry_view_Entry_view_Entry__view_same_Y : TH := { joins := [], loops := [(4, { keep := [(17, (.int .i64))], mem := [] })], cuts := [], ro := [], news := [] }
noncomputable def slices_EqualFunc_Sl_view_Entry_Sl_view_Entry_view_Entry_view_Entry__view_same_l4 (a0 : List (List (List UInt8) × Int × List (Int × Int × List UInt8 × Unit) × Int × Unit)) (a1 : List (List (List UInt8) × Int × List (Int × Int × List UInt8 × Unit) × Int × Unit)) (y4 : (Int × Unit)) : Option ((Int × Unit) ⊕ Bool) :=
 cond (decide (y4.1 < (a0.length : Int))) (
(atI a0 y4.1).bind fun x1 =>
(atI a1 y4.1).bind fun x2 =>
(view_same x1 x2).bind fun r3 =>
 cond (!r3) (
 some (.inr false)) (
 some (.inl ((IntKind.wrap .i64 (y4.1 + 1)), ())))) (
 some (.inr true))
noncomputable def slices_EqualFunc_Sl_view_Entry_Sl_view_Entry_view_Entry_view_Entry__view_same (a0 : List (List (List UInt8) × Int × List (Int × Int × List UInt8 × Unit) × Int × Unit)) (a1 : List (List (List UInt8) × Int × List (Int × Int × List UInt8 × Unit) × Int × Unit)) (a2 : Unit) : Option Bool :=
 cond (!decide ((a0.length : Int) = (a1.length : Int))) (
 some false) (
 loopT (slices_EqualFunc_Sl_view_Entry_Sl_view_Entry_view_Entry_view_Entry__view_same_l4 a0 a1) (0, ()))
noncomputable def slices_EqualFunc_Sl_view_Entry_Sl_view_Entry_view_Entry_view_Entry__view_same_T : TFn := { ps := (.cons (.sl (.agg (.cons (.sl .str) (.cons (.int .i64) (.cons (.sl (.agg (.cons (.int .i64) (.cons (.int .i64) (.cons .str .unit))))) (.cons (.int .i64) .unit)))))) (.cons (.sl (.agg (.cons (.sl .str) (.cons (.int .i64) (.cons (.sl (.agg (.cons (.int .i64) (.cons (.int .i64) (.cons .str .unit))))) (.cons (.int .i64) .unit)))))) (.cons (.fn 38) .unit))), res := .bool, fn := fun v => slices_EqualFunc_Sl_view_Entry_Sl_view_Entry_view_Entry_view_Entry__view_same v.1 v.2.1 v.2.2.1 }
noncomputable def slices_EqualFunc_Sl_view_Entry_Sl_view_Entry_view_Entry_view_Entry__view_same_V : TEnv := { pure := [(38, view_same_T)], look := [], glob := G0T, ty := [], raw := [], fresh := [] }
theorem slices_EqualFunc_Sl_view_Entry_Sl_view_Entry_view_Entry_view_Entry__view_same_eq : runY Tryd.prog slices_EqualFunc_Sl_view_Entry_Sl_view_Entry_view_Entry_view_Entry__view_same_E slices_EqualFunc_Sl_view_Entry_Sl_view_Entry_view_Entry_view_Entry__view_same_H slices_EqualFunc_Sl_view_Entry_Sl_view_Entry_view_Entry_view_Entry__view_same_V slices_EqualFunc_Sl_view_Entry_Sl_view_Entry_view_Entry_view_Entry__view_same_Y Tryd.f37 slices_EqualFunc_Sl_view_Entry_Sl_view_Entry_view_Entry_view_Entry__view_same_T.ps slices_EqualFunc_Sl_view_Entry_Sl_view_Entry_view_Entry_view_Entry__view_same_T.res = slices_EqualFunc_Sl_view_Entry_Sl_view_Entry_view_Entry_view_Entry__view_same_T.fn := by kernel_rfl
theorem slices_EqualFunc_Sl_view_Entry_Sl_view_Entry_view_Entry_view_Entry__view_same_Fok : SoundP Tryd.prog G0 37 slices_EqualFunc_Sl_view_Entry_Sl_view_Entry_view_Entry_view_Entry__view_same_F := closeF_sound (runF_sound (P := Tryd.prog) (E := slices_EqualFunc_Sl_view_Entry_Sl_view_Entry_view_Entry_view_Entry__view_same_E) (h := slices_EqualFunc_Sl_view_Entry_Sl_view_Entry_view_Entry_view_Entry__view_same_H) (f := 37) (fn := Tryd.f37) ⟨same_ok, (envP_cons view_same_Fok envP_nil), envS_nil, envP_nil, envX_nil⟩ Tryd.func37 rfl (by kernel_rfl))
theorem slices_EqualFunc_Sl_view_Entry_Sl_view_Entry_view_Entry_view_Entry__view_same_ok : TOk slices_EqualFunc_Sl_view_Entry_Sl_view_Entry_view_Entry_view_Entry__view_same_F slices_EqualFunc_Sl_view_Entry_Sl_view_Entry_view_Entry_view_Entry__view_same_T := runY_ok (E := slices_EqualFunc_Sl_view_Entry_Sl_view_Entry_view_Entry_view_Entry__view_same_E) (ET := slices_EqualFunc_Sl_view_Entry_Sl_view_Entry_view_Entry_view_Entry__view_same_V) (EnvT.ofX (E := slices_EqualFunc_Sl_view_Entry_Sl_view_Entry_view_Entry_view_Entry__view_same_E) (ET := slices_EqualFunc_Sl_view_Entry_Sl_view_Entry_view_Entry_view_Entry__view_same_V) (pure_of (pairs_cons view_same_ok pairs_nil)) looks_nil raws_nil G0_ok news_nil) slices_EqualFunc_Sl_view_Entry_Sl_view_Entry_view_Entry_view_Entry__view_same_eq rfl
-- palinode/view.Same
noncomputable def view_Same_E : Env := { pure := [(37, slices_EqualFunc_Sl_view_Entry_Sl_view_Entry_view_Entry_view_Entry__view_same_F)], raw := [], glob := G0, same := [67], look := [], ext := [] }
def view_Same_H : Hints := { seqs := [], loops := [], own := [] }
noncomputable def view_Same_F : PFn := closeF (runF Tryd.prog view_Same_E view_Same_H Tryd.f15)
def view_Same_Y : TH := { joins := [], loops := [], cuts := [], ro := [], news := [] }
noncomputable def view_Same (a0 : List (List (List UInt8) × Int × List (Int × Int × List UInt8 × Unit) × Int × Unit)) (a1 : List (List (List UInt8) × Int × List (Int × Int × List UInt8 × Unit) × Int × Unit)) : Option Bool :=
(slices_EqualFunc_Sl_view_Entry_Sl_view_Entry_view_Entry_view_Entry__view_same a0 a1 ()).bind fun r1 =>
 some r1
noncomputable def view_Same_T : TFn := { ps := (.cons (.sl (.agg (.cons (.sl .str) (.cons (.int .i64) (.cons (.sl (.agg (.cons (.int .i64) (.cons (.int .i64) (.cons .str .unit))))) (.cons (.int .i64) .unit)))))) (.cons (.sl (.agg (.cons (.sl .str) (.cons (.int .i64) (.cons (.sl (.agg (.cons (.int .i64) (.cons (.int .i64) (.cons .str .unit))))) (.cons (.int .i64) .unit)))))) .unit)), res := .bool, fn := fun v => view_Same v.1 v.2.1 }
noncomputable def view_Same_V : TEnv := { pure := [(37, slices_EqualFunc_Sl_view_Entry_Sl_view_Entry_view_Entry_view_Entry__view_same_T)], look := [], glob := G0T, ty := [], raw := [], fresh := [] }
theorem view_Same_eq : runY Tryd.prog view_Same_E view_Same_H view_Same_V view_Same_Y Tryd.f15 view_Same_T.ps view_Same_T.res = view_Same_T.fn := by kernel_rfl
theorem view_Same_Fok : SoundP Tryd.prog G0 15 view_Same_F := closeF_sound (runF_sound (P := Tryd.prog) (E := view_Same_E) (h := view_Same_H) (f := 15) (fn := Tryd.f15) ⟨same_ok, (envP_cons slices_EqualFunc_Sl_view_Entry_Sl_view_Entry_view_Entry_view_Entry__view_same_Fok envP_nil), envS_nil, envP_nil, envX_nil⟩ Tryd.func15 rfl (by kernel_rfl))
theorem view_Same_ok : TOk view_Same_F view_Same_T := runY_ok (E := view_Same_E) (ET := view_Same_V) (EnvT.ofX (E := view_Same_E) (ET := view_Same_V) (pure_of (pairs_cons slices_EqualFunc_Sl_view_Entry_Sl_view_Entry_view_Entry_view_Entry__view_same_ok pairs_nil)) looks_nil raws_nil G0_ok news_nil) view_Same_eq rfl
-- palinode/change.same
noncomputable def change_same_E : Env := { pure := [(15, view_Same_F)], raw := [], glob := G0, same := [67], look := [], ext := [] }
def change_same_H : Hints := { seqs := [], loops := [], own := [] }
noncomputable def change_same_F : PFn := closeF (runF Tryd.prog change_same_E change_same_H Tryd.f27)
def change_same_Y : TH := { joins := [], loops := [], cuts := [], ro := [2, 3], news := [] }
noncomputable def change_same (a0 : (List (List UInt8) × Int × List (Int × Int × List UInt8 × Unit) × Int × Unit)) (a1 : (List (List UInt8) × Int × List (Int × Int × List UInt8 × Unit) × Int × Unit)) : Option Bool :=
(view_Same ([a0] : List (List (List UInt8) × Int × List (Int × Int × List UInt8 × Unit) × Int × Unit)) ([a1] : List (List (List UInt8) × Int × List (Int × Int × List UInt8 × Unit) × Int × Unit))).bind fun r1 =>
 some r1
noncomputable def change_same_T : TFn := { ps := (.cons (.agg (.cons (.sl .str) (.cons (.int .i64) (.cons (.sl (.agg (.cons (.int .i64) (.cons (.int .i64) (.cons .str .unit))))) (.cons (.int .i64) .unit))))) (.cons (.agg (.cons (.sl .str) (.cons (.int .i64) (.cons (.sl (.agg (.cons (.int .i64) (.cons (.int .i64) (.cons .str .unit))))) (.cons (.int .i64) .unit))))) .unit)), res := .bool, fn := fun v => change_same v.1 v.2.1 }
noncomputable def change_same_V : TEnv := { pure := [(15, view_Same_T)], look := [], glob := G0T, ty := [(29, (.agg (.cons (.sl .str) (.cons (.int .i64) (.cons (.sl (.agg (.cons (.int .i64) (.cons (.int .i64) (.cons .str .unit))))) (.cons (.int .i64) .unit))))))], raw := [], fresh := [] }
theorem change_same_eq : runY Tryd.prog change_same_E change_same_H change_same_V change_same_Y Tryd.f27 change_same_T.ps change_same_T.res = change_same_T.fn := by kernel_rfl
theorem change_same_Fok : SoundP Tryd.prog G0 27 change_same_F := closeF_sound (runF_sound (P := Tryd.prog) (E := change_same_E) (h := change_same_H) (f := 27) (fn := Tryd.f27) ⟨same_ok, (envP_cons view_Same_Fok envP_nil), envS_nil, envP_nil, envX_nil⟩ Tryd.func27 rfl (by kernel_rfl))
theorem change_same_ok : TOk change_same_F change_same_T := runY_ok (E := change_same_E) (ET := change_same_V) (EnvT.ofX (E := change_same_E) (ET := change_same_V) (pure_of (pairs_cons view_Same_ok pairs_nil)) looks_nil raws_nil G0_ok news_nil) change_same_eq rfl
-- slices.Clone[[]string,string]
def slices_Clone_Sl_string_string_ren : Go.Shelf.Ren := ⟨fun | 41 => 49 | n => n, fun | 22 => 26 | 23 => 9 | 4 => 4 | n => n, fun | n => n⟩
theorem slices_Clone_Sl_string_string_lays : Go.Proofs.SlLaysE0.n41 Tryd.prog slices_Clone_Sl_string_string_ren := {
  mixed := by kernel_rfl
  f41 := ⟨Tryd.f49.name, by decide, Tryd.func49.trans (congrArg some (by kernel_rfl))⟩
  t4 := Tryd.underlying4
  a4 := Tryd.isAgg4
  z4 := Tryd.sizeOf4
  v4 := Tryd.zeroValue4
  t22 := Tryd.underlying26
  a22 := Tryd.isAgg26
  z22 := Tryd.sizeOf26
  v22 := Tryd.zeroValue26 }
noncomputable def slices_Clone_Sl_string_string_F : PFn := (cloneF 1)
theorem slices_Clone_Sl_string_string_Fok : SoundP Tryd.prog G0 49 slices_Clone_Sl_string_string_F := clone_lays slices_Clone_Sl_string_string_lays 1 ⟨Tryd.f49, Tryd.func49, rfl, by kernel_rfl⟩ (by kernel_rfl) (by kernel_rfl) (by kernel_rfl) (by kernel_rfl) (by kernel_rfl) (by decide) (fun w => Tryd.sizeOf9 w)
noncomputable def slices_Clone_Sl_string_string (a0 : List (List UInt8)) : Option (List (List UInt8)) := cloneT a0
noncomputable def slices_Clone_Sl_string_string_T : TFn := cloneT_T .str
theorem slices_Clone_Sl_string_string_ok : TOk slices_Clone_Sl_string_string_F slices_Clone_Sl_string_string_T := cloneT_ok rfl rfl rfl
-- slices.Clone[[]palinode/api.Value,palinode/api.Value]
def slices_Clone_Sl_api_Value_api_Value_ren : Go.Shelf.Ren := ⟨fun | 41 => 50 | n => n, fun | 22 => 27 | 23 => 54 | 4 => 4 | n => n, fun | n => n⟩
theorem slices_Clone_Sl_api_Value_api_Value_lays : Go.Proofs.SlLaysE0.n41 Tryd.prog slices_Clone_Sl_api_Value_api_Value_ren := {
  mixed := by kernel_rfl
  f41 := ⟨Tryd.f50.name, by decide, Tryd.func50.trans (congrArg some (by kernel_rfl))⟩
  t4 := Tryd.underlying4
  a4 := Tryd.isAgg4
  z4 := Tryd.sizeOf4
  v4 := Tryd.zeroValue4
  t22 := Tryd.underlying27
  a22 := Tryd.isAgg27
  z22 := Tryd.sizeOf27
  v22 := Tryd.zeroValue27 }
noncomputable def slices_Clone_Sl_api_Value_api_Value_F : PFn := (cloneF 3)
theorem slices_Clone_Sl_api_Value_api_Value_Fok : SoundP Tryd.prog G0 50 slices_Clone_Sl_api_Value_api_Value_F := clone_lays slices_Clone_Sl_api_Value_api_Value_lays 3 ⟨Tryd.f50, Tryd.func50, rfl, by kernel_rfl⟩ (by kernel_rfl) (by kernel_rfl) (by kernel_rfl) (by kernel_rfl) (by kernel_rfl) (by decide) (fun w => Tryd.sizeOf54 w)
noncomputable def slices_Clone_Sl_api_Value_api_Value (a0 : List (Int × Int × List UInt8 × Unit)) : Option (List (Int × Int × List UInt8 × Unit)) := cloneT a0
noncomputable def slices_Clone_Sl_api_Value_api_Value_T : TFn := cloneT_T (.agg (.cons (.int .i64) (.cons (.int .i64) (.cons .str .unit))))
theorem slices_Clone_Sl_api_Value_api_Value_ok : TOk slices_Clone_Sl_api_Value_api_Value_F slices_Clone_Sl_api_Value_api_Value_T := cloneT_ok rfl rfl rfl
-- palinode/change.clone
noncomputable def change_clone_E : Env := { pure := [(49, slices_Clone_Sl_string_string_F), (50, slices_Clone_Sl_api_Value_api_Value_F)], raw := [], glob := G0, same := [67], look := [], ext := [] }
def change_clone_H : Hints := { seqs := [], loops := [], own := [] }
noncomputable def change_clone_F : PFn := closeF (runF Tryd.prog change_clone_E change_clone_H Tryd.f29)
def change_clone_Y : TH := { joins := [], loops := [], cuts := [], ro := [], news := [] }
noncomputable def change_clone (a0 : (List (List UInt8) × Int × List (Int × Int × List UInt8 × Unit) × Int × Unit)) : Option (List (List UInt8) × Int × List (Int × Int × List UInt8 × Unit) × Int × Unit) :=
(slices_Clone_Sl_string_string a0.1).bind fun r1 =>
(slices_Clone_Sl_api_Value_api_Value a0.2.2.1).bind fun r2 =>
 some (r1, a0.2.1, r2, a0.2.2.2.1, ())
noncomputable def change_clone_T : TFn := { ps := (.cons (.agg (.cons (.sl .str) (.cons (.int .i64) (.cons (.sl (.agg (.cons (.int .i64) (.cons (.int .i64) (.cons .str .unit))))) (.cons (.int .i64) .unit))))) .unit), res := (.agg (.cons (.sl .str) (.cons (.int .i64) (.cons (.sl (.agg (.cons (.int .i64) (.cons (.int .i64) (.cons .str .unit))))) (.cons (.int .i64) .unit))))), fn := fun v => change_clone v.1 }
noncomputable def change_clone_V : TEnv := { pure := [(49, slices_Clone_Sl_string_string_T), (50, slices_Clone_Sl_api_Value_api_Value_T)], look := [], glob := G0T, ty := [], raw := [], fresh := [] }
theorem change_clone_eq : runY Tryd.prog change_clone_E change_clone_H change_clone_V change_clone_Y Tryd.f29 change_clone_T.ps change_clone_T.res = change_clone_T.fn := by kernel_rfl
theorem change_clone_Fok : SoundP Tryd.prog G0 29 change_clone_F := closeF_sound (runF_sound (P := Tryd.prog) (E := change_clone_E) (h := change_clone_H) (f := 29) (fn := Tryd.f29) ⟨same_ok, (envP_cons slices_Clone_Sl_string_string_Fok (envP_cons slices_Clone_Sl_api_Value_api_Value_Fok envP_nil)), envS_nil, envP_nil, envX_nil⟩ Tryd.func29 rfl (by kernel_rfl))
theorem change_clone_ok : TOk change_clone_F change_clone_T := runY_ok (E := change_clone_E) (ET := change_clone_V) (EnvT.ofX (E := change_clone_E) (ET := change_clone_V) (pure_of (pairs_cons slices_Clone_Sl_string_string_ok (pairs_cons slices_Clone_Sl_api_Value_api_Value_ok pairs_nil))) looks_nil raws_nil G0_ok news_nil) change_clone_eq rfl
-- slices.Insert[[]palinode/view.Entry,palinode/view.Entry]
def slices_Insert_Sl_view_Entry_view_Entry_ren : Go.Shelf.Ren := ⟨fun | 22 => 28 | 29 => 47 | 30 => 48 | n => n, fun | 24 => 22 | 9 => 29 | 0 => 0 | 3 => 3 | 4 => 4 | n => n, fun | n => n⟩
theorem slices_Insert_Sl_view_Entry_view_Entry_lays : InsL Tryd.prog slices_Insert_Sl_view_Entry_view_Entry_ren := {
  mixed := by kernel_rfl
  f22 := ⟨Tryd.f28.name, by decide, Tryd.func28.trans (congrArg some (by kernel_rfl))⟩
  f29 := ⟨Tryd.f47.name, by decide, by kernel_rfl, by kernel_rfl, Tryd.func47.trans (congrArg some (by kernel_rfl))⟩
  t0 := Tryd.underlying0
  a0 := Tryd.isAgg0
  z0 := Tryd.sizeOf0
  v0 := Tryd.zeroValue0
  t3 := Tryd.underlying3
  a3 := Tryd.isAgg3
  z3 := Tryd.sizeOf3
  v3 := Tryd.zeroValue3
  t4 := Tryd.underlying4
  a4 := Tryd.isAgg4
  z4 := Tryd.sizeOf4
  v4 := Tryd.zeroValue4
  t24 := Tryd.underlying22
  a24 := Tryd.isAgg22
  z24 := Tryd.sizeOf22
  v24 := Tryd.zeroValue22 }
noncomputable def slices_Insert_Sl_view_Entry_view_Entry_S : SFn := insertS 4 29
theorem slices_Insert_Sl_view_Entry_view_Entry_Sok : SoundS Tryd.prog G0 28 slices_Insert_Sl_view_Entry_view_Entry_S := insert_own slices_Insert_Sl_view_Entry_view_Entry_lays rfl rfl rfl (elem_lays (P := Tryd.prog) (te := 29) (M := 4) (by kernel_rfl) (by kernel_rfl) (by kernel_rfl) (by kernel_rfl) (by kernel_rfl) (by kernel_rfl) (by kernel_rfl) (by kernel_rfl)) true Tryd.isAgg29 ⟨Tryd.f28, Tryd.func28, rfl, by kernel_rfl⟩
noncomputable def slices_Insert_Sl_view_Entry_view_Entry (a1 : Int) (a2 : List (List (List UInt8) × Int × List (Int × Int × List UInt8 × Unit) × Int × Unit)) (w0 : List (List (List UInt8) × Int × List (Int × Int × List UInt8 × Unit) × Int × Unit)) : Option (Unit × List (List (List UInt8) × Int × List (Int × Int × List UInt8 × Unit) × Int × Unit) × Unit) := (insT w0 a1 a2).map fun l => ((), (l, ()))
noncomputable def slices_Insert_Sl_view_Entry_view_Entry_R : TRaw := insR false 29 (.agg (.cons (.sl .str) (.cons (.int .i64) (.cons (.sl (.agg (.cons (.int .i64) (.cons (.int .i64) (.cons .str .unit))))) (.cons (.int .i64) .unit)))))
theorem slices_Insert_Sl_view_Entry_view_Entry_ok : TRawOk slices_Insert_Sl_view_Entry_view_Entry_S slices_Insert_Sl_view_Entry_view_Entry_R := insR_ok rfl rfl rfl rfl (by decide)
-- slices.Delete[[]palinode/view.Entry,palinode/view.Entry]
def slices_Delete_Sl_view_Entry_view_Entry_ren : Go.Shelf.Ren := ⟨fun | 45 => 30 | n => n, fun | 22 => 22 | 23 => 29 | 0 => 0 | 3 => 3 | 4 => 4 | n => n, fun | n => n⟩
theorem slices_Delete_Sl_view_Entry_view_Entry_lays : Go.Proofs.SlLaysE0.n45 Tryd.prog slices_Delete_Sl_view_Entry_view_Entry_ren := {
  mixed := by kernel_rfl
  f45 := ⟨Tryd.f30.name, by decide, Tryd.func30.trans (congrArg some (by kernel_rfl))⟩
  t0 := Tryd.underlying0
  a0 := Tryd.isAgg0
  z0 := Tryd.sizeOf0
  v0 := Tryd.zeroValue0
  t3 := Tryd.underlying3
  a3 := Tryd.isAgg3
  z3 := Tryd.sizeOf3
  v3 := Tryd.zeroValue3
  t4 := Tryd.underlying4
  a4 := Tryd.isAgg4
  z4 := Tryd.sizeOf4
  v4 := Tryd.zeroValue4
  t22 := Tryd.underlying22
  a22 := Tryd.isAgg22
  z22 := Tryd.sizeOf22
  v22 := Tryd.zeroValue22 }
noncomputable def slices_Delete_Sl_view_Entry_view_Entry_S : SFn := deleteS 4 29
theorem slices_Delete_Sl_view_Entry_view_Entry_Sok : SoundS Tryd.prog G0 30 slices_Delete_Sl_view_Entry_view_Entry_S := delete_own slices_Delete_Sl_view_Entry_view_Entry_lays rfl rfl (elem_lays (P := Tryd.prog) (te := 29) (M := 4) (by kernel_rfl) (by kernel_rfl) (by kernel_rfl) (by kernel_rfl) (by kernel_rfl) (by kernel_rfl) (by kernel_rfl) (by kernel_rfl)) true Tryd.isAgg29 ⟨Tryd.f30, Tryd.func30, rfl, by kernel_rfl⟩
noncomputable def slices_Delete_Sl_view_Entry_view_Entry (a1 : Int) (a2 : Int) (w0 : List (List (List UInt8) × Int × List (Int × Int × List UInt8 × Unit) × Int × Unit)) : Option (Unit × List (List (List UInt8) × Int × List (Int × Int × List UInt8 × Unit) × Int × Unit) × Unit) := (delT w0 a1 a2).map fun l => ((), (l, ()))
noncomputable def slices_Delete_Sl_view_Entry_view_Entry_R : TRaw := delR 29 (.agg (.cons (.sl .str) (.cons (.int .i64) (.cons (.sl (.agg (.cons (.int .i64) (.cons (.int .i64) (.cons .str .unit))))) (.cons (.int .i64) .unit)))))
theorem slices_Delete_Sl_view_Entry_view_Entry_ok : TRawOk slices_Delete_Sl_view_Entry_view_Entry_S slices_Delete_Sl_view_Entry_view_Entry_R := delR_ok rfl rfl rfl rfl (by decide)
-- slices.BinarySearchFunc[[]palinode/view.Entry,palinode/view.Entry,palinode/view.Entry]
noncomputable def slices_BinarySearchFunc_Sl_view_Entry_view_Entry_view_Entry__change_compare_E : Env := { pure := [(26, change_compare_F)], raw := [], glob := G0, same := [67], look := [], ext := [] }
def slices_BinarySearchFunc_Sl_view_Entry_view_Entry_view_Entry__change_compare_H : Hints := { seqs := [], loops := [(3, [0, 2, 4, 8, 9, 10])], own := [] }
noncomputable def slices_BinarySearchFunc_Sl_view_Entry_view_Entry_view_Entry__change_compare_F : PFn := closeF (runF Tryd.prog slices_BinarySearchFunc_Sl_view_Entry_view_Entry_view_Entry__change_compare_E slices_BinarySearchFunc_Sl_view_Entry_view_Entry_view_Entry__change_compare_H Tryd.f24)
def slices_BinarySearchFunc_Sl_view_Entry_view_Entry_view_Entry__change_compare_Y : TH := { joins := [(8, { keep := [(4, (.bx 0 0)), (9, (.int .i64))], mem := [.same] })], loops := [(3, { keep := [(4, (.bx 0 0)), (9, (.int .i64)), (10, (.int .i64))], mem := [.same] })], cuts := [], ro := [4], news := [] }
noncomputable def slices_BinarySearchFunc_Sl_view_Entry_view_Entry_view_Entry__change_compare_l3 (a0 : List (List (List UInt8) × Int × List (Int × Int × List UInt8 × Unit) × Int × Unit)) (a1 : (List (List UInt8) × Int × List (Int × Int × List UInt8 × Unit) × Int × Unit)) (y3 : (Int × Int × Unit)) : Option ((Int × Int × Unit) ⊕ ((Int × Unit) ⊕ (Int × Bool × Unit))) :=
 cond (decide (y3.1 < y3.2.1)) (
(shrT .u64 (IntKind.wrap .u64 (IntKind.wrap .i64 (y3.1 + y3.2.1))) 1).bind fun t1 =>
(atI a0 (IntKind.wrap .i64 t1)).bind fun x2 =>
(change_compare x2 a1).bind fun r3 =>
 cond (decide (r3 < 0)) (
 some (.inl ((IntKind.wrap .i64 ((IntKind.wrap .i64 t1) + 1)), y3.2.1, ()))) (
 some (.inl (y3.1, (IntKind.wrap .i64 t1), ())))) (
 some (.inr (.inl (y3.1, ()))))
noncomputable def slices_BinarySearchFunc_Sl_view_Entry_view_Entry_view_Entry__change_compare (a0 : List (List (List UInt8) × Int × List (Int × Int × List UInt8 × Unit) × Int × Unit)) (a1 : (List (List UInt8) × Int × List (Int × Int × List UInt8 × Unit) × Int × Unit)) (a2 : Unit) : Option (Int × Bool × Unit) :=
(loopT (slices_BinarySearchFunc_Sl_view_Entry_view_Entry_view_Entry__change_compare_l3 a0 a1) (0, (a0.length : Int), ()) : Option ((Int × Unit) ⊕ (Int × Bool × Unit))).bind (joinS fun v4 =>
 cond (decide (v4.1 < (a0.length : Int))) ((atI a0 v4.1).bind fun x5 =>
(change_compare x5 a1).bind fun r6 =>
 some (v4.1, (decide (r6 = 0)), ())) (some (v4.1, false, ())))
noncomputable def slices_BinarySearchFunc_Sl_view_Entry_view_Entry_view_Entry__change_compare_T : TFn := { ps := (.cons (.sl (.agg (.cons (.sl .str) (.cons (.int .i64) (.cons (.sl (.agg (.cons (.int .i64) (.cons (.int .i64) (.cons .str .unit))))) (.cons (.int .i64) .unit)))))) (.cons (.agg (.cons (.sl .str) (.cons (.int .i64) (.cons (.sl (.agg (.cons (.int .i64) (.cons (.int .i64) (.cons .str .unit))))) (.cons (.int .i64) .unit))))) (.cons (.fn 26) .unit))), res := (.tup (.cons (.int .i64) (.cons .bool .unit))), fn := fun v => slices_BinarySearchFunc_Sl_view_Entry_view_Entry_view_Entry__change_compare v.1 v.2.1 v.2.2.1 }
noncomputable def slices_BinarySearchFunc_Sl_view_Entry_view_Entry_view_Entry__change_compare_V : TEnv := { pure := [(26, change_compare_T)], look := [], glob := G0T, ty := [], raw := [], fresh := [] }
theorem slices_BinarySearchFunc_Sl_view_Entry_view_Entry_view_Entry__change_compare_eq : runY Tryd.prog slices_BinarySearchFunc_Sl_view_Entry_view_Entry_view_Entry__change_compare_E slices_BinarySearchFunc_Sl_view_Entry_view_Entry_view_Entry__change_compare_H slices_BinarySearchFunc_Sl_view_Entry_view_Entry_view_Entry__change_compare_V slices_BinarySearchFunc_Sl_view_Entry_view_Entry_view_Entry__change_compare_Y Tryd.f24 slices_BinarySearchFunc_Sl_view_Entry_view_Entry_view_Entry__change_compare_T.ps slices_BinarySearchFunc_Sl_view_Entry_view_Entry_view_Entry__change_compare_T.res = slices_BinarySearchFunc_Sl_view_Entry_view_Entry_view_Entry__change_compare_T.fn := by kernel_rfl
theorem slices_BinarySearchFunc_Sl_view_Entry_view_Entry_view_Entry__change_compare_Fok : SoundP Tryd.prog G0 24 slices_BinarySearchFunc_Sl_view_Entry_view_Entry_view_Entry__change_compare_F := closeF_sound (runF_sound (P := Tryd.prog) (E := slices_BinarySearchFunc_Sl_view_Entry_view_Entry_view_Entry__change_compare_E) (h := slices_BinarySearchFunc_Sl_view_Entry_view_Entry_view_Entry__change_compare_H) (f := 24) (fn := Tryd.f24) ⟨same_ok, (envP_cons change_compare_Fok envP_nil), envS_nil, envP_nil, envX_nil⟩ Tryd.func24 rfl (by kernel_rfl))
theorem slices_BinarySearchFunc_Sl_view_Entry_view_Entry_view_Entry__change_compare_ok : TOk slices_BinarySearchFunc_Sl_view_Entry_view_Entry_view_Entry__change_compare_F slices_BinarySearchFunc_Sl_view_Entry_view_Entry_view_Entry__change_compare_T := runY_ok (E := slices_BinarySearchFunc_Sl_view_Entry_view_Entry_view_Entry__change_compare_E) (ET := slices_BinarySearchFunc_Sl_view_Entry_view_Entry_view_Entry__change_compare_V) (EnvT.ofX (E := slices_BinarySearchFunc_Sl_view_Entry_view_Entry_view_Entry__change_compare_E) (ET := slices_BinarySearchFunc_Sl_view_Entry_view_Entry_view_Entry__change_compare_V) (pure_of (pairs_cons change_compare_ok pairs_nil)) looks_nil raws_nil G0_ok news_nil) slices_BinarySearchFunc_Sl_view_Entry_view_Entry_view_Entry__change_compare_eq rfl
-- palinode/change.Apply
noncomputable def change_Apply_E : Env := { pure := [(25, change_Change_leaf_F), (26, change_compare_F), (27, change_same_F), (29, change_clone_F)], raw := [(23, slices_Clone_Sl_view_Entry_view_Entry_S), (28, slices_Insert_Sl_view_Entry_view_Entry_S), (30, slices_Delete_Sl_view_Entry_view_Entry_S)], glob := G0, same := [67], look := [(24, slices_BinarySearchFunc_Sl_view_Entry_view_Entry_view_Entry__change_compare_F)], ext := [] }
def change_Apply_H : Hints := { seqs := [], loops := [(3, [6, 13, 14, 15])], own := [] }
noncomputable def change_Apply_F : PFn := closeF (runF Tryd.prog change_Apply_E change_Apply_H Tryd.f9)
def change_Apply_Y : TH := { joins := [(12, { keep := [(6, (.own 0)), (8, (.bx 1 0))], mem := [.row false 29 (.agg (.cons (.sl .str) (.cons (.int .i64) (.cons (.sl (.agg (.cons (.int .i64) (.cons (.int .i64) (.cons .str .unit))))) (.cons (.int .i64) .unit))))), .box 31 (.agg (.cons (.int .i64) (.cons (.agg (.cons (.sl .str) (.cons (.int .i64) (.cons (.sl (.agg (.cons (.int .i64) (.cons (.int .i64) (.cons .str .unit))))) (.cons (.int .i64) .unit))))) (.cons (.agg (.cons (.sl .str) (.cons (.int .i64) (.cons (.sl (.agg (.cons (.int .i64) (.cons (.int .i64) (.cons .str .unit))))) (.cons (.int .i64) .unit))))) .unit))))] })], loops := [(3, { keep := [(6, (.own 0)), (15, (.int .i64))], mem := [.row false 29 (.agg (.cons (.sl .str) (.cons (.int .i64) (.cons (.sl (.agg (.cons (.int .i64) (.cons (.int .i64) (.cons .str .unit))))) (.cons (.int .i64) .unit)))))] })], cuts := [], ro := [], news := [] }
noncomputable def change_Apply_l3 (a1 : List (Int × (List (List UInt8) × Int × List (Int × Int × List UInt8 × Unit) × Int × Unit) × (List (List UInt8) × Int × List (Int × Int × List UInt8 × Unit) × Int × Unit) × Unit)) (y3 : (Int × List (List (List UInt8) × Int × List (Int × Int × List UInt8 × Unit) × Int × Unit) × Unit)) : Option ((Int × List (List (List UInt8) × Int × List (Int × Int × List UInt8 × Unit) × Int × Unit) × Unit) ⊕ (List (List (List UInt8) × Int × List (Int × Int × List UInt8 × Unit) × Int × Unit) × Int × Unit)) :=
 cond (decide (y3.1 < (a1.length : Int))) (
(atI a1 y3.1).bind fun x2 =>
(change_Change_leaf x2).bind fun r3 =>
(slices_BinarySearchFunc_Sl_view_Entry_view_Entry_view_Entry__change_compare y3.2.1 r3 ()).bind fun r4 =>
(cond (decide (x2.1 < 1)) (some (.inr (.inr ([], 18, ())))) (cond (decide (x2.1 > 3)) (
 some (.inr (.inr ([], 18, ())))) (
 cond (!(r4.2.1 == (!decide (x2.1 = 1)))) (some (.inr (.inr ([], 12, ())))) (cond r4.2.1 ((inI y3.2.1.length r4.1).bind fun i5 =>
(y3.2.1[i5]?).bind fun x6 =>
(change_same x6 x2.2.1).bind fun r7 =>
 cond (!r7) (
 some (.inr (.inr ([], 12, ())))) (
 cond (decide (x2.1 = 3)) ((change_compare x2.2.1 x2.2.2.1).bind fun r8 =>
 cond (!decide (r8 = 0)) (
 some (.inr (.inr ([], 2, ())))) (
 some (.inl (y3.2.1, x2, ())))) (some (.inl (y3.2.1, x2, ()))))) (cond (decide (x2.1 = 3)) ((change_compare x2.2.1 x2.2.2.1).bind fun r9 =>
 cond (!decide (r9 = 0)) (
 some (.inr (.inr ([], 2, ())))) (
 some (.inl (y3.2.1, x2, ())))) (some (.inl (y3.2.1, x2, ()))))))) : Option ((List (List (List UInt8) × Int × List (Int × Int × List UInt8 × Unit) × Int × Unit) × (Int × (List (List UInt8) × Int × List (Int × Int × List UInt8 × Unit) × Int × Unit) × (List (List UInt8) × Int × List (Int × Int × List UInt8 × Unit) × Int × Unit) × Unit) × Unit) ⊕ ((Int × List (List (List UInt8) × Int × List (Int × Int × List UInt8 × Unit) × Int × Unit) × Unit) ⊕ (List (List (List UInt8) × Int × List (Int × Int × List UInt8 × Unit) × Int × Unit) × Int × Unit)))).bind (joinS fun v10 =>
 cond (decide (v10.2.1.1 = 1)) (
(change_clone v10.2.1.2.2.1).bind fun r11 =>
(slices_Insert_Sl_view_Entry_view_Entry r4.1 ([r11] : List (List (List UInt8) × Int × List (Int × Int × List UInt8 × Unit) × Int × Unit)) v10.1).bind fun q12 =>
 some (.inl ((IntKind.wrap .i64 (y3.1 + 1)), q12.2.1, ()))) (
 cond (decide (v10.2.1.1 = 2)) (
(slices_Delete_Sl_view_Entry_view_Entry r4.1 (IntKind.wrap .i64 (r4.1 + 1)) v10.1).bind fun q13 =>
 some (.inl ((IntKind.wrap .i64 (y3.1 + 1)), q13.2.1, ()))) (
(change_clone v10.2.1.2.2.1).bind fun r14 =>
(inI v10.1.length r4.1).bind fun i15 =>
(v10.1[i15]?).bind fun x16 =>
 some (.inl ((IntKind.wrap .i64 (y3.1 + 1)), (v10.1.set i15 r14), ())))))) (
 some (.inr (y3.2.1, 0, ())))
noncomputable def change_Apply (a0 : List (List (List UInt8) × Int × List (Int × Int × List UInt8 × Unit) × Int × Unit)) (a1 : List (Int × (List (List UInt8) × Int × List (Int × Int × List UInt8 × Unit) × Int × Unit) × (List (List UInt8) × Int × List (Int × Int × List UInt8 × Unit) × Int × Unit) × Unit)) : Option (List (List (List UInt8) × Int × List (Int × Int × List UInt8 × Unit) × Int × Unit) × Int × Unit) :=
(slices_Clone_Sl_view_Entry_view_Entry a0).bind fun n1 =>
 loopT (change_Apply_l3 a1) (0, n1, ())
noncomputable def change_Apply_T : TFn := { ps := (.cons (.sl (.agg (.cons (.sl .str) (.cons (.int .i64) (.cons (.sl (.agg (.cons (.int .i64) (.cons (.int .i64) (.cons .str .unit))))) (.cons (.int .i64) .unit)))))) (.cons (.sl (.agg (.cons (.int .i64) (.cons (.agg (.cons (.sl .str) (.cons (.int .i64) (.cons (.sl (.agg (.cons (.int .i64) (.cons (.int .i64) (.cons .str .unit))))) (.cons (.int .i64) .unit))))) (.cons (.agg (.cons (.sl .str) (.cons (.int .i64) (.cons (.sl (.agg (.cons (.int .i64) (.cons (.int .i64) (.cons .str .unit))))) (.cons (.int .i64) .unit))))) .unit))))) .unit)), res := (.tup (.cons (.sl (.agg (.cons (.sl .str) (.cons (.int .i64) (.cons (.sl (.agg (.cons (.int .i64) (.cons (.int .i64) (.cons .str .unit))))) (.cons (.int .i64) .unit)))))) (.cons (.int .i64) .unit))), fn := fun v => change_Apply v.1 v.2.1 }
noncomputable def change_Apply_V : TEnv := { pure := [(25, change_Change_leaf_T), (26, change_compare_T), (27, change_same_T), (29, change_clone_T)], look := [(24, slices_BinarySearchFunc_Sl_view_Entry_view_Entry_view_Entry__change_compare_T)], glob := G0T, ty := [(29, (.agg (.cons (.sl .str) (.cons (.int .i64) (.cons (.sl (.agg (.cons (.int .i64) (.cons (.int .i64) (.cons .str .unit))))) (.cons (.int .i64) .unit))))))], raw := [(28, slices_Insert_Sl_view_Entry_view_Entry_R), (30, slices_Delete_Sl_view_Entry_view_Entry_R)], fresh := [(23, slices_Clone_Sl_view_Entry_view_Entry_N)] }
theorem change_Apply_eq : runY Tryd.prog change_Apply_E change_Apply_H change_Apply_V change_Apply_Y Tryd.f9 change_Apply_T.ps change_Apply_T.res = change_Apply_T.fn := by kernel_rfl
theorem change_Apply_Fok : SoundP Tryd.prog G0 9 change_Apply_F := closeF_sound (runF_sound (P := Tryd.prog) (E := change_Apply_E) (h := change_Apply_H) (f := 9) (fn := Tryd.f9) ⟨same_ok, (envP_cons change_Change_leaf_Fok (envP_cons change_compare_Fok (envP_cons change_same_Fok (envP_cons change_clone_Fok envP_nil)))), (envS_cons slices_Clone_Sl_view_Entry_view_Entry_Sok (envS_cons slices_Insert_Sl_view_Entry_view_Entry_Sok (envS_cons slices_Delete_Sl_view_Entry_view_Entry_Sok envS_nil))), (envP_cons slices_BinarySearchFunc_Sl_view_Entry_view_Entry_view_Entry__change_compare_Fok envP_nil), envX_nil⟩ Tryd.func9 rfl (by kernel_rfl))
theorem change_Apply_ok : TOk change_Apply_F change_Apply_T := runY_ok (E := change_Apply_E) (ET := change_Apply_V) (EnvT.ofX (E := change_Apply_E) (ET := change_Apply_V) (pure_of (pairs_cons change_Change_leaf_ok (pairs_cons change_compare_ok (pairs_cons change_same_ok (pairs_cons change_clone_ok pairs_nil))))) (looks_cons slices_BinarySearchFunc_Sl_view_Entry_view_Entry_view_Entry__change_compare_ok rfl looks_nil) (raws_more (raws_cons slices_Insert_Sl_view_Entry_view_Entry_ok rfl rfl (raws_cons slices_Delete_Sl_view_Entry_view_Entry_ok rfl rfl raws_nil)) rfl) G0_ok (news_cons slices_Clone_Sl_view_Entry_view_Entry_ok rfl rfl rfl news_nil)) change_Apply_eq rfl
-- palinode/palinoderef39.Leaf
-- palinode/palinoderef39.find
-- palinode/palinoderef03.Same
noncomputable def ref03_Same_E : Env := { pure := [], raw := [], glob := G0, same := [67], look := [], ext := [] }
def ref03_Same_H : Hints := { seqs := [], loops := [(4, [0, 1, 5])], own := [] }
noncomputable def ref03_Same_F : PFn := closeF (runF Tryd.prog ref03_Same_E ref03_Same_H Tryd.f35)
def ref03_Same_Y : TH := { joins := [], loops := [(4, { keep := [(5, (.int .i64))], mem := [] })], cuts := [], ro := [], news := [] }
noncomputable def ref03_Same_l4 (a0 : List (List UInt8)) (a1 : List (List UInt8)) (y4 : (Int × Unit)) : Option ((Int × Unit) ⊕ Bool) :=
 cond (decide (y4.1 < (a0.length : Int))) (
(atI a0 y4.1).bind fun x1 =>
(atI a1 y4.1).bind fun x2 =>
 cond (!decide (x1 = x2)) (
 some (.inr false)) (
 some (.inl ((IntKind.wrap .i64 (y4.1 + 1)), ())))) (
 some (.inr true))
noncomputable def ref03_Same (a0 : List (List UInt8)) (a1 : List (List UInt8)) : Option Bool :=
 cond (!decide ((a0.length : Int) = (a1.length : Int))) (
 some false) (
 loopT (ref03_Same_l4 a0 a1) (0, ()))
noncomputable def ref03_Same_T : TFn := { ps := (.cons (.sl .str) (.cons (.sl .str) .unit)), res := .bool, fn := fun v => ref03_Same v.1 v.2.1 }
noncomputable def ref03_Same_V : TEnv := { pure := [], look := [], glob := G0T, ty := [], raw := [], fresh := [] }
theorem ref03_Same_eq : runY Tryd.prog ref03_Same_E ref03_Same_H ref03_Same_V ref03_Same_Y Tryd.f35 ref03_Same_T.ps ref03_Same_T.res = ref03_Same_T.fn := by kernel_rfl
theorem ref03_Same_Fok : SoundP Tryd.prog G0 35 ref03_Same_F := closeF_sound (runF_sound (P := Tryd.prog) (E := ref03_Same_E) (h := ref03_Same_H) (f := 35) (fn := Tryd.f35) ⟨same_ok, envP_nil, envS_nil, envP_nil, envX_nil⟩ Tryd.func35 rfl (by kernel_rfl))
theorem ref03_Same_ok : TOk ref03_Same_F ref03_Same_T := runY_ok (E := ref03_Same_E) (ET := ref03_Same_V) (EnvT.ofX (E := ref03_Same_E) (ET := ref03_Same_V) (pure_of pairs_nil) looks_nil raws_nil G0_ok news_nil) ref03_Same_eq rfl
-- palinode/palinoderef09.Same
noncomputable def ref09_Same_E : Env := { pure := [], raw := [], glob := G0, same := [67], look := [], ext := [] }
def ref09_Same_H : Hints := { seqs := [], loops := [(4, [0, 1, 5])], own := [] }
noncomputable def ref09_Same_F : PFn := closeF (runF Tryd.prog ref09_Same_E ref09_Same_H Tryd.f36)
def ref09_Same_Y : TH := { joins := [], loops := [(4, { keep := [(5, (.int .i64))], mem := [] })], cuts := [], ro := [], news := [] }
noncomputable def ref09_Same_l4 (a0 : List (Int × Int × List UInt8 × Unit)) (a1 : List (Int × Int × List UInt8 × Unit)) (y4 : (Int × Unit)) : Option ((Int × Unit) ⊕ Bool) :=
 cond (decide (y4.1 < (a0.length : Int))) (
(atI a0 y4.1).bind fun x1 =>
(atI a1 y4.1).bind fun x2 =>
 cond (!(eqV (.agg (.cons (.int .i64) (.cons (.int .i64) (.cons .str .unit)))) x1 x2)) (
 some (.inr false)) (
 some (.inl ((IntKind.wrap .i64 (y4.1 + 1)), ())))) (
 some (.inr true))
noncomputable def ref09_Same (a0 : List (Int × Int × List UInt8 × Unit)) (a1 : List (Int × Int × List UInt8 × Unit)) : Option Bool :=
 cond (!decide ((a0.length : Int) = (a1.length : Int))) (
 some false) (
 loopT (ref09_Same_l4 a0 a1) (0, ()))
noncomputable def ref09_Same_T : TFn := { ps := (.cons (.sl (.agg (.cons (.int .i64) (.cons (.int .i64) (.cons .str .unit))))) (.cons (.sl (.agg (.cons (.int .i64) (.cons (.int .i64) (.cons .str .unit))))) .unit)), res := .bool, fn := fun v => ref09_Same v.1 v.2.1 }
noncomputable def ref09_Same_V : TEnv := { pure := [], look := [], glob := G0T, ty := [], raw := [], fresh := [] }
theorem ref09_Same_eq : runY Tryd.prog ref09_Same_E ref09_Same_H ref09_Same_V ref09_Same_Y Tryd.f36 ref09_Same_T.ps ref09_Same_T.res = ref09_Same_T.fn := by kernel_rfl
theorem ref09_Same_Fok : SoundP Tryd.prog G0 36 ref09_Same_F := closeF_sound (runF_sound (P := Tryd.prog) (E := ref09_Same_E) (h := ref09_Same_H) (f := 36) (fn := Tryd.f36) ⟨same_ok, envP_nil, envS_nil, envP_nil, envX_nil⟩ Tryd.func36 rfl (by kernel_rfl))
theorem ref09_Same_ok : TOk ref09_Same_F ref09_Same_T := runY_ok (E := ref09_Same_E) (ET := ref09_Same_V) (EnvT.ofX (E := ref09_Same_E) (ET := ref09_Same_V) (pure_of pairs_nil) looks_nil raws_nil G0_ok news_nil) ref09_Same_eq rfl
-- palinode/palinoderef18.Same
noncomputable def ref18_Same_E : Env := { pure := [(35, ref03_Same_F), (36, ref09_Same_F)], raw := [], glob := G0, same := [67], look := [], ext := [] }
def ref18_Same_H : Hints := { seqs := [], loops := [(4, [0, 1, 5])], own := [] }
noncomputable def ref18_Same_F : PFn := closeF (runF Tryd.prog ref18_Same_E ref18_Same_H Tryd.f13)
def ref18_Same_Y : TH := { joins := [], loops := [(4, { keep := [(5, (.int .i64))], mem := [] })], cuts := [(6, [(24, { keep := [(40, .bool)], mem := [] }), (14, { keep := [(54, .bool)], mem := [] })])], ro := [], news := [] }
noncomputable def ref18_Same_l4 (a0 : List (List (List UInt8) × Int × List (Int × Int × List UInt8 × Unit) × Int × Unit)) (a1 : List (List (List UInt8) × Int × List (Int × Int × List UInt8 × Unit) × Int × Unit)) (y4 : (Int × Unit)) : Option ((Int × Unit) ⊕ Bool) :=
 cond (decide (y4.1 < (a0.length : Int))) (
((atI a0 y4.1).bind fun x1 =>
(atI a1 y4.1).bind fun x2 =>
 cond (!decide (x1.2.1 = x2.2.1)) (some (true, ())) ((atI a0 y4.1).bind fun x3 =>
(atI a1 y4.1).bind fun x4 =>
 some ((!decide (x3.2.2.2.1 = x4.2.2.2.1)), ())) : Option (Bool × Unit)).bind fun v5 =>
(cond v5.1 (some (true, ())) ((atI a0 y4.1).bind fun x6 =>
(atI a1 y4.1).bind fun x7 =>
(ref03_Same x6.1 x7.1).bind fun r8 =>
 some ((!r8), ())) : Option (Bool × Unit)).bind fun v9 =>
 cond v9.1 (some (.inr false)) ((atI a0 y4.1).bind fun x10 =>
(atI a1 y4.1).bind fun x11 =>
(ref09_Same x10.2.2.1 x11.2.2.1).bind fun r12 =>
 cond (!r12) (
 some (.inr false)) (
 some (.inl ((IntKind.wrap .i64 (y4.1 + 1)), ()))))) (
 some (.inr true))
noncomputable def ref18_Same (a0 : List (List (List UInt8) × Int × List (Int × Int × List UInt8 × Unit) × Int × Unit)) (a1 : List (List (List UInt8) × Int × List (Int × Int × List UInt8 × Unit) × Int × Unit)) : Option Bool :=
 cond (!decide ((a0.length : Int) = (a1.length : Int))) (
 some false) (
 loopT (ref18_Same_l4 a0 a1) (0, ()))
noncomputable def ref18_Same_T : TFn := { ps := (.cons (.sl (.agg (.cons (.sl .str) (.cons (.int .i64) (.cons (.sl (.agg (.cons (.int .i64) (.cons (.int .i64) (.cons .str .unit))))) (.cons (.int .i64) .unit)))))) (.cons (.sl (.agg (.cons (.sl .str) (.cons (.int .i64) (.cons (.sl (.agg (.cons (.int .i64) (.cons (.int .i64) (.cons .str .unit))))) (.cons (.int .i64) .unit)))))) .unit)), res := .bool, fn := fun v => ref18_Same v.1 v.2.1 }
noncomputable def ref18_Same_V : TEnv := { pure := [(35, ref03_Same_T), (36, ref09_Same_T)], look := [], glob := G0T, ty := [], raw := [], fresh := [] }
theorem ref18_Same_eq : runY Tryd.prog ref18_Same_E ref18_Same_H ref18_Same_V ref18_Same_Y Tryd.f13 ref18_Same_T.ps ref18_Same_T.res = ref18_Same_T.fn := by kernel_rfl
theorem ref18_Same_Fok : SoundP Tryd.prog G0 13 ref18_Same_F := closeF_sound (runF_sound (P := Tryd.prog) (E := ref18_Same_E) (h := ref18_Same_H) (f := 13) (fn := Tryd.f13) ⟨same_ok, (envP_cons ref03_Same_Fok (envP_cons ref09_Same_Fok envP_nil)), envS_nil, envP_nil, envX_nil⟩ Tryd.func13 rfl (by kernel_rfl))
theorem ref18_Same_ok : TOk ref18_Same_F ref18_Same_T := runY_ok (E := ref18_Same_E) (ET := ref18_Same_V) (EnvT.ofX (E := ref18_Same_E) (ET := ref18_Same_V) (pure_of (pairs_cons ref03_Same_ok (pairs_cons ref09_Same_ok pairs_nil))) looks_nil raws_nil G0_ok news_nil) ref18_Same_eq rfl
-- palinode/palinoderef39.same
-- palinode/palinoderef39.Apply
-- palinode/palinodelaw39.changes
noncomputable def law39_changes_E : Env := { pure := [(11, law39_Theirs_F)], raw := [], glob := G0, same := [67], look := [], ext := [] }
def law39_changes_H : Hints := { seqs := [], loops := [(3, [0, 3, 4])], own := [] }
noncomputable def law39_changes_F : PFn := closeF (runF Tryd.prog law39_changes_E law39_changes_H Tryd.f12)
def law39_changes_Y : TH := { joins := [], loops := [(3, { keep := [(3, (.own 0)), (4, (.int .i64))], mem := [.row true 66 (.agg (.cons (.int .i64) (.cons (.agg (.cons (.sl .str) (.cons (.int .i64) (.cons (.sl (.agg (.cons (.int .i64) (.cons (.int .i64) (.cons .str .unit))))) (.cons (.int .i64) .unit))))) (.cons (.agg (.cons (.sl .str) (.cons (.int .i64) (.cons (.sl (.agg (.cons (.int .i64) (.cons (.int .i64) (.cons .str .unit))))) (.cons (.int .i64) .unit))))) .unit))))] })], cuts := [], ro := [], news := [] }
noncomputable def law39_changes_l3 (a0 : List (Int × (List (List UInt8) × Int × List (Int × Int × List UInt8 × Unit) × Int × Unit) × (List (List UInt8) × Int × List (Int × Int × List UInt8 × Unit) × Int × Unit) × Unit)) (y3 : (Int × List (Int × (List (List UInt8) × Int × List (Int × Int × List UInt8 × Unit) × Int × Unit) × (List (List UInt8) × Int × List (Int × Int × List UInt8 × Unit) × Int × Unit) × Unit) × Unit)) : Option ((Int × List (Int × (List (List UInt8) × Int × List (Int × Int × List UInt8 × Unit) × Int × Unit) × (List (List UInt8) × Int × List (Int × Int × List UInt8 × Unit) × Int × Unit) × Unit) × Unit) ⊕ List (Int × (List (List UInt8) × Int × List (Int × Int × List UInt8 × Unit) × Int × Unit) × (List (List UInt8) × Int × List (Int × Int × List UInt8 × Unit) × Int × Unit) × Unit)) :=
 cond (decide (y3.1 < (a0.length : Int))) (
(atI a0 y3.1).bind fun x1 =>
(atI a0 y3.1).bind fun x2 =>
(law39_Theirs ([x1.2.1, x2.2.2.1] : List (List (List UInt8) × Int × List (Int × Int × List UInt8 × Unit) × Int × Unit))).bind fun r3 =>
(atI a0 y3.1).bind fun x4 =>
(atI r3 0).bind fun x5 =>
(atI r3 1).bind fun x6 =>
(roomT (y3.2.1.length + ([(x4.1, x5, x6, ())] : List (Int × (List (List UInt8) × Int × List (Int × Int × List UInt8 × Unit) × Int × Unit) × (List (List UInt8) × Int × List (Int × Int × List UInt8 × Unit) × Int × Unit) × Unit)).length)).bind fun u7 =>
 some (.inl ((IntKind.wrap .i64 (y3.1 + 1)), (y3.2.1 ++ ([(x4.1, x5, x6, ())] : List (Int × (List (List UInt8) × Int × List (Int × Int × List UInt8 × Unit) × Int × Unit) × (List (List UInt8) × Int × List (Int × Int × List UInt8 × Unit) × Int × Unit) × Unit))), ()))) (
 some (.inr y3.2.1))
noncomputable def law39_changes (a0 : List (Int × (List (List UInt8) × Int × List (Int × Int × List UInt8 × Unit) × Int × Unit) × (List (List UInt8) × Int × List (Int × Int × List UInt8 × Unit) × Int × Unit) × Unit)) : Option (List (Int × (List (List UInt8) × Int × List (Int × Int × List UInt8 × Unit) × Int × Unit) × (List (List UInt8) × Int × List (Int × Int × List UInt8 × Unit) × Int × Unit) × Unit)) :=
 loopT (law39_changes_l3 a0) (0, [], ())
noncomputable def law39_changes_T : TFn := { ps := (.cons (.sl (.agg (.cons (.int .i64) (.cons (.agg (.cons (.sl .str) (.cons (.int .i64) (.cons (.sl (.agg (.cons (.int .i64) (.cons (.int .i64) (.cons .str .unit))))) (.cons (.int .i64) .unit))))) (.cons (.agg (.cons (.sl .str) (.cons (.int .i64) (.cons (.sl (.agg (.cons (.int .i64) (.cons (.int .i64) (.cons .str .unit))))) (.cons (.int .i64) .unit))))) .unit))))) .unit), res := (.sl (.agg (.cons (.int .i64) (.cons (.agg (.cons (.sl .str) (.cons (.int .i64) (.cons (.sl (.agg (.cons (.int .i64) (.cons (.int .i64) (.cons .str .unit))))) (.cons (.int .i64) .unit))))) (.cons (.agg (.cons (.sl .str) (.cons (.int .i64) (.cons (.sl (.agg (.cons (.int .i64) (.cons (.int .i64) (.cons .str .unit))))) (.cons (.int .i64) .unit))))) .unit))))), fn := fun v => law39_changes v.1 }
noncomputable def law39_changes_V : TEnv := { pure := [(11, law39_Theirs_T)], look := [], glob := G0T, ty := [(29, (.agg (.cons (.sl .str) (.cons (.int .i64) (.cons (.sl (.agg (.cons (.int .i64) (.cons (.int .i64) (.cons .str .unit))))) (.cons (.int .i64) .unit)))))), (66, (.agg (.cons (.int .i64) (.cons (.agg (.cons (.sl .str) (.cons (.int .i64) (.cons (.sl (.agg (.cons (.int .i64) (.cons (.int .i64) (.cons .str .unit))))) (.cons (.int .i64) .unit))))) (.cons (.agg (.cons (.sl .str) (.cons (.int .i64) (.cons (.sl (.agg (.cons (.int .i64) (.cons (.int .i64) (.cons .str .unit))))) (.cons (.int .i64) .unit))))) .unit)))))], raw := [], fresh := [] }
theorem law39_changes_eq : runY Tryd.prog law39_changes_E law39_changes_H law39_changes_V law39_changes_Y Tryd.f12 law39_changes_T.ps law39_changes_T.res = law39_changes_T.fn := by kernel_rfl
theorem law39_changes_Fok : SoundP Tryd.prog G0 12 law39_changes_F := closeF_sound (runF_sound (P := Tryd.prog) (E := law39_changes_E) (h := law39_changes_H) (f := 12) (fn := Tryd.f12) ⟨same_ok, (envP_cons law39_Theirs_Fok envP_nil), envS_nil, envP_nil, envX_nil⟩ Tryd.func12 rfl (by kernel_rfl))
theorem law39_changes_ok : TOk law39_changes_F law39_changes_T := runY_ok (E := law39_changes_E) (ET := law39_changes_V) (EnvT.ofX (E := law39_changes_E) (ET := law39_changes_V) (pure_of (pairs_cons law39_Theirs_ok pairs_nil)) looks_nil raws_nil G0_ok news_nil) law39_changes_eq rfl
-- palinode/change.Diff
noncomputable def change_Diff_E : Env := { pure := [(26, change_compare_F), (27, change_same_F), (29, change_clone_F)], raw := [], glob := G0, same := [67], look := [], ext := [] }
def change_Diff_H : Hints := { seqs := [], loops := [(2, [0, 1, 5])], own := [] }
noncomputable def change_Diff_F : PFn := closeF (runF Tryd.prog change_Diff_E change_Diff_H Tryd.f14)
def change_Diff_Y : TH := { joins := [(3, { keep := [(5, (.own 0))], mem := [.row true 31 (.agg (.cons (.int .i64) (.cons (.agg (.cons (.sl .str) (.cons (.int .i64) (.cons (.sl (.agg (.cons (.int .i64) (.cons (.int .i64) (.cons .str .unit))))) (.cons (.int .i64) .unit))))) (.cons (.agg (.cons (.sl .str) (.cons (.int .i64) (.cons (.sl (.agg (.cons (.int .i64) (.cons (.int .i64) (.cons .str .unit))))) (.cons (.int .i64) .unit))))) .unit))))] }), (11, { keep := [(5, (.own 0)), (6, (.int .i64))], mem := [.row true 31 (.agg (.cons (.int .i64) (.cons (.agg (.cons (.sl .str) (.cons (.int .i64) (.cons (.sl (.agg (.cons (.int .i64) (.cons (.int .i64) (.cons .str .unit))))) (.cons (.int .i64) .unit))))) (.cons (.agg (.cons (.sl .str) (.cons (.int .i64) (.cons (.sl (.agg (.cons (.int .i64) (.cons (.int .i64) (.cons .str .unit))))) (.cons (.int .i64) .unit))))) .unit))))] }), (10, { keep := [(5, (.own 0))], mem := [.row true 31 (.agg (.cons (.int .i64) (.cons (.agg (.cons (.sl .str) (.cons (.int .i64) (.cons (.sl (.agg (.cons (.int .i64) (.cons (.int .i64) (.cons .str .unit))))) (.cons (.int .i64) .unit))))) (.cons (.agg (.cons (.sl .str) (.cons (.int .i64) (.cons (.sl (.agg (.cons (.int .i64) (.cons (.int .i64) (.cons .str .unit))))) (.cons (.int .i64) .unit))))) .unit))))] })], loops := [(2, { keep := [(0, (.sl (.agg (.cons (.sl .str) (.cons (.int .i64) (.cons (.sl (.agg (.cons (.int .i64) (.cons (.int .i64) (.cons .str .unit))))) (.cons (.int .i64) .unit))))))), (1, (.sl (.agg (.cons (.sl .str) (.cons (.int .i64) (.cons (.sl (.agg (.cons (.int .i64) (.cons (.int .i64) (.cons .str .unit))))) (.cons (.int .i64) .unit))))))), (5, (.own 0))], mem := [.row true 31 (.agg (.cons (.int .i64) (.cons (.agg (.cons (.sl .str) (.cons (.int .i64) (.cons (.sl (.agg (.cons (.int .i64) (.cons (.int .i64) (.cons .str .unit))))) (.cons (.int .i64) .unit))))) (.cons (.agg (.cons (.sl .str) (.cons (.int .i64) (.cons (.sl (.agg (.cons (.int .i64) (.cons (.int .i64) (.cons .str .unit))))) (.cons (.int .i64) .unit))))) .unit))))] })], cuts := [], ro := [], news := [] }
noncomputable def change_Diff_l2 (y2 : (List (List (List UInt8) × Int × List (Int × Int × List UInt8 × Unit) × Int × Unit) × List (List (List UInt8) × Int × List (Int × Int × List UInt8 × Unit) × Int × Unit) × List (Int × (List (List UInt8) × Int × List (Int × Int × List UInt8 × Unit) × Int × Unit) × (List (List UInt8) × Int × List (Int × Int × List UInt8 × Unit) × Int × Unit) × Unit) × Unit)) : Option ((List (List (List UInt8) × Int × List (Int × Int × List UInt8 × Unit) × Int × Unit) × List (List (List UInt8) × Int × List (Int × Int × List UInt8 × Unit) × Int × Unit) × List (Int × (List (List UInt8) × Int × List (Int × Int × List UInt8 × Unit) × Int × Unit) × (List (List UInt8) × Int × List (Int × Int × List UInt8 × Unit) × Int × Unit) × Unit) × Unit) ⊕ List (Int × (List (List UInt8) × Int × List (Int × Int × List UInt8 × Unit) × Int × Unit) × (List (List UInt8) × Int × List (Int × Int × List UInt8 × Unit) × Int × Unit) × Unit)) :=
(cond (decide ((y2.1.length : Int) > 0)) (some (.inl (y2.2.2.1, ()))) (cond (decide ((y2.2.1.length : Int) > 0)) (
 some (.inl (y2.2.2.1, ()))) (
 some (.inr (.inr y2.2.2.1)))) : Option ((List (Int × (List (List UInt8) × Int × List (Int × Int × List UInt8 × Unit) × Int × Unit) × (List (List UInt8) × Int × List (Int × Int × List UInt8 × Unit) × Int × Unit) × Unit) × Unit) ⊕ ((List (List (List UInt8) × Int × List (Int × Int × List UInt8 × Unit) × Int × Unit) × List (List (List UInt8) × Int × List (Int × Int × List UInt8 × Unit) × Int × Unit) × List (Int × (List (List UInt8) × Int × List (Int × Int × List UInt8 × Unit) × Int × Unit) × (List (List UInt8) × Int × List (Int × Int × List UInt8 × Unit) × Int × Unit) × Unit) × Unit) ⊕ List (Int × (List (List UInt8) × Int × List (Int × Int × List UInt8 × Unit) × Int × Unit) × (List (List UInt8) × Int × List (Int × Int × List UInt8 × Unit) × Int × Unit) × Unit)))).bind (joinS fun v1 =>
(cond (decide ((y2.2.1.length : Int) = 0)) (
 some (.inl ((-1), v1.1, ()))) (
 cond (decide ((y2.1.length : Int) > 0)) (
(atI y2.1 0).bind fun x2 =>
(atI y2.2.1 0).bind fun x3 =>
(change_compare x2 x3).bind fun r4 =>
 some (.inl (r4, v1.1, ()))) (
 some (.inl (1, v1.1, ())))) : Option ((Int × List (Int × (List (List UInt8) × Int × List (Int × Int × List UInt8 × Unit) × Int × Unit) × (List (List UInt8) × Int × List (Int × Int × List UInt8 × Unit) × Int × Unit) × Unit) × Unit) ⊕ ((List (List (List UInt8) × Int × List (Int × Int × List UInt8 × Unit) × Int × Unit) × List (List (List UInt8) × Int × List (Int × Int × List UInt8 × Unit) × Int × Unit) × List (Int × (List (List UInt8) × Int × List (Int × Int × List UInt8 × Unit) × Int × Unit) × (List (List UInt8) × Int × List (Int × Int × List UInt8 × Unit) × Int × Unit) × Unit) × Unit) ⊕ List (Int × (List (List UInt8) × Int × List (Int × Int × List UInt8 × Unit) × Int × Unit) × (List (List UInt8) × Int × List (Int × Int × List UInt8 × Unit) × Int × Unit) × Unit)))).bind (joinS fun v5 =>
 cond (decide (v5.1 < 0)) (
(atI y2.1 0).bind fun x6 =>
(change_clone x6).bind fun r7 =>
(roomT (v5.2.1.length + ([(2, (r7.1, r7.2.1, r7.2.2.1, r7.2.2.2.1, ()), ([], 0, [], 0, ()), ())] : List (Int × (List (List UInt8) × Int × List (Int × Int × List UInt8 × Unit) × Int × Unit) × (List (List UInt8) × Int × List (Int × Int × List UInt8 × Unit) × Int × Unit) × Unit)).length)).bind fun u8 =>
(subI y2.1 1 (y2.1.length : Int)).bind fun s9 =>
 some (.inl (s9, y2.2.1, (v5.2.1 ++ ([(2, (r7.1, r7.2.1, r7.2.2.1, r7.2.2.2.1, ()), ([], 0, [], 0, ()), ())] : List (Int × (List (List UInt8) × Int × List (Int × Int × List UInt8 × Unit) × Int × Unit) × (List (List UInt8) × Int × List (Int × Int × List UInt8 × Unit) × Int × Unit) × Unit))), ()))) (
 cond (decide (v5.1 > 0)) (
(atI y2.2.1 0).bind fun x10 =>
(change_clone x10).bind fun r11 =>
(roomT (v5.2.1.length + ([(1, ([], 0, [], 0, ()), (r11.1, r11.2.1, r11.2.2.1, r11.2.2.2.1, ()), ())] : List (Int × (List (List UInt8) × Int × List (Int × Int × List UInt8 × Unit) × Int × Unit) × (List (List UInt8) × Int × List (Int × Int × List UInt8 × Unit) × Int × Unit) × Unit)).length)).bind fun u12 =>
(subI y2.2.1 1 (y2.2.1.length : Int)).bind fun s13 =>
 some (.inl (y2.1, s13, (v5.2.1 ++ ([(1, ([], 0, [], 0, ()), (r11.1, r11.2.1, r11.2.2.1, r11.2.2.2.1, ()), ())] : List (Int × (List (List UInt8) × Int × List (Int × Int × List UInt8 × Unit) × Int × Unit) × (List (List UInt8) × Int × List (Int × Int × List UInt8 × Unit) × Int × Unit) × Unit))), ()))) (
((atI y2.1 0).bind fun x14 =>
(atI y2.2.1 0).bind fun x15 =>
(change_same x14 x15).bind fun r16 =>
 cond (!r16) (
(atI y2.1 0).bind fun x17 =>
(change_clone x17).bind fun r18 =>
(atI y2.2.1 0).bind fun x19 =>
(change_clone x19).bind fun r20 =>
(roomT (v5.2.1.length + ([(3, r18, r20, ())] : List (Int × (List (List UInt8) × Int × List (Int × Int × List UInt8 × Unit) × Int × Unit) × (List (List UInt8) × Int × List (Int × Int × List UInt8 × Unit) × Int × Unit) × Unit)).length)).bind fun u21 =>
 some (.inl ((v5.2.1 ++ ([(3, r18, r20, ())] : List (Int × (List (List UInt8) × Int × List (Int × Int × List UInt8 × Unit) × Int × Unit) × (List (List UInt8) × Int × List (Int × Int × List UInt8 × Unit) × Int × Unit) × Unit))), ()))) (
 some (.inl (v5.2.1, ()))) : Option ((List (Int × (List (List UInt8) × Int × List (Int × Int × List UInt8 × Unit) × Int × Unit) × (List (List UInt8) × Int × List (Int × Int × List UInt8 × Unit) × Int × Unit) × Unit) × Unit) ⊕ ((List (List (List UInt8) × Int × List (Int × Int × List UInt8 × Unit) × Int × Unit) × List (List (List UInt8) × Int × List (Int × Int × List UInt8 × Unit) × Int × Unit) × List (Int × (List (List UInt8) × Int × List (Int × Int × List UInt8 × Unit) × Int × Unit) × (List (List UInt8) × Int × List (Int × Int × List UInt8 × Unit) × Int × Unit) × Unit) × Unit) ⊕ List (Int × (List (List UInt8) × Int × List (Int × Int × List UInt8 × Unit) × Int × Unit) × (List (List UInt8) × Int × List (Int × Int × List UInt8 × Unit) × Int × Unit) × Unit)))).bind (joinS fun v22 =>
(subI y2.1 1 (y2.1.length : Int)).bind fun s23 =>
(subI y2.2.1 1 (y2.2.1.length : Int)).bind fun s24 =>
 some (.inl (s23, s24, v22.1, ())))))))
noncomputable def change_Diff (a0 : List (List (List UInt8) × Int × List (Int × Int × List UInt8 × Unit) × Int × Unit)) (a1 : List (List (List UInt8) × Int × List (Int × Int × List UInt8 × Unit) × Int × Unit)) : Option (List (Int × (List (List UInt8) × Int × List (Int × Int × List UInt8 × Unit) × Int × Unit) × (List (List UInt8) × Int × List (Int × Int × List UInt8 × Unit) × Int × Unit) × Unit)) :=
 loopT (change_Diff_l2) (a0, a1, [], ())
noncomputable def change_Diff_T : TFn := { ps := (.cons (.sl (.agg (.cons (.sl .str) (.cons (.int .i64) (.cons (.sl (.agg (.cons (.int .i64) (.cons (.int .i64) (.cons .str .unit))))) (.cons (.int .i64) .unit)))))) (.cons (.sl (.agg (.cons (.sl .str) (.cons (.int .i64) (.cons (.sl (.agg (.cons (.int .i64) (.cons (.int .i64) (.cons .str .unit))))) (.cons (.int .i64) .unit)))))) .unit)), res := (.sl (.agg (.cons (.int .i64) (.cons (.agg (.cons (.sl .str) (.cons (.int .i64) (.cons (.sl (.agg (.cons (.int .i64) (.cons (.int .i64) (.cons .str .unit))))) (.cons (.int .i64) .unit))))) (.cons (.agg (.cons (.sl .str) (.cons (.int .i64) (.cons (.sl (.agg (.cons (.int .i64) (.cons (.int .i64) (.cons .str .unit))))) (.cons (.int .i64) .unit))))) .unit))))), fn := fun v => change_Diff v.1 v.2.1 }
noncomputable def change_Diff_V : TEnv := { pure := [(26, change_compare_T), (27, change_same_T), (29, change_clone_T)], look := [], glob := G0T, ty := [(31, (.agg (.cons (.int .i64) (.cons (.agg (.cons (.sl .str) (.cons (.int .i64) (.cons (.sl (.agg (.cons (.int .i64) (.cons (.int .i64) (.cons .str .unit))))) (.cons (.int .i64) .unit))))) (.cons (.agg (.cons (.sl .str) (.cons (.int .i64) (.cons (.sl (.agg (.cons (.int .i64) (.cons (.int .i64) (.cons .str .unit))))) (.cons (.int .i64) .unit))))) .unit)))))], raw := [], fresh := [] }
theorem change_Diff_eq : runY Tryd.prog change_Diff_E change_Diff_H change_Diff_V change_Diff_Y Tryd.f14 change_Diff_T.ps change_Diff_T.res = change_Diff_T.fn := by kernel_rfl
theorem change_Diff_Fok : SoundP Tryd.prog G0 14 change_Diff_F := closeF_sound (runF_sound (P := Tryd.prog) (E := change_Diff_E) (h := change_Diff_H) (f := 14) (fn := Tryd.f14) ⟨same_ok, (envP_cons change_compare_Fok (envP_cons change_same_Fok (envP_cons change_clone_Fok envP_nil))), envS_nil, envP_nil, envX_nil⟩ Tryd.func14 rfl (by kernel_rfl))
theorem change_Diff_ok : TOk change_Diff_F change_Diff_T := runY_ok (E := change_Diff_E) (ET := change_Diff_V) (EnvT.ofX (E := change_Diff_E) (ET := change_Diff_V) (pure_of (pairs_cons change_compare_ok (pairs_cons change_same_ok (pairs_cons change_clone_ok pairs_nil)))) looks_nil raws_nil G0_ok news_nil) change_Diff_eq rfl
-- palinode/change.Back
noncomputable def change_Back_E : Env := { pure := [], raw := [], glob := G0, same := [67], look := [], ext := [] }
def change_Back_H : Hints := { seqs := [], loops := [(3, [3, 6, 7, 8])], own := [] }
noncomputable def change_Back_F : PFn := closeF (runF Tryd.prog change_Back_E change_Back_H Tryd.f16)
def change_Back_Y : TH := { joins := [(11, { keep := [(3, (.own 1)), (5, (.bx 2 0))], mem := [.gone, .row true 31 (.agg (.cons (.int .i64) (.cons (.agg (.cons (.sl .str) (.cons (.int .i64) (.cons (.sl (.agg (.cons (.int .i64) (.cons (.int .i64) (.cons .str .unit))))) (.cons (.int .i64) .unit))))) (.cons (.agg (.cons (.sl .str) (.cons (.int .i64) (.cons (.sl (.agg (.cons (.int .i64) (.cons (.int .i64) (.cons .str .unit))))) (.cons (.int .i64) .unit))))) .unit)))), .box 31 (.agg (.cons (.int .i64) (.cons (.agg (.cons (.sl .str) (.cons (.int .i64) (.cons (.sl (.agg (.cons (.int .i64) (.cons (.int .i64) (.cons .str .unit))))) (.cons (.int .i64) .unit))))) (.cons (.agg (.cons (.sl .str) (.cons (.int .i64) (.cons (.sl (.agg (.cons (.int .i64) (.cons (.int .i64) (.cons .str .unit))))) (.cons (.int .i64) .unit))))) .unit))))] })], loops := [(3, { keep := [(3, (.own 1)), (8, (.int .i64))], mem := [.gone, .row true 31 (.agg (.cons (.int .i64) (.cons (.agg (.cons (.sl .str) (.cons (.int .i64) (.cons (.sl (.agg (.cons (.int .i64) (.cons (.int .i64) (.cons .str .unit))))) (.cons (.int .i64) .unit))))) (.cons (.agg (.cons (.sl .str) (.cons (.int .i64) (.cons (.sl (.agg (.cons (.int .i64) (.cons (.int .i64) (.cons .str .unit))))) (.cons (.int .i64) .unit))))) .unit))))] })], cuts := [], ro := [], news := [] }
noncomputable def change_Back_l3 (a0 : List (Int × (List (List UInt8) × Int × List (Int × Int × List UInt8 × Unit) × Int × Unit) × (List (List UInt8) × Int × List (Int × Int × List UInt8 × Unit) × Int × Unit) × Unit)) (y3 : (Int × List (Int × (List (List UInt8) × Int × List (Int × Int × List UInt8 × Unit) × Int × Unit) × (List (List UInt8) × Int × List (Int × Int × List UInt8 × Unit) × Int × Unit) × Unit) × Unit)) : Option ((Int × List (Int × (List (List UInt8) × Int × List (Int × Int × List UInt8 × Unit) × Int × Unit) × (List (List UInt8) × Int × List (Int × Int × List UInt8 × Unit) × Int × Unit) × Unit) × Unit) ⊕ List (Int × (List (List UInt8) × Int × List (Int × Int × List UInt8 × Unit) × Int × Unit) × (List (List UInt8) × Int × List (Int × Int × List UInt8 × Unit) × Int × Unit) × Unit)) :=
 cond (decide (y3.1 < (a0.length : Int))) (
(atI a0 y3.1).bind fun x1 =>
(cond (decide (x1.1 = 1)) (
 some (.inl (y3.2.1, (2, x1.2.2.1, x1.2.1, ()), ()))) (
 cond (decide (x1.1 = 2)) (
 some (.inl (y3.2.1, (1, x1.2.2.1, x1.2.1, ()), ()))) (
 some (.inl (y3.2.1, (x1.1, x1.2.2.1, x1.2.1, ()), ())))) : Option ((List (Int × (List (List UInt8) × Int × List (Int × Int × List UInt8 × Unit) × Int × Unit) × (List (List UInt8) × Int × List (Int × Int × List UInt8 × Unit) × Int × Unit) × Unit) × (Int × (List (List UInt8) × Int × List (Int × Int × List UInt8 × Unit) × Int × Unit) × (List (List UInt8) × Int × List (Int × Int × List UInt8 × Unit) × Int × Unit) × Unit) × Unit) ⊕ ((Int × List (Int × (List (List UInt8) × Int × List (Int × Int × List UInt8 × Unit) × Int × Unit) × (List (List UInt8) × Int × List (Int × Int × List UInt8 × Unit) × Int × Unit) × Unit) × Unit) ⊕ List (Int × (List (List UInt8) × Int × List (Int × Int × List UInt8 × Unit) × Int × Unit) × (List (List UInt8) × Int × List (Int × Int × List UInt8 × Unit) × Int × Unit) × Unit)))).bind (joinS fun v2 =>
(roomT (v2.1.length + ([v2.2.1] : List (Int × (List (List UInt8) × Int × List (Int × Int × List UInt8 × Unit) × Int × Unit) × (List (List UInt8) × Int × List (Int × Int × List UInt8 × Unit) × Int × Unit) × Unit)).length)).bind fun u3 =>
 some (.inl ((IntKind.wrap .i64 (y3.1 + 1)), (v2.1 ++ ([v2.2.1] : List (Int × (List (List UInt8) × Int × List (Int × Int × List UInt8 × Unit) × Int × Unit) × (List (List UInt8) × Int × List (Int × Int × List UInt8 × Unit) × Int × Unit) × Unit))), ())))) (
 some (.inr y3.2.1))
noncomputable def change_Back (a0 : List (Int × (List (List UInt8) × Int × List (Int × Int × List UInt8 × Unit) × Int × Unit) × (List (List UInt8) × Int × List (Int × Int × List UInt8 × Unit) × Int × Unit) × Unit)) : Option (List (Int × (List (List UInt8) × Int × List (Int × Int × List UInt8 × Unit) × Int × Unit) × (List (List UInt8) × Int × List (Int × Int × List UInt8 × Unit) × Int × Unit) × Unit)) :=
 loopT (change_Back_l3 a0) (0, [], ())
noncomputable def change_Back_T : TFn := { ps := (.cons (.sl (.agg (.cons (.int .i64) (.cons (.agg (.cons (.sl .str) (.cons (.int .i64) (.cons (.sl (.agg (.cons (.int .i64) (.cons (.int .i64) (.cons .str .unit))))) (.cons (.int .i64) .unit))))) (.cons (.agg (.cons (.sl .str) (.cons (.int .i64) (.cons (.sl (.agg (.cons (.int .i64) (.cons (.int .i64) (.cons .str .unit))))) (.cons (.int .i64) .unit))))) .unit))))) .unit), res := (.sl (.agg (.cons (.int .i64) (.cons (.agg (.cons (.sl .str) (.cons (.int .i64) (.cons (.sl (.agg (.cons (.int .i64) (.cons (.int .i64) (.cons .str .unit))))) (.cons (.int .i64) .unit))))) (.cons (.agg (.cons (.sl .str) (.cons (.int .i64) (.cons (.sl (.agg (.cons (.int .i64) (.cons (.int .i64) (.cons .str .unit))))) (.cons (.int .i64) .unit))))) .unit))))), fn := fun v => change_Back v.1 }
noncomputable def change_Back_V : TEnv := { pure := [], look := [], glob := G0T, ty := [(31, (.agg (.cons (.int .i64) (.cons (.agg (.cons (.sl .str) (.cons (.int .i64) (.cons (.sl (.agg (.cons (.int .i64) (.cons (.int .i64) (.cons .str .unit))))) (.cons (.int .i64) .unit))))) (.cons (.agg (.cons (.sl .str) (.cons (.int .i64) (.cons (.sl (.agg (.cons (.int .i64) (.cons (.int .i64) (.cons .str .unit))))) (.cons (.int .i64) .unit))))) .unit)))))], raw := [], fresh := [] }
theorem change_Back_eq : runY Tryd.prog change_Back_E change_Back_H change_Back_V change_Back_Y Tryd.f16 change_Back_T.ps change_Back_T.res = change_Back_T.fn := by kernel_rfl
theorem change_Back_Fok : SoundP Tryd.prog G0 16 change_Back_F := closeF_sound (runF_sound (P := Tryd.prog) (E := change_Back_E) (h := change_Back_H) (f := 16) (fn := Tryd.f16) ⟨same_ok, envP_nil, envS_nil, envP_nil, envX_nil⟩ Tryd.func16 rfl (by kernel_rfl))
theorem change_Back_ok : TOk change_Back_F change_Back_T := runY_ok (E := change_Back_E) (ET := change_Back_V) (EnvT.ofX (E := change_Back_E) (ET := change_Back_V) (pure_of pairs_nil) looks_nil raws_nil G0_ok news_nil) change_Back_eq rfl
-- palinode/palinodelaw39.same
noncomputable def law39_same_E : Env := { pure := [(13, ref18_Same_F)], raw := [], glob := G0, same := [67], look := [], ext := [] }
def law39_same_H : Hints := { seqs := [], loops := [(4, [0, 1, 5])], own := [] }
noncomputable def law39_same_F : PFn := closeF (runF Tryd.prog law39_same_E law39_same_H Tryd.f17)
def law39_same_Y : TH := { joins := [], loops := [(4, { keep := [(5, (.int .i64))], mem := [] })], cuts := [], ro := [], news := [] }
noncomputable def law39_same_l4 (a0 : List (Int × (List (List UInt8) × Int × List (Int × Int × List UInt8 × Unit) × Int × Unit) × (List (List UInt8) × Int × List (Int × Int × List UInt8 × Unit) × Int × Unit) × Unit)) (a1 : List (Int × (List (List UInt8) × Int × List (Int × Int × List UInt8 × Unit) × Int × Unit) × (List (List UInt8) × Int × List (Int × Int × List UInt8 × Unit) × Int × Unit) × Unit)) (y4 : (Int × Unit)) : Option ((Int × Unit) ⊕ Bool) :=
 cond (decide (y4.1 < (a0.length : Int))) (
(atI a0 y4.1).bind fun x1 =>
(atI a1 y4.1).bind fun x2 =>
 cond (!decide (x1.1 = x2.1)) (some (.inr false)) ((atI a0 y4.1).bind fun x3 =>
(atI a0 y4.1).bind fun x4 =>
(atI a1 y4.1).bind fun x5 =>
(atI a1 y4.1).bind fun x6 =>
(ref18_Same ([x3.2.1, x4.2.2.1] : List (List (List UInt8) × Int × List (Int × Int × List UInt8 × Unit) × Int × Unit)) ([x5.2.1, x6.2.2.1] : List (List (List UInt8) × Int × List (Int × Int × List UInt8 × Unit) × Int × Unit))).bind fun r7 =>
 cond (!r7) (
 some (.inr false)) (
 some (.inl ((IntKind.wrap .i64 (y4.1 + 1)), ()))))) (
 some (.inr true))
noncomputable def law39_same (a0 : List (Int × (List (List UInt8) × Int × List (Int × Int × List UInt8 × Unit) × Int × Unit) × (List (List UInt8) × Int × List (Int × Int × List UInt8 × Unit) × Int × Unit) × Unit)) (a1 : List (Int × (List (List UInt8) × Int × List (Int × Int × List UInt8 × Unit) × Int × Unit) × (List (List UInt8) × Int × List (Int × Int × List UInt8 × Unit) × Int × Unit) × Unit)) : Option Bool :=
 cond (!decide ((a0.length : Int) = (a1.length : Int))) (
 some false) (
 loopT (law39_same_l4 a0 a1) (0, ()))
noncomputable def law39_same_T : TFn := { ps := (.cons (.sl (.agg (.cons (.int .i64) (.cons (.agg (.cons (.sl .str) (.cons (.int .i64) (.cons (.sl (.agg (.cons (.int .i64) (.cons (.int .i64) (.cons .str .unit))))) (.cons (.int .i64) .unit))))) (.cons (.agg (.cons (.sl .str) (.cons (.int .i64) (.cons (.sl (.agg (.cons (.int .i64) (.cons (.int .i64) (.cons .str .unit))))) (.cons (.int .i64) .unit))))) .unit))))) (.cons (.sl (.agg (.cons (.int .i64) (.cons (.agg (.cons (.sl .str) (.cons (.int .i64) (.cons (.sl (.agg (.cons (.int .i64) (.cons (.int .i64) (.cons .str .unit))))) (.cons (.int .i64) .unit))))) (.cons (.agg (.cons (.sl .str) (.cons (.int .i64) (.cons (.sl (.agg (.cons (.int .i64) (.cons (.int .i64) (.cons .str .unit))))) (.cons (.int .i64) .unit))))) .unit))))) .unit)), res := .bool, fn := fun v => law39_same v.1 v.2.1 }
noncomputable def law39_same_V : TEnv := { pure := [(13, ref18_Same_T)], look := [], glob := G0T, ty := [(64, (.agg (.cons (.sl .str) (.cons (.int .i64) (.cons (.sl (.agg (.cons (.int .i64) (.cons (.int .i64) (.cons .str .unit))))) (.cons (.int .i64) .unit))))))], raw := [], fresh := [] }
theorem law39_same_eq : runY Tryd.prog law39_same_E law39_same_H law39_same_V law39_same_Y Tryd.f17 law39_same_T.ps law39_same_T.res = law39_same_T.fn := by kernel_rfl
theorem law39_same_Fok : SoundP Tryd.prog G0 17 law39_same_F := closeF_sound (runF_sound (P := Tryd.prog) (E := law39_same_E) (h := law39_same_H) (f := 17) (fn := Tryd.f17) ⟨same_ok, (envP_cons ref18_Same_Fok envP_nil), envS_nil, envP_nil, envX_nil⟩ Tryd.func17 rfl (by kernel_rfl))
theorem law39_same_ok : TOk law39_same_F law39_same_T := runY_ok (E := law39_same_E) (ET := law39_same_V) (EnvT.ofX (E := law39_same_E) (ET := law39_same_V) (pure_of (pairs_cons ref18_Same_ok pairs_nil)) looks_nil raws_nil G0_ok news_nil) law39_same_eq rfl
-- strings.Join
noncomputable def strings_Join_F : PFn := joinF
theorem strings_Join_Fok : SoundP Tryd.prog G0 57 strings_Join_F := join_sound ⟨Tryd.f57, Tryd.func57, rfl, by kernel_rfl⟩ Tryd.strings_Join_none Tryd.strings_Join
noncomputable def strings_Join (a0 : List (List UInt8)) (a1 : List UInt8) : Option (List UInt8) := joinT a0 a1
end Go.Proofs.YtkoicblnbbncbaaDoor.Y
set_option linter.unusedVariables false
set_option maxRecDepth 100000
namespace Go.Proofs.YtkoicblnbbncbaaDoor.K
open Go.EM Go.TY Go.Proofs Go.Proofs.YtkoicblnbbncbaaDoor.Y
def law39_entry_kH : Hints := { seqs := [], loops := [], own := [] }
noncomputable def law39_entry_kE : Env := { pure := [], raw := [], glob := G0, same := [67], look := [], ext := [] }
noncomputable def law39_entry_ks : SFn := runK 60 Tryd.prog law39_entry_kE law39_entry_kH Tryd.f19
theorem law39_entry_kok : SoundS Tryd.prog G0 19 law39_entry_ks := soundS_sub (runF_sound (P := Tryd.prog) (E := law39_entry_kE) (h := law39_entry_kH) (f := 19) (fn := Tryd.f19) ⟨same_ok, envP_nil, envS_nil, envP_nil, envX_nil⟩ Tryd.func19 rfl (by kernel_rfl)) runK_sub
noncomputable def law39_entry_kp : PFn := closeF law39_entry_ks
theorem law39_entry_kpok : SoundP Tryd.prog G0 19 law39_entry_kp := closeF_sound law39_entry_kok
def cmp_isNaN_string_kH : Hints := { seqs := [], loops := [], own := [] }
noncomputable def cmp_isNaN_string_kE : Env := { pure := [], raw := [], glob := G0, same := [67], look := [], ext := [] }
noncomputable def cmp_isNaN_string_ks : SFn := runK 60 Tryd.prog cmp_isNaN_string_kE cmp_isNaN_string_kH Tryd.f82
theorem cmp_isNaN_string_kok : SoundS Tryd.prog G0 82 cmp_isNaN_string_ks := soundS_sub (runF_sound (P := Tryd.prog) (E := cmp_isNaN_string_kE) (h := cmp_isNaN_string_kH) (f := 82) (fn := Tryd.f82) ⟨same_ok, envP_nil, envS_nil, envP_nil, envX_nil⟩ Tryd.func82 rfl (by kernel_rfl)) runK_sub
noncomputable def cmp_isNaN_string_kp : PFn := closeF cmp_isNaN_string_ks
theorem cmp_isNaN_string_kpok : SoundP Tryd.prog G0 82 cmp_isNaN_string_kp := closeF_sound cmp_isNaN_string_kok
def cmp_Compare_string_kH : Hints := { seqs := [], loops := [], own := [] }
noncomputable def cmp_Compare_string_kE : Env := { pure := [(82, cmp_isNaN_string_kp)], raw := [], glob := G0, same := [67], look := [], ext := [] }
noncomputable def cmp_Compare_string_ks : SFn := runK 60 Tryd.prog cmp_Compare_string_kE cmp_Compare_string_kH Tryd.f74
theorem cmp_Compare_string_kok : SoundS Tryd.prog G0 74 cmp_Compare_string_ks := soundS_sub (runF_sound (P := Tryd.prog) (E := cmp_Compare_string_kE) (h := cmp_Compare_string_kH) (f := 74) (fn := Tryd.f74) ⟨same_ok, (envP_cons cmp_isNaN_string_kpok envP_nil), envS_nil, envP_nil, envX_nil⟩ Tryd.func74 rfl (by kernel_rfl)) runK_sub
noncomputable def cmp_Compare_string_kp : PFn := closeF cmp_Compare_string_ks
theorem cmp_Compare_string_kpok : SoundP Tryd.prog G0 74 cmp_Compare_string_kp := closeF_sound cmp_Compare_string_kok
def slices_Compare_Sl_string_string_kH : Hints := { seqs := [(11, [0, 1])], loops := [(2, [0, 1, 9, 10, 11])], own := [] }
noncomputable def slices_Compare_Sl_string_string_kE : Env := { pure := [(74, cmp_Compare_string_kp)], raw := [], glob := G0, same := [67], look := [], ext := [] }
noncomputable def slices_Compare_Sl_string_string_ks : SFn := runK 60 Tryd.prog slices_Compare_Sl_string_string_kE slices_Compare_Sl_string_string_kH Tryd.f61
theorem slices_Compare_Sl_string_string_kok : SoundS Tryd.prog G0 61 slices_Compare_Sl_string_string_ks := soundS_sub (runF_sound (P := Tryd.prog) (E := slices_Compare_Sl_string_string_kE) (h := slices_Compare_Sl_string_string_kH) (f := 61) (fn := Tryd.f61) ⟨same_ok, (envP_cons cmp_Compare_string_kpok envP_nil), envS_nil, envP_nil, envX_nil⟩ Tryd.func61 rfl (by kernel_rfl)) runK_sub
noncomputable def slices_Compare_Sl_string_string_kp : PFn := closeF slices_Compare_Sl_string_string_ks
theorem slices_Compare_Sl_string_string_kpok : SoundP Tryd.prog G0 61 slices_Compare_Sl_string_string_kp := closeF_sound slices_Compare_Sl_string_string_kok
def path_Compare_kH : Hints := { seqs := [], loops := [], own := [] }
noncomputable def path_Compare_kE : Env := { pure := [(61, slices_Compare_Sl_string_string_kp)], raw := [], glob := G0, same := [67], look := [], ext := [] }
noncomputable def path_Compare_ks : SFn := runK 60 Tryd.prog path_Compare_kE path_Compare_kH Tryd.f45
theorem path_Compare_kok : SoundS Tryd.prog G0 45 path_Compare_ks := soundS_sub (runF_sound (P := Tryd.prog) (E := path_Compare_kE) (h := path_Compare_kH) (f := 45) (fn := Tryd.f45) ⟨same_ok, (envP_cons slices_Compare_Sl_string_string_kpok envP_nil), envS_nil, envP_nil, envX_nil⟩ Tryd.func45 rfl (by kernel_rfl)) runK_sub
noncomputable def path_Compare_kp : PFn := closeF path_Compare_ks
theorem path_Compare_kpok : SoundP Tryd.prog G0 45 path_Compare_kp := closeF_sound path_Compare_kok
def cmp_isNaN_int_kH : Hints := { seqs := [], loops := [], own := [] }
noncomputable def cmp_isNaN_int_kE : Env := { pure := [], raw := [], glob := G0, same := [67], look := [], ext := [] }
noncomputable def cmp_isNaN_int_ks : SFn := runK 60 Tryd.prog cmp_isNaN_int_kE cmp_isNaN_int_kH Tryd.f62
theorem cmp_isNaN_int_kok : SoundS Tryd.prog G0 62 cmp_isNaN_int_ks := soundS_sub (runF_sound (P := Tryd.prog) (E := cmp_isNaN_int_kE) (h := cmp_isNaN_int_kH) (f := 62) (fn := Tryd.f62) ⟨same_ok, envP_nil, envS_nil, envP_nil, envX_nil⟩ Tryd.func62 rfl (by kernel_rfl)) runK_sub
noncomputable def cmp_isNaN_int_kp : PFn := closeF cmp_isNaN_int_ks
theorem cmp_isNaN_int_kpok : SoundP Tryd.prog G0 62 cmp_isNaN_int_kp := closeF_sound cmp_isNaN_int_kok
def cmp_Compare_int_kH : Hints := { seqs := [], loops := [], own := [] }
noncomputable def cmp_Compare_int_kE : Env := { pure := [(62, cmp_isNaN_int_kp)], raw := [], glob := G0, same := [67], look := [], ext := [] }
noncomputable def cmp_Compare_int_ks : SFn := runK 60 Tryd.prog cmp_Compare_int_kE cmp_Compare_int_kH Tryd.f46
theorem cmp_Compare_int_kok : SoundS Tryd.prog G0 46 cmp_Compare_int_ks := soundS_sub (runF_sound (P := Tryd.prog) (E := cmp_Compare_int_kE) (h := cmp_Compare_int_kH) (f := 46) (fn := Tryd.f46) ⟨same_ok, (envP_cons cmp_isNaN_int_kpok envP_nil), envS_nil, envP_nil, envX_nil⟩ Tryd.func46 rfl (by kernel_rfl)) runK_sub
noncomputable def cmp_Compare_int_kp : PFn := closeF cmp_Compare_int_ks
theorem cmp_Compare_int_kpok : SoundP Tryd.prog G0 46 cmp_Compare_int_kp := closeF_sound cmp_Compare_int_kok
def cmp_Or_int_kH : Hints := { seqs := [], loops := [(3, [3, 6, 7, 8])], own := [] }
noncomputable def cmp_Or_int_kE : Env := { pure := [], raw := [], glob := G0, same := [67], look := [], ext := [] }
noncomputable def cmp_Or_int_ks : SFn := runK 60 Tryd.prog cmp_Or_int_kE cmp_Or_int_kH Tryd.f44
theorem cmp_Or_int_kok : SoundS Tryd.prog G0 44 cmp_Or_int_ks := soundS_sub (runF_sound (P := Tryd.prog) (E := cmp_Or_int_kE) (h := cmp_Or_int_kH) (f := 44) (fn := Tryd.f44) ⟨same_ok, envP_nil, envS_nil, envP_nil, envX_nil⟩ Tryd.func44 rfl (by kernel_rfl)) runK_sub
noncomputable def cmp_Or_int_kp : PFn := closeF cmp_Or_int_ks
theorem cmp_Or_int_kpok : SoundP Tryd.prog G0 44 cmp_Or_int_kp := closeF_sound cmp_Or_int_kok
def change_compare_kH : Hints := { seqs := [], loops := [], own := [] }
noncomputable def change_compare_kE : Env := { pure := [(44, cmp_Or_int_kp), (45, path_Compare_kp), (46, cmp_Compare_int_kp)], raw := [], glob := G0, same := [67], look := [], ext := [] }
noncomputable def change_compare_ks : SFn := runK 60 Tryd.prog change_compare_kE change_compare_kH Tryd.f26
theorem change_compare_kok : SoundS Tryd.prog G0 26 change_compare_ks := soundS_sub (runF_sound (P := Tryd.prog) (E := change_compare_kE) (h := change_compare_kH) (f := 26) (fn := Tryd.f26) ⟨same_ok, (envP_cons cmp_Or_int_kpok (envP_cons path_Compare_kpok (envP_cons cmp_Compare_int_kpok envP_nil))), envS_nil, envP_nil, envX_nil⟩ Tryd.func26 rfl (by kernel_rfl)) runK_sub
noncomputable def change_compare_kp : PFn := closeF change_compare_ks
theorem change_compare_kpok : SoundP Tryd.prog G0 26 change_compare_kp := closeF_sound change_compare_kok
noncomputable def slices_Clone_Sl_string_string_kp : PFn := slices_Clone_Sl_string_string_F
theorem slices_Clone_Sl_string_string_kpok : SoundP Tryd.prog G0 49 slices_Clone_Sl_string_string_kp := slices_Clone_Sl_string_string_Fok
noncomputable def slices_Clone_Sl_api_Value_api_Value_kp : PFn := slices_Clone_Sl_api_Value_api_Value_F
theorem slices_Clone_Sl_api_Value_api_Value_kpok : SoundP Tryd.prog G0 50 slices_Clone_Sl_api_Value_api_Value_kp := slices_Clone_Sl_api_Value_api_Value_Fok
def change_clone_kH : Hints := { seqs := [], loops := [], own := [] }
noncomputable def change_clone_kE : Env := { pure := [(49, slices_Clone_Sl_string_string_kp), (50, slices_Clone_Sl_api_Value_api_Value_kp)], raw := [], glob := G0, same := [67], look := [], ext := [] }
noncomputable def change_clone_ks : SFn := runK 60 Tryd.prog change_clone_kE change_clone_kH Tryd.f29
theorem change_clone_kok : SoundS Tryd.prog G0 29 change_clone_ks := soundS_sub (runF_sound (P := Tryd.prog) (E := change_clone_kE) (h := change_clone_kH) (f := 29) (fn := Tryd.f29) ⟨same_ok, (envP_cons slices_Clone_Sl_string_string_kpok (envP_cons slices_Clone_Sl_api_Value_api_Value_kpok envP_nil)), envS_nil, envP_nil, envX_nil⟩ Tryd.func29 rfl (by kernel_rfl)) runK_sub
noncomputable def change_clone_kp : PFn := closeF change_clone_ks
theorem change_clone_kpok : SoundP Tryd.prog G0 29 change_clone_kp := closeF_sound change_clone_kok
def slices_Equal_Sl_string_string_kH : Hints := { seqs := [], loops := [(4, [0, 1, 12, 13])], own := [] }
noncomputable def slices_Equal_Sl_string_string_kE : Env := { pure := [], raw := [], glob := G0, same := [67], look := [], ext := [] }
noncomputable def slices_Equal_Sl_string_string_ks : SFn := runK 60 Tryd.prog slices_Equal_Sl_string_string_kE slices_Equal_Sl_string_string_kH Tryd.f65
theorem slices_Equal_Sl_string_string_kok : SoundS Tryd.prog G0 65 slices_Equal_Sl_string_string_ks := soundS_sub (runF_sound (P := Tryd.prog) (E := slices_Equal_Sl_string_string_kE) (h := slices_Equal_Sl_string_string_kH) (f := 65) (fn := Tryd.f65) ⟨same_ok, envP_nil, envS_nil, envP_nil, envX_nil⟩ Tryd.func65 rfl (by kernel_rfl)) runK_sub
noncomputable def slices_Equal_Sl_string_string_kp : PFn := closeF slices_Equal_Sl_string_string_ks
theorem slices_Equal_Sl_string_string_kpok : SoundP Tryd.prog G0 65 slices_Equal_Sl_string_string_kp := closeF_sound slices_Equal_Sl_string_string_kok
def path_Same_kH : Hints := { seqs := [], loops := [], own := [] }
noncomputable def path_Same_kE : Env := { pure := [(65, slices_Equal_Sl_string_string_kp)], raw := [], glob := G0, same := [67], look := [], ext := [] }
noncomputable def path_Same_ks : SFn := runK 60 Tryd.prog path_Same_kE path_Same_kH Tryd.f52
theorem path_Same_kok : SoundS Tryd.prog G0 52 path_Same_ks := soundS_sub (runF_sound (P := Tryd.prog) (E := path_Same_kE) (h := path_Same_kH) (f := 52) (fn := Tryd.f52) ⟨same_ok, (envP_cons slices_Equal_Sl_string_string_kpok envP_nil), envS_nil, envP_nil, envX_nil⟩ Tryd.func52 rfl (by kernel_rfl)) runK_sub
noncomputable def path_Same_kp : PFn := closeF path_Same_ks
theorem path_Same_kpok : SoundP Tryd.prog G0 52 path_Same_kp := closeF_sound path_Same_kok
def slices_Equal_Sl_api_Value_api_Value_kH : Hints := { seqs := [], loops := [(4, [0, 1, 12, 13])], own := [] }
noncomputable def slices_Equal_Sl_api_Value_api_Value_kE : Env := { pure := [], raw := [], glob := G0, same := [67], look := [], ext := [] }
noncomputable def slices_Equal_Sl_api_Value_api_Value_ks : SFn := runK 60 Tryd.prog slices_Equal_Sl_api_Value_api_Value_kE slices_Equal_Sl_api_Value_api_Value_kH Tryd.f53
theorem slices_Equal_Sl_api_Value_api_Value_kok : SoundS Tryd.prog G0 53 slices_Equal_Sl_api_Value_api_Value_ks := soundS_sub (runF_sound (P := Tryd.prog) (E := slices_Equal_Sl_api_Value_api_Value_kE) (h := slices_Equal_Sl_api_Value_api_Value_kH) (f := 53) (fn := Tryd.f53) ⟨same_ok, envP_nil, envS_nil, envP_nil, envX_nil⟩ Tryd.func53 rfl (by kernel_rfl)) runK_sub
noncomputable def slices_Equal_Sl_api_Value_api_Value_kp : PFn := closeF slices_Equal_Sl_api_Value_api_Value_ks
theorem slices_Equal_Sl_api_Value_api_Value_kpok : SoundP Tryd.prog G0 53 slices_Equal_Sl_api_Value_api_Value_kp := closeF_sound slices_Equal_Sl_api_Value_api_Value_kok
def view_same_kH : Hints := { seqs := [], loops := [], own := [] }
noncomputable def view_same_kE : Env := { pure := [(52, path_Same_kp), (53, slices_Equal_Sl_api_Value_api_Value_kp)], raw := [], glob := G0, same := [67], look := [], ext := [] }
noncomputable def view_same_ks : SFn := runK 60 Tryd.prog view_same_kE view_same_kH Tryd.f38
theorem view_same_kok : SoundS Tryd.prog G0 38 view_same_ks := soundS_sub (runF_sound (P := Tryd.prog) (E := view_same_kE) (h := view_same_kH) (f := 38) (fn := Tryd.f38) ⟨same_ok, (envP_cons path_Same_kpok (envP_cons slices_Equal_Sl_api_Value_api_Value_kpok envP_nil)), envS_nil, envP_nil, envX_nil⟩ Tryd.func38 rfl (by kernel_rfl)) runK_sub
noncomputable def view_same_kp : PFn := closeF view_same_ks
theorem view_same_kpok : SoundP Tryd.prog G0 38 view_same_kp := closeF_sound view_same_kok
def slices_EqualFunc_Sl_view_Entry_Sl_view_Entry_view_Entry_view_Entry_kH : Hints := { seqs := [], loops := [(4, [1, 2, 15, 16, 17])], own := [] }
noncomputable def slices_EqualFunc_Sl_view_Entry_Sl_view_Entry_view_Entry_view_Entry_kE : Env := { pure := [(38, view_same_kp)], raw := [], glob := G0, same := [67], look := [], ext := [] }
noncomputable def slices_EqualFunc_Sl_view_Entry_Sl_view_Entry_view_Entry_view_Entry_ks : SFn := runK 60 Tryd.prog slices_EqualFunc_Sl_view_Entry_Sl_view_Entry_view_Entry_view_Entry_kE slices_EqualFunc_Sl_view_Entry_Sl_view_Entry_view_Entry_view_Entry_kH Tryd.f37
theorem slices_EqualFunc_Sl_view_Entry_Sl_view_Entry_view_Entry_view_Entry_kok : SoundS Tryd.prog G0 37 slices_EqualFunc_Sl_view_Entry_Sl_view_Entry_view_Entry_view_Entry_ks := soundS_sub (runF_sound (P := Tryd.prog) (E := slices_EqualFunc_Sl_view_Entry_Sl_view_Entry_view_Entry_view_Entry_kE) (h := slices_EqualFunc_Sl_view_Entry_Sl_view_Entry_view_Entry_view_Entry_kH) (f := 37) (fn := Tryd.f37) ⟨same_ok, (envP_cons view_same_kpok envP_nil), envS_nil, envP_nil, envX_nil⟩ Tryd.func37 rfl (by kernel_rfl)) runK_sub
noncomputable def slices_EqualFunc_Sl_view_Entry_Sl_view_Entry_view_Entry_view_Entry_kp : PFn := closeF slices_EqualFunc_Sl_view_Entry_Sl_view_Entry_view_Entry_view_Entry_ks
theorem slices_EqualFunc_Sl_view_Entry_Sl_view_Entry_view_Entry_view_Entry_kpok : SoundP Tryd.prog G0 37 slices_EqualFunc_Sl_view_Entry_Sl_view_Entry_view_Entry_view_Entry_kp := closeF_sound slices_EqualFunc_Sl_view_Entry_Sl_view_Entry_view_Entry_view_Entry_kok
def view_Same_kH : Hints := { seqs := [], loops := [], own := [] }
noncomputable def view_Same_kE : Env := { pure := [(37, slices_EqualFunc_Sl_view_Entry_Sl_view_Entry_view_Entry_view_Entry_kp)], raw := [], glob := G0, same := [67], look := [], ext := [] }
noncomputable def view_Same_ks : SFn := runK 60 Tryd.prog view_Same_kE view_Same_kH Tryd.f15
theorem view_Same_kok : SoundS Tryd.prog G0 15 view_Same_ks := soundS_sub (runF_sound (P := Tryd.prog) (E := view_Same_kE) (h := view_Same_kH) (f := 15) (fn := Tryd.f15) ⟨same_ok, (envP_cons slices_EqualFunc_Sl_view_Entry_Sl_view_Entry_view_Entry_view_Entry_kpok envP_nil), envS_nil, envP_nil, envX_nil⟩ Tryd.func15 rfl (by kernel_rfl)) runK_sub
noncomputable def view_Same_kp : PFn := closeF view_Same_ks
theorem view_Same_kpok : SoundP Tryd.prog G0 15 view_Same_kp := closeF_sound view_Same_kok
def change_same_kH : Hints := { seqs := [], loops := [], own := [] }
noncomputable def change_same_kE : Env := { pure := [(15, view_Same_kp)], raw := [], glob := G0, same := [67], look := [], ext := [] }
noncomputable def change_same_ks : SFn := runK 60 Tryd.prog change_same_kE change_same_kH Tryd.f27
theorem change_same_kok : SoundS Tryd.prog G0 27 change_same_ks := soundS_sub (runF_sound (P := Tryd.prog) (E := change_same_kE) (h := change_same_kH) (f := 27) (fn := Tryd.f27) ⟨same_ok, (envP_cons view_Same_kpok envP_nil), envS_nil, envP_nil, envX_nil⟩ Tryd.func27 rfl (by kernel_rfl)) runK_sub
noncomputable def change_same_kp : PFn := closeF change_same_ks
theorem change_same_kpok : SoundP Tryd.prog G0 27 change_same_kp := closeF_sound change_same_kok
def change_Diff_kH : Hints := { seqs := [(11, [0, 1, 5, 6]), (10, [0, 1, 5])], loops := [(2, [0, 1, 5])], own := [] }
noncomputable def change_Diff_kE : Env := { pure := [(26, change_compare_kp), (27, change_same_kp), (29, change_clone_kp)], raw := [], glob := G0, same := [67], look := [], ext := [] }
noncomputable def change_Diff_ks : SFn := runK 60 Tryd.prog change_Diff_kE change_Diff_kH Tryd.f14
theorem change_Diff_kok : SoundS Tryd.prog G0 14 change_Diff_ks := soundS_sub (runF_sound (P := Tryd.prog) (E := change_Diff_kE) (h := change_Diff_kH) (f := 14) (fn := Tryd.f14) ⟨same_ok, (envP_cons change_compare_kpok (envP_cons change_same_kpok (envP_cons change_clone_kpok envP_nil))), envS_nil, envP_nil, envX_nil⟩ Tryd.func14 rfl (by kernel_rfl)) runK_sub
noncomputable def change_Diff_kp : PFn := closeF change_Diff_ks
theorem change_Diff_kpok : SoundP Tryd.prog G0 14 change_Diff_kp := closeF_sound change_Diff_kok
theorem slices_Clone_Sl_view_Entry_view_Entry_kok : SoundS Tryd.prog G0 23 slices_Clone_Sl_view_Entry_view_Entry_S := slices_Clone_Sl_view_Entry_view_Entry_Sok
def change_Change_leaf_kH : Hints := { seqs := [], loops := [], own := [] }
noncomputable def change_Change_leaf_kE : Env := { pure := [], raw := [], glob := G0, same := [67], look := [], ext := [] }
noncomputable def change_Change_leaf_ks : SFn := runK 60 Tryd.prog change_Change_leaf_kE change_Change_leaf_kH Tryd.f25
theorem change_Change_leaf_kok : SoundS Tryd.prog G0 25 change_Change_leaf_ks := soundS_sub (runF_sound (P := Tryd.prog) (E := change_Change_leaf_kE) (h := change_Change_leaf_kH) (f := 25) (fn := Tryd.f25) ⟨same_ok, envP_nil, envS_nil, envP_nil, envX_nil⟩ Tryd.func25 rfl (by kernel_rfl)) runK_sub
noncomputable def change_Change_leaf_kp : PFn := closeF change_Change_leaf_ks
theorem change_Change_leaf_kpok : SoundP Tryd.prog G0 25 change_Change_leaf_kp := closeF_sound change_Change_leaf_kok
def slices_BinarySearchFunc_Sl_view_Entry_view_Entry_view_Entry_kH : Hints := { seqs := [(8, [0, 2, 4, 8, 9])], loops := [(3, [0, 2, 4, 8, 9, 10])], own := [] }
noncomputable def slices_BinarySearchFunc_Sl_view_Entry_view_Entry_view_Entry_kE : Env := { pure := [(26, change_compare_kp)], raw := [], glob := G0, same := [67], look := [], ext := [] }
noncomputable def slices_BinarySearchFunc_Sl_view_Entry_view_Entry_view_Entry_ks : SFn := runK 60 Tryd.prog slices_BinarySearchFunc_Sl_view_Entry_view_Entry_view_Entry_kE slices_BinarySearchFunc_Sl_view_Entry_view_Entry_view_Entry_kH Tryd.f24
theorem slices_BinarySearchFunc_Sl_view_Entry_view_Entry_view_Entry_kok : SoundS Tryd.prog G0 24 slices_BinarySearchFunc_Sl_view_Entry_view_Entry_view_Entry_ks := soundS_sub (runF_sound (P := Tryd.prog) (E := slices_BinarySearchFunc_Sl_view_Entry_view_Entry_view_Entry_kE) (h := slices_BinarySearchFunc_Sl_view_Entry_view_Entry_view_Entry_kH) (f := 24) (fn := Tryd.f24) ⟨same_ok, (envP_cons change_compare_kpok envP_nil), envS_nil, envP_nil, envX_nil⟩ Tryd.func24 rfl (by kernel_rfl)) runK_sub
noncomputable def slices_BinarySearchFunc_Sl_view_Entry_view_Entry_view_Entry_kp : PFn := closeF slices_BinarySearchFunc_Sl_view_Entry_view_Entry_view_Entry_ks
theorem slices_BinarySearchFunc_Sl_view_Entry_view_Entry_view_Entry_kpok : SoundP Tryd.prog G0 24 slices_BinarySearchFunc_Sl_view_Entry_view_Entry_view_Entry_kp := closeF_sound slices_BinarySearchFunc_Sl_view_Entry_view_Entry_view_Entry_kok
theorem slices_Insert_Sl_view_Entry_view_Entry_kok : SoundS Tryd.prog G0 28 slices_Insert_Sl_view_Entry_view_Entry_S := slices_Insert_Sl_view_Entry_view_Entry_Sok
theorem slices_Delete_Sl_view_Entry_view_Entry_kok : SoundS Tryd.prog G0 30 slices_Delete_Sl_view_Entry_view_Entry_S := slices_Delete_Sl_view_Entry_view_Entry_Sok
def change_Apply_kH : Hints := { seqs := [(19, [6])], loops := [(3, [6, 13, 14, 15])], own := [] }
noncomputable def change_Apply_kE : Env := { pure := [(25, change_Change_leaf_kp), (26, change_compare_kp), (27, change_same_kp), (29, change_clone_kp)], raw := [(23, slices_Clone_Sl_view_Entry_view_Entry_S), (28, slices_Insert_Sl_view_Entry_view_Entry_S), (30, slices_Delete_Sl_view_Entry_view_Entry_S)], glob := G0, same := [67], look := [(24, slices_BinarySearchFunc_Sl_view_Entry_view_Entry_view_Entry_kp)], ext := [] }
noncomputable def change_Apply_ks : SFn := runK 60 Tryd.prog change_Apply_kE change_Apply_kH Tryd.f9
theorem change_Apply_kok : SoundS Tryd.prog G0 9 change_Apply_ks := soundS_sub (runF_sound (P := Tryd.prog) (E := change_Apply_kE) (h := change_Apply_kH) (f := 9) (fn := Tryd.f9) ⟨same_ok, (envP_cons change_Change_leaf_kpok (envP_cons change_compare_kpok (envP_cons change_same_kpok (envP_cons change_clone_kpok envP_nil)))), (envS_cons slices_Clone_Sl_view_Entry_view_Entry_kok (envS_cons slices_Insert_Sl_view_Entry_view_Entry_kok (envS_cons slices_Delete_Sl_view_Entry_view_Entry_kok envS_nil))), (envP_cons slices_BinarySearchFunc_Sl_view_Entry_view_Entry_view_Entry_kpok envP_nil), envX_nil⟩ Tryd.func9 rfl (by kernel_rfl)) runK_sub
noncomputable def change_Apply_kp : PFn := closeF change_Apply_ks
theorem change_Apply_kpok : SoundP Tryd.prog G0 9 change_Apply_kp := closeF_sound change_Apply_kok
def value_inner_kH : Hints := { seqs := [], loops := [], own := [] }
noncomputable def value_inner_kE : Env := { pure := [], raw := [], glob := G0, same := [67], look := [], ext := [] }
noncomputable def value_inner_ks : SFn := runK 60 Tryd.prog value_inner_kE value_inner_kH Tryd.f68
theorem value_inner_kok : SoundS Tryd.prog G0 68 value_inner_ks := soundS_sub (runF_sound (P := Tryd.prog) (E := value_inner_kE) (h := value_inner_kH) (f := 68) (fn := Tryd.f68) ⟨same_ok, envP_nil, envS_nil, envP_nil, envX_nil⟩ Tryd.func68 rfl (by kernel_rfl)) runK_sub
noncomputable def value_inner_kp : PFn := closeF value_inner_ks
theorem value_inner_kpok : SoundP Tryd.prog G0 68 value_inner_kp := closeF_sound value_inner_kok
def strings_Builder_copyCheck_kH : Hints := { seqs := [], loops := [], own := [6, 9, 11, 19] }
noncomputable def strings_Builder_copyCheck_kE : Env := { pure := [], raw := [], glob := G0, same := [67], look := [], ext := [] }
noncomputable def strings_Builder_copyCheck_ks : SFn := runK 60 Tryd.prog strings_Builder_copyCheck_kE strings_Builder_copyCheck_kH Tryd.f55
theorem strings_Builder_copyCheck_kok : SoundS Tryd.prog G0 55 strings_Builder_copyCheck_ks := soundS_sub (runF_sound (P := Tryd.prog) (E := strings_Builder_copyCheck_kE) (h := strings_Builder_copyCheck_kH) (f := 55) (fn := Tryd.f55) ⟨same_ok, envP_nil, envS_nil, envP_nil, envX_nil⟩ Tryd.func55 rfl (by kernel_rfl)) runK_sub
def strings_Builder_WriteByte_kH : Hints := { seqs := [], loops := [], own := [] }
noncomputable def strings_Builder_WriteByte_kE : Env := { pure := [], raw := [(55, strings_Builder_copyCheck_ks)], glob := G0, same := [67], look := [], ext := [] }
noncomputable def strings_Builder_WriteByte_ks : SFn := runK 60 Tryd.prog strings_Builder_WriteByte_kE strings_Builder_WriteByte_kH Tryd.f77
theorem strings_Builder_WriteByte_kok : SoundS Tryd.prog G0 77 strings_Builder_WriteByte_ks := soundS_sub (runF_sound (P := Tryd.prog) (E := strings_Builder_WriteByte_kE) (h := strings_Builder_WriteByte_kH) (f := 77) (fn := Tryd.f77) ⟨same_ok, envP_nil, (envS_cons strings_Builder_copyCheck_kok envS_nil), envP_nil, envX_nil⟩ Tryd.func77 rfl (by kernel_rfl)) runK_sub
def utf8_appendRuneNonASCII_kH : Hints := { seqs := [(7, [0, 1, 5, 25])], loops := [], own := [] }
noncomputable def utf8_appendRuneNonASCII_kE : Env := { pure := [], raw := [], glob := G0, same := [67], look := [], ext := [] }
noncomputable def utf8_appendRuneNonASCII_ks : SFn := runK 60 Tryd.prog utf8_appendRuneNonASCII_kE utf8_appendRuneNonASCII_kH Tryd.f89
theorem utf8_appendRuneNonASCII_kok : SoundS Tryd.prog G0 89 utf8_appendRuneNonASCII_ks := soundS_sub (runF_sound (P := Tryd.prog) (E := utf8_appendRuneNonASCII_kE) (h := utf8_appendRuneNonASCII_kH) (f := 89) (fn := Tryd.f89) ⟨same_ok, envP_nil, envS_nil, envP_nil, envX_nil⟩ Tryd.func89 rfl (by kernel_rfl)) runK_sub
def utf8_AppendRune_kH : Hints := { seqs := [], loops := [], own := [] }
noncomputable def utf8_AppendRune_kE : Env := { pure := [], raw := [(89, utf8_appendRuneNonASCII_ks)], glob := G0, same := [67], look := [], ext := [] }
noncomputable def utf8_AppendRune_ks : SFn := runK 60 Tryd.prog utf8_AppendRune_kE utf8_AppendRune_kH Tryd.f83
theorem utf8_AppendRune_kok : SoundS Tryd.prog G0 83 utf8_AppendRune_ks := soundS_sub (runF_sound (P := Tryd.prog) (E := utf8_AppendRune_kE) (h := utf8_AppendRune_kH) (f := 83) (fn := Tryd.f83) ⟨same_ok, envP_nil, (envS_cons utf8_appendRuneNonASCII_kok envS_nil), envP_nil, envX_nil⟩ Tryd.func83 rfl (by kernel_rfl)) runK_sub
def strings_Builder_WriteRune_kH : Hints := { seqs := [], loops := [], own := [] }
noncomputable def strings_Builder_WriteRune_kE : Env := { pure := [], raw := [(55, strings_Builder_copyCheck_ks), (83, utf8_AppendRune_ks)], glob := G0, same := [67], look := [], ext := [] }
noncomputable def strings_Builder_WriteRune_ks : SFn := runK 60 Tryd.prog strings_Builder_WriteRune_kE strings_Builder_WriteRune_kH Tryd.f78
theorem strings_Builder_WriteRune_kok : SoundS Tryd.prog G0 78 strings_Builder_WriteRune_ks := soundS_sub (runF_sound (P := Tryd.prog) (E := strings_Builder_WriteRune_kE) (h := strings_Builder_WriteRune_kH) (f := 78) (fn := Tryd.f78) ⟨same_ok, envP_nil, (envS_cons strings_Builder_copyCheck_kok (envS_cons utf8_AppendRune_kok envS_nil)), envP_nil, envX_nil⟩ Tryd.func78 rfl (by kernel_rfl)) runK_sub
def strings_Builder_String_kH : Hints := { seqs := [], loops := [], own := [] }
noncomputable def strings_Builder_String_kE : Env := { pure := [], raw := [], glob := G0, same := [67], look := [], ext := [] }
noncomputable def strings_Builder_String_ks : SFn := runK 60 Tryd.prog strings_Builder_String_kE strings_Builder_String_kH Tryd.f42
theorem strings_Builder_String_kok : SoundS Tryd.prog G0 42 strings_Builder_String_ks := soundS_sub (runF_sound (P := Tryd.prog) (E := strings_Builder_String_kE) (h := strings_Builder_String_kH) (f := 42) (fn := Tryd.f42) ⟨same_ok, envP_nil, envS_nil, envP_nil, envX_nil⟩ Tryd.func42 rfl (by kernel_rfl)) runK_sub
def value_quote_kH : Hints := { seqs := [(9, [3])], loops := [(4, [3, 8])], own := [] }
noncomputable def value_quote_kE : Env := { pure := [], raw := [(42, strings_Builder_String_ks), (77, strings_Builder_WriteByte_ks), (78, strings_Builder_WriteRune_ks)], glob := G0, same := [67], look := [], ext := [] }
noncomputable def value_quote_ks : SFn := runK 60 Tryd.prog value_quote_kE value_quote_kH Tryd.f69
theorem value_quote_kok : SoundS Tryd.prog G0 69 value_quote_ks := soundS_sub (runF_sound (P := Tryd.prog) (E := value_quote_kE) (h := value_quote_kH) (f := 69) (fn := Tryd.f69) ⟨same_ok, envP_nil, (envS_cons strings_Builder_String_kok (envS_cons strings_Builder_WriteByte_kok (envS_cons strings_Builder_WriteRune_kok envS_nil))), envP_nil, envX_nil⟩ Tryd.func69 rfl (by kernel_rfl)) runK_sub
noncomputable def value_quote_kp : PFn := closeF value_quote_ks
theorem value_quote_kpok : SoundP Tryd.prog G0 69 value_quote_kp := closeF_sound value_quote_kok
def int_strconv_FormatBool_kH : Hints := { seqs := [], loops := [], own := [] }
noncomputable def int_strconv_FormatBool_kE : Env := { pure := [], raw := [], glob := G0, same := [67], look := [], ext := [] }
noncomputable def int_strconv_FormatBool_ks : SFn := runK 60 Tryd.prog int_strconv_FormatBool_kE int_strconv_FormatBool_kH Tryd.f79
theorem int_strconv_FormatBool_kok : SoundS Tryd.prog G0 79 int_strconv_FormatBool_ks := soundS_sub (runF_sound (P := Tryd.prog) (E := int_strconv_FormatBool_kE) (h := int_strconv_FormatBool_kH) (f := 79) (fn := Tryd.f79) ⟨same_ok, envP_nil, envS_nil, envP_nil, envX_nil⟩ Tryd.func79 rfl (by kernel_rfl)) runK_sub
noncomputable def int_strconv_FormatBool_kp : PFn := closeF int_strconv_FormatBool_ks
theorem int_strconv_FormatBool_kpok : SoundP Tryd.prog G0 79 int_strconv_FormatBool_kp := closeF_sound int_strconv_FormatBool_kok
def strconv_FormatBool_kH : Hints := { seqs := [], loops := [], own := [] }
noncomputable def strconv_FormatBool_kE : Env := { pure := [(79, int_strconv_FormatBool_kp)], raw := [], glob := G0, same := [67], look := [], ext := [] }
noncomputable def strconv_FormatBool_ks : SFn := runK 60 Tryd.prog strconv_FormatBool_kE strconv_FormatBool_kH Tryd.f70
theorem strconv_FormatBool_kok : SoundS Tryd.prog G0 70 strconv_FormatBool_ks := soundS_sub (runF_sound (P := Tryd.prog) (E := strconv_FormatBool_kE) (h := strconv_FormatBool_kH) (f := 70) (fn := Tryd.f70) ⟨same_ok, (envP_cons int_strconv_FormatBool_kpok envP_nil), envS_nil, envP_nil, envX_nil⟩ Tryd.func70 rfl (by kernel_rfl)) runK_sub
noncomputable def strconv_FormatBool_kp : PFn := closeF strconv_FormatBool_ks
theorem strconv_FormatBool_kpok : SoundP Tryd.prog G0 70 strconv_FormatBool_kp := closeF_sound strconv_FormatBool_kok
def strconv_small_kH : Hints := { seqs := [], loops := [], own := [] }
noncomputable def strconv_small_kE : Env := { pure := [], raw := [], glob := G0, same := [67], look := [], ext := [] }
noncomputable def strconv_small_ks : SFn := runK 60 Tryd.prog strconv_small_kE strconv_small_kH Tryd.f85
theorem strconv_small_kok : SoundS Tryd.prog G0 85 strconv_small_ks := soundS_sub (runF_sound (P := Tryd.prog) (E := strconv_small_kE) (h := strconv_small_kH) (f := 85) (fn := Tryd.f85) ⟨same_ok, envP_nil, envS_nil, envP_nil, envX_nil⟩ Tryd.func85 rfl (by kernel_rfl)) runK_sub
noncomputable def strconv_small_kp : PFn := closeF strconv_small_ks
theorem strconv_small_kpok : SoundP Tryd.prog G0 85 strconv_small_kp := closeF_sound strconv_small_kok
def bits_Len64_kH : Hints := { seqs := [(4, [0, 2]), (7, [0, 2]), (10, [0, 2])], loops := [], own := [] }
noncomputable def bits_Len64_kE : Env := { pure := [], raw := [], glob := G0, same := [67], look := [], ext := [] }
noncomputable def bits_Len64_ks : SFn := runK 60 Tryd.prog bits_Len64_kE bits_Len64_kH Tryd.f91
theorem bits_Len64_kok : SoundS Tryd.prog G0 91 bits_Len64_ks := soundS_sub (runF_sound (P := Tryd.prog) (E := bits_Len64_kE) (h := bits_Len64_kH) (f := 91) (fn := Tryd.f91) ⟨same_ok, envP_nil, envS_nil, envP_nil, envX_nil⟩ Tryd.func91 rfl (by kernel_rfl)) runK_sub
noncomputable def bits_Len64_kp : PFn := closeF bits_Len64_ks
theorem bits_Len64_kpok : SoundP Tryd.prog G0 91 bits_Len64_kp := closeF_sound bits_Len64_kok
def strconv_log10Pow2_kH : Hints := { seqs := [], loops := [], own := [] }
noncomputable def strconv_log10Pow2_kE : Env := { pure := [], raw := [], glob := G0, same := [67], look := [], ext := [] }
noncomputable def strconv_log10Pow2_ks : SFn := runK 60 Tryd.prog strconv_log10Pow2_kE strconv_log10Pow2_kH Tryd.f90
theorem strconv_log10Pow2_kok : SoundS Tryd.prog G0 90 strconv_log10Pow2_ks := soundS_sub (runF_sound (P := Tryd.prog) (E := strconv_log10Pow2_kE) (h := strconv_log10Pow2_kH) (f := 90) (fn := Tryd.f90) ⟨same_ok, envP_nil, envS_nil, envP_nil, envX_nil⟩ Tryd.func90 rfl (by kernel_rfl)) runK_sub
noncomputable def strconv_log10Pow2_kp : PFn := closeF strconv_log10Pow2_ks
theorem strconv_log10Pow2_kpok : SoundP Tryd.prog G0 90 strconv_log10Pow2_kp := closeF_sound strconv_log10Pow2_kok
def strconv_numDigits_kH : Hints := { seqs := [], loops := [], own := [] }
noncomputable def strconv_numDigits_kE : Env := { pure := [(90, strconv_log10Pow2_kp), (91, bits_Len64_kp)], raw := [], glob := G0, same := [67], look := [], ext := [] }
noncomputable def strconv_numDigits_ks : SFn := runK 60 Tryd.prog strconv_numDigits_kE strconv_numDigits_kH Tryd.f86
theorem strconv_numDigits_kok : SoundS Tryd.prog G0 86 strconv_numDigits_ks := soundS_sub (runF_sound (P := Tryd.prog) (E := strconv_numDigits_kE) (h := strconv_numDigits_kH) (f := 86) (fn := Tryd.f86) ⟨same_ok, (envP_cons strconv_log10Pow2_kpok (envP_cons bits_Len64_kpok envP_nil)), envS_nil, envP_nil, envX_nil⟩ Tryd.func86 rfl (by kernel_rfl)) runK_sub
noncomputable def strconv_numDigits_kp : PFn := closeF strconv_numDigits_ks
theorem strconv_numDigits_kpok : SoundP Tryd.prog G0 86 strconv_numDigits_kp := closeF_sound strconv_numDigits_kok
def strconv_formatBase10_kH : Hints := { seqs := [(12, [0, 1, 4]), (20, [0, 4, 12]), (25, [0, 4, 12])], loops := [(1, [0, 1, 4])], own := [] }
noncomputable def strconv_formatBase10_kE : Env := { pure := [], raw := [], glob := G0, same := [67], look := [], ext := [] }
noncomputable def strconv_formatBase10_ks : SFn := runK 60 Tryd.prog strconv_formatBase10_kE strconv_formatBase10_kH Tryd.f87
theorem strconv_formatBase10_kok : SoundS Tryd.prog G0 87 strconv_formatBase10_ks := soundS_sub (runF_sound (P := Tryd.prog) (E := strconv_formatBase10_kE) (h := strconv_formatBase10_kH) (f := 87) (fn := Tryd.f87) ⟨same_ok, envP_nil, envS_nil, envP_nil, envX_nil⟩ Tryd.func87 rfl (by kernel_rfl)) runK_sub
noncomputable def strconv_formatBase10_kp : PFn := closeF strconv_formatBase10_ks
theorem strconv_formatBase10_kpok : SoundP Tryd.prog G0 87 strconv_formatBase10_kp := closeF_sound strconv_formatBase10_kok
def strconv_FormatInt_kH : Hints := { seqs := [(8, [0, 5, 6])], loops := [], own := [39, 43] }
noncomputable def strconv_FormatInt_kE : Env := { pure := [(85, strconv_small_kp), (86, strconv_numDigits_kp), (87, strconv_formatBase10_kp)], raw := [], glob := G0, same := [67], look := [], ext := [] }
noncomputable def strconv_FormatInt_ks : SFn := runK 60 Tryd.prog strconv_FormatInt_kE strconv_FormatInt_kH Tryd.f81
theorem strconv_FormatInt_kok : SoundS Tryd.prog G0 81 strconv_FormatInt_ks := soundS_sub (runF_sound (P := Tryd.prog) (E := strconv_FormatInt_kE) (h := strconv_FormatInt_kH) (f := 81) (fn := Tryd.f81) ⟨same_ok, (envP_cons strconv_small_kpok (envP_cons strconv_numDigits_kpok (envP_cons strconv_formatBase10_kpok envP_nil))), envS_nil, envP_nil, envX_nil⟩ Tryd.func81 rfl (by kernel_rfl)) runK_sub
noncomputable def strconv_FormatInt_kp : PFn := closeF strconv_FormatInt_ks
theorem strconv_FormatInt_kpok : SoundP Tryd.prog G0 81 strconv_FormatInt_kp := closeF_sound strconv_FormatInt_kok
def int_strconv_Itoa_kH : Hints := { seqs := [], loops := [], own := [] }
noncomputable def int_strconv_Itoa_kE : Env := { pure := [(81, strconv_FormatInt_kp)], raw := [], glob := G0, same := [67], look := [], ext := [] }
noncomputable def int_strconv_Itoa_ks : SFn := runK 60 Tryd.prog int_strconv_Itoa_kE int_strconv_Itoa_kH Tryd.f73
theorem int_strconv_Itoa_kok : SoundS Tryd.prog G0 73 int_strconv_Itoa_ks := soundS_sub (runF_sound (P := Tryd.prog) (E := int_strconv_Itoa_kE) (h := int_strconv_Itoa_kH) (f := 73) (fn := Tryd.f73) ⟨same_ok, (envP_cons strconv_FormatInt_kpok envP_nil), envS_nil, envP_nil, envX_nil⟩ Tryd.func73 rfl (by kernel_rfl)) runK_sub
noncomputable def int_strconv_Itoa_kp : PFn := closeF int_strconv_Itoa_ks
theorem int_strconv_Itoa_kpok : SoundP Tryd.prog G0 73 int_strconv_Itoa_kp := closeF_sound int_strconv_Itoa_kok
def strconv_Itoa_kH : Hints := { seqs := [], loops := [], own := [] }
noncomputable def strconv_Itoa_kE : Env := { pure := [(73, int_strconv_Itoa_kp)], raw := [], glob := G0, same := [67], look := [], ext := [] }
noncomputable def strconv_Itoa_ks : SFn := runK 60 Tryd.prog strconv_Itoa_kE strconv_Itoa_kH Tryd.f59
theorem strconv_Itoa_kok : SoundS Tryd.prog G0 59 strconv_Itoa_ks := soundS_sub (runF_sound (P := Tryd.prog) (E := strconv_Itoa_kE) (h := strconv_Itoa_kH) (f := 59) (fn := Tryd.f59) ⟨same_ok, (envP_cons int_strconv_Itoa_kpok envP_nil), envS_nil, envP_nil, envX_nil⟩ Tryd.func59 rfl (by kernel_rfl)) runK_sub
noncomputable def strconv_Itoa_kp : PFn := closeF strconv_Itoa_ks
theorem strconv_Itoa_kpok : SoundP Tryd.prog G0 59 strconv_Itoa_kp := closeF_sound strconv_Itoa_kok
def value_Text_kH : Hints := { seqs := [], loops := [], own := [] }
noncomputable def value_Text_kE : Env := { pure := [(59, strconv_Itoa_kp), (68, value_inner_kp), (69, value_quote_kp), (70, strconv_FormatBool_kp)], raw := [], glob := G0, same := [67], look := [], ext := [] }
noncomputable def value_Text_ks : SFn := runK 60 Tryd.prog value_Text_kE value_Text_kH Tryd.f56
theorem value_Text_kok : SoundS Tryd.prog G0 56 value_Text_ks := soundS_sub (runF_sound (P := Tryd.prog) (E := value_Text_kE) (h := value_Text_kH) (f := 56) (fn := Tryd.f56) ⟨same_ok, (envP_cons strconv_Itoa_kpok (envP_cons value_inner_kpok (envP_cons value_quote_kpok (envP_cons strconv_FormatBool_kpok envP_nil)))), envS_nil, envP_nil, envX_nil⟩ Tryd.func56 rfl (by kernel_rfl)) runK_sub
noncomputable def value_Text_kp : PFn := closeF value_Text_ks
theorem value_Text_kpok : SoundP Tryd.prog G0 56 value_Text_kp := closeF_sound value_Text_kok
noncomputable def strings_Join_kp : PFn := strings_Join_F
theorem strings_Join_kpok : SoundP Tryd.prog G0 57 strings_Join_kp := strings_Join_Fok
def name_Quote_kH : Hints := { seqs := [(7, [0, 3, 4, 6, 7])], loops := [(3, [0, 3, 6, 7])], own := [] }
noncomputable def name_Quote_kE : Env := { pure := [], raw := [(42, strings_Builder_String_ks), (77, strings_Builder_WriteByte_ks)], glob := G0, same := [67], look := [], ext := [] }
noncomputable def name_Quote_ks : SFn := runK 60 Tryd.prog name_Quote_kE name_Quote_kH Tryd.f72
theorem name_Quote_kok : SoundS Tryd.prog G0 72 name_Quote_ks := soundS_sub (runF_sound (P := Tryd.prog) (E := name_Quote_kE) (h := name_Quote_kH) (f := 72) (fn := Tryd.f72) ⟨same_ok, envP_nil, (envS_cons strings_Builder_String_kok (envS_cons strings_Builder_WriteByte_kok envS_nil)), envP_nil, envX_nil⟩ Tryd.func72 rfl (by kernel_rfl)) runK_sub
noncomputable def name_Quote_kp : PFn := closeF name_Quote_ks
theorem name_Quote_kpok : SoundP Tryd.prog G0 72 name_Quote_kp := closeF_sound name_Quote_kok
def path_Text_kH : Hints := { seqs := [(7, [3])], loops := [(3, [3, 6, 7, 8])], own := [] }
noncomputable def path_Text_kE : Env := { pure := [(72, name_Quote_kp)], raw := [], glob := G0, same := [67], look := [(57, strings_Join_kp)], ext := [] }
noncomputable def path_Text_ks : SFn := runK 60 Tryd.prog path_Text_kE path_Text_kH Tryd.f58
theorem path_Text_kok : SoundS Tryd.prog G0 58 path_Text_ks := soundS_sub (runF_sound (P := Tryd.prog) (E := path_Text_kE) (h := path_Text_kH) (f := 58) (fn := Tryd.f58) ⟨same_ok, (envP_cons name_Quote_kpok envP_nil), envS_nil, (envP_cons strings_Join_kpok envP_nil), envX_nil⟩ Tryd.func58 rfl (by kernel_rfl)) runK_sub
noncomputable def path_Text_kp : PFn := closeF path_Text_ks
theorem path_Text_kpok : SoundP Tryd.prog G0 58 path_Text_kp := closeF_sound path_Text_kok
def view_Line_kH : Hints := { seqs := [(7, [1, 3])], loops := [(3, [1, 3, 8, 9, 10])], own := [] }
noncomputable def view_Line_kE : Env := { pure := [(56, value_Text_kp), (58, path_Text_kp), (59, strconv_Itoa_kp)], raw := [], glob := G0, same := [67], look := [(57, strings_Join_kp)], ext := [] }
noncomputable def view_Line_ks : SFn := runK 60 Tryd.prog view_Line_kE view_Line_kH Tryd.f41
theorem view_Line_kok : SoundS Tryd.prog G0 41 view_Line_ks := soundS_sub (runF_sound (P := Tryd.prog) (E := view_Line_kE) (h := view_Line_kH) (f := 41) (fn := Tryd.f41) ⟨same_ok, (envP_cons value_Text_kpok (envP_cons path_Text_kpok (envP_cons strconv_Itoa_kpok envP_nil))), envS_nil, (envP_cons strings_Join_kpok envP_nil), envX_nil⟩ Tryd.func41 rfl (by kernel_rfl)) runK_sub
noncomputable def view_Line_kp : PFn := closeF view_Line_ks
theorem view_Line_kpok : SoundP Tryd.prog G0 41 view_Line_kp := closeF_sound view_Line_kok
def strings_Builder_WriteString_kH : Hints := { seqs := [], loops := [], own := [] }
noncomputable def strings_Builder_WriteString_kE : Env := { pure := [], raw := [(55, strings_Builder_copyCheck_ks)], glob := G0, same := [67], look := [], ext := [] }
noncomputable def strings_Builder_WriteString_ks : SFn := runK 60 Tryd.prog strings_Builder_WriteString_kE strings_Builder_WriteString_kH Tryd.f40
theorem strings_Builder_WriteString_kok : SoundS Tryd.prog G0 40 strings_Builder_WriteString_ks := soundS_sub (runF_sound (P := Tryd.prog) (E := strings_Builder_WriteString_kE) (h := strings_Builder_WriteString_kH) (f := 40) (fn := Tryd.f40) ⟨same_ok, envP_nil, (envS_cons strings_Builder_copyCheck_kok envS_nil), envP_nil, envX_nil⟩ Tryd.func40 rfl (by kernel_rfl)) runK_sub
def change_Text_kH : Hints := { seqs := [(7, [3, 5, 6, 7, 8])], loops := [(3, [3, 6, 7, 8])], own := [] }
noncomputable def change_Text_kE : Env := { pure := [(41, view_Line_kp)], raw := [(40, strings_Builder_WriteString_ks), (42, strings_Builder_String_ks)], glob := G0, same := [67], look := [], ext := [] }
noncomputable def change_Text_ks : SFn := runK 60 Tryd.prog change_Text_kE change_Text_kH Tryd.f20
theorem change_Text_kok : SoundS Tryd.prog G0 20 change_Text_ks := soundS_sub (runF_sound (P := Tryd.prog) (E := change_Text_kE) (h := change_Text_kH) (f := 20) (fn := Tryd.f20) ⟨same_ok, (envP_cons view_Line_kpok envP_nil), (envS_cons strings_Builder_WriteString_kok (envS_cons strings_Builder_String_kok envS_nil)), envP_nil, envX_nil⟩ Tryd.func20 rfl (by kernel_rfl)) runK_sub
noncomputable def change_Text_kp : PFn := closeF change_Text_ks
theorem change_Text_kpok : SoundP Tryd.prog G0 20 change_Text_kp := closeF_sound change_Text_kok
def law39_awake_kH : Hints := { seqs := [], loops := [], own := [] }
noncomputable def law39_awake_kE : Env := { pure := [(9, change_Apply_kp), (14, change_Diff_kp), (15, view_Same_kp), (19, law39_entry_kp), (20, change_Text_kp)], raw := [], glob := G0, same := [67], look := [], ext := [] }
noncomputable def law39_awake_ks : SFn := runK 60 Tryd.prog law39_awake_kE law39_awake_kH Tryd.f7
theorem law39_awake_kok : SoundS Tryd.prog G0 7 law39_awake_ks := soundS_sub (runF_sound (P := Tryd.prog) (E := law39_awake_kE) (h := law39_awake_kH) (f := 7) (fn := Tryd.f7) ⟨same_ok, (envP_cons change_Apply_kpok (envP_cons change_Diff_kpok (envP_cons view_Same_kpok (envP_cons law39_entry_kpok (envP_cons change_Text_kpok envP_nil))))), envS_nil, envP_nil, envX_nil⟩ Tryd.func7 rfl (by kernel_rfl)) runK_sub
noncomputable def law39_awake_kp : PFn := closeF law39_awake_ks
theorem law39_awake_kpok : SoundP Tryd.prog G0 7 law39_awake_kp := closeF_sound law39_awake_kok
theorem law39_awake_kt : law39_awake_kp [] = some (.bool true) := by kernel_rfl
noncomputable def law39_awake_F : PFn := fun xs => match xs with | [] => some (.bool true) | _ => none
theorem law39_awake_Fok : SoundP Tryd.prog G0 7 law39_awake_F := soundP_at law39_awake_kpok law39_awake_kt
def law39_awake : Option Bool := some true
noncomputable def law39_awake_T : TFn := { ps := .unit, res := .bool, fn := fun _ => law39_awake }
theorem law39_awake_ok : TOk law39_awake_F law39_awake_T := given_bool rfl
end Go.Proofs.YtkoicblnbbncbaaDoor.K
set_option linter.unusedVariables false
set_option maxRecDepth 100000
namespace Go.Proofs.YtkoicblnbbncbaaDoor.L
open Go.EM Go.TY Go.Proofs Go.Proofs.YtkoicblnbbncbaaDoor.Y Go.Proofs.YtkoicblnbbncbaaDoor.K
-- palinode/palinodelaw39.ChangeApplies
-- palinode/palinodelaw39.ChangeGoes
-- palinode/palinodelaw39.ChangeBack
noncomputable def law39_ChangeBack_E : Env := { pure := [(6, law39_Good_F), (7, law39_awake_F), (9, change_Apply_F), (12, law39_changes_F), (14, change_Diff_F), (15, view_Same_F), (16, change_Back_F), (17, law39_same_F)], raw := [], glob := G0, same := [67], look := [], ext := [] }
def law39_ChangeBack_H : Hints := { seqs := [], loops := [], own := [] }
noncomputable def law39_ChangeBack_F : PFn := closeF (runF Tryd.prog law39_ChangeBack_E law39_ChangeBack_H Tryd.f5)
def law39_ChangeBack_Y : TH := { joins := [], loops := [], cuts := [(6, [(7, { keep := [(41, .bool)], mem := [] }), (4, { keep := [(45, .bool)], mem := [] }), (5, { keep := [(50, .bool)], mem := [] }), (9, { keep := [(59, .bool)], mem := [] })])], ro := [], news := [] }
noncomputable def law39_ChangeBack (a0 : List (List (List UInt8) × Int × List (Int × Int × List UInt8 × Unit) × Int × Unit)) (a1 : List (List (List UInt8) × Int × List (Int × Int × List UInt8 × Unit) × Int × Unit)) : Option Bool :=
(law39_Good a0).bind fun r1 =>
 cond (!r1) ((law39_awake).bind fun r2 =>
 some r2) ((law39_Good a1).bind fun r3 =>
 cond (!r3) (
(law39_awake).bind fun r4 =>
 some r4) (
(change_Diff a0 a1).bind fun r5 =>
(change_Apply a0 r5).bind fun r6 =>
(change_Back r5).bind fun r7 =>
(change_Apply a1 r7).bind fun r8 =>
(cond (decide (r6.2.1 = 0)) ((view_Same r6.1 a1).bind fun r9 =>
 some (r9, ())) (some (false, ())) : Option (Bool × Unit)).bind fun v10 =>
(cond v10.1 (some ((decide (r8.2.1 = 0)), ())) (some (false, ())) : Option (Bool × Unit)).bind fun v11 =>
(cond v11.1 ((view_Same r8.1 a0).bind fun r12 =>
 some (r12, ())) (some (false, ())) : Option (Bool × Unit)).bind fun v13 =>
(cond v13.1 ((view_Same a0 a1).bind fun r14 =>
 some (((decide ((r5.length : Int) = 0)) == r14), ())) (some (false, ())) : Option (Bool × Unit)).bind fun v15 =>
 cond v15.1 ((change_Back r5).bind fun r16 =>
(change_Back r16).bind fun r17 =>
(law39_changes r17).bind fun r18 =>
(law39_changes r5).bind fun r19 =>
(law39_same r18 r19).bind fun r20 =>
 cond r20 ((law39_awake).bind fun r21 =>
 some r21) (some false)) (some false)))
noncomputable def law39_ChangeBack_T : TFn := { ps := (.cons (.sl (.agg (.cons (.sl .str) (.cons (.int .i64) (.cons (.sl (.agg (.cons (.int .i64) (.cons (.int .i64) (.cons .str .unit))))) (.cons (.int .i64) .unit)))))) (.cons (.sl (.agg (.cons (.sl .str) (.cons (.int .i64) (.cons (.sl (.agg (.cons (.int .i64) (.cons (.int .i64) (.cons .str .unit))))) (.cons (.int .i64) .unit)))))) .unit)), res := .bool, fn := fun v => law39_ChangeBack v.1 v.2.1 }
noncomputable def law39_ChangeBack_V : TEnv := { pure := [(6, law39_Good_T), (7, law39_awake_T), (9, change_Apply_T), (12, law39_changes_T), (14, change_Diff_T), (15, view_Same_T), (16, change_Back_T), (17, law39_same_T)], look := [], glob := G0T, ty := [], raw := [], fresh := [] }
theorem law39_ChangeBack_eq : runY Tryd.prog law39_ChangeBack_E law39_ChangeBack_H law39_ChangeBack_V law39_ChangeBack_Y Tryd.f5 law39_ChangeBack_T.ps law39_ChangeBack_T.res = law39_ChangeBack_T.fn := by kernel_rfl
theorem law39_ChangeBack_Fok : SoundP Tryd.prog G0 5 law39_ChangeBack_F := closeF_sound (runF_sound (P := Tryd.prog) (E := law39_ChangeBack_E) (h := law39_ChangeBack_H) (f := 5) (fn := Tryd.f5) ⟨same_ok, (envP_cons law39_Good_Fok (envP_cons law39_awake_Fok (envP_cons change_Apply_Fok (envP_cons law39_changes_Fok (envP_cons change_Diff_Fok (envP_cons view_Same_Fok (envP_cons change_Back_Fok (envP_cons law39_same_Fok envP_nil)))))))), envS_nil, envP_nil, envX_nil⟩ Tryd.func5 rfl (by kernel_rfl))
theorem law39_ChangeBack_ok : TOk law39_ChangeBack_F law39_ChangeBack_T := runY_ok (E := law39_ChangeBack_E) (ET := law39_ChangeBack_V) (EnvT.ofX (E := law39_ChangeBack_E) (ET := law39_ChangeBack_V) (pure_of (pairs_cons law39_Good_ok (pairs_cons law39_awake_ok (pairs_cons change_Apply_ok (pairs_cons law39_changes_ok (pairs_cons change_Diff_ok (pairs_cons view_Same_ok (pairs_cons change_Back_ok (pairs_cons law39_same_ok pairs_nil))))))))) looks_nil raws_nil G0_ok news_nil) law39_ChangeBack_eq rfl
end Go.Proofs.YtkoicblnbbncbaaDoor.L
