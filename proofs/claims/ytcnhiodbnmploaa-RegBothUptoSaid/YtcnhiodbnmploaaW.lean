import Derived.Shelf.Small.Strs
import Derived.Test.YtcnhiodbnmploaaProg
import Derived.Test.YtcnhiodbnmploaaT27
/-
  DERIVED: THE SHELF's CONTRACTS AT THIS DUMP, IN PLAIN WORDS (tools/lay-plain.mjs out of 'TryShelf.lean', which tools/lay-shelf.mjs wrote): THE SAME DECLARATIONS UNDER THE SAME NAMES: 'import', 'namespace', 'open', 'def', 'theorem' AND NOTHING ELSE: no command of the shelf's: FOR A HAND-IN. Each laying: the table of numbers ('.._ren') and one theorem, a field a fact of the dump's own or the kernel's comparison; each contract: ONE APPLICATION.
-/
namespace Go.Proofs
open Go.Shelf
def Try.lays213_ren : Go.Shelf.Ren := ⟨fun | 213 => 77 | 265 => 87 | n => n, fun | 9 => 9 | 3 => 3 | n => n, fun | n => n⟩
theorem Try.lays213 : Go.Proofs.Lays.n213 Try.prog Try.lays213_ren := {
  mixed := by kernel_rfl
  f213 := Try.func77.trans (congrArg some (by kernel_rfl))
  f265 := Try.func87.trans (congrArg some (by kernel_rfl))
  t3 := Try.underlying3
  a3 := Try.isAgg3
  z3 := Try.sizeOf3
  v3 := Try.zeroValue3
  t9 := Try.underlying9
  a9 := Try.isAgg9
  z9 := Try.sizeOf9
  v9 := Try.zeroValue9 }
open Go.RowKit in
/-- internal/bytealg.CompareString (what strings.Compare calls): IT RETURNS 'Lib.compareBytes a b'; the world is as it was. (LAID: no walk: one application.) -/
theorem Try.bytealg_CompareString (a b : ByteArray) (w : World) :
    Calls Try.prog 77 #[.string a, .string b] w fun e w' => e = .returned (.int .i64 (Lib.compareBytes a.data.toList b.data.toList)) ∧ w' = w := Any.bytealg_CompareString Try.lays213 a b w
def Try.lays106_ren : Go.Shelf.Ren := ⟨fun | 106 => 58 | 213 => 77 | 265 => 87 | n => n, fun | 9 => 9 | 3 => 3 | n => n, fun | n => n⟩
theorem Try.lays106 : Go.Proofs.Lays.n106 Try.prog Try.lays106_ren := {
  mixed := by kernel_rfl
  f106 := Try.func58.trans (congrArg some (by kernel_rfl))
  f213 := Try.func77.trans (congrArg some (by kernel_rfl))
  f265 := Try.func87.trans (congrArg some (by kernel_rfl))
  t3 := Try.underlying3
  a3 := Try.isAgg3
  z3 := Try.sizeOf3
  v3 := Try.zeroValue3
  t9 := Try.underlying9
  a9 := Try.isAgg9
  z9 := Try.sizeOf9
  v9 := Try.zeroValue9 }
open Go.RowKit in
/-- strings.Compare: "Compare returns an integer comparing two strings lexicographically. The result will be 0 if a == b, -1 if a < b, and +1 if a > b.": IT RETURNS 'Lib.compareBytes a b'; the world is as it was. (LAID: no walk: one application.) -/
theorem Try.strings_Compare (a b : ByteArray) (w : World) :
    Calls Try.prog 58 #[.string a, .string b] w fun e w' => e = .returned (.int .i64 (Lib.compareBytes a.data.toList b.data.toList)) ∧ w' = w := Any.strings_Compare Try.lays106 a b w
end Go.Proofs

set_option linter.unusedVariables false
set_option maxRecDepth 100000
namespace Go.Proofs.Ytcnhiodbnmploaa.Y
open Go.EM Go.TY Go.Proofs
def G0 : List (Nat × AVal) := []
def G0T : List (Nat × TV) := []
theorem G0_ok : GlobsOk G0 G0T := globs_nil
theorem same_ok : ∀ f, memN f [] = true → Same Try.prog f := by
  intro f h
  simp_all [memN]
-- palinode/palinoderef04.ints
-- palinode/palinoderef04.Compare
-- palinode/palinoderef12.Rises
-- palinode/palinoderef10.Short
-- palinode/palinoderef11.Short
-- palinode/palinoderef12.Short
-- palinode/palinoderef04.Right
-- palinode/palinoderef03.Char
noncomputable def ref03_Char_E : Env := { pure := [], raw := [], glob := G0, same := [], look := [], ext := [] }
def ref03_Char_H : Hints := { seqs := [], loops := [(17, [0, 4, 5, 6, 7])], own := [] }
noncomputable def ref03_Char_F : PFn := closeF (runF Try.prog ref03_Char_E ref03_Char_H Try.f59)
def ref03_Char_Y : TH := { joins := [(14, { keep := [(4, (.int .i64)), (5, (.int .i64)), (6, (.int .i64))], mem := [] }), (9, { keep := [(18, .bool)], mem := [] }), (22, { keep := [(4, (.int .i64))], mem := [] }), (24, { keep := [], mem := [] })], loops := [(17, { keep := [(4, (.int .i64)), (7, (.int .i64))], mem := [] })], cuts := [], ro := [], news := [] }
noncomputable def ref03_Char_l17 (a0 : List UInt8) (v3 : (Int × Int × Int × Unit)) (y17 : (Int × Int × Unit)) : Option ((Int × Int × Unit) ⊕ ((Int × Unit) ⊕ (Int × Int × Unit))) :=
 cond (decide (y17.2.1 < v3.2.1)) (
(atI a0 y17.2.1).bind fun b4 =>
 cond (decide ((b4.toNat : Int) < 128)) (some (.inr (.inr (0, 0, ())))) ((atI a0 y17.2.1).bind fun b5 =>
 cond (decide ((b5.toNat : Int) > 191)) (
 some (.inr (.inr (0, 0, ())))) (
(atI a0 y17.2.1).bind fun b6 =>
 some (.inl ((IntKind.wrap .i64 ((IntKind.wrap .i64 ((IntKind.wrap .i64 (64 * y17.1)) + (IntKind.wrap .i64 (b6.toNat : Int)))) - 128)), (IntKind.wrap .i64 (y17.2.1 + 1)), ()))))) (
 some (.inr (.inl (y17.1, ()))))
noncomputable def ref03_Char (a0 : List UInt8) : Option (Int × Int × Unit) :=
 cond (decide ((a0.length : Int) = 0)) (
 some (0, 0, ())) (
(atI a0 0).bind fun b1 =>
(cond (decide ((IntKind.wrap .i64 (b1.toNat : Int)) < 128)) (
 some (.inr ((IntKind.wrap .i64 (b1.toNat : Int)), 1, ()))) (
(cond (decide ((IntKind.wrap .i64 (b1.toNat : Int)) ≥ 194)) (some (.inl ((decide ((IntKind.wrap .i64 (b1.toNat : Int)) < 224)), ()))) (some (.inl (false, ()))) : Option ((Bool × Unit) ⊕ ((Int × Int × Int × Unit) ⊕ (Int × Int × Unit)))).bind (joinS fun v2 =>
 cond v2.1 (
 some (.inl ((IntKind.wrap .i64 ((IntKind.wrap .i64 (b1.toNat : Int)) - 192)), 2, 128, ()))) (
 cond (decide ((IntKind.wrap .i64 (b1.toNat : Int)) ≥ 224)) (cond (decide ((IntKind.wrap .i64 (b1.toNat : Int)) < 240)) (
 some (.inl ((IntKind.wrap .i64 ((IntKind.wrap .i64 (b1.toNat : Int)) - 224)), 3, 2048, ()))) (
 cond (decide ((IntKind.wrap .i64 (b1.toNat : Int)) ≥ 240)) (cond (decide ((IntKind.wrap .i64 (b1.toNat : Int)) < 245)) (
 some (.inl ((IntKind.wrap .i64 ((IntKind.wrap .i64 (b1.toNat : Int)) - 240)), 4, 65536, ()))) (
 some (.inr (0, 0, ())))) (some (.inr (0, 0, ()))))) (cond (decide ((IntKind.wrap .i64 (b1.toNat : Int)) ≥ 240)) (cond (decide ((IntKind.wrap .i64 (b1.toNat : Int)) < 245)) (
 some (.inl ((IntKind.wrap .i64 ((IntKind.wrap .i64 (b1.toNat : Int)) - 240)), 4, 65536, ()))) (
 some (.inr (0, 0, ())))) (some (.inr (0, 0, ()))))))) : Option ((Int × Int × Int × Unit) ⊕ (Int × Int × Unit))).bind (joinS fun v3 =>
 cond (decide ((a0.length : Int) < v3.2.1)) (
 some (0, 0, ())) (
(loopT (ref03_Char_l17 a0 v3) (v3.1, 1, ()) : Option ((Int × Unit) ⊕ (Int × Int × Unit))).bind (joinS fun v7 =>
(cond (decide (v7.1 < v3.2.2.1)) (some (.inr (0, 0, ()))) (cond (decide (v7.1 > 1114111)) (some (.inr (0, 0, ()))) (cond (decide (v7.1 ≥ 55296)) (cond (decide (v7.1 ≤ 57343)) (
 some (.inr (0, 0, ()))) (
 some (.inl ()))) (some (.inl ())))) : Option (Unit ⊕ (Int × Int × Unit))).bind (joinS fun v8 =>
 some (v7.1, v3.2.1, ()))))))
noncomputable def ref03_Char_T : TFn := { ps := (.cons .str .unit), res := (.tup (.cons (.int .i64) (.cons (.int .i64) .unit))), fn := fun v => ref03_Char v.1 }
noncomputable def ref03_Char_V : TEnv := { pure := [], look := [], glob := G0T, ty := [], raw := [], fresh := [] }
theorem ref03_Char_eq : runY Try.prog ref03_Char_E ref03_Char_H ref03_Char_V ref03_Char_Y Try.f59 ref03_Char_T.ps ref03_Char_T.res = ref03_Char_T.fn := by kernel_rfl
theorem ref03_Char_Fok : SoundP Try.prog G0 59 ref03_Char_F := closeF_sound (runF_sound (P := Try.prog) (E := ref03_Char_E) (h := ref03_Char_H) (f := 59) (fn := Try.f59) ⟨same_ok, envP_nil, envS_nil, envP_nil, envX_nil⟩ Try.func59 rfl (by kernel_rfl))
theorem ref03_Char_ok : TOk ref03_Char_F ref03_Char_T := runY_ok (E := ref03_Char_E) (ET := ref03_Char_V) (EnvT.ofX (E := ref03_Char_E) (ET := ref03_Char_V) (pure_of pairs_nil) looks_nil raws_nil G0_ok news_nil) ref03_Char_eq rfl
-- palinode/palinoderef03.Runes
noncomputable def ref03_Runes_E : Env := { pure := [(59, ref03_Char_F)], raw := [], glob := G0, same := [], look := [], ext := [] }
def ref03_Runes_H : Hints := { seqs := [], loops := [(3, [0, 4, 5])], own := [] }
noncomputable def ref03_Runes_F : PFn := closeF (runF Try.prog ref03_Runes_E ref03_Runes_H Try.f38)
def ref03_Runes_Y : TH := { joins := [], loops := [(3, { keep := [(4, (.own 0)), (5, (.int .i64))], mem := [.row true 3 (.int .i64)] })], cuts := [], ro := [], news := [] }
noncomputable def ref03_Runes_l3 (a0 : List UInt8) (y3 : (Int × List Int × Unit)) : Option ((Int × List Int × Unit) ⊕ (List Int × Bool × Unit)) :=
 cond (decide (y3.1 < (a0.length : Int))) (
(subI a0 y3.1 (a0.length : Int)).bind fun s1 =>
(ref03_Char s1).bind fun r2 =>
 cond (decide (r2.2.1 = 0)) (
 some (.inr ([], false, ()))) (
(roomT (y3.2.1.length + ([r2.1] : List Int).length)).bind fun u3 =>
 some (.inl ((IntKind.wrap .i64 (y3.1 + r2.2.1)), (y3.2.1 ++ ([r2.1] : List Int)), ())))) (
 some (.inr (y3.2.1, true, ())))
noncomputable def ref03_Runes (a0 : List UInt8) : Option (List Int × Bool × Unit) :=
 loopT (ref03_Runes_l3 a0) (0, [], ())
noncomputable def ref03_Runes_T : TFn := { ps := (.cons .str .unit), res := (.tup (.cons (.sl (.int .i64)) (.cons .bool .unit))), fn := fun v => ref03_Runes v.1 }
noncomputable def ref03_Runes_V : TEnv := { pure := [(59, ref03_Char_T)], look := [], glob := G0T, ty := [(3, (.int .i64))], raw := [], fresh := [] }
theorem ref03_Runes_eq : runY Try.prog ref03_Runes_E ref03_Runes_H ref03_Runes_V ref03_Runes_Y Try.f38 ref03_Runes_T.ps ref03_Runes_T.res = ref03_Runes_T.fn := by kernel_rfl
theorem ref03_Runes_Fok : SoundP Try.prog G0 38 ref03_Runes_F := closeF_sound (runF_sound (P := Try.prog) (E := ref03_Runes_E) (h := ref03_Runes_H) (f := 38) (fn := Try.f38) ⟨same_ok, (envP_cons ref03_Char_Fok envP_nil), envS_nil, envP_nil, envX_nil⟩ Try.func38 rfl (by kernel_rfl))
theorem ref03_Runes_ok : TOk ref03_Runes_F ref03_Runes_T := runY_ok (E := ref03_Runes_E) (ET := ref03_Runes_V) (EnvT.ofX (E := ref03_Runes_E) (ET := ref03_Runes_V) (pure_of (pairs_cons ref03_Char_ok pairs_nil)) looks_nil raws_nil G0_ok news_nil) ref03_Runes_eq rfl
-- palinode/palinoderef03.may
-- palinode/palinoderef03.Right
-- palinode/palinoderef10.Check
-- palinode/palinoderef09.Right
noncomputable def ref09_Right_E : Env := { pure := [(38, ref03_Runes_F)], raw := [], glob := G0, same := [], look := [], ext := [] }
def ref09_Right_H : Hints := { seqs := [], loops := [], own := [] }
noncomputable def ref09_Right_F : PFn := closeF (runF Try.prog ref09_Right_E ref09_Right_H Try.f16)
def ref09_Right_Y : TH := { joins := [], loops := [], cuts := [], ro := [1], news := [] }
noncomputable def ref09_Right (a0 : (Int × Int × List UInt8 × Unit)) : Option Bool :=
 cond (decide (a0.1 = 1)) (
 cond (decide (a0.2.2.1 = [])) (cond (decide (a0.2.1 ≥ (-2147483647))) (some (decide (a0.2.1 ≤ 2147483647))) (some false)) (some false)) (
 cond (decide (a0.1 = 2)) (
(ref03_Runes a0.2.2.1).bind fun r1 =>
 cond (decide (a0.2.1 = 0)) (cond r1.2.1 (some (decide ((a0.2.2.1.length : Int) ≤ 64))) (some false)) (some false)) (
 cond (decide (a0.1 = 3)) (cond (decide (a0.2.2.1 = [])) (cond (decide (a0.2.1 ≥ 0)) (some (decide (a0.2.1 ≤ 1))) (some false)) (some false)) (some false)))
noncomputable def ref09_Right_T : TFn := { ps := (.cons (.agg (.cons (.int .i64) (.cons (.int .i64) (.cons .str .unit)))) .unit), res := .bool, fn := fun v => ref09_Right v.1 }
noncomputable def ref09_Right_V : TEnv := { pure := [(38, ref03_Runes_T)], look := [], glob := G0T, ty := [], raw := [], fresh := [] }
theorem ref09_Right_eq : runY Try.prog ref09_Right_E ref09_Right_H ref09_Right_V ref09_Right_Y Try.f16 ref09_Right_T.ps ref09_Right_T.res = ref09_Right_T.fn := by kernel_rfl
theorem ref09_Right_Fok : SoundP Try.prog G0 16 ref09_Right_F := closeF_sound (runF_sound (P := Try.prog) (E := ref09_Right_E) (h := ref09_Right_H) (f := 16) (fn := Try.f16) ⟨same_ok, (envP_cons ref03_Runes_Fok envP_nil), envS_nil, envP_nil, envX_nil⟩ Try.func16 rfl (by kernel_rfl))
theorem ref09_Right_ok : TOk ref09_Right_F ref09_Right_T := runY_ok (E := ref09_Right_E) (ET := ref09_Right_V) (EnvT.ofX (E := ref09_Right_E) (ET := ref09_Right_V) (pure_of (pairs_cons ref03_Runes_ok pairs_nil)) looks_nil raws_nil G0_ok news_nil) ref09_Right_eq rfl
-- palinode/palinoderef04.Refs
-- palinode/palinoderef11.Refs
-- palinode/palinoderef11.Check
-- palinode/palinoderef11.Gone
-- palinode/palinoderef12.Check
-- palinode/palinoderef12.Good
-- palinode/palinoderef08.one
-- palinode/palinoderef08.Right
-- palinode/palinoderef08.Good
-- palinode/palinodelaw13.Good
-- cmp.isNaN[int]
noncomputable def cmp_isNaN_int_E : Env := { pure := [], raw := [], glob := G0, same := [], look := [], ext := [] }
def cmp_isNaN_int_H : Hints := { seqs := [], loops := [], own := [] }
noncomputable def cmp_isNaN_int_F : PFn := closeF (runF Try.prog cmp_isNaN_int_E cmp_isNaN_int_H Try.f50)
def cmp_isNaN_int_Y : TH := { joins := [], loops := [], cuts := [], ro := [], news := [] }
noncomputable def cmp_isNaN_int (a0 : Int) : Option Bool :=
 some (!decide (a0 = a0))
noncomputable def cmp_isNaN_int_T : TFn := { ps := (.cons (.int .i64) .unit), res := .bool, fn := fun v => cmp_isNaN_int v.1 }
noncomputable def cmp_isNaN_int_V : TEnv := { pure := [], look := [], glob := G0T, ty := [], raw := [], fresh := [] }
theorem cmp_isNaN_int_eq : runY Try.prog cmp_isNaN_int_E cmp_isNaN_int_H cmp_isNaN_int_V cmp_isNaN_int_Y Try.f50 cmp_isNaN_int_T.ps cmp_isNaN_int_T.res = cmp_isNaN_int_T.fn := by kernel_rfl
theorem cmp_isNaN_int_Fok : SoundP Try.prog G0 50 cmp_isNaN_int_F := closeF_sound (runF_sound (P := Try.prog) (E := cmp_isNaN_int_E) (h := cmp_isNaN_int_H) (f := 50) (fn := Try.f50) ⟨same_ok, envP_nil, envS_nil, envP_nil, envX_nil⟩ Try.func50 rfl (by kernel_rfl))
theorem cmp_isNaN_int_ok : TOk cmp_isNaN_int_F cmp_isNaN_int_T := runY_ok (E := cmp_isNaN_int_E) (ET := cmp_isNaN_int_V) (EnvT.ofX (E := cmp_isNaN_int_E) (ET := cmp_isNaN_int_V) (pure_of pairs_nil) looks_nil raws_nil G0_ok news_nil) cmp_isNaN_int_eq rfl
-- cmp.Compare[int]
noncomputable def cmp_Compare_int_E : Env := { pure := [(50, cmp_isNaN_int_F)], raw := [], glob := G0, same := [], look := [], ext := [] }
def cmp_Compare_int_H : Hints := { seqs := [], loops := [], own := [] }
noncomputable def cmp_Compare_int_F : PFn := closeF (runF Try.prog cmp_Compare_int_E cmp_Compare_int_H Try.f30)
def cmp_Compare_int_Y : TH := { joins := [], loops := [], cuts := [], ro := [], news := [] }
noncomputable def cmp_Compare_int (a0 : Int) (a1 : Int) : Option Int :=
(cmp_isNaN_int a0).bind fun r1 =>
(cmp_isNaN_int a1).bind fun r2 =>
 cond r1 (
 cond r2 (
 some 0) (
 some (-1))) (
 cond r2 (
 some 1) (
 cond (decide (a0 < a1)) (
 some (-1)) (
 cond (decide (a0 > a1)) (
 some 1) (
 some 0))))
noncomputable def cmp_Compare_int_T : TFn := { ps := (.cons (.int .i64) (.cons (.int .i64) .unit)), res := (.int .i64), fn := fun v => cmp_Compare_int v.1 v.2.1 }
noncomputable def cmp_Compare_int_V : TEnv := { pure := [(50, cmp_isNaN_int_T)], look := [], glob := G0T, ty := [], raw := [], fresh := [] }
theorem cmp_Compare_int_eq : runY Try.prog cmp_Compare_int_E cmp_Compare_int_H cmp_Compare_int_V cmp_Compare_int_Y Try.f30 cmp_Compare_int_T.ps cmp_Compare_int_T.res = cmp_Compare_int_T.fn := by kernel_rfl
theorem cmp_Compare_int_Fok : SoundP Try.prog G0 30 cmp_Compare_int_F := closeF_sound (runF_sound (P := Try.prog) (E := cmp_Compare_int_E) (h := cmp_Compare_int_H) (f := 30) (fn := Try.f30) ⟨same_ok, (envP_cons cmp_isNaN_int_Fok envP_nil), envS_nil, envP_nil, envX_nil⟩ Try.func30 rfl (by kernel_rfl))
theorem cmp_Compare_int_ok : TOk cmp_Compare_int_F cmp_Compare_int_T := runY_ok (E := cmp_Compare_int_E) (ET := cmp_Compare_int_V) (EnvT.ofX (E := cmp_Compare_int_E) (ET := cmp_Compare_int_V) (pure_of (pairs_cons cmp_isNaN_int_ok pairs_nil)) looks_nil raws_nil G0_ok news_nil) cmp_Compare_int_eq rfl
-- cmp.Or[int]
noncomputable def cmp_Or_int_E : Env := { pure := [], raw := [], glob := G0, same := [], look := [], ext := [] }
def cmp_Or_int_H : Hints := { seqs := [], loops := [(3, [3, 6, 7, 8])], own := [] }
noncomputable def cmp_Or_int_F : PFn := closeF (runF Try.prog cmp_Or_int_E cmp_Or_int_H Try.f29)
def cmp_Or_int_Y : TH := { joins := [], loops := [(3, { keep := [(8, (.int .i64))], mem := [] })], cuts := [], ro := [], news := [] }
noncomputable def cmp_Or_int_l3 (a0 : List Int) (y3 : (Int × Unit)) : Option ((Int × Unit) ⊕ Int) :=
 cond (decide (y3.1 < (a0.length : Int))) (
(atI a0 y3.1).bind fun x1 =>
 cond (!decide (x1 = 0)) (
 some (.inr x1)) (
 some (.inl ((IntKind.wrap .i64 (y3.1 + 1)), ())))) (
 some (.inr 0))
noncomputable def cmp_Or_int (a0 : List Int) : Option Int :=
 loopT (cmp_Or_int_l3 a0) (0, ())
noncomputable def cmp_Or_int_T : TFn := { ps := (.cons (.sl (.int .i64)) .unit), res := (.int .i64), fn := fun v => cmp_Or_int v.1 }
noncomputable def cmp_Or_int_V : TEnv := { pure := [], look := [], glob := G0T, ty := [], raw := [], fresh := [] }
theorem cmp_Or_int_eq : runY Try.prog cmp_Or_int_E cmp_Or_int_H cmp_Or_int_V cmp_Or_int_Y Try.f29 cmp_Or_int_T.ps cmp_Or_int_T.res = cmp_Or_int_T.fn := by kernel_rfl
theorem cmp_Or_int_Fok : SoundP Try.prog G0 29 cmp_Or_int_F := closeF_sound (runF_sound (P := Try.prog) (E := cmp_Or_int_E) (h := cmp_Or_int_H) (f := 29) (fn := Try.f29) ⟨same_ok, envP_nil, envS_nil, envP_nil, envX_nil⟩ Try.func29 rfl (by kernel_rfl))
theorem cmp_Or_int_ok : TOk cmp_Or_int_F cmp_Or_int_T := runY_ok (E := cmp_Or_int_E) (ET := cmp_Or_int_V) (EnvT.ofX (E := cmp_Or_int_E) (ET := cmp_Or_int_V) (pure_of pairs_nil) looks_nil raws_nil G0_ok news_nil) cmp_Or_int_eq rfl
-- palinode/dot.Compare
noncomputable def dot_Compare_E : Env := { pure := [(29, cmp_Or_int_F), (30, cmp_Compare_int_F)], raw := [], glob := G0, same := [], look := [], ext := [] }
def dot_Compare_H : Hints := { seqs := [], loops := [], own := [] }
noncomputable def dot_Compare_F : PFn := closeF (runF Try.prog dot_Compare_E dot_Compare_H Try.f51)
def dot_Compare_Y : TH := { joins := [], loops := [], cuts := [], ro := [2, 3], news := [] }
noncomputable def dot_Compare (a0 : (Int × Int × Unit)) (a1 : (Int × Int × Unit)) : Option Int :=
(cmp_Compare_int a0.1 a1.1).bind fun r1 =>
(cmp_Compare_int a0.2.1 a1.2.1).bind fun r2 =>
(cmp_Or_int ([r1, r2] : List Int)).bind fun r3 =>
 some r3
noncomputable def dot_Compare_T : TFn := { ps := (.cons (.agg (.cons (.int .i64) (.cons (.int .i64) .unit))) (.cons (.agg (.cons (.int .i64) (.cons (.int .i64) .unit))) .unit)), res := (.int .i64), fn := fun v => dot_Compare v.1 v.2.1 }
noncomputable def dot_Compare_V : TEnv := { pure := [(29, cmp_Or_int_T), (30, cmp_Compare_int_T)], look := [], glob := G0T, ty := [(3, (.int .i64))], raw := [], fresh := [] }
theorem dot_Compare_eq : runY Try.prog dot_Compare_E dot_Compare_H dot_Compare_V dot_Compare_Y Try.f51 dot_Compare_T.ps dot_Compare_T.res = dot_Compare_T.fn := by kernel_rfl
theorem dot_Compare_Fok : SoundP Try.prog G0 51 dot_Compare_F := closeF_sound (runF_sound (P := Try.prog) (E := dot_Compare_E) (h := dot_Compare_H) (f := 51) (fn := Try.f51) ⟨same_ok, (envP_cons cmp_Or_int_Fok (envP_cons cmp_Compare_int_Fok envP_nil)), envS_nil, envP_nil, envX_nil⟩ Try.func51 rfl (by kernel_rfl))
theorem dot_Compare_ok : TOk dot_Compare_F dot_Compare_T := runY_ok (E := dot_Compare_E) (ET := dot_Compare_V) (EnvT.ofX (E := dot_Compare_E) (ET := dot_Compare_V) (pure_of (pairs_cons cmp_Or_int_ok (pairs_cons cmp_Compare_int_ok pairs_nil))) looks_nil raws_nil G0_ok news_nil) dot_Compare_eq rfl
-- palinode/tally.compare
noncomputable def tally_compare_E : Env := { pure := [(51, dot_Compare_F)], raw := [], glob := G0, same := [], look := [], ext := [] }
def tally_compare_H : Hints := { seqs := [], loops := [], own := [] }
noncomputable def tally_compare_F : PFn := closeF (runF Try.prog tally_compare_E tally_compare_H Try.f81)
def tally_compare_Y : TH := { joins := [], loops := [], cuts := [], ro := [2, 3], news := [] }
noncomputable def tally_compare (a0 : ((Int × Int × Unit) × Int × Unit)) (a1 : ((Int × Int × Unit) × Int × Unit)) : Option Int :=
(dot_Compare a0.1 a1.1).bind fun r1 =>
 some r1
noncomputable def tally_compare_T : TFn := { ps := (.cons (.agg (.cons (.agg (.cons (.int .i64) (.cons (.int .i64) .unit))) (.cons (.int .i64) .unit))) (.cons (.agg (.cons (.agg (.cons (.int .i64) (.cons (.int .i64) .unit))) (.cons (.int .i64) .unit))) .unit)), res := (.int .i64), fn := fun v => tally_compare v.1 v.2.1 }
noncomputable def tally_compare_V : TEnv := { pure := [(51, dot_Compare_T)], look := [], glob := G0T, ty := [], raw := [], fresh := [] }
theorem tally_compare_eq : runY Try.prog tally_compare_E tally_compare_H tally_compare_V tally_compare_Y Try.f81 tally_compare_T.ps tally_compare_T.res = tally_compare_T.fn := by kernel_rfl
theorem tally_compare_Fok : SoundP Try.prog G0 81 tally_compare_F := closeF_sound (runF_sound (P := Try.prog) (E := tally_compare_E) (h := tally_compare_H) (f := 81) (fn := Try.f81) ⟨same_ok, (envP_cons dot_Compare_Fok envP_nil), envS_nil, envP_nil, envX_nil⟩ Try.func81 rfl (by kernel_rfl))
theorem tally_compare_ok : TOk tally_compare_F tally_compare_T := runY_ok (E := tally_compare_E) (ET := tally_compare_V) (EnvT.ofX (E := tally_compare_E) (ET := tally_compare_V) (pure_of (pairs_cons dot_Compare_ok pairs_nil)) looks_nil raws_nil G0_ok news_nil) tally_compare_eq rfl
-- slices.BinarySearchFunc[[]palinode/api.Undo,palinode/api.Undo,palinode/api.Undo]
noncomputable def slices_BinarySearchFunc_Sl_api_Undo_api_Undo_api_Undo__tally_compare_E : Env := { pure := [(81, tally_compare_F)], raw := [], glob := G0, same := [], look := [], ext := [] }
def slices_BinarySearchFunc_Sl_api_Undo_api_Undo_api_Undo__tally_compare_H : Hints := { seqs := [], loops := [(3, [0, 2, 4, 8, 9, 10])], own := [] }
noncomputable def slices_BinarySearchFunc_Sl_api_Undo_api_Undo_api_Undo__tally_compare_F : PFn := closeF (runF Try.prog slices_BinarySearchFunc_Sl_api_Undo_api_Undo_api_Undo__tally_compare_E slices_BinarySearchFunc_Sl_api_Undo_api_Undo_api_Undo__tally_compare_H Try.f80)
def slices_BinarySearchFunc_Sl_api_Undo_api_Undo_api_Undo__tally_compare_Y : TH := { joins := [(8, { keep := [(4, (.bx 0 0)), (9, (.int .i64))], mem := [.same] })], loops := [(3, { keep := [(4, (.bx 0 0)), (9, (.int .i64)), (10, (.int .i64))], mem := [.same] })], cuts := [], ro := [4], news := [] }
noncomputable def slices_BinarySearchFunc_Sl_api_Undo_api_Undo_api_Undo__tally_compare_l3 (a0 : List ((Int × Int × Unit) × Int × Unit)) (a1 : ((Int × Int × Unit) × Int × Unit)) (y3 : (Int × Int × Unit)) : Option ((Int × Int × Unit) ⊕ ((Int × Unit) ⊕ (Int × Bool × Unit))) :=
 cond (decide (y3.1 < y3.2.1)) (
(shrT .u64 (IntKind.wrap .u64 (IntKind.wrap .i64 (y3.1 + y3.2.1))) 1).bind fun t1 =>
(atI a0 (IntKind.wrap .i64 t1)).bind fun x2 =>
(tally_compare x2 a1).bind fun r3 =>
 cond (decide (r3 < 0)) (
 some (.inl ((IntKind.wrap .i64 ((IntKind.wrap .i64 t1) + 1)), y3.2.1, ()))) (
 some (.inl (y3.1, (IntKind.wrap .i64 t1), ())))) (
 some (.inr (.inl (y3.1, ()))))
noncomputable def slices_BinarySearchFunc_Sl_api_Undo_api_Undo_api_Undo__tally_compare (a0 : List ((Int × Int × Unit) × Int × Unit)) (a1 : ((Int × Int × Unit) × Int × Unit)) (a2 : Unit) : Option (Int × Bool × Unit) :=
(loopT (slices_BinarySearchFunc_Sl_api_Undo_api_Undo_api_Undo__tally_compare_l3 a0 a1) (0, (a0.length : Int), ()) : Option ((Int × Unit) ⊕ (Int × Bool × Unit))).bind (joinS fun v4 =>
 cond (decide (v4.1 < (a0.length : Int))) ((atI a0 v4.1).bind fun x5 =>
(tally_compare x5 a1).bind fun r6 =>
 some (v4.1, (decide (r6 = 0)), ())) (some (v4.1, false, ())))
noncomputable def slices_BinarySearchFunc_Sl_api_Undo_api_Undo_api_Undo__tally_compare_T : TFn := { ps := (.cons (.sl (.agg (.cons (.agg (.cons (.int .i64) (.cons (.int .i64) .unit))) (.cons (.int .i64) .unit)))) (.cons (.agg (.cons (.agg (.cons (.int .i64) (.cons (.int .i64) .unit))) (.cons (.int .i64) .unit))) (.cons (.fn 81) .unit))), res := (.tup (.cons (.int .i64) (.cons .bool .unit))), fn := fun v => slices_BinarySearchFunc_Sl_api_Undo_api_Undo_api_Undo__tally_compare v.1 v.2.1 v.2.2.1 }
noncomputable def slices_BinarySearchFunc_Sl_api_Undo_api_Undo_api_Undo__tally_compare_V : TEnv := { pure := [(81, tally_compare_T)], look := [], glob := G0T, ty := [], raw := [], fresh := [] }
theorem slices_BinarySearchFunc_Sl_api_Undo_api_Undo_api_Undo__tally_compare_eq : runY Try.prog slices_BinarySearchFunc_Sl_api_Undo_api_Undo_api_Undo__tally_compare_E slices_BinarySearchFunc_Sl_api_Undo_api_Undo_api_Undo__tally_compare_H slices_BinarySearchFunc_Sl_api_Undo_api_Undo_api_Undo__tally_compare_V slices_BinarySearchFunc_Sl_api_Undo_api_Undo_api_Undo__tally_compare_Y Try.f80 slices_BinarySearchFunc_Sl_api_Undo_api_Undo_api_Undo__tally_compare_T.ps slices_BinarySearchFunc_Sl_api_Undo_api_Undo_api_Undo__tally_compare_T.res = slices_BinarySearchFunc_Sl_api_Undo_api_Undo_api_Undo__tally_compare_T.fn := by kernel_rfl
theorem slices_BinarySearchFunc_Sl_api_Undo_api_Undo_api_Undo__tally_compare_Fok : SoundP Try.prog G0 80 slices_BinarySearchFunc_Sl_api_Undo_api_Undo_api_Undo__tally_compare_F := closeF_sound (runF_sound (P := Try.prog) (E := slices_BinarySearchFunc_Sl_api_Undo_api_Undo_api_Undo__tally_compare_E) (h := slices_BinarySearchFunc_Sl_api_Undo_api_Undo_api_Undo__tally_compare_H) (f := 80) (fn := Try.f80) ⟨same_ok, (envP_cons tally_compare_Fok envP_nil), envS_nil, envP_nil, envX_nil⟩ Try.func80 rfl (by kernel_rfl))
theorem slices_BinarySearchFunc_Sl_api_Undo_api_Undo_api_Undo__tally_compare_ok : TOk slices_BinarySearchFunc_Sl_api_Undo_api_Undo_api_Undo__tally_compare_F slices_BinarySearchFunc_Sl_api_Undo_api_Undo_api_Undo__tally_compare_T := runY_ok (E := slices_BinarySearchFunc_Sl_api_Undo_api_Undo_api_Undo__tally_compare_E) (ET := slices_BinarySearchFunc_Sl_api_Undo_api_Undo_api_Undo__tally_compare_V) (EnvT.ofX (E := slices_BinarySearchFunc_Sl_api_Undo_api_Undo_api_Undo__tally_compare_E) (ET := slices_BinarySearchFunc_Sl_api_Undo_api_Undo_api_Undo__tally_compare_V) (pure_of (pairs_cons tally_compare_ok pairs_nil)) looks_nil raws_nil G0_ok news_nil) slices_BinarySearchFunc_Sl_api_Undo_api_Undo_api_Undo__tally_compare_eq rfl
-- palinode/tally.at
noncomputable def tally_at_E : Env := { pure := [(80, slices_BinarySearchFunc_Sl_api_Undo_api_Undo_api_Undo__tally_compare_F)], raw := [], glob := G0, same := [], look := [], ext := [] }
def tally_at_H : Hints := { seqs := [], loops := [], own := [] }
noncomputable def tally_at_F : PFn := closeF (runF Try.prog tally_at_E tally_at_H Try.f65)
def tally_at_Y : TH := { joins := [], loops := [], cuts := [], ro := [3], news := [] }
noncomputable def tally_at (a0 : List ((Int × Int × Unit) × Int × Unit)) (a1 : (Int × Int × Unit)) : Option (Int × Bool × Unit) :=
(slices_BinarySearchFunc_Sl_api_Undo_api_Undo_api_Undo__tally_compare a0 (a1, 0, ()) ()).bind fun r1 =>
 some (r1.1, r1.2.1, ())
noncomputable def tally_at_T : TFn := { ps := (.cons (.sl (.agg (.cons (.agg (.cons (.int .i64) (.cons (.int .i64) .unit))) (.cons (.int .i64) .unit)))) (.cons (.agg (.cons (.int .i64) (.cons (.int .i64) .unit))) .unit)), res := (.tup (.cons (.int .i64) (.cons .bool .unit))), fn := fun v => tally_at v.1 v.2.1 }
noncomputable def tally_at_V : TEnv := { pure := [(80, slices_BinarySearchFunc_Sl_api_Undo_api_Undo_api_Undo__tally_compare_T)], look := [], glob := G0T, ty := [], raw := [], fresh := [] }
theorem tally_at_eq : runY Try.prog tally_at_E tally_at_H tally_at_V tally_at_Y Try.f65 tally_at_T.ps tally_at_T.res = tally_at_T.fn := by kernel_rfl
theorem tally_at_Fok : SoundP Try.prog G0 65 tally_at_F := closeF_sound (runF_sound (P := Try.prog) (E := tally_at_E) (h := tally_at_H) (f := 65) (fn := Try.f65) ⟨same_ok, (envP_cons slices_BinarySearchFunc_Sl_api_Undo_api_Undo_api_Undo__tally_compare_Fok envP_nil), envS_nil, envP_nil, envX_nil⟩ Try.func65 rfl (by kernel_rfl))
theorem tally_at_ok : TOk tally_at_F tally_at_T := runY_ok (E := tally_at_E) (ET := tally_at_V) (EnvT.ofX (E := tally_at_E) (ET := tally_at_V) (pure_of (pairs_cons slices_BinarySearchFunc_Sl_api_Undo_api_Undo_api_Undo__tally_compare_ok pairs_nil)) looks_nil raws_nil G0_ok news_nil) tally_at_eq rfl
-- palinode/tally.Get
noncomputable def tally_Get_E : Env := { pure := [(65, tally_at_F)], raw := [], glob := G0, same := [], look := [], ext := [] }
def tally_Get_H : Hints := { seqs := [], loops := [], own := [] }
noncomputable def tally_Get_F : PFn := closeF (runF Try.prog tally_Get_E tally_Get_H Try.f45)
def tally_Get_Y : TH := { joins := [], loops := [], cuts := [], ro := [3], news := [] }
noncomputable def tally_Get (a0 : List ((Int × Int × Unit) × Int × Unit)) (a1 : (Int × Int × Unit)) : Option Int :=
(tally_at a0 a1).bind fun r1 =>
 cond r1.2.1 (
(atI a0 r1.1).bind fun x2 =>
 some x2.2.1) (
 some 0)
noncomputable def tally_Get_T : TFn := { ps := (.cons (.sl (.agg (.cons (.agg (.cons (.int .i64) (.cons (.int .i64) .unit))) (.cons (.int .i64) .unit)))) (.cons (.agg (.cons (.int .i64) (.cons (.int .i64) .unit))) .unit)), res := (.int .i64), fn := fun v => tally_Get v.1 v.2.1 }
noncomputable def tally_Get_V : TEnv := { pure := [(65, tally_at_T)], look := [], glob := G0T, ty := [], raw := [], fresh := [] }
theorem tally_Get_eq : runY Try.prog tally_Get_E tally_Get_H tally_Get_V tally_Get_Y Try.f45 tally_Get_T.ps tally_Get_T.res = tally_Get_T.fn := by kernel_rfl
theorem tally_Get_Fok : SoundP Try.prog G0 45 tally_Get_F := closeF_sound (runF_sound (P := Try.prog) (E := tally_Get_E) (h := tally_Get_H) (f := 45) (fn := Try.f45) ⟨same_ok, (envP_cons tally_at_Fok envP_nil), envS_nil, envP_nil, envX_nil⟩ Try.func45 rfl (by kernel_rfl))
theorem tally_Get_ok : TOk tally_Get_F tally_Get_T := runY_ok (E := tally_Get_E) (ET := tally_Get_V) (EnvT.ofX (E := tally_Get_E) (ET := tally_Get_V) (pure_of (pairs_cons tally_at_ok pairs_nil)) looks_nil raws_nil G0_ok news_nil) tally_Get_eq rfl
-- palinode/tally.Seen
noncomputable def tally_Seen_E : Env := { pure := [(45, tally_Get_F)], raw := [], glob := G0, same := [], look := [], ext := [] }
def tally_Seen_H : Hints := { seqs := [], loops := [], own := [] }
noncomputable def tally_Seen_F : PFn := closeF (runF Try.prog tally_Seen_E tally_Seen_H Try.f23)
def tally_Seen_Y : TH := { joins := [], loops := [], cuts := [], ro := [3], news := [] }
noncomputable def tally_Seen (a0 : List ((Int × Int × Unit) × Int × Unit)) (a1 : (Int × Int × Unit)) : Option Bool :=
(tally_Get a0 a1).bind fun r1 =>
(remT r1 2).bind fun t2 =>
 some (decide (t2 = 0))
noncomputable def tally_Seen_T : TFn := { ps := (.cons (.sl (.agg (.cons (.agg (.cons (.int .i64) (.cons (.int .i64) .unit))) (.cons (.int .i64) .unit)))) (.cons (.agg (.cons (.int .i64) (.cons (.int .i64) .unit))) .unit)), res := .bool, fn := fun v => tally_Seen v.1 v.2.1 }
noncomputable def tally_Seen_V : TEnv := { pure := [(45, tally_Get_T)], look := [], glob := G0T, ty := [], raw := [], fresh := [] }
theorem tally_Seen_eq : runY Try.prog tally_Seen_E tally_Seen_H tally_Seen_V tally_Seen_Y Try.f23 tally_Seen_T.ps tally_Seen_T.res = tally_Seen_T.fn := by kernel_rfl
theorem tally_Seen_Fok : SoundP Try.prog G0 23 tally_Seen_F := closeF_sound (runF_sound (P := Try.prog) (E := tally_Seen_E) (h := tally_Seen_H) (f := 23) (fn := Try.f23) ⟨same_ok, (envP_cons tally_Get_Fok envP_nil), envS_nil, envP_nil, envX_nil⟩ Try.func23 rfl (by kernel_rfl))
theorem tally_Seen_ok : TOk tally_Seen_F tally_Seen_T := runY_ok (E := tally_Seen_E) (ET := tally_Seen_V) (EnvT.ofX (E := tally_Seen_E) (ET := tally_Seen_V) (pure_of (pairs_cons tally_Get_ok pairs_nil)) looks_nil raws_nil G0_ok news_nil) tally_Seen_eq rfl
-- palinode/live.covered
noncomputable def live_covered_E : Env := { pure := [(23, tally_Seen_F)], raw := [], glob := G0, same := [], look := [], ext := [] }
def live_covered_H : Hints := { seqs := [], loops := [(3, [1, 5, 13, 14, 15]), (7, [1, 5, 13, 14, 15, 25, 26, 27]), (10, [1, 5, 13, 14, 15, 25, 26, 27, 32, 33, 34])], own := [] }
noncomputable def live_covered_S : SFn := runF Try.prog live_covered_E live_covered_H Try.f22
def live_covered_Y : TH := { joins := [], loops := [(3, { keep := [(5, (.mp 0)), (15, (.int .i64))], mem := [.map (.agg (.cons (.agg (.cons (.int .i64) (.cons (.int .i64) .unit))) (.cons (.int .i64) .unit))) .bool] }), (7, { keep := [(5, (.mp 0)), (27, (.int .i64))], mem := [.map (.agg (.cons (.agg (.cons (.int .i64) (.cons (.int .i64) .unit))) (.cons (.int .i64) .unit))) .bool, .gone] }), (10, { keep := [(5, (.mp 0)), (34, (.int .i64))], mem := [.map (.agg (.cons (.agg (.cons (.int .i64) (.cons (.int .i64) .unit))) (.cons (.int .i64) .unit))) .bool, .gone, .gone] })], cuts := [], ro := [], news := [] }
noncomputable def live_covered_l10 (y7 : (Int × List (((Int × Int × Unit) × Int × Unit) × Bool) × Unit)) (x3 : (Int × List (List UInt8) × (Int × Int × List UInt8 × Unit) × Int × List ((Int × Int × Unit) × Int × Unit) × Unit)) (y10 : (Int × List (((Int × Int × Unit) × Int × Unit) × Bool) × Unit)) : Option ((Int × List (((Int × Int × Unit) × Int × Unit) × Bool) × Unit) ⊕ ((Int × List (((Int × Int × Unit) × Int × Unit) × Bool) × Unit) ⊕ ((Int × List (((Int × Int × Unit) × Int × Unit) × Bool) × Unit) ⊕ (List (((Int × Int × Unit) × Int × Unit) × Bool))))) :=
 cond (decide (y10.1 < (x3.2.2.2.2.1.length : Int))) (
(atI x3.2.2.2.2.1 y10.1).bind fun x4 =>
 some (.inl ((IntKind.wrap .i64 (y10.1 + 1)), (putK (.agg (.cons (.agg (.cons (.int .i64) (.cons (.int .i64) .unit))) (.cons (.int .i64) .unit))) x4 true y10.2.1), ()))) (
 some (.inr (.inl ((IntKind.wrap .i64 (y7.1 + 1)), y10.2.1, ()))))
noncomputable def live_covered_l7 (y3 : (Int × List (((Int × Int × Unit) × Int × Unit) × Bool) × Unit)) (x1 : ((Int × Int × Unit) × Int × Int × Bool × List (Int × List (List UInt8) × (Int × Int × List UInt8 × Unit) × Int × List ((Int × Int × Unit) × Int × Unit) × Unit) × Unit)) (y7 : (Int × List (((Int × Int × Unit) × Int × Unit) × Bool) × Unit)) : Option ((Int × List (((Int × Int × Unit) × Int × Unit) × Bool) × Unit) ⊕ ((Int × List (((Int × Int × Unit) × Int × Unit) × Bool) × Unit) ⊕ (List (((Int × Int × Unit) × Int × Unit) × Bool)))) :=
 cond (decide (y7.1 < (x1.2.2.2.2.1.length : Int))) (
(atI x1.2.2.2.2.1 y7.1).bind fun x3 =>
 loopT (live_covered_l10 y7 x3) (0, y7.2.1, ())) (
 some (.inr (.inl ((IntKind.wrap .i64 (y3.1 + 1)), y7.2.1, ()))))
noncomputable def live_covered_l3 (a0 : List ((Int × Int × Unit) × Int × Int × Bool × List (Int × List (List UInt8) × (Int × Int × List UInt8 × Unit) × Int × List ((Int × Int × Unit) × Int × Unit) × Unit) × Unit)) (a1 : List ((Int × Int × Unit) × Int × Unit)) (y3 : (Int × List (((Int × Int × Unit) × Int × Unit) × Bool) × Unit)) : Option ((Int × List (((Int × Int × Unit) × Int × Unit) × Bool) × Unit) ⊕ (List (((Int × Int × Unit) × Int × Unit) × Bool))) :=
 cond (decide (y3.1 < (a0.length : Int))) (
(atI a0 y3.1).bind fun x1 =>
(tally_Seen a1 x1.1).bind fun r2 =>
 cond (!r2) (
 some (.inl ((IntKind.wrap .i64 (y3.1 + 1)), y3.2.1, ()))) (
 loopT (live_covered_l7 y3 x1) (0, y3.2.1, ()))) (
 some (.inr y3.2.1))
noncomputable def live_covered (a0 : List ((Int × Int × Unit) × Int × Int × Bool × List (Int × List (List UInt8) × (Int × Int × List UInt8 × Unit) × Int × List ((Int × Int × Unit) × Int × Unit) × Unit) × Unit)) (a1 : List ((Int × Int × Unit) × Int × Unit)) : Option (List (((Int × Int × Unit) × Int × Unit) × Bool)) :=
 loopT (live_covered_l3 a0 a1) (0, [], ())
noncomputable def live_covered_N : TNew := { ps := (.cons (.sl (.agg (.cons (.agg (.cons (.int .i64) (.cons (.int .i64) .unit))) (.cons (.int .i64) (.cons (.int .i64) (.cons .bool (.cons (.sl (.agg (.cons (.int .i64) (.cons (.sl .str) (.cons (.agg (.cons (.int .i64) (.cons (.int .i64) (.cons .str .unit)))) (.cons (.int .i64) (.cons (.sl (.agg (.cons (.agg (.cons (.int .i64) (.cons (.int .i64) .unit))) (.cons (.int .i64) .unit)))) .unit))))))) .unit))))))) (.cons (.sl (.agg (.cons (.agg (.cons (.int .i64) (.cons (.int .i64) .unit))) (.cons (.int .i64) .unit)))) .unit)), e := 55, t := (.sl (.cons (.agg (.cons (.agg (.cons (.int .i64) (.cons (.int .i64) .unit))) (.cons (.int .i64) .unit))) .bool)), fn := fun v => live_covered v.1 v.2.1, mp := true }
noncomputable def live_covered_V : TEnv := { pure := [(23, tally_Seen_T)], look := [], glob := G0T, ty := [(4, .bool), (62, (.agg (.cons (.agg (.cons (.int .i64) (.cons (.int .i64) .unit))) (.cons (.int .i64) .unit))))], raw := [], fresh := [] }
theorem live_covered_eq : newMY Try.prog live_covered_E live_covered_H live_covered_V live_covered_Y Try.f22 live_covered_N.ps (.agg (.cons (.agg (.cons (.int .i64) (.cons (.int .i64) .unit))) (.cons (.int .i64) .unit))) .bool = live_covered_N.fn := by kernel_rfl
theorem live_covered_Sok : SoundS Try.prog G0 22 live_covered_S := runF_sound (P := Try.prog) (E := live_covered_E) (h := live_covered_H) (f := 22) (fn := Try.f22) ⟨same_ok, (envP_cons tally_Seen_Fok envP_nil), envS_nil, envP_nil, envX_nil⟩ Try.func22 rfl (by kernel_rfl)
theorem live_covered_ok : TNewOk live_covered_S live_covered_N := newMY_ok (E := live_covered_E) (ET := live_covered_V) (EnvT.ofX (E := live_covered_E) (ET := live_covered_V) (pure_of (pairs_cons tally_Seen_ok pairs_nil)) looks_nil raws_nil G0_ok news_nil) live_covered_eq
-- palinode/live.All
noncomputable def live_All_E : Env := { pure := [(23, tally_Seen_F)], raw := [(22, live_covered_S)], glob := G0, same := [], look := [], ext := [] }
def live_All_H : Hints := { seqs := [], loops := [(4, [1, 5, 6, 15, 16, 17]), (8, [1, 5, 6, 8, 15, 16, 17, 27, 28, 29])], own := [] }
noncomputable def live_All_F : PFn := closeF (runF Try.prog live_All_E live_All_H Try.f8)
def live_All_Y : TH := { joins := [], loops := [(4, { keep := [(5, (.mp 0)), (6, (.own 4)), (17, (.int .i64))], mem := [.map (.agg (.cons (.agg (.cons (.int .i64) (.cons (.int .i64) .unit))) (.cons (.int .i64) .unit))) .bool, .gone, .gone, .gone, .row true 64 (.agg (.cons (.agg (.cons (.agg (.cons (.int .i64) (.cons (.int .i64) .unit))) (.cons (.int .i64) .unit))) (.cons (.agg (.cons (.int .i64) (.cons (.sl .str) (.cons (.agg (.cons (.int .i64) (.cons (.int .i64) (.cons .str .unit)))) (.cons (.int .i64) (.cons (.sl (.agg (.cons (.agg (.cons (.int .i64) (.cons (.int .i64) .unit))) (.cons (.int .i64) .unit)))) .unit)))))) (.cons (.int .i64) .unit))))] }), (8, { keep := [(5, (.mp 0)), (6, (.own 4)), (8, (.bx 5 0)), (29, (.int .i64))], mem := [.map (.agg (.cons (.agg (.cons (.int .i64) (.cons (.int .i64) .unit))) (.cons (.int .i64) .unit))) .bool, .gone, .gone, .gone, .row true 64 (.agg (.cons (.agg (.cons (.agg (.cons (.int .i64) (.cons (.int .i64) .unit))) (.cons (.int .i64) .unit))) (.cons (.agg (.cons (.int .i64) (.cons (.sl .str) (.cons (.agg (.cons (.int .i64) (.cons (.int .i64) (.cons .str .unit)))) (.cons (.int .i64) (.cons (.sl (.agg (.cons (.agg (.cons (.int .i64) (.cons (.int .i64) .unit))) (.cons (.int .i64) .unit)))) .unit)))))) (.cons (.int .i64) .unit)))), .box 48 (.agg (.cons (.agg (.cons (.int .i64) (.cons (.int .i64) .unit))) (.cons (.int .i64) (.cons (.int .i64) (.cons .bool (.cons (.sl (.agg (.cons (.int .i64) (.cons (.sl .str) (.cons (.agg (.cons (.int .i64) (.cons (.int .i64) (.cons .str .unit)))) (.cons (.int .i64) (.cons (.sl (.agg (.cons (.agg (.cons (.int .i64) (.cons (.int .i64) .unit))) (.cons (.int .i64) .unit)))) .unit))))))) .unit))))))] })], cuts := [], ro := [], news := [] }
noncomputable def live_All_l8 (y4 : (Int × List (((Int × Int × Unit) × Int × Unit) × Bool) × List (((Int × Int × Unit) × Int × Unit) × (Int × List (List UInt8) × (Int × Int × List UInt8 × Unit) × Int × List ((Int × Int × Unit) × Int × Unit) × Unit) × Int × Unit) × Unit)) (x2 : ((Int × Int × Unit) × Int × Int × Bool × List (Int × List (List UInt8) × (Int × Int × List UInt8 × Unit) × Int × List ((Int × Int × Unit) × Int × Unit) × Unit) × Unit)) (y8 : (Int × List (((Int × Int × Unit) × Int × Unit) × Bool) × List (((Int × Int × Unit) × Int × Unit) × (Int × List (List UInt8) × (Int × Int × List UInt8 × Unit) × Int × List ((Int × Int × Unit) × Int × Unit) × Unit) × Int × Unit) × ((Int × Int × Unit) × Int × Int × Bool × List (Int × List (List UInt8) × (Int × Int × List UInt8 × Unit) × Int × List ((Int × Int × Unit) × Int × Unit) × Unit) × Unit) × Unit)) : Option ((Int × List (((Int × Int × Unit) × Int × Unit) × Bool) × List (((Int × Int × Unit) × Int × Unit) × (Int × List (List UInt8) × (Int × Int × List UInt8 × Unit) × Int × List ((Int × Int × Unit) × Int × Unit) × Unit) × Int × Unit) × ((Int × Int × Unit) × Int × Int × Bool × List (Int × List (List UInt8) × (Int × Int × List UInt8 × Unit) × Int × List ((Int × Int × Unit) × Int × Unit) × Unit) × Unit) × Unit) ⊕ ((Int × List (((Int × Int × Unit) × Int × Unit) × Bool) × List (((Int × Int × Unit) × Int × Unit) × (Int × List (List UInt8) × (Int × Int × List UInt8 × Unit) × Int × List ((Int × Int × Unit) × Int × Unit) × Unit) × Int × Unit) × Unit) ⊕ List (((Int × Int × Unit) × Int × Unit) × (Int × List (List UInt8) × (Int × Int × List UInt8 × Unit) × Int × List ((Int × Int × Unit) × Int × Unit) × Unit) × Int × Unit))) :=
 cond (decide (y8.1 < (x2.2.2.2.2.1.length : Int))) (
(atI x2.2.2.2.2.1 y8.1).bind fun x4 =>
 cond (decide (x4.1 = 1)) (cond (!((getK (.agg (.cons (.agg (.cons (.int .i64) (.cons (.int .i64) .unit))) (.cons (.int .i64) .unit))) false (y8.2.2.2.1.1, y8.1, ()) y8.2.1).1)) (
(roomT (y8.2.2.1.length + ([((y8.2.2.2.1.1, y8.1, ()), x4, y8.2.2.2.1.2.2.1, ())] : List (((Int × Int × Unit) × Int × Unit) × (Int × List (List UInt8) × (Int × Int × List UInt8 × Unit) × Int × List ((Int × Int × Unit) × Int × Unit) × Unit) × Int × Unit)).length)).bind fun u5 =>
 some (.inl ((IntKind.wrap .i64 (y8.1 + 1)), y8.2.1, (y8.2.2.1 ++ ([((y8.2.2.2.1.1, y8.1, ()), x4, y8.2.2.2.1.2.2.1, ())] : List (((Int × Int × Unit) × Int × Unit) × (Int × List (List UInt8) × (Int × Int × List UInt8 × Unit) × Int × List ((Int × Int × Unit) × Int × Unit) × Unit) × Int × Unit))), y8.2.2.2.1, ()))) (
 some (.inl ((IntKind.wrap .i64 (y8.1 + 1)), y8.2.1, y8.2.2.1, y8.2.2.2.1, ())))) (cond (decide (x4.1 = 2)) (cond (!((getK (.agg (.cons (.agg (.cons (.int .i64) (.cons (.int .i64) .unit))) (.cons (.int .i64) .unit))) false (y8.2.2.2.1.1, y8.1, ()) y8.2.1).1)) (
(roomT (y8.2.2.1.length + ([((y8.2.2.2.1.1, y8.1, ()), x4, y8.2.2.2.1.2.2.1, ())] : List (((Int × Int × Unit) × Int × Unit) × (Int × List (List UInt8) × (Int × Int × List UInt8 × Unit) × Int × List ((Int × Int × Unit) × Int × Unit) × Unit) × Int × Unit)).length)).bind fun u6 =>
 some (.inl ((IntKind.wrap .i64 (y8.1 + 1)), y8.2.1, (y8.2.2.1 ++ ([((y8.2.2.2.1.1, y8.1, ()), x4, y8.2.2.2.1.2.2.1, ())] : List (((Int × Int × Unit) × Int × Unit) × (Int × List (List UInt8) × (Int × Int × List UInt8 × Unit) × Int × List ((Int × Int × Unit) × Int × Unit) × Unit) × Int × Unit))), y8.2.2.2.1, ()))) (
 some (.inl ((IntKind.wrap .i64 (y8.1 + 1)), y8.2.1, y8.2.2.1, y8.2.2.2.1, ())))) (cond (decide (x4.1 = 3)) (cond (!((getK (.agg (.cons (.agg (.cons (.int .i64) (.cons (.int .i64) .unit))) (.cons (.int .i64) .unit))) false (y8.2.2.2.1.1, y8.1, ()) y8.2.1).1)) (
(roomT (y8.2.2.1.length + ([((y8.2.2.2.1.1, y8.1, ()), x4, y8.2.2.2.1.2.2.1, ())] : List (((Int × Int × Unit) × Int × Unit) × (Int × List (List UInt8) × (Int × Int × List UInt8 × Unit) × Int × List ((Int × Int × Unit) × Int × Unit) × Unit) × Int × Unit)).length)).bind fun u7 =>
 some (.inl ((IntKind.wrap .i64 (y8.1 + 1)), y8.2.1, (y8.2.2.1 ++ ([((y8.2.2.2.1.1, y8.1, ()), x4, y8.2.2.2.1.2.2.1, ())] : List (((Int × Int × Unit) × Int × Unit) × (Int × List (List UInt8) × (Int × Int × List UInt8 × Unit) × Int × List ((Int × Int × Unit) × Int × Unit) × Unit) × Int × Unit))), y8.2.2.2.1, ()))) (
 some (.inl ((IntKind.wrap .i64 (y8.1 + 1)), y8.2.1, y8.2.2.1, y8.2.2.2.1, ())))) (some (.inl ((IntKind.wrap .i64 (y8.1 + 1)), y8.2.1, y8.2.2.1, y8.2.2.2.1, ())))))) (
 some (.inr (.inl ((IntKind.wrap .i64 (y4.1 + 1)), y8.2.1, y8.2.2.1, ()))))
noncomputable def live_All_l4 (a0 : List ((Int × Int × Unit) × Int × Int × Bool × List (Int × List (List UInt8) × (Int × Int × List UInt8 × Unit) × Int × List ((Int × Int × Unit) × Int × Unit) × Unit) × Unit)) (a1 : List ((Int × Int × Unit) × Int × Unit)) (y4 : (Int × List (((Int × Int × Unit) × Int × Unit) × Bool) × List (((Int × Int × Unit) × Int × Unit) × (Int × List (List UInt8) × (Int × Int × List UInt8 × Unit) × Int × List ((Int × Int × Unit) × Int × Unit) × Unit) × Int × Unit) × Unit)) : Option ((Int × List (((Int × Int × Unit) × Int × Unit) × Bool) × List (((Int × Int × Unit) × Int × Unit) × (Int × List (List UInt8) × (Int × Int × List UInt8 × Unit) × Int × List ((Int × Int × Unit) × Int × Unit) × Unit) × Int × Unit) × Unit) ⊕ List (((Int × Int × Unit) × Int × Unit) × (Int × List (List UInt8) × (Int × Int × List UInt8 × Unit) × Int × List ((Int × Int × Unit) × Int × Unit) × Unit) × Int × Unit)) :=
 cond (decide (y4.1 < (a0.length : Int))) (
(atI a0 y4.1).bind fun x2 =>
(tally_Seen a1 x2.1).bind fun r3 =>
 cond (!r3) (
 some (.inl ((IntKind.wrap .i64 (y4.1 + 1)), y4.2.1, y4.2.2.1, ()))) (
 loopT (live_All_l8 y4 x2) (0, y4.2.1, y4.2.2.1, x2, ()))) (
 some (.inr y4.2.2.1))
noncomputable def live_All (a0 : List ((Int × Int × Unit) × Int × Int × Bool × List (Int × List (List UInt8) × (Int × Int × List UInt8 × Unit) × Int × List ((Int × Int × Unit) × Int × Unit) × Unit) × Unit)) (a1 : List ((Int × Int × Unit) × Int × Unit)) : Option (List (((Int × Int × Unit) × Int × Unit) × (Int × List (List UInt8) × (Int × Int × List UInt8 × Unit) × Int × List ((Int × Int × Unit) × Int × Unit) × Unit) × Int × Unit)) :=
(live_covered a0 a1).bind fun n1 =>
 loopT (live_All_l4 a0 a1) (0, n1, [], ())
noncomputable def live_All_T : TFn := { ps := (.cons (.sl (.agg (.cons (.agg (.cons (.int .i64) (.cons (.int .i64) .unit))) (.cons (.int .i64) (.cons (.int .i64) (.cons .bool (.cons (.sl (.agg (.cons (.int .i64) (.cons (.sl .str) (.cons (.agg (.cons (.int .i64) (.cons (.int .i64) (.cons .str .unit)))) (.cons (.int .i64) (.cons (.sl (.agg (.cons (.agg (.cons (.int .i64) (.cons (.int .i64) .unit))) (.cons (.int .i64) .unit)))) .unit))))))) .unit))))))) (.cons (.sl (.agg (.cons (.agg (.cons (.int .i64) (.cons (.int .i64) .unit))) (.cons (.int .i64) .unit)))) .unit)), res := (.sl (.agg (.cons (.agg (.cons (.agg (.cons (.int .i64) (.cons (.int .i64) .unit))) (.cons (.int .i64) .unit))) (.cons (.agg (.cons (.int .i64) (.cons (.sl .str) (.cons (.agg (.cons (.int .i64) (.cons (.int .i64) (.cons .str .unit)))) (.cons (.int .i64) (.cons (.sl (.agg (.cons (.agg (.cons (.int .i64) (.cons (.int .i64) .unit))) (.cons (.int .i64) .unit)))) .unit)))))) (.cons (.int .i64) .unit))))), fn := fun v => live_All v.1 v.2.1 }
noncomputable def live_All_V : TEnv := { pure := [(23, tally_Seen_T)], look := [], glob := G0T, ty := [(64, (.agg (.cons (.agg (.cons (.agg (.cons (.int .i64) (.cons (.int .i64) .unit))) (.cons (.int .i64) .unit))) (.cons (.agg (.cons (.int .i64) (.cons (.sl .str) (.cons (.agg (.cons (.int .i64) (.cons (.int .i64) (.cons .str .unit)))) (.cons (.int .i64) (.cons (.sl (.agg (.cons (.agg (.cons (.int .i64) (.cons (.int .i64) .unit))) (.cons (.int .i64) .unit)))) .unit)))))) (.cons (.int .i64) .unit)))))], raw := [], fresh := [(22, live_covered_N)] }
theorem live_All_eq : runY Try.prog live_All_E live_All_H live_All_V live_All_Y Try.f8 live_All_T.ps live_All_T.res = live_All_T.fn := by kernel_rfl
theorem live_All_Fok : SoundP Try.prog G0 8 live_All_F := closeF_sound (runF_sound (P := Try.prog) (E := live_All_E) (h := live_All_H) (f := 8) (fn := Try.f8) ⟨same_ok, (envP_cons tally_Seen_Fok envP_nil), (envS_cons live_covered_Sok envS_nil), envP_nil, envX_nil⟩ Try.func8 rfl (by kernel_rfl))
theorem live_All_ok : TOk live_All_F live_All_T := runY_ok (E := live_All_E) (ET := live_All_V) (EnvT.ofX (E := live_All_E) (ET := live_All_V) (pure_of (pairs_cons tally_Seen_ok pairs_nil)) looks_nil (raws_more raws_nil rfl) G0_ok (news_cons live_covered_ok rfl rfl rfl news_nil)) live_All_eq rfl
-- palinode/palinoderef08.Get
-- palinode/palinoderef08.Seen
-- palinode/palinoderef11.Covers
-- palinode/palinoderef13.Covered
-- palinode/palinoderef13.All
-- palinode/op.Leaf
noncomputable def op_Leaf_E : Env := { pure := [], raw := [], glob := G0, same := [], look := [], ext := [] }
def op_Leaf_H : Hints := { seqs := [], loops := [], own := [] }
noncomputable def op_Leaf_F : PFn := closeF (runF Try.prog op_Leaf_E op_Leaf_H Try.f48)
def op_Leaf_Y : TH := { joins := [(6, { keep := [(6, .bool)], mem := [] })], loops := [], cuts := [], ro := [], news := [] }
noncomputable def op_Leaf (a0 : Int) : Option Int :=
 cond (decide (a0 = 1)) (
 some 1) (
(cond (decide (a0 = 2)) (
 some (.inl ((decide (a0 = 2)), ()))) (
 some (.inl ((decide (a0 = 4)), ()))) : Option ((Bool × Unit) ⊕ Int)).bind (joinS fun v1 =>
 cond v1.1 (
 some 2) (
 cond (decide (a0 = 3)) (
 some 3) (
 some 0))))
noncomputable def op_Leaf_T : TFn := { ps := (.cons (.int .i64) .unit), res := (.int .i64), fn := fun v => op_Leaf v.1 }
noncomputable def op_Leaf_V : TEnv := { pure := [], look := [], glob := G0T, ty := [], raw := [], fresh := [] }
theorem op_Leaf_eq : runY Try.prog op_Leaf_E op_Leaf_H op_Leaf_V op_Leaf_Y Try.f48 op_Leaf_T.ps op_Leaf_T.res = op_Leaf_T.fn := by kernel_rfl
theorem op_Leaf_Fok : SoundP Try.prog G0 48 op_Leaf_F := closeF_sound (runF_sound (P := Try.prog) (E := op_Leaf_E) (h := op_Leaf_H) (f := 48) (fn := Try.f48) ⟨same_ok, envP_nil, envS_nil, envP_nil, envX_nil⟩ Try.func48 rfl (by kernel_rfl))
theorem op_Leaf_ok : TOk op_Leaf_F op_Leaf_T := runY_ok (E := op_Leaf_E) (ET := op_Leaf_V) (EnvT.ofX (E := op_Leaf_E) (ET := op_Leaf_V) (pure_of pairs_nil) looks_nil raws_nil G0_ok news_nil) op_Leaf_eq rfl
-- slices.Equal[[]string,string]
noncomputable def slices_Equal_Sl_string_string_E : Env := { pure := [], raw := [], glob := G0, same := [], look := [], ext := [] }
def slices_Equal_Sl_string_string_H : Hints := { seqs := [], loops := [(4, [0, 1, 12, 13])], own := [] }
noncomputable def slices_Equal_Sl_string_string_F : PFn := closeF (runF Try.prog slices_Equal_Sl_string_string_E slices_Equal_Sl_string_string_H Try.f66)
def slices_Equal_Sl_string_string_Y : TH := { joins := [], loops := [(4, { keep := [(13, (.int .i64))], mem := [] })], cuts := [], ro := [], news := [] }
noncomputable def slices_Equal_Sl_string_string_l4 (a0 : List (List UInt8)) (a1 : List (List UInt8)) (y4 : (Int × Unit)) : Option ((Int × Unit) ⊕ Bool) :=
 cond (decide (y4.1 < (a0.length : Int))) (
(atI a0 y4.1).bind fun x1 =>
(atI a1 y4.1).bind fun x2 =>
 cond (!decide (x1 = x2)) (
 some (.inr false)) (
 some (.inl ((IntKind.wrap .i64 (y4.1 + 1)), ())))) (
 some (.inr true))
noncomputable def slices_Equal_Sl_string_string (a0 : List (List UInt8)) (a1 : List (List UInt8)) : Option Bool :=
 cond (!decide ((a0.length : Int) = (a1.length : Int))) (
 some false) (
 loopT (slices_Equal_Sl_string_string_l4 a0 a1) (0, ()))
noncomputable def slices_Equal_Sl_string_string_T : TFn := { ps := (.cons (.sl .str) (.cons (.sl .str) .unit)), res := .bool, fn := fun v => slices_Equal_Sl_string_string v.1 v.2.1 }
noncomputable def slices_Equal_Sl_string_string_V : TEnv := { pure := [], look := [], glob := G0T, ty := [], raw := [], fresh := [] }
theorem slices_Equal_Sl_string_string_eq : runY Try.prog slices_Equal_Sl_string_string_E slices_Equal_Sl_string_string_H slices_Equal_Sl_string_string_V slices_Equal_Sl_string_string_Y Try.f66 slices_Equal_Sl_string_string_T.ps slices_Equal_Sl_string_string_T.res = slices_Equal_Sl_string_string_T.fn := by kernel_rfl
theorem slices_Equal_Sl_string_string_Fok : SoundP Try.prog G0 66 slices_Equal_Sl_string_string_F := closeF_sound (runF_sound (P := Try.prog) (E := slices_Equal_Sl_string_string_E) (h := slices_Equal_Sl_string_string_H) (f := 66) (fn := Try.f66) ⟨same_ok, envP_nil, envS_nil, envP_nil, envX_nil⟩ Try.func66 rfl (by kernel_rfl))
theorem slices_Equal_Sl_string_string_ok : TOk slices_Equal_Sl_string_string_F slices_Equal_Sl_string_string_T := runY_ok (E := slices_Equal_Sl_string_string_E) (ET := slices_Equal_Sl_string_string_V) (EnvT.ofX (E := slices_Equal_Sl_string_string_E) (ET := slices_Equal_Sl_string_string_V) (pure_of pairs_nil) looks_nil raws_nil G0_ok news_nil) slices_Equal_Sl_string_string_eq rfl
-- palinode/path.Same
noncomputable def path_Same_E : Env := { pure := [(66, slices_Equal_Sl_string_string_F)], raw := [], glob := G0, same := [], look := [], ext := [] }
def path_Same_H : Hints := { seqs := [], loops := [], own := [] }
noncomputable def path_Same_F : PFn := closeF (runF Try.prog path_Same_E path_Same_H Try.f49)
def path_Same_Y : TH := { joins := [], loops := [], cuts := [], ro := [], news := [] }
noncomputable def path_Same (a0 : List (List UInt8)) (a1 : List (List UInt8)) : Option Bool :=
(slices_Equal_Sl_string_string a0 a1).bind fun r1 =>
 some r1
noncomputable def path_Same_T : TFn := { ps := (.cons (.sl .str) (.cons (.sl .str) .unit)), res := .bool, fn := fun v => path_Same v.1 v.2.1 }
noncomputable def path_Same_V : TEnv := { pure := [(66, slices_Equal_Sl_string_string_T)], look := [], glob := G0T, ty := [], raw := [], fresh := [] }
theorem path_Same_eq : runY Try.prog path_Same_E path_Same_H path_Same_V path_Same_Y Try.f49 path_Same_T.ps path_Same_T.res = path_Same_T.fn := by kernel_rfl
theorem path_Same_Fok : SoundP Try.prog G0 49 path_Same_F := closeF_sound (runF_sound (P := Try.prog) (E := path_Same_E) (h := path_Same_H) (f := 49) (fn := Try.f49) ⟨same_ok, (envP_cons slices_Equal_Sl_string_string_Fok envP_nil), envS_nil, envP_nil, envX_nil⟩ Try.func49 rfl (by kernel_rfl))
theorem path_Same_ok : TOk path_Same_F path_Same_T := runY_ok (E := path_Same_E) (ET := path_Same_V) (EnvT.ofX (E := path_Same_E) (ET := path_Same_V) (pure_of (pairs_cons slices_Equal_Sl_string_string_ok pairs_nil)) looks_nil raws_nil G0_ok news_nil) path_Same_eq rfl
-- palinode/live.At
noncomputable def live_At_E : Env := { pure := [(48, op_Leaf_F), (49, path_Same_F)], raw := [], glob := G0, same := [], look := [], ext := [] }
def live_At_H : Hints := { seqs := [], loops := [(3, [1, 2, 7, 10, 11, 12])], own := [] }
noncomputable def live_At_F : PFn := closeF (runF Try.prog live_At_E live_At_H Try.f26)
def live_At_Y : TH := { joins := [], loops := [(3, { keep := [(7, (.own 1)), (12, (.int .i64))], mem := [.gone, .row true 64 (.agg (.cons (.agg (.cons (.agg (.cons (.int .i64) (.cons (.int .i64) .unit))) (.cons (.int .i64) .unit))) (.cons (.agg (.cons (.int .i64) (.cons (.sl .str) (.cons (.agg (.cons (.int .i64) (.cons (.int .i64) (.cons .str .unit)))) (.cons (.int .i64) (.cons (.sl (.agg (.cons (.agg (.cons (.int .i64) (.cons (.int .i64) .unit))) (.cons (.int .i64) .unit)))) .unit)))))) (.cons (.int .i64) .unit))))] })], cuts := [], ro := [], news := [] }
noncomputable def live_At_l3 (a0 : List (((Int × Int × Unit) × Int × Unit) × (Int × List (List UInt8) × (Int × Int × List UInt8 × Unit) × Int × List ((Int × Int × Unit) × Int × Unit) × Unit) × Int × Unit)) (a1 : List (List UInt8)) (a2 : Int) (y3 : (Int × List (((Int × Int × Unit) × Int × Unit) × (Int × List (List UInt8) × (Int × Int × List UInt8 × Unit) × Int × List ((Int × Int × Unit) × Int × Unit) × Unit) × Int × Unit) × Unit)) : Option ((Int × List (((Int × Int × Unit) × Int × Unit) × (Int × List (List UInt8) × (Int × Int × List UInt8 × Unit) × Int × List ((Int × Int × Unit) × Int × Unit) × Unit) × Int × Unit) × Unit) ⊕ List (((Int × Int × Unit) × Int × Unit) × (Int × List (List UInt8) × (Int × Int × List UInt8 × Unit) × Int × List ((Int × Int × Unit) × Int × Unit) × Unit) × Int × Unit)) :=
 cond (decide (y3.1 < (a0.length : Int))) (
(atI a0 y3.1).bind fun x1 =>
(op_Leaf x1.2.1.1).bind fun r2 =>
 cond (decide (r2 = a2)) ((path_Same x1.2.1.2.1 a1).bind fun r3 =>
 cond r3 (
(roomT (y3.2.1.length + ([x1] : List (((Int × Int × Unit) × Int × Unit) × (Int × List (List UInt8) × (Int × Int × List UInt8 × Unit) × Int × List ((Int × Int × Unit) × Int × Unit) × Unit) × Int × Unit)).length)).bind fun u4 =>
 some (.inl ((IntKind.wrap .i64 (y3.1 + 1)), (y3.2.1 ++ ([x1] : List (((Int × Int × Unit) × Int × Unit) × (Int × List (List UInt8) × (Int × Int × List UInt8 × Unit) × Int × List ((Int × Int × Unit) × Int × Unit) × Unit) × Int × Unit))), ()))) (
 some (.inl ((IntKind.wrap .i64 (y3.1 + 1)), y3.2.1, ())))) (some (.inl ((IntKind.wrap .i64 (y3.1 + 1)), y3.2.1, ())))) (
 some (.inr y3.2.1))
noncomputable def live_At (a0 : List (((Int × Int × Unit) × Int × Unit) × (Int × List (List UInt8) × (Int × Int × List UInt8 × Unit) × Int × List ((Int × Int × Unit) × Int × Unit) × Unit) × Int × Unit)) (a1 : List (List UInt8)) (a2 : Int) : Option (List (((Int × Int × Unit) × Int × Unit) × (Int × List (List UInt8) × (Int × Int × List UInt8 × Unit) × Int × List ((Int × Int × Unit) × Int × Unit) × Unit) × Int × Unit)) :=
 loopT (live_At_l3 a0 a1 a2) (0, [], ())
noncomputable def live_At_T : TFn := { ps := (.cons (.sl (.agg (.cons (.agg (.cons (.agg (.cons (.int .i64) (.cons (.int .i64) .unit))) (.cons (.int .i64) .unit))) (.cons (.agg (.cons (.int .i64) (.cons (.sl .str) (.cons (.agg (.cons (.int .i64) (.cons (.int .i64) (.cons .str .unit)))) (.cons (.int .i64) (.cons (.sl (.agg (.cons (.agg (.cons (.int .i64) (.cons (.int .i64) .unit))) (.cons (.int .i64) .unit)))) .unit)))))) (.cons (.int .i64) .unit))))) (.cons (.sl .str) (.cons (.int .i64) .unit))), res := (.sl (.agg (.cons (.agg (.cons (.agg (.cons (.int .i64) (.cons (.int .i64) .unit))) (.cons (.int .i64) .unit))) (.cons (.agg (.cons (.int .i64) (.cons (.sl .str) (.cons (.agg (.cons (.int .i64) (.cons (.int .i64) (.cons .str .unit)))) (.cons (.int .i64) (.cons (.sl (.agg (.cons (.agg (.cons (.int .i64) (.cons (.int .i64) .unit))) (.cons (.int .i64) .unit)))) .unit)))))) (.cons (.int .i64) .unit))))), fn := fun v => live_At v.1 v.2.1 v.2.2.1 }
noncomputable def live_At_V : TEnv := { pure := [(48, op_Leaf_T), (49, path_Same_T)], look := [], glob := G0T, ty := [(64, (.agg (.cons (.agg (.cons (.agg (.cons (.int .i64) (.cons (.int .i64) .unit))) (.cons (.int .i64) .unit))) (.cons (.agg (.cons (.int .i64) (.cons (.sl .str) (.cons (.agg (.cons (.int .i64) (.cons (.int .i64) (.cons .str .unit)))) (.cons (.int .i64) (.cons (.sl (.agg (.cons (.agg (.cons (.int .i64) (.cons (.int .i64) .unit))) (.cons (.int .i64) .unit)))) .unit)))))) (.cons (.int .i64) .unit)))))], raw := [], fresh := [] }
theorem live_At_eq : runY Try.prog live_At_E live_At_H live_At_V live_At_Y Try.f26 live_At_T.ps live_At_T.res = live_At_T.fn := by kernel_rfl
theorem live_At_Fok : SoundP Try.prog G0 26 live_At_F := closeF_sound (runF_sound (P := Try.prog) (E := live_At_E) (h := live_At_H) (f := 26) (fn := Try.f26) ⟨same_ok, (envP_cons op_Leaf_Fok (envP_cons path_Same_Fok envP_nil)), envS_nil, envP_nil, envX_nil⟩ Try.func26 rfl (by kernel_rfl))
theorem live_At_ok : TOk live_At_F live_At_T := runY_ok (E := live_At_E) (ET := live_At_V) (EnvT.ofX (E := live_At_E) (ET := live_At_V) (pure_of (pairs_cons op_Leaf_ok (pairs_cons path_Same_ok pairs_nil))) looks_nil raws_nil G0_ok news_nil) live_At_eq rfl
-- palinode/dot.Refs
noncomputable def dot_Refs_E : Env := { pure := [(29, cmp_Or_int_F), (30, cmp_Compare_int_F), (51, dot_Compare_F)], raw := [], glob := G0, same := [], look := [], ext := [] }
def dot_Refs_H : Hints := { seqs := [], loops := [], own := [] }
noncomputable def dot_Refs_F : PFn := closeF (runF Try.prog dot_Refs_E dot_Refs_H Try.f31)
def dot_Refs_Y : TH := { joins := [], loops := [], cuts := [], ro := [2, 3], news := [] }
noncomputable def dot_Refs (a0 : ((Int × Int × Unit) × Int × Unit)) (a1 : ((Int × Int × Unit) × Int × Unit)) : Option Int :=
(dot_Compare a0.1 a1.1).bind fun r1 =>
(cmp_Compare_int a0.2.1 a1.2.1).bind fun r2 =>
(cmp_Or_int ([r1, r2] : List Int)).bind fun r3 =>
 some r3
noncomputable def dot_Refs_T : TFn := { ps := (.cons (.agg (.cons (.agg (.cons (.int .i64) (.cons (.int .i64) .unit))) (.cons (.int .i64) .unit))) (.cons (.agg (.cons (.agg (.cons (.int .i64) (.cons (.int .i64) .unit))) (.cons (.int .i64) .unit))) .unit)), res := (.int .i64), fn := fun v => dot_Refs v.1 v.2.1 }
noncomputable def dot_Refs_V : TEnv := { pure := [(29, cmp_Or_int_T), (30, cmp_Compare_int_T), (51, dot_Compare_T)], look := [], glob := G0T, ty := [(3, (.int .i64))], raw := [], fresh := [] }
theorem dot_Refs_eq : runY Try.prog dot_Refs_E dot_Refs_H dot_Refs_V dot_Refs_Y Try.f31 dot_Refs_T.ps dot_Refs_T.res = dot_Refs_T.fn := by kernel_rfl
theorem dot_Refs_Fok : SoundP Try.prog G0 31 dot_Refs_F := closeF_sound (runF_sound (P := Try.prog) (E := dot_Refs_E) (h := dot_Refs_H) (f := 31) (fn := Try.f31) ⟨same_ok, (envP_cons cmp_Or_int_Fok (envP_cons cmp_Compare_int_Fok (envP_cons dot_Compare_Fok envP_nil))), envS_nil, envP_nil, envX_nil⟩ Try.func31 rfl (by kernel_rfl))
theorem dot_Refs_ok : TOk dot_Refs_F dot_Refs_T := runY_ok (E := dot_Refs_E) (ET := dot_Refs_V) (EnvT.ofX (E := dot_Refs_E) (ET := dot_Refs_V) (pure_of (pairs_cons cmp_Or_int_ok (pairs_cons cmp_Compare_int_ok (pairs_cons dot_Compare_ok pairs_nil)))) looks_nil raws_nil G0_ok news_nil) dot_Refs_eq rfl
-- palinode/reg.Latest$1
noncomputable def reg_Latest_1_E : Env := { pure := [(29, cmp_Or_int_F), (30, cmp_Compare_int_F), (31, dot_Refs_F)], raw := [], glob := G0, same := [], look := [], ext := [] }
def reg_Latest_1_H : Hints := { seqs := [], loops := [], own := [] }
noncomputable def reg_Latest_1_F : PFn := closeF (runF Try.prog reg_Latest_1_E reg_Latest_1_H Try.f28)
def reg_Latest_1_Y : TH := { joins := [], loops := [], cuts := [], ro := [2, 3], news := [] }
noncomputable def reg_Latest_1 (a0 : (((Int × Int × Unit) × Int × Unit) × (Int × List (List UInt8) × (Int × Int × List UInt8 × Unit) × Int × List ((Int × Int × Unit) × Int × Unit) × Unit) × Int × Unit)) (a1 : (((Int × Int × Unit) × Int × Unit) × (Int × List (List UInt8) × (Int × Int × List UInt8 × Unit) × Int × List ((Int × Int × Unit) × Int × Unit) × Unit) × Int × Unit)) : Option Int :=
(cmp_Compare_int a0.2.2.1 a1.2.2.1).bind fun r1 =>
(dot_Refs a0.1 a1.1).bind fun r2 =>
(cmp_Or_int ([r1, r2] : List Int)).bind fun r3 =>
 some r3
noncomputable def reg_Latest_1_T : TFn := { ps := (.cons (.agg (.cons (.agg (.cons (.agg (.cons (.int .i64) (.cons (.int .i64) .unit))) (.cons (.int .i64) .unit))) (.cons (.agg (.cons (.int .i64) (.cons (.sl .str) (.cons (.agg (.cons (.int .i64) (.cons (.int .i64) (.cons .str .unit)))) (.cons (.int .i64) (.cons (.sl (.agg (.cons (.agg (.cons (.int .i64) (.cons (.int .i64) .unit))) (.cons (.int .i64) .unit)))) .unit)))))) (.cons (.int .i64) .unit)))) (.cons (.agg (.cons (.agg (.cons (.agg (.cons (.int .i64) (.cons (.int .i64) .unit))) (.cons (.int .i64) .unit))) (.cons (.agg (.cons (.int .i64) (.cons (.sl .str) (.cons (.agg (.cons (.int .i64) (.cons (.int .i64) (.cons .str .unit)))) (.cons (.int .i64) (.cons (.sl (.agg (.cons (.agg (.cons (.int .i64) (.cons (.int .i64) .unit))) (.cons (.int .i64) .unit)))) .unit)))))) (.cons (.int .i64) .unit)))) .unit)), res := (.int .i64), fn := fun v => reg_Latest_1 v.1 v.2.1 }
noncomputable def reg_Latest_1_V : TEnv := { pure := [(29, cmp_Or_int_T), (30, cmp_Compare_int_T), (31, dot_Refs_T)], look := [], glob := G0T, ty := [(3, (.int .i64))], raw := [], fresh := [] }
theorem reg_Latest_1_eq : runY Try.prog reg_Latest_1_E reg_Latest_1_H reg_Latest_1_V reg_Latest_1_Y Try.f28 reg_Latest_1_T.ps reg_Latest_1_T.res = reg_Latest_1_T.fn := by kernel_rfl
theorem reg_Latest_1_Fok : SoundP Try.prog G0 28 reg_Latest_1_F := closeF_sound (runF_sound (P := Try.prog) (E := reg_Latest_1_E) (h := reg_Latest_1_H) (f := 28) (fn := Try.f28) ⟨same_ok, (envP_cons cmp_Or_int_Fok (envP_cons cmp_Compare_int_Fok (envP_cons dot_Refs_Fok envP_nil))), envS_nil, envP_nil, envX_nil⟩ Try.func28 rfl (by kernel_rfl))
theorem reg_Latest_1_ok : TOk reg_Latest_1_F reg_Latest_1_T := runY_ok (E := reg_Latest_1_E) (ET := reg_Latest_1_V) (EnvT.ofX (E := reg_Latest_1_E) (ET := reg_Latest_1_V) (pure_of (pairs_cons cmp_Or_int_ok (pairs_cons cmp_Compare_int_ok (pairs_cons dot_Refs_ok pairs_nil)))) looks_nil raws_nil G0_ok news_nil) reg_Latest_1_eq rfl
-- slices.MaxFunc[[]palinode/live.Item,palinode/live.Item]
noncomputable def slices_MaxFunc_Sl_live_Item_live_Item__reg_Latest_1_E : Env := { pure := [(28, reg_Latest_1_F)], raw := [], glob := G0, same := [], look := [], ext := [] }
def slices_MaxFunc_Sl_live_Item_live_Item__reg_Latest_1_H : Hints := { seqs := [], loops := [(5, [0, 1, 4, 5, 6])], own := [] }
noncomputable def slices_MaxFunc_Sl_live_Item_live_Item__reg_Latest_1_F : PFn := closeF (runF Try.prog slices_MaxFunc_Sl_live_Item_live_Item__reg_Latest_1_E slices_MaxFunc_Sl_live_Item_live_Item__reg_Latest_1_H Try.f27)
def slices_MaxFunc_Sl_live_Item_live_Item__reg_Latest_1_Y : TH := { joins := [], loops := [(5, { keep := [(4, (.bx 0 0)), (5, (.bx 1 0)), (6, (.int .i64))], mem := [.box 64 (.agg (.cons (.agg (.cons (.agg (.cons (.int .i64) (.cons (.int .i64) .unit))) (.cons (.int .i64) .unit))) (.cons (.agg (.cons (.int .i64) (.cons .nilsl (.cons (.agg (.cons (.int .i64) (.cons (.int .i64) (.cons .str .unit)))) (.cons (.int .i64) (.cons .nilsl .unit)))))) (.cons (.int .i64) .unit)))), .box 64 (.agg (.cons (.agg (.cons (.agg (.cons (.int .i64) (.cons (.int .i64) .unit))) (.cons (.int .i64) .unit))) (.cons (.agg (.cons (.int .i64) (.cons (.sl .str) (.cons (.agg (.cons (.int .i64) (.cons (.int .i64) (.cons .str .unit)))) (.cons (.int .i64) (.cons (.sl (.agg (.cons (.agg (.cons (.int .i64) (.cons (.int .i64) .unit))) (.cons (.int .i64) .unit)))) .unit)))))) (.cons (.int .i64) .unit))))] })], cuts := [], ro := [], news := [] }
noncomputable def slices_MaxFunc_Sl_live_Item_live_Item__reg_Latest_1_l5 (a0 : List (((Int × Int × Unit) × Int × Unit) × (Int × List (List UInt8) × (Int × Int × List UInt8 × Unit) × Int × List ((Int × Int × Unit) × Int × Unit) × Unit) × Int × Unit)) (y5 : (Int × (((Int × Int × Unit) × Int × Unit) × (Int × Unit × (Int × Int × List UInt8 × Unit) × Int × Unit × Unit) × Int × Unit) × (((Int × Int × Unit) × Int × Unit) × (Int × List (List UInt8) × (Int × Int × List UInt8 × Unit) × Int × List ((Int × Int × Unit) × Int × Unit) × Unit) × Int × Unit) × Unit)) : Option ((Int × (((Int × Int × Unit) × Int × Unit) × (Int × Unit × (Int × Int × List UInt8 × Unit) × Int × Unit × Unit) × Int × Unit) × (((Int × Int × Unit) × Int × Unit) × (Int × List (List UInt8) × (Int × Int × List UInt8 × Unit) × Int × List ((Int × Int × Unit) × Int × Unit) × Unit) × Int × Unit) × Unit) ⊕ (((Int × Int × Unit) × Int × Unit) × (Int × List (List UInt8) × (Int × Int × List UInt8 × Unit) × Int × List ((Int × Int × Unit) × Int × Unit) × Unit) × Int × Unit)) :=
 cond (decide (y5.1 < (a0.length : Int))) (
(atI a0 y5.1).bind fun x2 =>
(reg_Latest_1 x2 y5.2.2.1).bind fun r3 =>
 cond (decide (r3 > 0)) (
(atI a0 y5.1).bind fun x4 =>
 some (.inl ((IntKind.wrap .i64 (y5.1 + 1)), y5.2.1, x4, ()))) (
 some (.inl ((IntKind.wrap .i64 (y5.1 + 1)), y5.2.1, y5.2.2.1, ())))) (
 some (.inr y5.2.2.1))
noncomputable def slices_MaxFunc_Sl_live_Item_live_Item__reg_Latest_1 (a0 : List (((Int × Int × Unit) × Int × Unit) × (Int × List (List UInt8) × (Int × Int × List UInt8 × Unit) × Int × List ((Int × Int × Unit) × Int × Unit) × Unit) × Int × Unit)) (a1 : Unit) : Option (((Int × Int × Unit) × Int × Unit) × (Int × List (List UInt8) × (Int × Int × List UInt8 × Unit) × Int × List ((Int × Int × Unit) × Int × Unit) × Unit) × Int × Unit) :=
 cond (decide ((a0.length : Int) < 1)) (
 none) (
(atI a0 0).bind fun x1 =>
 loopT (slices_MaxFunc_Sl_live_Item_live_Item__reg_Latest_1_l5 a0) (1, (((0, 0, ()), 0, ()), (0, (), (0, 0, [], ()), 0, (), ()), 0, ()), x1, ()))
noncomputable def slices_MaxFunc_Sl_live_Item_live_Item__reg_Latest_1_T : TFn := { ps := (.cons (.sl (.agg (.cons (.agg (.cons (.agg (.cons (.int .i64) (.cons (.int .i64) .unit))) (.cons (.int .i64) .unit))) (.cons (.agg (.cons (.int .i64) (.cons (.sl .str) (.cons (.agg (.cons (.int .i64) (.cons (.int .i64) (.cons .str .unit)))) (.cons (.int .i64) (.cons (.sl (.agg (.cons (.agg (.cons (.int .i64) (.cons (.int .i64) .unit))) (.cons (.int .i64) .unit)))) .unit)))))) (.cons (.int .i64) .unit))))) (.cons (.fn 28) .unit)), res := (.agg (.cons (.agg (.cons (.agg (.cons (.int .i64) (.cons (.int .i64) .unit))) (.cons (.int .i64) .unit))) (.cons (.agg (.cons (.int .i64) (.cons (.sl .str) (.cons (.agg (.cons (.int .i64) (.cons (.int .i64) (.cons .str .unit)))) (.cons (.int .i64) (.cons (.sl (.agg (.cons (.agg (.cons (.int .i64) (.cons (.int .i64) .unit))) (.cons (.int .i64) .unit)))) .unit)))))) (.cons (.int .i64) .unit)))), fn := fun v => slices_MaxFunc_Sl_live_Item_live_Item__reg_Latest_1 v.1 v.2.1 }
noncomputable def slices_MaxFunc_Sl_live_Item_live_Item__reg_Latest_1_V : TEnv := { pure := [(28, reg_Latest_1_T)], look := [], glob := G0T, ty := [], raw := [], fresh := [] }
theorem slices_MaxFunc_Sl_live_Item_live_Item__reg_Latest_1_eq : runY Try.prog slices_MaxFunc_Sl_live_Item_live_Item__reg_Latest_1_E slices_MaxFunc_Sl_live_Item_live_Item__reg_Latest_1_H slices_MaxFunc_Sl_live_Item_live_Item__reg_Latest_1_V slices_MaxFunc_Sl_live_Item_live_Item__reg_Latest_1_Y Try.f27 slices_MaxFunc_Sl_live_Item_live_Item__reg_Latest_1_T.ps slices_MaxFunc_Sl_live_Item_live_Item__reg_Latest_1_T.res = slices_MaxFunc_Sl_live_Item_live_Item__reg_Latest_1_T.fn := by kernel_rfl
theorem slices_MaxFunc_Sl_live_Item_live_Item__reg_Latest_1_Fok : SoundP Try.prog G0 27 slices_MaxFunc_Sl_live_Item_live_Item__reg_Latest_1_F := closeF_sound (runF_sound (P := Try.prog) (E := slices_MaxFunc_Sl_live_Item_live_Item__reg_Latest_1_E) (h := slices_MaxFunc_Sl_live_Item_live_Item__reg_Latest_1_H) (f := 27) (fn := Try.f27) ⟨same_ok, (envP_cons reg_Latest_1_Fok envP_nil), envS_nil, envP_nil, envX_nil⟩ Try.func27 rfl (by kernel_rfl))
theorem slices_MaxFunc_Sl_live_Item_live_Item__reg_Latest_1_ok : TOk slices_MaxFunc_Sl_live_Item_live_Item__reg_Latest_1_F slices_MaxFunc_Sl_live_Item_live_Item__reg_Latest_1_T := runY_ok (E := slices_MaxFunc_Sl_live_Item_live_Item__reg_Latest_1_E) (ET := slices_MaxFunc_Sl_live_Item_live_Item__reg_Latest_1_V) (EnvT.ofX (E := slices_MaxFunc_Sl_live_Item_live_Item__reg_Latest_1_E) (ET := slices_MaxFunc_Sl_live_Item_live_Item__reg_Latest_1_V) (pure_of (pairs_cons reg_Latest_1_ok pairs_nil)) looks_nil raws_nil G0_ok news_nil) slices_MaxFunc_Sl_live_Item_live_Item__reg_Latest_1_eq rfl
-- palinode/reg.Latest
noncomputable def reg_Latest_E : Env := { pure := [(26, live_At_F), (27, slices_MaxFunc_Sl_live_Item_live_Item__reg_Latest_1_F)], raw := [], glob := G0, same := [], look := [], ext := [] }
def reg_Latest_H : Hints := { seqs := [], loops := [], own := [] }
noncomputable def reg_Latest_F : PFn := closeF (runF Try.prog reg_Latest_E reg_Latest_H Try.f10)
def reg_Latest_Y : TH := { joins := [], loops := [], cuts := [], ro := [], news := [] }
noncomputable def reg_Latest (a0 : List (((Int × Int × Unit) × Int × Unit) × (Int × List (List UInt8) × (Int × Int × List UInt8 × Unit) × Int × List ((Int × Int × Unit) × Int × Unit) × Unit) × Int × Unit)) (a1 : List (List UInt8)) : Option ((Int × Int × List UInt8 × Unit) × Bool × Unit) :=
(live_At a0 a1 1).bind fun r1 =>
 cond (decide ((r1.length : Int) = 0)) (
 some ((0, 0, [], ()), false, ())) (
(slices_MaxFunc_Sl_live_Item_live_Item__reg_Latest_1 r1 ()).bind fun r2 =>
 some (r2.2.1.2.2.1, true, ()))
noncomputable def reg_Latest_T : TFn := { ps := (.cons (.sl (.agg (.cons (.agg (.cons (.agg (.cons (.int .i64) (.cons (.int .i64) .unit))) (.cons (.int .i64) .unit))) (.cons (.agg (.cons (.int .i64) (.cons (.sl .str) (.cons (.agg (.cons (.int .i64) (.cons (.int .i64) (.cons .str .unit)))) (.cons (.int .i64) (.cons (.sl (.agg (.cons (.agg (.cons (.int .i64) (.cons (.int .i64) .unit))) (.cons (.int .i64) .unit)))) .unit)))))) (.cons (.int .i64) .unit))))) (.cons (.sl .str) .unit)), res := (.tup (.cons (.agg (.cons (.int .i64) (.cons (.int .i64) (.cons .str .unit)))) (.cons .bool .unit))), fn := fun v => reg_Latest v.1 v.2.1 }
noncomputable def reg_Latest_V : TEnv := { pure := [(26, live_At_T), (27, slices_MaxFunc_Sl_live_Item_live_Item__reg_Latest_1_T)], look := [], glob := G0T, ty := [], raw := [], fresh := [] }
theorem reg_Latest_eq : runY Try.prog reg_Latest_E reg_Latest_H reg_Latest_V reg_Latest_Y Try.f10 reg_Latest_T.ps reg_Latest_T.res = reg_Latest_T.fn := by kernel_rfl
theorem reg_Latest_Fok : SoundP Try.prog G0 10 reg_Latest_F := closeF_sound (runF_sound (P := Try.prog) (E := reg_Latest_E) (h := reg_Latest_H) (f := 10) (fn := Try.f10) ⟨same_ok, (envP_cons live_At_Fok (envP_cons slices_MaxFunc_Sl_live_Item_live_Item__reg_Latest_1_Fok envP_nil)), envS_nil, envP_nil, envX_nil⟩ Try.func10 rfl (by kernel_rfl))
theorem reg_Latest_ok : TOk reg_Latest_F reg_Latest_T := runY_ok (E := reg_Latest_E) (ET := reg_Latest_V) (EnvT.ofX (E := reg_Latest_E) (ET := reg_Latest_V) (pure_of (pairs_cons live_At_ok (pairs_cons slices_MaxFunc_Sl_live_Item_live_Item__reg_Latest_1_ok pairs_nil))) looks_nil raws_nil G0_ok news_nil) reg_Latest_eq rfl
-- palinode/palinoderef11.Leaf
-- palinode/palinoderef09.ints
noncomputable def ref09_ints_E : Env := { pure := [], raw := [], glob := G0, same := [], look := [], ext := [] }
def ref09_ints_H : Hints := { seqs := [], loops := [], own := [] }
noncomputable def ref09_ints_F : PFn := closeF (runF Try.prog ref09_ints_E ref09_ints_H Try.f39)
def ref09_ints_Y : TH := { joins := [], loops := [], cuts := [], ro := [], news := [] }
noncomputable def ref09_ints (a0 : Int) (a1 : Int) : Option Int :=
 cond (decide (a0 < a1)) (
 some (-1)) (
 cond (decide (a0 > a1)) (
 some 1) (
 some 0))
noncomputable def ref09_ints_T : TFn := { ps := (.cons (.int .i64) (.cons (.int .i64) .unit)), res := (.int .i64), fn := fun v => ref09_ints v.1 v.2.1 }
noncomputable def ref09_ints_V : TEnv := { pure := [], look := [], glob := G0T, ty := [], raw := [], fresh := [] }
theorem ref09_ints_eq : runY Try.prog ref09_ints_E ref09_ints_H ref09_ints_V ref09_ints_Y Try.f39 ref09_ints_T.ps ref09_ints_T.res = ref09_ints_T.fn := by kernel_rfl
theorem ref09_ints_Fok : SoundP Try.prog G0 39 ref09_ints_F := closeF_sound (runF_sound (P := Try.prog) (E := ref09_ints_E) (h := ref09_ints_H) (f := 39) (fn := Try.f39) ⟨same_ok, envP_nil, envS_nil, envP_nil, envX_nil⟩ Try.func39 rfl (by kernel_rfl))
theorem ref09_ints_ok : TOk ref09_ints_F ref09_ints_T := runY_ok (E := ref09_ints_E) (ET := ref09_ints_V) (EnvT.ofX (E := ref09_ints_E) (ET := ref09_ints_V) (pure_of pairs_nil) looks_nil raws_nil G0_ok news_nil) ref09_ints_eq rfl
-- palinode/palinoderef09.Texts
noncomputable def ref09_Texts_E : Env := { pure := [(39, ref09_ints_F)], raw := [], glob := G0, same := [], look := [], ext := [] }
def ref09_Texts_H : Hints := { seqs := [], loops := [(2, [0, 1, 5])], own := [] }
noncomputable def ref09_Texts_F : PFn := closeF (runF Try.prog ref09_Texts_E ref09_Texts_H Try.f40)
def ref09_Texts_Y : TH := { joins := [(6, { keep := [], mem := [] })], loops := [(2, { keep := [(5, (.int .i64))], mem := [] })], cuts := [], ro := [], news := [] }
noncomputable def ref09_Texts_l2 (a0 : List UInt8) (a1 : List UInt8) (y2 : (Int × Unit)) : Option ((Int × Unit) ⊕ (Unit ⊕ Int)) :=
 cond (decide (y2.1 < (a0.length : Int))) (cond (decide (y2.1 < (a1.length : Int))) (
(atI a0 y2.1).bind fun b1 =>
(atI a1 y2.1).bind fun b2 =>
 cond (!decide ((b1.toNat : Int) = (b2.toNat : Int))) (
(atI a0 y2.1).bind fun b3 =>
(atI a1 y2.1).bind fun b4 =>
(ref09_ints (IntKind.wrap .i64 (b3.toNat : Int)) (IntKind.wrap .i64 (b4.toNat : Int))).bind fun r5 =>
 some (.inr (.inr r5))) (
 some (.inl ((IntKind.wrap .i64 (y2.1 + 1)), ())))) (
 some (.inr (.inl ())))) (some (.inr (.inl ())))
noncomputable def ref09_Texts (a0 : List UInt8) (a1 : List UInt8) : Option Int :=
(loopT (ref09_Texts_l2 a0 a1) (0, ()) : Option (Unit ⊕ Int)).bind (joinS fun v6 =>
(ref09_ints (a0.length : Int) (a1.length : Int)).bind fun r7 =>
 some r7)
noncomputable def ref09_Texts_T : TFn := { ps := (.cons .str (.cons .str .unit)), res := (.int .i64), fn := fun v => ref09_Texts v.1 v.2.1 }
noncomputable def ref09_Texts_V : TEnv := { pure := [(39, ref09_ints_T)], look := [], glob := G0T, ty := [], raw := [], fresh := [] }
theorem ref09_Texts_eq : runY Try.prog ref09_Texts_E ref09_Texts_H ref09_Texts_V ref09_Texts_Y Try.f40 ref09_Texts_T.ps ref09_Texts_T.res = ref09_Texts_T.fn := by kernel_rfl
theorem ref09_Texts_Fok : SoundP Try.prog G0 40 ref09_Texts_F := closeF_sound (runF_sound (P := Try.prog) (E := ref09_Texts_E) (h := ref09_Texts_H) (f := 40) (fn := Try.f40) ⟨same_ok, (envP_cons ref09_ints_Fok envP_nil), envS_nil, envP_nil, envX_nil⟩ Try.func40 rfl (by kernel_rfl))
theorem ref09_Texts_ok : TOk ref09_Texts_F ref09_Texts_T := runY_ok (E := ref09_Texts_E) (ET := ref09_Texts_V) (EnvT.ofX (E := ref09_Texts_E) (ET := ref09_Texts_V) (pure_of (pairs_cons ref09_ints_ok pairs_nil)) looks_nil raws_nil G0_ok news_nil) ref09_Texts_eq rfl
-- palinode/palinoderef10.Compare
-- palinode/palinoderef13.At
-- palinode/palinoderef14.Latest
-- palinode/palinoderef09.Compare
noncomputable def ref09_Compare_E : Env := { pure := [(39, ref09_ints_F), (40, ref09_Texts_F)], raw := [], glob := G0, same := [], look := [], ext := [] }
def ref09_Compare_H : Hints := { seqs := [], loops := [], own := [] }
noncomputable def ref09_Compare_F : PFn := closeF (runF Try.prog ref09_Compare_E ref09_Compare_H Try.f18)
def ref09_Compare_Y : TH := { joins := [], loops := [], cuts := [], ro := [2, 3], news := [] }
noncomputable def ref09_Compare (a0 : (Int × Int × List UInt8 × Unit)) (a1 : (Int × Int × List UInt8 × Unit)) : Option Int :=
 cond (!decide (a0.1 = a1.1)) (
(ref09_ints a0.1 a1.1).bind fun r1 =>
 some r1) (
 cond (!decide (a0.2.1 = a1.2.1)) (
(ref09_ints a0.2.1 a1.2.1).bind fun r2 =>
 some r2) (
(ref09_Texts a0.2.2.1 a1.2.2.1).bind fun r3 =>
 some r3))
noncomputable def ref09_Compare_T : TFn := { ps := (.cons (.agg (.cons (.int .i64) (.cons (.int .i64) (.cons .str .unit)))) (.cons (.agg (.cons (.int .i64) (.cons (.int .i64) (.cons .str .unit)))) .unit)), res := (.int .i64), fn := fun v => ref09_Compare v.1 v.2.1 }
noncomputable def ref09_Compare_V : TEnv := { pure := [(39, ref09_ints_T), (40, ref09_Texts_T)], look := [], glob := G0T, ty := [], raw := [], fresh := [] }
theorem ref09_Compare_eq : runY Try.prog ref09_Compare_E ref09_Compare_H ref09_Compare_V ref09_Compare_Y Try.f18 ref09_Compare_T.ps ref09_Compare_T.res = ref09_Compare_T.fn := by kernel_rfl
theorem ref09_Compare_Fok : SoundP Try.prog G0 18 ref09_Compare_F := closeF_sound (runF_sound (P := Try.prog) (E := ref09_Compare_E) (h := ref09_Compare_H) (f := 18) (fn := Try.f18) ⟨same_ok, (envP_cons ref09_ints_Fok (envP_cons ref09_Texts_Fok envP_nil)), envS_nil, envP_nil, envX_nil⟩ Try.func18 rfl (by kernel_rfl))
theorem ref09_Compare_ok : TOk ref09_Compare_F ref09_Compare_T := runY_ok (E := ref09_Compare_E) (ET := ref09_Compare_V) (EnvT.ofX (E := ref09_Compare_E) (ET := ref09_Compare_V) (pure_of (pairs_cons ref09_ints_ok (pairs_cons ref09_Texts_ok pairs_nil))) looks_nil raws_nil G0_ok news_nil) ref09_Compare_eq rfl
-- palinode/palinoderef14.Insert
-- palinode/palinoderef14.Values
-- palinode/palinoderef09.Same
noncomputable def ref09_Same_E : Env := { pure := [], raw := [], glob := G0, same := [], look := [], ext := [] }
def ref09_Same_H : Hints := { seqs := [], loops := [(4, [0, 1, 5])], own := [] }
noncomputable def ref09_Same_F : PFn := closeF (runF Try.prog ref09_Same_E ref09_Same_H Try.f13)
def ref09_Same_Y : TH := { joins := [], loops := [(4, { keep := [(5, (.int .i64))], mem := [] })], cuts := [], ro := [], news := [] }
noncomputable def ref09_Same_l4 (a0 : List (Int × Int × List UInt8 × Unit)) (a1 : List (Int × Int × List UInt8 × Unit)) (y4 : (Int × Unit)) : Option ((Int × Unit) ⊕ Bool) :=
 cond (decide (y4.1 < (a0.length : Int))) (
(atI a0 y4.1).bind fun x1 =>
(atI a1 y4.1).bind fun x2 =>
 cond (!(eqV (.agg (.cons (.int .i64) (.cons (.int .i64) (.cons .str .unit)))) x1 x2)) (
 some (.inr false)) (
 some (.inl ((IntKind.wrap .i64 (y4.1 + 1)), ())))) (
 some (.inr true))
noncomputable def ref09_Same (a0 : List (Int × Int × List UInt8 × Unit)) (a1 : List (Int × Int × List UInt8 × Unit)) : Option Bool :=
 cond (!decide ((a0.length : Int) = (a1.length : Int))) (
 some false) (
 loopT (ref09_Same_l4 a0 a1) (0, ()))
noncomputable def ref09_Same_T : TFn := { ps := (.cons (.sl (.agg (.cons (.int .i64) (.cons (.int .i64) (.cons .str .unit))))) (.cons (.sl (.agg (.cons (.int .i64) (.cons (.int .i64) (.cons .str .unit))))) .unit)), res := .bool, fn := fun v => ref09_Same v.1 v.2.1 }
noncomputable def ref09_Same_V : TEnv := { pure := [], look := [], glob := G0T, ty := [], raw := [], fresh := [] }
theorem ref09_Same_eq : runY Try.prog ref09_Same_E ref09_Same_H ref09_Same_V ref09_Same_Y Try.f13 ref09_Same_T.ps ref09_Same_T.res = ref09_Same_T.fn := by kernel_rfl
theorem ref09_Same_Fok : SoundP Try.prog G0 13 ref09_Same_F := closeF_sound (runF_sound (P := Try.prog) (E := ref09_Same_E) (h := ref09_Same_H) (f := 13) (fn := Try.f13) ⟨same_ok, envP_nil, envS_nil, envP_nil, envX_nil⟩ Try.func13 rfl (by kernel_rfl))
theorem ref09_Same_ok : TOk ref09_Same_F ref09_Same_T := runY_ok (E := ref09_Same_E) (ET := ref09_Same_V) (EnvT.ofX (E := ref09_Same_E) (ET := ref09_Same_V) (pure_of pairs_nil) looks_nil raws_nil G0_ok news_nil) ref09_Same_eq rfl
-- palinode/palinodelaw14.put
noncomputable def law14_put_E : Env := { pure := [], raw := [], glob := G0, same := [], look := [], ext := [] }
def law14_put_H : Hints := { seqs := [], loops := [], own := [] }
noncomputable def law14_put_F : PFn := closeF (runF Try.prog law14_put_E law14_put_H Try.f17)
def law14_put_Y : TH := { joins := [], loops := [], cuts := [], ro := [5, 8], news := [] }
noncomputable def law14_put (a0 : (Int × Int × Unit)) (a1 : Int) (a2 : List (List UInt8)) (a3 : (Int × Int × List UInt8 × Unit)) (a4 : List ((Int × Int × Unit) × Int × Unit)) : Option ((Int × Int × Unit) × Int × Int × Bool × List (Int × List (List UInt8) × (Int × Int × List UInt8 × Unit) × Int × List ((Int × Int × Unit) × Int × Unit) × Unit) × Unit) :=
 some (a0, 0, a1, false, ([(1, a2, a3, 0, a4, ())] : List (Int × List (List UInt8) × (Int × Int × List UInt8 × Unit) × Int × List ((Int × Int × Unit) × Int × Unit) × Unit)), ())
noncomputable def law14_put_T : TFn := { ps := (.cons (.agg (.cons (.int .i64) (.cons (.int .i64) .unit))) (.cons (.int .i64) (.cons (.sl .str) (.cons (.agg (.cons (.int .i64) (.cons (.int .i64) (.cons .str .unit)))) (.cons (.sl (.agg (.cons (.agg (.cons (.int .i64) (.cons (.int .i64) .unit))) (.cons (.int .i64) .unit)))) .unit))))), res := (.agg (.cons (.agg (.cons (.int .i64) (.cons (.int .i64) .unit))) (.cons (.int .i64) (.cons (.int .i64) (.cons .bool (.cons (.sl (.agg (.cons (.int .i64) (.cons (.sl .str) (.cons (.agg (.cons (.int .i64) (.cons (.int .i64) (.cons .str .unit)))) (.cons (.int .i64) (.cons (.sl (.agg (.cons (.agg (.cons (.int .i64) (.cons (.int .i64) .unit))) (.cons (.int .i64) .unit)))) .unit))))))) .unit)))))), fn := fun v => law14_put v.1 v.2.1 v.2.2.1 v.2.2.2.1 v.2.2.2.2.1 }
noncomputable def law14_put_V : TEnv := { pure := [], look := [], glob := G0T, ty := [(60, (.agg (.cons (.int .i64) (.cons (.sl .str) (.cons (.agg (.cons (.int .i64) (.cons (.int .i64) (.cons .str .unit)))) (.cons (.int .i64) (.cons (.sl (.agg (.cons (.agg (.cons (.int .i64) (.cons (.int .i64) .unit))) (.cons (.int .i64) .unit)))) .unit)))))))], raw := [], fresh := [] }
theorem law14_put_eq : runY Try.prog law14_put_E law14_put_H law14_put_V law14_put_Y Try.f17 law14_put_T.ps law14_put_T.res = law14_put_T.fn := by kernel_rfl
theorem law14_put_Fok : SoundP Try.prog G0 17 law14_put_F := closeF_sound (runF_sound (P := Try.prog) (E := law14_put_E) (h := law14_put_H) (f := 17) (fn := Try.f17) ⟨same_ok, envP_nil, envS_nil, envP_nil, envX_nil⟩ Try.func17 rfl (by kernel_rfl))
theorem law14_put_ok : TOk law14_put_F law14_put_T := runY_ok (E := law14_put_E) (ET := law14_put_V) (EnvT.ofX (E := law14_put_E) (ET := law14_put_V) (pure_of pairs_nil) looks_nil raws_nil G0_ok news_nil) law14_put_eq rfl
-- palinode/palinodelaw14.num
noncomputable def law14_num_E : Env := { pure := [], raw := [], glob := G0, same := [], look := [], ext := [] }
def law14_num_H : Hints := { seqs := [], loops := [], own := [] }
noncomputable def law14_num_F : PFn := closeF (runF Try.prog law14_num_E law14_num_H Try.f21)
def law14_num_Y : TH := { joins := [], loops := [], cuts := [], ro := [], news := [] }
noncomputable def law14_num (a0 : Int) : Option (Int × Int × List UInt8 × Unit) :=
 some (1, a0, [], ())
noncomputable def law14_num_T : TFn := { ps := (.cons (.int .i64) .unit), res := (.agg (.cons (.int .i64) (.cons (.int .i64) (.cons .str .unit)))), fn := fun v => law14_num v.1 }
noncomputable def law14_num_V : TEnv := { pure := [], look := [], glob := G0T, ty := [], raw := [], fresh := [] }
theorem law14_num_eq : runY Try.prog law14_num_E law14_num_H law14_num_V law14_num_Y Try.f21 law14_num_T.ps law14_num_T.res = law14_num_T.fn := by kernel_rfl
theorem law14_num_Fok : SoundP Try.prog G0 21 law14_num_F := closeF_sound (runF_sound (P := Try.prog) (E := law14_num_E) (h := law14_num_H) (f := 21) (fn := Try.f21) ⟨same_ok, envP_nil, envS_nil, envP_nil, envX_nil⟩ Try.func21 rfl (by kernel_rfl))
theorem law14_num_ok : TOk law14_num_F law14_num_T := runY_ok (E := law14_num_E) (ET := law14_num_V) (EnvT.ofX (E := law14_num_E) (ET := law14_num_V) (pure_of pairs_nil) looks_nil raws_nil G0_ok news_nil) law14_num_eq rfl
-- strings.Compare
noncomputable def strings_Compare_F : PFn := cmpF
noncomputable def strings_Compare (a0 : List UInt8) (a1 : List UInt8) : Option Int := cmpT a0 a1
noncomputable def strings_Compare_T : TFn := cmpT_T
theorem strings_Compare_ok : TOk strings_Compare_F strings_Compare_T := cmpT_ok
-- palinode/value.Compare
noncomputable def value_Compare_E : Env := { pure := [(29, cmp_Or_int_F), (30, cmp_Compare_int_F), (58, strings_Compare_F)], raw := [], glob := G0, same := [], look := [], ext := [] }
def value_Compare_H : Hints := { seqs := [], loops := [], own := [] }
noncomputable def value_Compare_F : PFn := closeF (runF Try.prog value_Compare_E value_Compare_H Try.f36)
def value_Compare_Y : TH := { joins := [], loops := [], cuts := [], ro := [2, 3], news := [] }
noncomputable def value_Compare (a0 : (Int × Int × List UInt8 × Unit)) (a1 : (Int × Int × List UInt8 × Unit)) : Option Int :=
(cmp_Compare_int a0.1 a1.1).bind fun r1 =>
(cmp_Compare_int a0.2.1 a1.2.1).bind fun r2 =>
(strings_Compare a0.2.2.1 a1.2.2.1).bind fun r3 =>
(cmp_Or_int ([r1, r2, r3] : List Int)).bind fun r4 =>
 some r4
noncomputable def value_Compare_T : TFn := { ps := (.cons (.agg (.cons (.int .i64) (.cons (.int .i64) (.cons .str .unit)))) (.cons (.agg (.cons (.int .i64) (.cons (.int .i64) (.cons .str .unit)))) .unit)), res := (.int .i64), fn := fun v => value_Compare v.1 v.2.1 }
noncomputable def value_Compare_V : TEnv := { pure := [(29, cmp_Or_int_T), (30, cmp_Compare_int_T), (58, strings_Compare_T)], look := [], glob := G0T, ty := [(3, (.int .i64))], raw := [], fresh := [] }
theorem value_Compare_eq : runY Try.prog value_Compare_E value_Compare_H value_Compare_V value_Compare_Y Try.f36 value_Compare_T.ps value_Compare_T.res = value_Compare_T.fn := by kernel_rfl
theorem value_Compare_ok : TOk value_Compare_F value_Compare_T := runY_ok (E := value_Compare_E) (ET := value_Compare_V) (EnvT.ofX (E := value_Compare_E) (ET := value_Compare_V) (pure_of (pairs_cons cmp_Or_int_ok (pairs_cons cmp_Compare_int_ok (pairs_cons strings_Compare_ok pairs_nil)))) looks_nil raws_nil G0_ok news_nil) value_Compare_eq rfl
-- slices.SortFunc[[]palinode/api.Value,palinode/api.Value] by palinode/value.Compare
theorem cmp_isNaN_int_FokD : @SoundP ⟨True⟩ Try.prog G0 50 cmp_isNaN_int_F := by
  letI : Drawn := ⟨True⟩
  exact closeF_sound (runF_sound (P := Try.prog) (E := cmp_isNaN_int_E) (h := cmp_isNaN_int_H) (f := 50) (fn := Try.f50) ⟨same_ok, envP_nil, envS_nil, envP_nil, envX_nil⟩ Try.func50 rfl (by kernel_rfl))
theorem cmp_Compare_int_FokD : @SoundP ⟨True⟩ Try.prog G0 30 cmp_Compare_int_F := by
  letI : Drawn := ⟨True⟩
  exact closeF_sound (runF_sound (P := Try.prog) (E := cmp_Compare_int_E) (h := cmp_Compare_int_H) (f := 30) (fn := Try.f30) ⟨same_ok, (envP_cons cmp_isNaN_int_FokD envP_nil), envS_nil, envP_nil, envX_nil⟩ Try.func30 rfl (by kernel_rfl))
theorem cmp_Or_int_FokD : @SoundP ⟨True⟩ Try.prog G0 29 cmp_Or_int_F := by
  letI : Drawn := ⟨True⟩
  exact closeF_sound (runF_sound (P := Try.prog) (E := cmp_Or_int_E) (h := cmp_Or_int_H) (f := 29) (fn := Try.f29) ⟨same_ok, envP_nil, envS_nil, envP_nil, envX_nil⟩ Try.func29 rfl (by kernel_rfl))
theorem strings_Compare_FokD : @SoundP ⟨True⟩ Try.prog G0 58 strings_Compare_F := by
  letI : Drawn := ⟨True⟩
  exact cmp_sound ⟨Try.f58, Try.func58, rfl, by kernel_rfl⟩ Try.strings_Compare
theorem value_Compare_FokD : @SoundP ⟨True⟩ Try.prog G0 36 value_Compare_F := by
  letI : Drawn := ⟨True⟩
  exact closeF_sound (runF_sound (P := Try.prog) (E := value_Compare_E) (h := value_Compare_H) (f := 36) (fn := Try.f36) ⟨same_ok, (envP_cons cmp_Or_int_FokD (envP_cons cmp_Compare_int_FokD (envP_cons strings_Compare_FokD envP_nil))), envS_nil, envP_nil, envX_nil⟩ Try.func36 rfl (by kernel_rfl))
def slices_SortFunc_Sl_api_Value_api_Value__value_Compare_ren : Go.Shelf.Ren := ⟨fun | 6 => 35 | 14 => 56 | 15 => 57 | 20 => 67 | 21 => 68 | 22 => 69 | 23 => 70 | 24 => 71 | 25 => 72 | 26 => 73 | 27 => 74 | 28 => 75 | 29 => 76 | 46 => 82 | 47 => 83 | 48 => 84 | 49 => 85 | 50 => 86 | 57 => 89 | n => n, fun | 0 => 0 | 3 => 3 | 4 => 4 | 5 => 5 | 9 => 9 | 22 => 37 | 24 => 33 | 25 => 50 | 39 => 93 | 45 => 105 | 46 => 106 | 50 => 102 | 53 => 112 | 55 => 114 | 66 => 119 | 70 => 123 | 76 => 126 | 77 => 94 | n => n, fun | n => n⟩
theorem slices_SortFunc_Sl_api_Value_api_Value__value_Compare_lays : Go.Proofs.SlLaysF0.n6 Try.prog slices_SortFunc_Sl_api_Value_api_Value__value_Compare_ren := {
  mixed := by kernel_rfl
  f6 := ⟨Try.f35.name, by decide, Try.func35.trans (congrArg some (by kernel_rfl))⟩
  f14 := ⟨Try.f56.name, by decide, Try.func56.trans (congrArg some (by kernel_rfl))⟩
  f15 := Try.func57.trans (congrArg some (by kernel_rfl))
  f20 := ⟨Try.f67.name, by decide, Try.func67.trans (congrArg some (by kernel_rfl))⟩
  f21 := ⟨Try.f68.name, by decide, Try.func68.trans (congrArg some (by kernel_rfl))⟩
  f22 := ⟨Try.f69.name, by decide, Try.func69.trans (congrArg some (by kernel_rfl))⟩
  f23 := ⟨Try.f70.name, by decide, Try.func70.trans (congrArg some (by kernel_rfl))⟩
  f24 := ⟨Try.f71.name, by decide, Try.func71.trans (congrArg some (by kernel_rfl))⟩
  f25 := ⟨Try.f72.name, by decide, Try.func72.trans (congrArg some (by kernel_rfl))⟩
  f26 := ⟨Try.f73.name, by decide, Try.func73.trans (congrArg some (by kernel_rfl))⟩
  f27 := ⟨Try.f74.name, by decide, Try.func74.trans (congrArg some (by kernel_rfl))⟩
  f28 := Try.func75.trans (congrArg some (by kernel_rfl))
  f29 := Try.func76.trans (congrArg some (by kernel_rfl))
  f46 := ⟨Try.f82.name, by decide, Try.func82.trans (congrArg some (by kernel_rfl))⟩
  f47 := Try.func83.trans (congrArg some (by kernel_rfl))
  f48 := Try.func84.trans (congrArg some (by kernel_rfl))
  f49 := ⟨Try.f85.name, by decide, Try.func85.trans (congrArg some (by kernel_rfl))⟩
  f50 := ⟨Try.f86.name, by decide, Try.func86.trans (congrArg some (by kernel_rfl))⟩
  f57 := ⟨Try.f89.name, by decide, Try.func89.trans (congrArg some (by kernel_rfl))⟩
  t0 := Try.underlying0
  a0 := Try.isAgg0
  z0 := Try.sizeOf0
  v0 := Try.zeroValue0
  t3 := Try.underlying3
  a3 := Try.isAgg3
  z3 := Try.sizeOf3
  v3 := Try.zeroValue3
  t4 := Try.underlying4
  a4 := Try.isAgg4
  z4 := Try.sizeOf4
  v4 := Try.zeroValue4
  t5 := Try.underlying5
  a5 := Try.isAgg5
  z5 := Try.sizeOf5
  v5 := Try.zeroValue5
  t9 := Try.underlying9
  a9 := Try.isAgg9
  z9 := Try.sizeOf9
  v9 := Try.zeroValue9
  t22 := Try.underlying37
  a22 := Try.isAgg37
  z22 := Try.sizeOf37
  v22 := Try.zeroValue37
  t25 := Try.underlying50
  a25 := Try.isAgg50
  z25 := Try.sizeOf50
  v25 := Try.zeroValue50
  t39 := Try.underlying93
  a39 := Try.isAgg93
  z39 := Try.sizeOf93
  v39 := Try.zeroValue93
  t45 := Try.underlying105
  a45 := Try.isAgg105
  z45 := Try.sizeOf105
  v45 := Try.zeroValue105
  t46 := Try.underlying106
  a46 := Try.isAgg106
  z46 := Try.sizeOf106
  v46 := Try.zeroValue106
  t50 := Try.underlying102
  a50 := Try.isAgg102
  z50 := Try.sizeOf102
  v50 := Try.zeroValue102
  t53 := Try.underlying112
  a53 := Try.isAgg112
  z53 := Try.sizeOf112
  v53 := Try.zeroValue112
  t55 := Try.underlying114
  a55 := Try.isAgg114
  z55 := Try.sizeOf114
  v55 := Try.zeroValue114
  t66 := Try.underlying119
  a66 := Try.isAgg119
  z66 := Try.sizeOf119
  v66 := Try.zeroValue119
  t70 := Try.underlying123
  a70 := Try.isAgg123
  z70 := Try.sizeOf123
  v70 := Try.zeroValue123
  t76 := Try.underlying126
  a76 := Try.isAgg126
  z76 := Try.sizeOf126
  v76 := Try.zeroValue126
  t77 := Try.underlying94
  a77 := Try.isAgg94
  z77 := Try.sizeOf94
  v77 := Try.zeroValue94 }
noncomputable def slices_SortFunc_Sl_api_Value_api_Value__value_Compare_S : SFn := sortS value_Compare_F 36 3 33
theorem slices_SortFunc_Sl_api_Value_api_Value__value_Compare_Sok : SoundS Try.prog G0 35 slices_SortFunc_Sl_api_Value_api_Value__value_Compare_S := sortS_sound (M := 3) (g := 36) slices_SortFunc_Sl_api_Value_api_Value__value_Compare_lays (by decide) (fun w => Try.isAgg33 w) (fun w => Try.sizeOf33 w) value_Compare_FokD ⟨Try.f35, Try.func35, rfl, by kernel_rfl⟩
noncomputable def slices_SortFunc_Sl_api_Value_api_Value__value_Compare (w0 : List (Int × Int × List UInt8 × Unit)) : Option (Unit × List (Int × Int × List UInt8 × Unit) × Unit) := (sortT (fun x y => value_Compare x y) w0).map fun l => ((), (l, ()))
noncomputable def slices_SortFunc_Sl_api_Value_api_Value__value_Compare_R : TRaw := sortR false 36 33 (.agg (.cons (.int .i64) (.cons (.int .i64) (.cons .str .unit)))) (fun x y => value_Compare x y)
theorem slices_SortFunc_Sl_api_Value_api_Value__value_Compare_ok : TRawOk slices_SortFunc_Sl_api_Value_api_Value__value_Compare_S slices_SortFunc_Sl_api_Value_api_Value__value_Compare_R := sortR_ok rfl rfl rfl rfl value_Compare_ok
-- slices.Compact[[]palinode/api.Value,palinode/api.Value]
noncomputable def slices_Compact_Sl_api_Value_api_Value_E : Env := { pure := [], raw := [], glob := G0, same := [], look := [], ext := [] }
def slices_Compact_Sl_api_Value_api_Value_H : Hints := { seqs := [], loops := [(4, [0, 3]), (9, [0, 3, 4, 5])], own := [] }
noncomputable def slices_Compact_Sl_api_Value_api_Value_S : SFn := giveS (runF Try.prog slices_Compact_Sl_api_Value_api_Value_E slices_Compact_Sl_api_Value_api_Value_H Try.f37)
def slices_Compact_Sl_api_Value_api_Value_Y : TH := { joins := [(14, { keep := [(0, (.own 0)), (3, (.int .i64))], mem := [.row false 33 (.agg (.cons (.int .i64) (.cons (.int .i64) (.cons .str .unit))))] })], loops := [(4, { keep := [(0, (.own 0)), (3, (.int .i64))], mem := [.row false 33 (.agg (.cons (.int .i64) (.cons (.int .i64) (.cons .str .unit))))] }), (9, { keep := [(0, (.own 0)), (3, (.int .i64)), (4, (.vw 0)), (5, (.int .i64))], mem := [.row false 33 (.agg (.cons (.int .i64) (.cons (.int .i64) (.cons .str .unit))))] })], cuts := [], ro := [], news := [] }
noncomputable def slices_Compact_Sl_api_Value_api_Value_l9 (y9 : (Int × (Nat × Nat) × Int × List (Int × Int × List UInt8 × Unit) × Unit)) : Option ((Int × (Nat × Nat) × Int × List (Int × Int × List UInt8 × Unit) × Unit) ⊕ ((Int × List (Int × Int × List UInt8 × Unit) × Unit) ⊕ ((Int × List (Int × Int × List UInt8 × Unit) × Unit) ⊕ (List (Int × Int × List UInt8 × Unit))))) :=
 cond (decide (y9.2.2.1 < (y9.2.1.2 : Int))) (
 cond y9.2.2.2.1.isEmpty (none) ((inI y9.2.1.2 y9.2.2.1).bind fun i6 =>
(y9.2.2.2.1[(y9.2.1.1 + i6)]?).bind fun x7 =>
 cond y9.2.2.2.1.isEmpty (none) ((inI y9.2.1.2 (IntKind.wrap .i64 (y9.2.2.1 - 1))).bind fun i8 =>
(y9.2.2.2.1[(y9.2.1.1 + i8)]?).bind fun x9 =>
 cond (!(eqV (.agg (.cons (.int .i64) (.cons (.int .i64) (.cons .str .unit)))) x7 x9)) (
 cond y9.2.2.2.1.isEmpty (none) ((inI y9.2.1.2 y9.2.2.1).bind fun i10 =>
(y9.2.2.2.1[(y9.2.1.1 + i10)]?).bind fun x11 =>
(inI y9.2.2.2.1.length y9.1).bind fun i12 =>
(y9.2.2.2.1[i12]?).bind fun x13 =>
 some (.inl ((IntKind.wrap .i64 (y9.1 + 1)), y9.2.1, (IntKind.wrap .i64 (y9.2.2.1 + 1)), (y9.2.2.2.1.set i12 x11), ())))) (
 some (.inl (y9.1, y9.2.1, (IntKind.wrap .i64 (y9.2.2.1 + 1)), y9.2.2.2.1, ())))))) (
 some (.inr (.inl (y9.1, y9.2.2.2.1, ()))))
noncomputable def slices_Compact_Sl_api_Value_api_Value_l4 (y4 : (Int × List (Int × Int × List UInt8 × Unit) × Unit)) : Option ((Int × List (Int × Int × List UInt8 × Unit) × Unit) ⊕ (List (Int × Int × List UInt8 × Unit))) :=
 cond (decide (y4.1 < (y4.2.1.length : Int))) (
(inI y4.2.1.length y4.1).bind fun i1 =>
(y4.2.1[i1]?).bind fun x2 =>
(inI y4.2.1.length (IntKind.wrap .i64 (y4.1 - 1))).bind fun i3 =>
(y4.2.1[i3]?).bind fun x4 =>
 cond (eqV (.agg (.cons (.int .i64) (.cons (.int .i64) (.cons .str .unit)))) x2 x4) (
 cond y4.2.1.isEmpty (none) ((viewI (y4.2.1.length) y4.1 (y4.2.1.length : Int)).bind fun p5 =>
(loopT (slices_Compact_Sl_api_Value_api_Value_l9) (y4.1, p5, 1, y4.2.1, ()) : Option ((Int × List (Int × Int × List UInt8 × Unit) × Unit) ⊕ ((Int × List (Int × Int × List UInt8 × Unit) × Unit) ⊕ (List (Int × Int × List UInt8 × Unit))))).bind (joinS fun v14 =>
 cond v14.2.1.isEmpty (none) ((viewI (v14.2.1.length) v14.1 (v14.2.1.length : Int)).bind fun p15 =>
 cond v14.2.1.isEmpty (none) ((if p15.1 + p15.2 ≤ v14.2.1.length then some () else none).bind fun u16 =>
 cond (v14.2.1.take p15.1 ++ List.replicate p15.2 (0, 0, [], ()) ++ v14.2.1.drop (p15.1 + p15.2)).isEmpty (none) ((viewI ((v14.2.1.take p15.1 ++ List.replicate p15.2 (0, 0, [], ()) ++ v14.2.1.drop (p15.1 + p15.2)).length) 0 v14.1).bind fun p17 =>
(cond (v14.2.1.take p15.1 ++ List.replicate p15.2 (0, 0, [], ()) ++ v14.2.1.drop (p15.1 + p15.2)).isEmpty none (if p17.1 + p17.2 ≤ (v14.2.1.take p15.1 ++ List.replicate p15.2 (0, 0, [], ()) ++ v14.2.1.drop (p15.1 + p15.2)).length then some (((v14.2.1.take p15.1 ++ List.replicate p15.2 (0, 0, [], ()) ++ v14.2.1.drop (p15.1 + p15.2)).drop p17.1).take p17.2) else none)).map .inr)))))) (
 some (.inl ((IntKind.wrap .i64 (y4.1 + 1)), y4.2.1, ())))) (
 some (.inr y4.2.1))
noncomputable def slices_Compact_Sl_api_Value_api_Value_g (w0 : List (Int × Int × List UInt8 × Unit)) : Option (List (Int × Int × List UInt8 × Unit)) :=
 cond (decide ((w0.length : Int) < 2)) (
 some w0) (
 loopT (slices_Compact_Sl_api_Value_api_Value_l4) (1, w0, ()))
noncomputable def slices_Compact_Sl_api_Value_api_Value (w0 : List (Int × Int × List UInt8 × Unit)) : Option (List (Int × Int × List UInt8 × Unit) × Unit) := (slices_Compact_Sl_api_Value_api_Value_g w0).map fun l => (l, ())
noncomputable def slices_Compact_Sl_api_Value_api_Value_R : TRaw := { ps := (.cons (.own 0) .unit), ins := [.row false 33 (.agg (.cons (.int .i64) (.cons (.int .i64) (.cons .str .unit))))], res := (.sl (.agg (.cons (.int .i64) (.cons (.int .i64) (.cons .str .unit))))), outs := [.gone], fn := fun v w => slices_Compact_Sl_api_Value_api_Value w.1 }
noncomputable def slices_Compact_Sl_api_Value_api_Value_V : TEnv := { pure := [], look := [], glob := G0T, ty := [], raw := [], fresh := [] }
theorem slices_Compact_Sl_api_Value_api_Value_eq : giveY Try.prog slices_Compact_Sl_api_Value_api_Value_E slices_Compact_Sl_api_Value_api_Value_H slices_Compact_Sl_api_Value_api_Value_V slices_Compact_Sl_api_Value_api_Value_Y Try.f37 (.cons (.own 0) .unit) false 33 (.agg (.cons (.int .i64) (.cons (.int .i64) (.cons .str .unit)))) = fun _ w => slices_Compact_Sl_api_Value_api_Value_g w := by kernel_rfl
theorem slices_Compact_Sl_api_Value_api_Value_Sok : SoundS Try.prog G0 37 slices_Compact_Sl_api_Value_api_Value_S := giveS_sound (runF_sound (P := Try.prog) (E := slices_Compact_Sl_api_Value_api_Value_E) (h := slices_Compact_Sl_api_Value_api_Value_H) (f := 37) (fn := Try.f37) ⟨same_ok, envP_nil, envS_nil, envP_nil, envX_nil⟩ Try.func37 rfl (by kernel_rfl))
theorem slices_Compact_Sl_api_Value_api_Value_ok : TRawOk slices_Compact_Sl_api_Value_api_Value_S slices_Compact_Sl_api_Value_api_Value_R := giveY_ok (E := slices_Compact_Sl_api_Value_api_Value_E) (ET := slices_Compact_Sl_api_Value_api_Value_V) (EnvT.ofX (E := slices_Compact_Sl_api_Value_api_Value_E) (ET := slices_Compact_Sl_api_Value_api_Value_V) (pure_of pairs_nil) looks_nil raws_nil G0_ok news_nil) slices_Compact_Sl_api_Value_api_Value_eq
-- palinode/reg.Values
noncomputable def reg_Values_E : Env := { pure := [(26, live_At_F)], raw := [(35, slices_SortFunc_Sl_api_Value_api_Value__value_Compare_S), (37, slices_Compact_Sl_api_Value_api_Value_S)], glob := G0, same := [], look := [], ext := [] }
def reg_Values_H : Hints := { seqs := [], loops := [(3, [5, 10, 11, 12])], own := [] }
noncomputable def reg_Values_F : PFn := closeF (runF Try.prog reg_Values_E reg_Values_H Try.f14)
def reg_Values_Y : TH := { joins := [(7, { keep := [(5, (.own 1))], mem := [.gone, .row true 33 (.agg (.cons (.int .i64) (.cons (.int .i64) (.cons .str .unit))))] })], loops := [(3, { keep := [(5, (.own 1)), (12, (.int .i64))], mem := [.gone, .row true 33 (.agg (.cons (.int .i64) (.cons (.int .i64) (.cons .str .unit))))] })], cuts := [], ro := [], news := [] }
noncomputable def reg_Values_l3 (r1 : List (((Int × Int × Unit) × Int × Unit) × (Int × List (List UInt8) × (Int × Int × List UInt8 × Unit) × Int × List ((Int × Int × Unit) × Int × Unit) × Unit) × Int × Unit)) (y3 : (Int × List (Int × Int × List UInt8 × Unit) × Unit)) : Option ((Int × List (Int × Int × List UInt8 × Unit) × Unit) ⊕ ((List (Int × Int × List UInt8 × Unit) × Unit) ⊕ List (Int × Int × List UInt8 × Unit))) :=
 cond (decide (y3.1 < (r1.length : Int))) (
(atI r1 y3.1).bind fun x2 =>
(roomT (y3.2.1.length + ([x2.2.1.2.2.1] : List (Int × Int × List UInt8 × Unit)).length)).bind fun u3 =>
 some (.inl ((IntKind.wrap .i64 (y3.1 + 1)), (y3.2.1 ++ ([x2.2.1.2.2.1] : List (Int × Int × List UInt8 × Unit))), ()))) (
 some (.inr (.inl (y3.2.1, ()))))
noncomputable def reg_Values (a0 : List (((Int × Int × Unit) × Int × Unit) × (Int × List (List UInt8) × (Int × Int × List UInt8 × Unit) × Int × List ((Int × Int × Unit) × Int × Unit) × Unit) × Int × Unit)) (a1 : List (List UInt8)) : Option (List (Int × Int × List UInt8 × Unit)) :=
((live_At a0 a1 1).bind fun r1 =>
 loopT (reg_Values_l3 r1) (0, [], ()) : Option ((List (Int × Int × List UInt8 × Unit) × Unit) ⊕ List (Int × Int × List UInt8 × Unit))).bind (joinS fun v4 =>
(slices_SortFunc_Sl_api_Value_api_Value__value_Compare v4.1).bind fun q5 =>
(slices_Compact_Sl_api_Value_api_Value q5.2.1).bind fun q6 =>
 some q6.1)
noncomputable def reg_Values_T : TFn := { ps := (.cons (.sl (.agg (.cons (.agg (.cons (.agg (.cons (.int .i64) (.cons (.int .i64) .unit))) (.cons (.int .i64) .unit))) (.cons (.agg (.cons (.int .i64) (.cons (.sl .str) (.cons (.agg (.cons (.int .i64) (.cons (.int .i64) (.cons .str .unit)))) (.cons (.int .i64) (.cons (.sl (.agg (.cons (.agg (.cons (.int .i64) (.cons (.int .i64) .unit))) (.cons (.int .i64) .unit)))) .unit)))))) (.cons (.int .i64) .unit))))) (.cons (.sl .str) .unit)), res := (.sl (.agg (.cons (.int .i64) (.cons (.int .i64) (.cons .str .unit))))), fn := fun v => reg_Values v.1 v.2.1 }
noncomputable def reg_Values_V : TEnv := { pure := [(26, live_At_T)], look := [], glob := G0T, ty := [(33, (.agg (.cons (.int .i64) (.cons (.int .i64) (.cons .str .unit)))))], raw := [(35, slices_SortFunc_Sl_api_Value_api_Value__value_Compare_R), (37, slices_Compact_Sl_api_Value_api_Value_R)], fresh := [] }
theorem reg_Values_eq : runY Try.prog reg_Values_E reg_Values_H reg_Values_V reg_Values_Y Try.f14 reg_Values_T.ps reg_Values_T.res = reg_Values_T.fn := by kernel_rfl
theorem reg_Values_Fok : SoundP Try.prog G0 14 reg_Values_F := closeF_sound (runF_sound (P := Try.prog) (E := reg_Values_E) (h := reg_Values_H) (f := 14) (fn := Try.f14) ⟨same_ok, (envP_cons live_At_Fok envP_nil), (envS_cons slices_SortFunc_Sl_api_Value_api_Value__value_Compare_Sok (envS_cons slices_Compact_Sl_api_Value_api_Value_Sok envS_nil)), envP_nil, envX_nil⟩ Try.func14 rfl (by kernel_rfl))
theorem reg_Values_ok : TOk reg_Values_F reg_Values_T := runY_ok (E := reg_Values_E) (ET := reg_Values_V) (EnvT.ofX (E := reg_Values_E) (ET := reg_Values_V) (pure_of (pairs_cons live_At_ok pairs_nil)) looks_nil (raws_cons slices_SortFunc_Sl_api_Value_api_Value__value_Compare_ok rfl rfl (raws_cons slices_Compact_Sl_api_Value_api_Value_ok rfl rfl raws_nil)) G0_ok news_nil) reg_Values_eq rfl
-- palinode/reg.Conflict
noncomputable def reg_Conflict_E : Env := { pure := [(14, reg_Values_F)], raw := [], glob := G0, same := [], look := [], ext := [] }
def reg_Conflict_H : Hints := { seqs := [], loops := [], own := [] }
noncomputable def reg_Conflict_F : PFn := closeF (runF Try.prog reg_Conflict_E reg_Conflict_H Try.f15)
def reg_Conflict_Y : TH := { joins := [], loops := [], cuts := [], ro := [], news := [] }
noncomputable def reg_Conflict (a0 : List (((Int × Int × Unit) × Int × Unit) × (Int × List (List UInt8) × (Int × Int × List UInt8 × Unit) × Int × List ((Int × Int × Unit) × Int × Unit) × Unit) × Int × Unit)) (a1 : List (List UInt8)) : Option Bool :=
(reg_Values a0 a1).bind fun r1 =>
 some (decide ((r1.length : Int) > 1))
noncomputable def reg_Conflict_T : TFn := { ps := (.cons (.sl (.agg (.cons (.agg (.cons (.agg (.cons (.int .i64) (.cons (.int .i64) .unit))) (.cons (.int .i64) .unit))) (.cons (.agg (.cons (.int .i64) (.cons (.sl .str) (.cons (.agg (.cons (.int .i64) (.cons (.int .i64) (.cons .str .unit)))) (.cons (.int .i64) (.cons (.sl (.agg (.cons (.agg (.cons (.int .i64) (.cons (.int .i64) .unit))) (.cons (.int .i64) .unit)))) .unit)))))) (.cons (.int .i64) .unit))))) (.cons (.sl .str) .unit)), res := .bool, fn := fun v => reg_Conflict v.1 v.2.1 }
noncomputable def reg_Conflict_V : TEnv := { pure := [(14, reg_Values_T)], look := [], glob := G0T, ty := [], raw := [], fresh := [] }
theorem reg_Conflict_eq : runY Try.prog reg_Conflict_E reg_Conflict_H reg_Conflict_V reg_Conflict_Y Try.f15 reg_Conflict_T.ps reg_Conflict_T.res = reg_Conflict_T.fn := by kernel_rfl
theorem reg_Conflict_Fok : SoundP Try.prog G0 15 reg_Conflict_F := closeF_sound (runF_sound (P := Try.prog) (E := reg_Conflict_E) (h := reg_Conflict_H) (f := 15) (fn := Try.f15) ⟨same_ok, (envP_cons reg_Values_Fok envP_nil), envS_nil, envP_nil, envX_nil⟩ Try.func15 rfl (by kernel_rfl))
theorem reg_Conflict_ok : TOk reg_Conflict_F reg_Conflict_T := runY_ok (E := reg_Conflict_E) (ET := reg_Conflict_V) (EnvT.ofX (E := reg_Conflict_E) (ET := reg_Conflict_V) (pure_of (pairs_cons reg_Values_ok pairs_nil)) looks_nil raws_nil G0_ok news_nil) reg_Conflict_eq rfl
-- palinode/palinodelaw14.awake
noncomputable def law14_awake_E : Env := { pure := [(8, live_All_F), (10, reg_Latest_F), (13, ref09_Same_F), (14, reg_Values_F), (15, reg_Conflict_F), (17, law14_put_F), (21, law14_num_F)], raw := [], glob := G0, same := [], look := [], ext := [] }
def law14_awake_H : Hints := { seqs := [], loops := [], own := [] }
noncomputable def law14_awake_F : PFn := closeF (runF Try.prog law14_awake_E law14_awake_H Try.f7)
def law14_awake_Y : TH := { joins := [], loops := [], cuts := [], ro := [], news := [] }
noncomputable def law14_awake : Option Bool :=
(law14_num 2).bind fun r1 =>
(law14_put (0, 1, ()) 1 ([[97]] : List (List UInt8)) r1 []).bind fun r2 =>
(law14_num 1).bind fun r3 =>
(law14_put (1, 1, ()) 1 ([[97]] : List (List UInt8)) r3 []).bind fun r4 =>
(live_All ([r2, r4] : List ((Int × Int × Unit) × Int × Int × Bool × List (Int × List (List UInt8) × (Int × Int × List UInt8 × Unit) × Int × List ((Int × Int × Unit) × Int × Unit) × Unit) × Unit)) []).bind fun r5 =>
(reg_Latest r5 ([[97]] : List (List UInt8))).bind fun r6 =>
(reg_Values r5 ([[97]] : List (List UInt8))).bind fun r7 =>
(law14_num 1).bind fun r8 =>
(law14_num 2).bind fun r9 =>
(ref09_Same r7 ([r8, r9] : List (Int × Int × List UInt8 × Unit))).bind fun r10 =>
 cond r10 (cond r6.2.1 ((law14_num 1).bind fun r11 =>
 cond (eqV (.agg (.cons (.int .i64) (.cons (.int .i64) (.cons .str .unit)))) r6.1 r11) ((reg_Conflict r5 ([[97]] : List (List UInt8))).bind fun r12 =>
 some r12) (some false)) (some false)) (some false)
noncomputable def law14_awake_T : TFn := { ps := .unit, res := .bool, fn := fun v => law14_awake  }
noncomputable def law14_awake_V : TEnv := { pure := [(8, live_All_T), (10, reg_Latest_T), (13, ref09_Same_T), (14, reg_Values_T), (15, reg_Conflict_T), (17, law14_put_T), (21, law14_num_T)], look := [], glob := G0T, ty := [(9, .str), (33, (.agg (.cons (.int .i64) (.cons (.int .i64) (.cons .str .unit))))), (48, (.agg (.cons (.agg (.cons (.int .i64) (.cons (.int .i64) .unit))) (.cons (.int .i64) (.cons (.int .i64) (.cons .bool (.cons (.sl (.agg (.cons (.int .i64) (.cons (.sl .str) (.cons (.agg (.cons (.int .i64) (.cons (.int .i64) (.cons .str .unit)))) (.cons (.int .i64) (.cons (.sl (.agg (.cons (.agg (.cons (.int .i64) (.cons (.int .i64) .unit))) (.cons (.int .i64) .unit)))) .unit))))))) .unit)))))))], raw := [], fresh := [] }
theorem law14_awake_eq : runY Try.prog law14_awake_E law14_awake_H law14_awake_V law14_awake_Y Try.f7 law14_awake_T.ps law14_awake_T.res = law14_awake_T.fn := by kernel_rfl
theorem law14_awake_Fok : SoundP Try.prog G0 7 law14_awake_F := closeF_sound (runF_sound (P := Try.prog) (E := law14_awake_E) (h := law14_awake_H) (f := 7) (fn := Try.f7) ⟨same_ok, (envP_cons live_All_Fok (envP_cons reg_Latest_Fok (envP_cons ref09_Same_Fok (envP_cons reg_Values_Fok (envP_cons reg_Conflict_Fok (envP_cons law14_put_Fok (envP_cons law14_num_Fok envP_nil))))))), envS_nil, envP_nil, envX_nil⟩ Try.func7 rfl (by kernel_rfl))
theorem law14_awake_ok : TOk law14_awake_F law14_awake_T := runY_ok (E := law14_awake_E) (ET := law14_awake_V) (EnvT.ofX (E := law14_awake_E) (ET := law14_awake_V) (pure_of (pairs_cons live_All_ok (pairs_cons reg_Latest_ok (pairs_cons ref09_Same_ok (pairs_cons reg_Values_ok (pairs_cons reg_Conflict_ok (pairs_cons law14_put_ok (pairs_cons law14_num_ok pairs_nil)))))))) looks_nil raws_nil G0_ok news_nil) law14_awake_eq rfl
-- palinode/palinodelaw14.RegTells
-- palinode/palinodelaw14.RegBoth
noncomputable def law14_RegBoth_E : Env := { pure := [(7, law14_awake_F), (8, live_All_F), (14, reg_Values_F), (16, ref09_Right_F), (17, law14_put_F), (18, ref09_Compare_F)], raw := [], glob := G0, same := [], look := [], ext := [] }
def law14_RegBoth_H : Hints := { seqs := [], loops := [(6, [0, 3, 4, 5]), (13, [0, 6, 7]), (17, [0, 6, 7, 8, 9]), (24, [0, 6, 10])], own := [40] }
noncomputable def law14_RegBoth_F : PFn := closeF (runF Try.prog law14_RegBoth_E law14_RegBoth_H Try.f4)
def law14_RegBoth_Y : TH := { joins := [(11, { keep := [(4, (.own 0))], mem := [.row true 48 (.agg (.cons (.agg (.cons (.int .i64) (.cons (.int .i64) .unit))) (.cons (.int .i64) (.cons (.int .i64) (.cons .bool (.cons (.sl (.agg (.cons (.int .i64) (.cons (.sl .str) (.cons (.agg (.cons (.int .i64) (.cons (.int .i64) (.cons .str .unit)))) (.cons (.int .i64) (.cons (.sl (.agg (.cons (.agg (.cons (.int .i64) (.cons (.int .i64) .unit))) (.cons (.int .i64) .unit)))) .unit))))))) .unit))))))] }), (23, { keep := [], mem := [.gone] }), (28, { keep := [], mem := [.gone] })], loops := [(6, { keep := [(4, (.own 0)), (5, (.int .i64))], mem := [.row true 48 (.agg (.cons (.agg (.cons (.int .i64) (.cons (.int .i64) .unit))) (.cons (.int .i64) (.cons (.int .i64) (.cons .bool (.cons (.sl (.agg (.cons (.int .i64) (.cons (.sl .str) (.cons (.agg (.cons (.int .i64) (.cons (.int .i64) (.cons .str .unit)))) (.cons (.int .i64) (.cons (.sl (.agg (.cons (.agg (.cons (.int .i64) (.cons (.int .i64) .unit))) (.cons (.int .i64) .unit)))) .unit))))))) .unit))))))] }), (13, { keep := [(7, (.int .i64))], mem := [.gone] }), (17, { keep := [(8, (.int .i64)), (9, (.int .i64))], mem := [.gone] }), (24, { keep := [(10, (.int .i64))], mem := [.gone] })], cuts := [], ro := [], news := [] }
noncomputable def law14_RegBoth_l6 (a0 : List (Int × Int × List UInt8 × Unit)) (y6 : (Int × List ((Int × Int × Unit) × Int × Int × Bool × List (Int × List (List UInt8) × (Int × Int × List UInt8 × Unit) × Int × List ((Int × Int × Unit) × Int × Unit) × Unit) × Unit) × Unit)) : Option ((Int × List ((Int × Int × Unit) × Int × Int × Bool × List (Int × List (List UInt8) × (Int × Int × List UInt8 × Unit) × Int × List ((Int × Int × Unit) × Int × Unit) × Unit) × Unit) × Unit) ⊕ ((List ((Int × Int × Unit) × Int × Int × Bool × List (Int × List (List UInt8) × (Int × Int × List UInt8 × Unit) × Int × List ((Int × Int × Unit) × Int × Unit) × Unit) × Unit) × Unit) ⊕ Bool)) :=
 cond (decide (y6.1 < (a0.length : Int))) (
(atI a0 y6.1).bind fun x2 =>
(ref09_Right x2).bind fun r3 =>
 cond (!r3) (
(law14_awake).bind fun r4 =>
 some (.inr (.inr r4))) (
(atI a0 y6.1).bind fun x5 =>
(law14_put (y6.1, 1, ()) 1 ([[97]] : List (List UInt8)) x5 []).bind fun r6 =>
(roomT (y6.2.1.length + ([r6] : List ((Int × Int × Unit) × Int × Int × Bool × List (Int × List (List UInt8) × (Int × Int × List UInt8 × Unit) × Int × List ((Int × Int × Unit) × Int × Unit) × Unit) × Unit)).length)).bind fun u7 =>
 some (.inl ((IntKind.wrap .i64 (y6.1 + 1)), (y6.2.1 ++ ([r6] : List ((Int × Int × Unit) × Int × Int × Bool × List (Int × List (List UInt8) × (Int × Int × List UInt8 × Unit) × Int × List ((Int × Int × Unit) × Int × Unit) × Unit) × Unit))), ())))) (
 some (.inr (.inl (y6.2.1, ()))))
noncomputable def law14_RegBoth_l17 (y13 : (Int × Unit)) (a0 : List (Int × Int × List UInt8 × Unit)) (r10 : List (Int × Int × List UInt8 × Unit)) (y17 : (Int × Int × Unit)) : Option ((Int × Int × Unit) ⊕ ((Int × Unit) ⊕ (Unit ⊕ Bool))) :=
 cond (decide (y17.2.1 < (r10.length : Int))) (
(atI r10 y17.2.1).bind fun x11 =>
(atI a0 y13.1).bind fun x12 =>
 cond (eqV (.agg (.cons (.int .i64) (.cons (.int .i64) (.cons .str .unit)))) x11 x12) (
 some (.inl ((IntKind.wrap .i64 (y17.1 + 1)), (IntKind.wrap .i64 (y17.2.1 + 1)), ()))) (
 some (.inl (y17.1, (IntKind.wrap .i64 (y17.2.1 + 1)), ())))) (
(cond (!decide (y17.1 = 1)) (
 some (.inr (.inr false))) (
 some (.inl ((IntKind.wrap .i64 (y13.1 + 1)), ())))).map .inr)
noncomputable def law14_RegBoth_l13 (a0 : List (Int × Int × List UInt8 × Unit)) (r10 : List (Int × Int × List UInt8 × Unit)) (y13 : (Int × Unit)) : Option ((Int × Unit) ⊕ (Unit ⊕ Bool)) :=
 cond (decide (y13.1 < (a0.length : Int))) (
 loopT (law14_RegBoth_l17 y13 a0 r10) (0, 0, ())) (
 some (.inr (.inl ())))
noncomputable def law14_RegBoth_l24 (r10 : List (Int × Int × List UInt8 × Unit)) (y24 : (Int × Unit)) : Option ((Int × Unit) ⊕ (Unit ⊕ Bool)) :=
 cond (decide (y24.1 < (r10.length : Int))) (
(atI r10 (IntKind.wrap .i64 (y24.1 - 1))).bind fun x14 =>
(atI r10 y24.1).bind fun x15 =>
(ref09_Compare x14 x15).bind fun r16 =>
 cond (!decide (r16 = (-1))) (
 some (.inr (.inr false))) (
 some (.inl ((IntKind.wrap .i64 (y24.1 + 1)), ())))) (
 some (.inr (.inl ())))
noncomputable def law14_RegBoth (a0 : List (Int × Int × List UInt8 × Unit)) : Option Bool :=
 cond (decide ((a0.length : Int) > 12)) (
(law14_awake).bind fun r1 =>
 some r1) (
(loopT (law14_RegBoth_l6 a0) (0, [], ()) : Option ((List ((Int × Int × Unit) × Int × Int × Bool × List (Int × List (List UInt8) × (Int × Int × List UInt8 × Unit) × Int × List ((Int × Int × Unit) × Int × Unit) × Unit) × Unit) × Unit) ⊕ Bool)).bind (joinS fun v8 =>
(live_All v8.1 []).bind fun r9 =>
(reg_Values r9 ([[97]] : List (List UInt8))).bind fun r10 =>
(loopT (law14_RegBoth_l13 a0 r10) (0, ()) : Option (Unit ⊕ Bool)).bind (joinS fun v13 =>
(loopT (law14_RegBoth_l24 r10) (1, ()) : Option (Unit ⊕ Bool)).bind (joinS fun v17 =>
 cond (decide ((r10.length : Int) ≤ (a0.length : Int))) ((law14_awake).bind fun r18 =>
 some r18) (some false)))))
noncomputable def law14_RegBoth_T : TFn := { ps := (.cons (.sl (.agg (.cons (.int .i64) (.cons (.int .i64) (.cons .str .unit))))) .unit), res := .bool, fn := fun v => law14_RegBoth v.1 }
noncomputable def law14_RegBoth_V : TEnv := { pure := [(7, law14_awake_T), (8, live_All_T), (14, reg_Values_T), (16, ref09_Right_T), (17, law14_put_T), (18, ref09_Compare_T)], look := [], glob := G0T, ty := [(9, .str), (48, (.agg (.cons (.agg (.cons (.int .i64) (.cons (.int .i64) .unit))) (.cons (.int .i64) (.cons (.int .i64) (.cons .bool (.cons (.sl (.agg (.cons (.int .i64) (.cons (.sl .str) (.cons (.agg (.cons (.int .i64) (.cons (.int .i64) (.cons .str .unit)))) (.cons (.int .i64) (.cons (.sl (.agg (.cons (.agg (.cons (.int .i64) (.cons (.int .i64) .unit))) (.cons (.int .i64) .unit)))) .unit))))))) .unit)))))))], raw := [], fresh := [] }
theorem law14_RegBoth_eq : runY Try.prog law14_RegBoth_E law14_RegBoth_H law14_RegBoth_V law14_RegBoth_Y Try.f4 law14_RegBoth_T.ps law14_RegBoth_T.res = law14_RegBoth_T.fn := by kernel_rfl
theorem law14_RegBoth_Fok : SoundP Try.prog G0 4 law14_RegBoth_F := closeF_sound (runF_sound (P := Try.prog) (E := law14_RegBoth_E) (h := law14_RegBoth_H) (f := 4) (fn := Try.f4) ⟨same_ok, (envP_cons law14_awake_Fok (envP_cons live_All_Fok (envP_cons reg_Values_Fok (envP_cons ref09_Right_Fok (envP_cons law14_put_Fok (envP_cons ref09_Compare_Fok envP_nil)))))), envS_nil, envP_nil, envX_nil⟩ Try.func4 rfl (by kernel_rfl))
theorem law14_RegBoth_ok : TOk law14_RegBoth_F law14_RegBoth_T := runY_ok (E := law14_RegBoth_E) (ET := law14_RegBoth_V) (EnvT.ofX (E := law14_RegBoth_E) (ET := law14_RegBoth_V) (pure_of (pairs_cons law14_awake_ok (pairs_cons live_All_ok (pairs_cons reg_Values_ok (pairs_cons ref09_Right_ok (pairs_cons law14_put_ok (pairs_cons ref09_Compare_ok pairs_nil))))))) looks_nil raws_nil G0_ok news_nil) law14_RegBoth_eq rfl
end Go.Proofs.Ytcnhiodbnmploaa.Y
