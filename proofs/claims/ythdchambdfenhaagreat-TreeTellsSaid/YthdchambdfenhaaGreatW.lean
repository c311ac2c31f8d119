import Derived.Shelf.Small.Strs
import Derived.Test.YthdchambdfenhaaGreatProg
import Derived.Test.YthdchambdfenhaaGreatT28
/-
  DERIVED: THE SHELF's CONTRACTS AT THIS DUMP, IN PLAIN WORDS (tools/lay-plain.mjs out of 'TryzShelf.lean', which tools/lay-shelf.mjs wrote): THE SAME DECLARATIONS UNDER THE SAME NAMES: 'import', 'namespace', 'open', 'def', 'theorem' AND NOTHING ELSE: no command of the shelf's: FOR A HAND-IN. Each laying: the table of numbers ('.._ren') and one theorem, a field a fact of the dump's own or the kernel's comparison; each contract: ONE APPLICATION.
-/
namespace Go.Proofs
open Go.Shelf
def Tryz.lays213_ren : Go.Shelf.Ren := ⟨fun | 213 => 56 | 265 => 86 | n => n, fun | 9 => 9 | 3 => 3 | n => n, fun | n => n⟩
theorem Tryz.lays213 : Go.Proofs.Lays.n213 Tryz.prog Tryz.lays213_ren := {
  mixed := by kernel_rfl
  f213 := Tryz.func56.trans (congrArg some (by kernel_rfl))
  f265 := Tryz.func86.trans (congrArg some (by kernel_rfl))
  t3 := Tryz.underlying3
  a3 := Tryz.isAgg3
  z3 := Tryz.sizeOf3
  v3 := Tryz.zeroValue3
  t9 := Tryz.underlying9
  a9 := Tryz.isAgg9
  z9 := Tryz.sizeOf9
  v9 := Tryz.zeroValue9 }
open Go.RowKit in
/-- internal/bytealg.CompareString (what strings.Compare calls): IT RETURNS 'Lib.compareBytes a b'; the world is as it was. (LAID: no walk: one application.) -/
theorem Tryz.bytealg_CompareString (a b : ByteArray) (w : World) :
    Calls Tryz.prog 56 #[.string a, .string b] w fun e w' => e = .returned (.int .i64 (Lib.compareBytes a.data.toList b.data.toList)) ∧ w' = w := Any.bytealg_CompareString Tryz.lays213 a b w
def Tryz.lays106_ren : Go.Shelf.Ren := ⟨fun | 106 => 36 | 213 => 56 | 265 => 86 | n => n, fun | 9 => 9 | 3 => 3 | n => n, fun | n => n⟩
theorem Tryz.lays106 : Go.Proofs.Lays.n106 Tryz.prog Tryz.lays106_ren := {
  mixed := by kernel_rfl
  f106 := Tryz.func36.trans (congrArg some (by kernel_rfl))
  f213 := Tryz.func56.trans (congrArg some (by kernel_rfl))
  f265 := Tryz.func86.trans (congrArg some (by kernel_rfl))
  t3 := Tryz.underlying3
  a3 := Tryz.isAgg3
  z3 := Tryz.sizeOf3
  v3 := Tryz.zeroValue3
  t9 := Tryz.underlying9
  a9 := Tryz.isAgg9
  z9 := Tryz.sizeOf9
  v9 := Tryz.zeroValue9 }
open Go.RowKit in
/-- strings.Compare: "Compare returns an integer comparing two strings lexicographically. The result will be 0 if a == b, -1 if a < b, and +1 if a > b.": IT RETURNS 'Lib.compareBytes a b'; the world is as it was. (LAID: no walk: one application.) -/
theorem Tryz.strings_Compare (a b : ByteArray) (w : World) :
    Calls Tryz.prog 36 #[.string a, .string b] w fun e w' => e = .returned (.int .i64 (Lib.compareBytes a.data.toList b.data.toList)) ∧ w' = w := Any.strings_Compare Tryz.lays106 a b w
end Go.Proofs

set_option linter.unusedVariables false
set_option maxRecDepth 100000
namespace Go.Proofs.YthdchambdfenhaaGreat.Y
open Go.EM Go.TY Go.Proofs
def G0 : List (Nat × AVal) := []
def G0T : List (Nat × TV) := []
theorem G0_ok : GlobsOk G0 G0T := globs_nil
theorem same_ok : ∀ f, memN f [] = true → Same Tryz.prog f := by
  intro f h
  simp_all [memN]
-- palinode/palinoderef04.ints
noncomputable def ref04_ints_E : Env := { pure := [], raw := [], glob := G0, same := [], look := [], ext := [] }
def ref04_ints_H : Hints := { seqs := [], loops := [], own := [] }
noncomputable def ref04_ints_F : PFn := closeF (runF Tryz.prog ref04_ints_E ref04_ints_H Tryz.f87)
def ref04_ints_Y : TH := { joins := [], loops := [], cuts := [], ro := [], news := [] }
noncomputable def ref04_ints (a0 : Int) (a1 : Int) : Option Int :=
 cond (decide (a0 < a1)) (
 some (-1)) (
 cond (decide (a0 > a1)) (
 some 1) (
 some 0))
noncomputable def ref04_ints_T : TFn := { ps := (.cons (.int .i64) (.cons (.int .i64) .unit)), res := (.int .i64), fn := fun v => ref04_ints v.1 v.2.1 }
noncomputable def ref04_ints_V : TEnv := { pure := [], look := [], glob := G0T, ty := [], raw := [], fresh := [] }
theorem ref04_ints_eq : runY Tryz.prog ref04_ints_E ref04_ints_H ref04_ints_V ref04_ints_Y Tryz.f87 ref04_ints_T.ps ref04_ints_T.res = ref04_ints_T.fn := by kernel_rfl
theorem ref04_ints_Fok : SoundP Tryz.prog G0 87 ref04_ints_F := closeF_sound (runF_sound (P := Tryz.prog) (E := ref04_ints_E) (h := ref04_ints_H) (f := 87) (fn := Tryz.f87) ⟨same_ok, envP_nil, envS_nil, envP_nil, envX_nil⟩ Tryz.func87 rfl (by kernel_rfl))
theorem ref04_ints_ok : TOk ref04_ints_F ref04_ints_T := runY_ok (E := ref04_ints_E) (ET := ref04_ints_V) (EnvT.ofX (E := ref04_ints_E) (ET := ref04_ints_V) (pure_of pairs_nil) looks_nil raws_nil G0_ok news_nil) ref04_ints_eq rfl
-- palinode/palinoderef04.Compare
noncomputable def ref04_Compare_E : Env := { pure := [(87, ref04_ints_F)], raw := [], glob := G0, same := [], look := [], ext := [] }
def ref04_Compare_H : Hints := { seqs := [], loops := [], own := [] }
noncomputable def ref04_Compare_F : PFn := closeF (runF Tryz.prog ref04_Compare_E ref04_Compare_H Tryz.f58)
def ref04_Compare_Y : TH := { joins := [], loops := [], cuts := [], ro := [2, 3], news := [] }
noncomputable def ref04_Compare (a0 : (Int × Int × Unit)) (a1 : (Int × Int × Unit)) : Option Int :=
 cond (!decide (a0.1 = a1.1)) (
(ref04_ints a0.1 a1.1).bind fun r1 =>
 some r1) (
(ref04_ints a0.2.1 a1.2.1).bind fun r2 =>
 some r2)
noncomputable def ref04_Compare_T : TFn := { ps := (.cons (.agg (.cons (.int .i64) (.cons (.int .i64) .unit))) (.cons (.agg (.cons (.int .i64) (.cons (.int .i64) .unit))) .unit)), res := (.int .i64), fn := fun v => ref04_Compare v.1 v.2.1 }
noncomputable def ref04_Compare_V : TEnv := { pure := [(87, ref04_ints_T)], look := [], glob := G0T, ty := [], raw := [], fresh := [] }
theorem ref04_Compare_eq : runY Tryz.prog ref04_Compare_E ref04_Compare_H ref04_Compare_V ref04_Compare_Y Tryz.f58 ref04_Compare_T.ps ref04_Compare_T.res = ref04_Compare_T.fn := by kernel_rfl
theorem ref04_Compare_Fok : SoundP Tryz.prog G0 58 ref04_Compare_F := closeF_sound (runF_sound (P := Tryz.prog) (E := ref04_Compare_E) (h := ref04_Compare_H) (f := 58) (fn := Tryz.f58) ⟨same_ok, (envP_cons ref04_ints_Fok envP_nil), envS_nil, envP_nil, envX_nil⟩ Tryz.func58 rfl (by kernel_rfl))
theorem ref04_Compare_ok : TOk ref04_Compare_F ref04_Compare_T := runY_ok (E := ref04_Compare_E) (ET := ref04_Compare_V) (EnvT.ofX (E := ref04_Compare_E) (ET := ref04_Compare_V) (pure_of (pairs_cons ref04_ints_ok pairs_nil)) looks_nil raws_nil G0_ok news_nil) ref04_Compare_eq rfl
-- palinode/palinoderef12.Rises
noncomputable def ref12_Rises_E : Env := { pure := [(58, ref04_Compare_F)], raw := [], glob := G0, same := [], look := [], ext := [] }
def ref12_Rises_H : Hints := { seqs := [], loops := [(2, [0, 3])], own := [] }
noncomputable def ref12_Rises_F : PFn := closeF (runF Tryz.prog ref12_Rises_E ref12_Rises_H Tryz.f40)
def ref12_Rises_Y : TH := { joins := [], loops := [(2, { keep := [(3, (.int .i64))], mem := [] })], cuts := [], ro := [], news := [] }
noncomputable def ref12_Rises_l2 (a0 : List ((Int × Int × Unit) × Int × Int × Bool × List (Int × List (List UInt8) × (Int × Int × List UInt8 × Unit) × Int × List ((Int × Int × Unit) × Int × Unit) × Unit) × Unit)) (y2 : (Int × Unit)) : Option ((Int × Unit) ⊕ Bool) :=
 cond (decide (y2.1 < (a0.length : Int))) (
(atI a0 (IntKind.wrap .i64 (y2.1 - 1))).bind fun x1 =>
(atI a0 y2.1).bind fun x2 =>
(ref04_Compare x1.1 x2.1).bind fun r3 =>
 cond (!decide (r3 = (-1))) (
 some (.inr false)) (
 some (.inl ((IntKind.wrap .i64 (y2.1 + 1)), ())))) (
 some (.inr true))
noncomputable def ref12_Rises (a0 : List ((Int × Int × Unit) × Int × Int × Bool × List (Int × List (List UInt8) × (Int × Int × List UInt8 × Unit) × Int × List ((Int × Int × Unit) × Int × Unit) × Unit) × Unit)) : Option Bool :=
 loopT (ref12_Rises_l2 a0) (1, ())
noncomputable def ref12_Rises_T : TFn := { ps := (.cons (.sl (.agg (.cons (.agg (.cons (.int .i64) (.cons (.int .i64) .unit))) (.cons (.int .i64) (.cons (.int .i64) (.cons .bool (.cons (.sl (.agg (.cons (.int .i64) (.cons (.sl .str) (.cons (.agg (.cons (.int .i64) (.cons (.int .i64) (.cons .str .unit)))) (.cons (.int .i64) (.cons (.sl (.agg (.cons (.agg (.cons (.int .i64) (.cons (.int .i64) .unit))) (.cons (.int .i64) .unit)))) .unit))))))) .unit))))))) .unit), res := .bool, fn := fun v => ref12_Rises v.1 }
noncomputable def ref12_Rises_V : TEnv := { pure := [(58, ref04_Compare_T)], look := [], glob := G0T, ty := [], raw := [], fresh := [] }
theorem ref12_Rises_eq : runY Tryz.prog ref12_Rises_E ref12_Rises_H ref12_Rises_V ref12_Rises_Y Tryz.f40 ref12_Rises_T.ps ref12_Rises_T.res = ref12_Rises_T.fn := by kernel_rfl
theorem ref12_Rises_Fok : SoundP Tryz.prog G0 40 ref12_Rises_F := closeF_sound (runF_sound (P := Tryz.prog) (E := ref12_Rises_E) (h := ref12_Rises_H) (f := 40) (fn := Tryz.f40) ⟨same_ok, (envP_cons ref04_Compare_Fok envP_nil), envS_nil, envP_nil, envX_nil⟩ Tryz.func40 rfl (by kernel_rfl))
theorem ref12_Rises_ok : TOk ref12_Rises_F ref12_Rises_T := runY_ok (E := ref12_Rises_E) (ET := ref12_Rises_V) (EnvT.ofX (E := ref12_Rises_E) (ET := ref12_Rises_V) (pure_of (pairs_cons ref04_Compare_ok pairs_nil)) looks_nil raws_nil G0_ok news_nil) ref12_Rises_eq rfl
-- palinode/palinoderef10.Short
noncomputable def ref10_Short_E : Env := { pure := [], raw := [], glob := G0, same := [], look := [], ext := [] }
def ref10_Short_H : Hints := { seqs := [], loops := [(4, [0, 3])], own := [] }
noncomputable def ref10_Short_F : PFn := closeF (runF Tryz.prog ref10_Short_E ref10_Short_H Tryz.f5)
def ref10_Short_Y : TH := { joins := [], loops := [(4, { keep := [(3, (.int .i64))], mem := [] })], cuts := [], ro := [], news := [] }
noncomputable def ref10_Short_l4 (a0 : List (List UInt8)) (y4 : (Int × Unit)) : Option ((Int × Unit) ⊕ Bool) :=
 cond (decide (y4.1 < (a0.length : Int))) (
(atI a0 y4.1).bind fun x1 =>
 cond (decide ((x1.length : Int) > 120)) (
 some (.inr false)) (
 some (.inl ((IntKind.wrap .i64 (y4.1 + 1)), ())))) (
 some (.inr true))
noncomputable def ref10_Short (a0 : List (List UInt8)) : Option Bool :=
 cond (decide ((a0.length : Int) > 12)) (
 some false) (
 loopT (ref10_Short_l4 a0) (0, ()))
noncomputable def ref10_Short_T : TFn := { ps := (.cons (.sl .str) .unit), res := .bool, fn := fun v => ref10_Short v.1 }
noncomputable def ref10_Short_V : TEnv := { pure := [], look := [], glob := G0T, ty := [], raw := [], fresh := [] }
theorem ref10_Short_eq : runY Tryz.prog ref10_Short_E ref10_Short_H ref10_Short_V ref10_Short_Y Tryz.f5 ref10_Short_T.ps ref10_Short_T.res = ref10_Short_T.fn := by kernel_rfl
theorem ref10_Short_Fok : SoundP Tryz.prog G0 5 ref10_Short_F := closeF_sound (runF_sound (P := Tryz.prog) (E := ref10_Short_E) (h := ref10_Short_H) (f := 5) (fn := Tryz.f5) ⟨same_ok, envP_nil, envS_nil, envP_nil, envX_nil⟩ Tryz.func5 rfl (by kernel_rfl))
theorem ref10_Short_ok : TOk ref10_Short_F ref10_Short_T := runY_ok (E := ref10_Short_E) (ET := ref10_Short_V) (EnvT.ofX (E := ref10_Short_E) (ET := ref10_Short_V) (pure_of pairs_nil) looks_nil raws_nil G0_ok news_nil) ref10_Short_eq rfl
-- palinode/palinoderef11.Short
noncomputable def ref11_Short_E : Env := { pure := [(5, ref10_Short_F)], raw := [], glob := G0, same := [], look := [], ext := [] }
def ref11_Short_H : Hints := { seqs := [], loops := [], own := [] }
noncomputable def ref11_Short_F : PFn := closeF (runF Tryz.prog ref11_Short_E ref11_Short_H Tryz.f59)
def ref11_Short_Y : TH := { joins := [], loops := [], cuts := [], ro := [1], news := [] }
noncomputable def ref11_Short (a0 : (Int × List (List UInt8) × (Int × Int × List UInt8 × Unit) × Int × List ((Int × Int × Unit) × Int × Unit) × Unit)) : Option Bool :=
(ref10_Short a0.2.1).bind fun r1 =>
 cond r1 (cond (decide ((a0.2.2.1.2.2.1.length : Int) ≤ 200)) (some (decide ((a0.2.2.2.2.1.length : Int) ≤ 300))) (some false)) (some false)
noncomputable def ref11_Short_T : TFn := { ps := (.cons (.agg (.cons (.int .i64) (.cons (.sl .str) (.cons (.agg (.cons (.int .i64) (.cons (.int .i64) (.cons .str .unit)))) (.cons (.int .i64) (.cons (.sl (.agg (.cons (.agg (.cons (.int .i64) (.cons (.int .i64) .unit))) (.cons (.int .i64) .unit)))) .unit)))))) .unit), res := .bool, fn := fun v => ref11_Short v.1 }
noncomputable def ref11_Short_V : TEnv := { pure := [(5, ref10_Short_T)], look := [], glob := G0T, ty := [], raw := [], fresh := [] }
theorem ref11_Short_eq : runY Tryz.prog ref11_Short_E ref11_Short_H ref11_Short_V ref11_Short_Y Tryz.f59 ref11_Short_T.ps ref11_Short_T.res = ref11_Short_T.fn := by kernel_rfl
theorem ref11_Short_Fok : SoundP Tryz.prog G0 59 ref11_Short_F := closeF_sound (runF_sound (P := Tryz.prog) (E := ref11_Short_E) (h := ref11_Short_H) (f := 59) (fn := Tryz.f59) ⟨same_ok, (envP_cons ref10_Short_Fok envP_nil), envS_nil, envP_nil, envX_nil⟩ Tryz.func59 rfl (by kernel_rfl))
theorem ref11_Short_ok : TOk ref11_Short_F ref11_Short_T := runY_ok (E := ref11_Short_E) (ET := ref11_Short_V) (EnvT.ofX (E := ref11_Short_E) (ET := ref11_Short_V) (pure_of (pairs_cons ref10_Short_ok pairs_nil)) looks_nil raws_nil G0_ok news_nil) ref11_Short_eq rfl
-- palinode/palinoderef12.Short
noncomputable def ref12_Short_E : Env := { pure := [(59, ref11_Short_F)], raw := [], glob := G0, same := [], look := [], ext := [] }
def ref12_Short_H : Hints := { seqs := [], loops := [(4, [1, 3])], own := [] }
noncomputable def ref12_Short_F : PFn := closeF (runF Tryz.prog ref12_Short_E ref12_Short_H Tryz.f41)
def ref12_Short_Y : TH := { joins := [], loops := [(4, { keep := [(1, (.bx 0 0)), (3, (.int .i64))], mem := [.same] })], cuts := [], ro := [1], news := [] }
noncomputable def ref12_Short_l4 (a0 : ((Int × Int × Unit) × Int × Int × Bool × List (Int × List (List UInt8) × (Int × Int × List UInt8 × Unit) × Int × List ((Int × Int × Unit) × Int × Unit) × Unit) × Unit)) (y4 : (Int × Unit)) : Option ((Int × Unit) ⊕ Bool) :=
 cond (decide (y4.1 < (a0.2.2.2.2.1.length : Int))) (
(atI a0.2.2.2.2.1 y4.1).bind fun x1 =>
(ref11_Short x1).bind fun r2 =>
 cond (!r2) (
 some (.inr false)) (
 some (.inl ((IntKind.wrap .i64 (y4.1 + 1)), ())))) (
 some (.inr true))
noncomputable def ref12_Short (a0 : ((Int × Int × Unit) × Int × Int × Bool × List (Int × List (List UInt8) × (Int × Int × List UInt8 × Unit) × Int × List ((Int × Int × Unit) × Int × Unit) × Unit) × Unit)) : Option Bool :=
 cond (decide ((a0.2.2.2.2.1.length : Int) > 20)) (
 some false) (
 loopT (ref12_Short_l4 a0) (0, ()))
noncomputable def ref12_Short_T : TFn := { ps := (.cons (.agg (.cons (.agg (.cons (.int .i64) (.cons (.int .i64) .unit))) (.cons (.int .i64) (.cons (.int .i64) (.cons .bool (.cons (.sl (.agg (.cons (.int .i64) (.cons (.sl .str) (.cons (.agg (.cons (.int .i64) (.cons (.int .i64) (.cons .str .unit)))) (.cons (.int .i64) (.cons (.sl (.agg (.cons (.agg (.cons (.int .i64) (.cons (.int .i64) .unit))) (.cons (.int .i64) .unit)))) .unit))))))) .unit)))))) .unit), res := .bool, fn := fun v => ref12_Short v.1 }
noncomputable def ref12_Short_V : TEnv := { pure := [(59, ref11_Short_T)], look := [], glob := G0T, ty := [], raw := [], fresh := [] }
theorem ref12_Short_eq : runY Tryz.prog ref12_Short_E ref12_Short_H ref12_Short_V ref12_Short_Y Tryz.f41 ref12_Short_T.ps ref12_Short_T.res = ref12_Short_T.fn := by kernel_rfl
theorem ref12_Short_Fok : SoundP Tryz.prog G0 41 ref12_Short_F := closeF_sound (runF_sound (P := Tryz.prog) (E := ref12_Short_E) (h := ref12_Short_H) (f := 41) (fn := Tryz.f41) ⟨same_ok, (envP_cons ref11_Short_Fok envP_nil), envS_nil, envP_nil, envX_nil⟩ Tryz.func41 rfl (by kernel_rfl))
theorem ref12_Short_ok : TOk ref12_Short_F ref12_Short_T := runY_ok (E := ref12_Short_E) (ET := ref12_Short_V) (EnvT.ofX (E := ref12_Short_E) (ET := ref12_Short_V) (pure_of (pairs_cons ref11_Short_ok pairs_nil)) looks_nil raws_nil G0_ok news_nil) ref12_Short_eq rfl
-- palinode/palinoderef04.Right
noncomputable def ref04_Right_E : Env := { pure := [], raw := [], glob := G0, same := [], look := [], ext := [] }
def ref04_Right_H : Hints := { seqs := [], loops := [], own := [] }
noncomputable def ref04_Right_F : PFn := closeF (runF Tryz.prog ref04_Right_E ref04_Right_H Tryz.f60)
def ref04_Right_Y : TH := { joins := [], loops := [], cuts := [], ro := [1], news := [] }
noncomputable def ref04_Right (a0 : (Int × Int × Unit)) : Option Bool :=
 cond (decide (a0.1 ≥ 0)) (cond (decide (a0.1 ≤ 15)) (cond (decide (a0.2.1 ≥ 1)) (some (decide (a0.2.1 ≤ 1048576))) (some false)) (some false)) (some false)
noncomputable def ref04_Right_T : TFn := { ps := (.cons (.agg (.cons (.int .i64) (.cons (.int .i64) .unit))) .unit), res := .bool, fn := fun v => ref04_Right v.1 }
noncomputable def ref04_Right_V : TEnv := { pure := [], look := [], glob := G0T, ty := [], raw := [], fresh := [] }
theorem ref04_Right_eq : runY Tryz.prog ref04_Right_E ref04_Right_H ref04_Right_V ref04_Right_Y Tryz.f60 ref04_Right_T.ps ref04_Right_T.res = ref04_Right_T.fn := by kernel_rfl
theorem ref04_Right_Fok : SoundP Tryz.prog G0 60 ref04_Right_F := closeF_sound (runF_sound (P := Tryz.prog) (E := ref04_Right_E) (h := ref04_Right_H) (f := 60) (fn := Tryz.f60) ⟨same_ok, envP_nil, envS_nil, envP_nil, envX_nil⟩ Tryz.func60 rfl (by kernel_rfl))
theorem ref04_Right_ok : TOk ref04_Right_F ref04_Right_T := runY_ok (E := ref04_Right_E) (ET := ref04_Right_V) (EnvT.ofX (E := ref04_Right_E) (ET := ref04_Right_V) (pure_of pairs_nil) looks_nil raws_nil G0_ok news_nil) ref04_Right_eq rfl
-- palinode/palinoderef03.Char
noncomputable def ref03_Char_E : Env := { pure := [], raw := [], glob := G0, same := [], look := [], ext := [] }
def ref03_Char_H : Hints := { seqs := [], loops := [(17, [0, 4, 5, 6, 7])], own := [] }
noncomputable def ref03_Char_F : PFn := closeF (runF Tryz.prog ref03_Char_E ref03_Char_H Tryz.f110)
def ref03_Char_Y : TH := { joins := [(14, { keep := [(4, (.int .i64)), (5, (.int .i64)), (6, (.int .i64))], mem := [] }), (9, { keep := [(18, .bool)], mem := [] }), (22, { keep := [(4, (.int .i64))], mem := [] }), (24, { keep := [], mem := [] })], loops := [(17, { keep := [(4, (.int .i64)), (7, (.int .i64))], mem := [] })], cuts := [], ro := [], news := [] }
noncomputable def ref03_Char_l17 (a0 : List UInt8) (v3 : (Int × Int × Int × Unit)) (y17 : (Int × Int × Unit)) : Option ((Int × Int × Unit) ⊕ ((Int × Unit) ⊕ (Int × Int × Unit))) :=
 cond (decide (y17.2.1 < v3.2.1)) (
(atI a0 y17.2.1).bind fun b4 =>
 cond (decide ((b4.toNat : Int) < 128)) (some (.inr (.inr (0, 0, ())))) ((atI a0 y17.2.1).bind fun b5 =>
 cond (decide ((b5.toNat : Int) > 191)) (
 some (.inr (.inr (0, 0, ())))) (
(atI a0 y17.2.1).bind fun b6 =>
 some (.inl ((IntKind.wrap .i64 ((IntKind.wrap .i64 ((IntKind.wrap .i64 (64 * y17.1)) + (IntKind.wrap .i64 (b6.toNat : Int)))) - 128)), (IntKind.wrap .i64 (y17.2.1 + 1)), ()))))) (
 some (.inr (.inl (y17.1, ()))))
noncomputable def ref03_Char (a0 : List UInt8) : Option (Int × Int × Unit) :=
 cond (decide ((a0.length : Int) = 0)) (
 some (0, 0, ())) (
(atI a0 0).bind fun b1 =>
(cond (decide ((IntKind.wrap .i64 (b1.toNat : Int)) < 128)) (
 some (.inr ((IntKind.wrap .i64 (b1.toNat : Int)), 1, ()))) (
(cond (decide ((IntKind.wrap .i64 (b1.toNat : Int)) ≥ 194)) (some (.inl ((decide ((IntKind.wrap .i64 (b1.toNat : Int)) < 224)), ()))) (some (.inl (false, ()))) : Option ((Bool × Unit) ⊕ ((Int × Int × Int × Unit) ⊕ (Int × Int × Unit)))).bind (joinS fun v2 =>
 cond v2.1 (
 some (.inl ((IntKind.wrap .i64 ((IntKind.wrap .i64 (b1.toNat : Int)) - 192)), 2, 128, ()))) (
 cond (decide ((IntKind.wrap .i64 (b1.toNat : Int)) ≥ 224)) (cond (decide ((IntKind.wrap .i64 (b1.toNat : Int)) < 240)) (
 some (.inl ((IntKind.wrap .i64 ((IntKind.wrap .i64 (b1.toNat : Int)) - 224)), 3, 2048, ()))) (
 cond (decide ((IntKind.wrap .i64 (b1.toNat : Int)) ≥ 240)) (cond (decide ((IntKind.wrap .i64 (b1.toNat : Int)) < 245)) (
 some (.inl ((IntKind.wrap .i64 ((IntKind.wrap .i64 (b1.toNat : Int)) - 240)), 4, 65536, ()))) (
 some (.inr (0, 0, ())))) (some (.inr (0, 0, ()))))) (cond (decide ((IntKind.wrap .i64 (b1.toNat : Int)) ≥ 240)) (cond (decide ((IntKind.wrap .i64 (b1.toNat : Int)) < 245)) (
 some (.inl ((IntKind.wrap .i64 ((IntKind.wrap .i64 (b1.toNat : Int)) - 240)), 4, 65536, ()))) (
 some (.inr (0, 0, ())))) (some (.inr (0, 0, ()))))))) : Option ((Int × Int × Int × Unit) ⊕ (Int × Int × Unit))).bind (joinS fun v3 =>
 cond (decide ((a0.length : Int) < v3.2.1)) (
 some (0, 0, ())) (
(loopT (ref03_Char_l17 a0 v3) (v3.1, 1, ()) : Option ((Int × Unit) ⊕ (Int × Int × Unit))).bind (joinS fun v7 =>
(cond (decide (v7.1 < v3.2.2.1)) (some (.inr (0, 0, ()))) (cond (decide (v7.1 > 1114111)) (some (.inr (0, 0, ()))) (cond (decide (v7.1 ≥ 55296)) (cond (decide (v7.1 ≤ 57343)) (
 some (.inr (0, 0, ()))) (
 some (.inl ()))) (some (.inl ())))) : Option (Unit ⊕ (Int × Int × Unit))).bind (joinS fun v8 =>
 some (v7.1, v3.2.1, ()))))))
noncomputable def ref03_Char_T : TFn := { ps := (.cons .str .unit), res := (.tup (.cons (.int .i64) (.cons (.int .i64) .unit))), fn := fun v => ref03_Char v.1 }
noncomputable def ref03_Char_V : TEnv := { pure := [], look := [], glob := G0T, ty := [], raw := [], fresh := [] }
theorem ref03_Char_eq : runY Tryz.prog ref03_Char_E ref03_Char_H ref03_Char_V ref03_Char_Y Tryz.f110 ref03_Char_T.ps ref03_Char_T.res = ref03_Char_T.fn := by kernel_rfl
theorem ref03_Char_Fok : SoundP Tryz.prog G0 110 ref03_Char_F := closeF_sound (runF_sound (P := Tryz.prog) (E := ref03_Char_E) (h := ref03_Char_H) (f := 110) (fn := Tryz.f110) ⟨same_ok, envP_nil, envS_nil, envP_nil, envX_nil⟩ Tryz.func110 rfl (by kernel_rfl))
theorem ref03_Char_ok : TOk ref03_Char_F ref03_Char_T := runY_ok (E := ref03_Char_E) (ET := ref03_Char_V) (EnvT.ofX (E := ref03_Char_E) (ET := ref03_Char_V) (pure_of pairs_nil) looks_nil raws_nil G0_ok news_nil) ref03_Char_eq rfl
-- palinode/palinoderef03.Runes
noncomputable def ref03_Runes_E : Env := { pure := [(110, ref03_Char_F)], raw := [], glob := G0, same := [], look := [], ext := [] }
def ref03_Runes_H : Hints := { seqs := [], loops := [(3, [0, 4, 5])], own := [] }
noncomputable def ref03_Runes_F : PFn := closeF (runF Tryz.prog ref03_Runes_E ref03_Runes_H Tryz.f103)
def ref03_Runes_Y : TH := { joins := [], loops := [(3, { keep := [(4, (.own 0)), (5, (.int .i64))], mem := [.row true 3 (.int .i64)] })], cuts := [], ro := [], news := [] }
noncomputable def ref03_Runes_l3 (a0 : List UInt8) (y3 : (Int × List Int × Unit)) : Option ((Int × List Int × Unit) ⊕ (List Int × Bool × Unit)) :=
 cond (decide (y3.1 < (a0.length : Int))) (
(subI a0 y3.1 (a0.length : Int)).bind fun s1 =>
(ref03_Char s1).bind fun r2 =>
 cond (decide (r2.2.1 = 0)) (
 some (.inr ([], false, ()))) (
(roomT (y3.2.1.length + ([r2.1] : List Int).length)).bind fun u3 =>
 some (.inl ((IntKind.wrap .i64 (y3.1 + r2.2.1)), (y3.2.1 ++ ([r2.1] : List Int)), ())))) (
 some (.inr (y3.2.1, true, ())))
noncomputable def ref03_Runes (a0 : List UInt8) : Option (List Int × Bool × Unit) :=
 loopT (ref03_Runes_l3 a0) (0, [], ())
noncomputable def ref03_Runes_T : TFn := { ps := (.cons .str .unit), res := (.tup (.cons (.sl (.int .i64)) (.cons .bool .unit))), fn := fun v => ref03_Runes v.1 }
noncomputable def ref03_Runes_V : TEnv := { pure := [(110, ref03_Char_T)], look := [], glob := G0T, ty := [(3, (.int .i64))], raw := [], fresh := [] }
theorem ref03_Runes_eq : runY Tryz.prog ref03_Runes_E ref03_Runes_H ref03_Runes_V ref03_Runes_Y Tryz.f103 ref03_Runes_T.ps ref03_Runes_T.res = ref03_Runes_T.fn := by kernel_rfl
theorem ref03_Runes_Fok : SoundP Tryz.prog G0 103 ref03_Runes_F := closeF_sound (runF_sound (P := Tryz.prog) (E := ref03_Runes_E) (h := ref03_Runes_H) (f := 103) (fn := Tryz.f103) ⟨same_ok, (envP_cons ref03_Char_Fok envP_nil), envS_nil, envP_nil, envX_nil⟩ Tryz.func103 rfl (by kernel_rfl))
theorem ref03_Runes_ok : TOk ref03_Runes_F ref03_Runes_T := runY_ok (E := ref03_Runes_E) (ET := ref03_Runes_V) (EnvT.ofX (E := ref03_Runes_E) (ET := ref03_Runes_V) (pure_of (pairs_cons ref03_Char_ok pairs_nil)) looks_nil raws_nil G0_ok news_nil) ref03_Runes_eq rfl
-- palinode/palinoderef03.may
noncomputable def ref03_may_E : Env := { pure := [], raw := [], glob := G0, same := [], look := [], ext := [] }
def ref03_may_H : Hints := { seqs := [], loops := [], own := [] }
noncomputable def ref03_may_F : PFn := closeF (runF Tryz.prog ref03_may_E ref03_may_H Tryz.f109)
def ref03_may_Y : TH := { joins := [], loops := [], cuts := [], ro := [], news := [] }
noncomputable def ref03_may (a0 : Int) : Option Bool :=
 cond (decide (a0 ≥ 32)) (cond (decide (a0 < 127)) (some (!decide (a0 = 65533))) (cond (decide (a0 > 159)) (some (!decide (a0 = 65533))) (some false))) (some false)
noncomputable def ref03_may_T : TFn := { ps := (.cons (.int .i64) .unit), res := .bool, fn := fun v => ref03_may v.1 }
noncomputable def ref03_may_V : TEnv := { pure := [], look := [], glob := G0T, ty := [], raw := [], fresh := [] }
theorem ref03_may_eq : runY Tryz.prog ref03_may_E ref03_may_H ref03_may_V ref03_may_Y Tryz.f109 ref03_may_T.ps ref03_may_T.res = ref03_may_T.fn := by kernel_rfl
theorem ref03_may_Fok : SoundP Tryz.prog G0 109 ref03_may_F := closeF_sound (runF_sound (P := Tryz.prog) (E := ref03_may_E) (h := ref03_may_H) (f := 109) (fn := Tryz.f109) ⟨same_ok, envP_nil, envS_nil, envP_nil, envX_nil⟩ Tryz.func109 rfl (by kernel_rfl))
theorem ref03_may_ok : TOk ref03_may_F ref03_may_T := runY_ok (E := ref03_may_E) (ET := ref03_may_V) (EnvT.ofX (E := ref03_may_E) (ET := ref03_may_V) (pure_of pairs_nil) looks_nil raws_nil G0_ok news_nil) ref03_may_eq rfl
-- palinode/palinoderef03.Right
noncomputable def ref03_Right_E : Env := { pure := [(103, ref03_Runes_F), (109, ref03_may_F)], raw := [], glob := G0, same := [], look := [], ext := [] }
def ref03_Right_H : Hints := { seqs := [], loops := [(3, [3, 4, 5])], own := [] }
noncomputable def ref03_Right_F : PFn := closeF (runF Tryz.prog ref03_Right_E ref03_Right_H Tryz.f102)
def ref03_Right_Y : TH := { joins := [(7, { keep := [], mem := [] })], loops := [(3, { keep := [(5, (.int .i64))], mem := [] })], cuts := [], ro := [], news := [] }
noncomputable def ref03_Right_l3 (r1 : (List Int × Bool × Unit)) (y3 : (Int × Unit)) : Option ((Int × Unit) ⊕ (Unit ⊕ Bool)) :=
 cond (decide (y3.1 < (r1.1.length : Int))) (
(atI r1.1 y3.1).bind fun x2 =>
(ref03_may x2).bind fun r3 =>
 cond (!r3) (
 some (.inr (.inr false))) (
 some (.inl ((IntKind.wrap .i64 (y3.1 + 1)), ())))) (
 some (.inr (.inl ())))
noncomputable def ref03_Right (a0 : List UInt8) : Option Bool :=
(ref03_Runes a0).bind fun r1 =>
(loopT (ref03_Right_l3 r1) (0, ()) : Option (Unit ⊕ Bool)).bind (joinS fun v4 =>
 cond r1.2.1 (cond (decide ((r1.1.length : Int) ≥ 1)) (some (decide ((r1.1.length : Int) ≤ 24))) (some false)) (some false))
noncomputable def ref03_Right_T : TFn := { ps := (.cons .str .unit), res := .bool, fn := fun v => ref03_Right v.1 }
noncomputable def ref03_Right_V : TEnv := { pure := [(103, ref03_Runes_T), (109, ref03_may_T)], look := [], glob := G0T, ty := [], raw := [], fresh := [] }
theorem ref03_Right_eq : runY Tryz.prog ref03_Right_E ref03_Right_H ref03_Right_V ref03_Right_Y Tryz.f102 ref03_Right_T.ps ref03_Right_T.res = ref03_Right_T.fn := by kernel_rfl
theorem ref03_Right_Fok : SoundP Tryz.prog G0 102 ref03_Right_F := closeF_sound (runF_sound (P := Tryz.prog) (E := ref03_Right_E) (h := ref03_Right_H) (f := 102) (fn := Tryz.f102) ⟨same_ok, (envP_cons ref03_Runes_Fok (envP_cons ref03_may_Fok envP_nil)), envS_nil, envP_nil, envX_nil⟩ Tryz.func102 rfl (by kernel_rfl))
theorem ref03_Right_ok : TOk ref03_Right_F ref03_Right_T := runY_ok (E := ref03_Right_E) (ET := ref03_Right_V) (EnvT.ofX (E := ref03_Right_E) (ET := ref03_Right_V) (pure_of (pairs_cons ref03_Runes_ok (pairs_cons ref03_may_ok pairs_nil))) looks_nil raws_nil G0_ok news_nil) ref03_Right_eq rfl
-- palinode/palinoderef10.Check
noncomputable def ref10_Check_E : Env := { pure := [(102, ref03_Right_F)], raw := [], glob := G0, same := [], look := [], ext := [] }
def ref10_Check_H : Hints := { seqs := [], loops := [(6, [0, 3])], own := [] }
noncomputable def ref10_Check_F : PFn := closeF (runF Tryz.prog ref10_Check_E ref10_Check_H Tryz.f88)
def ref10_Check_Y : TH := { joins := [], loops := [(6, { keep := [(3, (.int .i64))], mem := [] })], cuts := [], ro := [], news := [] }
noncomputable def ref10_Check_l6 (a0 : List (List UInt8)) (y6 : (Int × Unit)) : Option ((Int × Unit) ⊕ Int) :=
 cond (decide (y6.1 < (a0.length : Int))) (
(atI a0 y6.1).bind fun x1 =>
(ref03_Right x1).bind fun r2 =>
 cond (!r2) (
 some (.inr 8)) (
 some (.inl ((IntKind.wrap .i64 (y6.1 + 1)), ())))) (
 some (.inr 0))
noncomputable def ref10_Check (a0 : List (List UInt8)) : Option Int :=
 cond (decide ((a0.length : Int) = 0)) (
 some 8) (
 cond (decide ((a0.length : Int) > 8)) (
 some 9) (
 loopT (ref10_Check_l6 a0) (0, ())))
noncomputable def ref10_Check_T : TFn := { ps := (.cons (.sl .str) .unit), res := (.int .i64), fn := fun v => ref10_Check v.1 }
noncomputable def ref10_Check_V : TEnv := { pure := [(102, ref03_Right_T)], look := [], glob := G0T, ty := [], raw := [], fresh := [] }
theorem ref10_Check_eq : runY Tryz.prog ref10_Check_E ref10_Check_H ref10_Check_V ref10_Check_Y Tryz.f88 ref10_Check_T.ps ref10_Check_T.res = ref10_Check_T.fn := by kernel_rfl
theorem ref10_Check_Fok : SoundP Tryz.prog G0 88 ref10_Check_F := closeF_sound (runF_sound (P := Tryz.prog) (E := ref10_Check_E) (h := ref10_Check_H) (f := 88) (fn := Tryz.f88) ⟨same_ok, (envP_cons ref03_Right_Fok envP_nil), envS_nil, envP_nil, envX_nil⟩ Tryz.func88 rfl (by kernel_rfl))
theorem ref10_Check_ok : TOk ref10_Check_F ref10_Check_T := runY_ok (E := ref10_Check_E) (ET := ref10_Check_V) (EnvT.ofX (E := ref10_Check_E) (ET := ref10_Check_V) (pure_of (pairs_cons ref03_Right_ok pairs_nil)) looks_nil raws_nil G0_ok news_nil) ref10_Check_eq rfl
-- palinode/palinoderef09.Right
noncomputable def ref09_Right_E : Env := { pure := [(103, ref03_Runes_F)], raw := [], glob := G0, same := [], look := [], ext := [] }
def ref09_Right_H : Hints := { seqs := [], loops := [], own := [] }
noncomputable def ref09_Right_F : PFn := closeF (runF Tryz.prog ref09_Right_E ref09_Right_H Tryz.f89)
def ref09_Right_Y : TH := { joins := [], loops := [], cuts := [], ro := [1], news := [] }
noncomputable def ref09_Right (a0 : (Int × Int × List UInt8 × Unit)) : Option Bool :=
 cond (decide (a0.1 = 1)) (
 cond (decide (a0.2.2.1 = [])) (cond (decide (a0.2.1 ≥ (-2147483647))) (some (decide (a0.2.1 ≤ 2147483647))) (some false)) (some false)) (
 cond (decide (a0.1 = 2)) (
(ref03_Runes a0.2.2.1).bind fun r1 =>
 cond (decide (a0.2.1 = 0)) (cond r1.2.1 (some (decide ((a0.2.2.1.length : Int) ≤ 64))) (some false)) (some false)) (
 cond (decide (a0.1 = 3)) (cond (decide (a0.2.2.1 = [])) (cond (decide (a0.2.1 ≥ 0)) (some (decide (a0.2.1 ≤ 1))) (some false)) (some false)) (some false)))
noncomputable def ref09_Right_T : TFn := { ps := (.cons (.agg (.cons (.int .i64) (.cons (.int .i64) (.cons .str .unit)))) .unit), res := .bool, fn := fun v => ref09_Right v.1 }
noncomputable def ref09_Right_V : TEnv := { pure := [(103, ref03_Runes_T)], look := [], glob := G0T, ty := [], raw := [], fresh := [] }
theorem ref09_Right_eq : runY Tryz.prog ref09_Right_E ref09_Right_H ref09_Right_V ref09_Right_Y Tryz.f89 ref09_Right_T.ps ref09_Right_T.res = ref09_Right_T.fn := by kernel_rfl
theorem ref09_Right_Fok : SoundP Tryz.prog G0 89 ref09_Right_F := closeF_sound (runF_sound (P := Tryz.prog) (E := ref09_Right_E) (h := ref09_Right_H) (f := 89) (fn := Tryz.f89) ⟨same_ok, (envP_cons ref03_Runes_Fok envP_nil), envS_nil, envP_nil, envX_nil⟩ Tryz.func89 rfl (by kernel_rfl))
theorem ref09_Right_ok : TOk ref09_Right_F ref09_Right_T := runY_ok (E := ref09_Right_E) (ET := ref09_Right_V) (EnvT.ofX (E := ref09_Right_E) (ET := ref09_Right_V) (pure_of (pairs_cons ref03_Runes_ok pairs_nil)) looks_nil raws_nil G0_ok news_nil) ref09_Right_eq rfl
-- palinode/palinoderef04.Refs
noncomputable def ref04_Refs_E : Env := { pure := [(58, ref04_Compare_F), (87, ref04_ints_F)], raw := [], glob := G0, same := [], look := [], ext := [] }
def ref04_Refs_H : Hints := { seqs := [], loops := [], own := [] }
noncomputable def ref04_Refs_F : PFn := closeF (runF Tryz.prog ref04_Refs_E ref04_Refs_H Tryz.f104)
def ref04_Refs_Y : TH := { joins := [], loops := [], cuts := [], ro := [2, 3], news := [] }
noncomputable def ref04_Refs (a0 : ((Int × Int × Unit) × Int × Unit)) (a1 : ((Int × Int × Unit) × Int × Unit)) : Option Int :=
(ref04_Compare a0.1 a1.1).bind fun r1 =>
 cond (!decide (r1 = 0)) (
(ref04_Compare a0.1 a1.1).bind fun r2 =>
 some r2) (
(ref04_ints a0.2.1 a1.2.1).bind fun r3 =>
 some r3)
noncomputable def ref04_Refs_T : TFn := { ps := (.cons (.agg (.cons (.agg (.cons (.int .i64) (.cons (.int .i64) .unit))) (.cons (.int .i64) .unit))) (.cons (.agg (.cons (.agg (.cons (.int .i64) (.cons (.int .i64) .unit))) (.cons (.int .i64) .unit))) .unit)), res := (.int .i64), fn := fun v => ref04_Refs v.1 v.2.1 }
noncomputable def ref04_Refs_V : TEnv := { pure := [(58, ref04_Compare_T), (87, ref04_ints_T)], look := [], glob := G0T, ty := [], raw := [], fresh := [] }
theorem ref04_Refs_eq : runY Tryz.prog ref04_Refs_E ref04_Refs_H ref04_Refs_V ref04_Refs_Y Tryz.f104 ref04_Refs_T.ps ref04_Refs_T.res = ref04_Refs_T.fn := by kernel_rfl
theorem ref04_Refs_Fok : SoundP Tryz.prog G0 104 ref04_Refs_F := closeF_sound (runF_sound (P := Tryz.prog) (E := ref04_Refs_E) (h := ref04_Refs_H) (f := 104) (fn := Tryz.f104) ⟨same_ok, (envP_cons ref04_Compare_Fok (envP_cons ref04_ints_Fok envP_nil)), envS_nil, envP_nil, envX_nil⟩ Tryz.func104 rfl (by kernel_rfl))
theorem ref04_Refs_ok : TOk ref04_Refs_F ref04_Refs_T := runY_ok (E := ref04_Refs_E) (ET := ref04_Refs_V) (EnvT.ofX (E := ref04_Refs_E) (ET := ref04_Refs_V) (pure_of (pairs_cons ref04_Compare_ok (pairs_cons ref04_ints_ok pairs_nil))) looks_nil raws_nil G0_ok news_nil) ref04_Refs_eq rfl
-- palinode/palinoderef11.Refs
noncomputable def ref11_Refs_E : Env := { pure := [(60, ref04_Right_F), (104, ref04_Refs_F)], raw := [], glob := G0, same := [], look := [], ext := [] }
def ref11_Refs_H : Hints := { seqs := [], loops := [(2, [0, 3])], own := [] }
noncomputable def ref11_Refs_F : PFn := closeF (runF Tryz.prog ref11_Refs_E ref11_Refs_H Tryz.f90)
def ref11_Refs_Y : TH := { joins := [], loops := [(2, { keep := [(3, (.int .i64))], mem := [] })], cuts := [], ro := [], news := [] }
noncomputable def ref11_Refs_l2 (a0 : List ((Int × Int × Unit) × Int × Unit)) (y2 : (Int × Unit)) : Option ((Int × Unit) ⊕ Bool) :=
 cond (decide (y2.1 < (a0.length : Int))) (
(atI a0 y2.1).bind fun x1 =>
(ref04_Right x1.1).bind fun r2 =>
 cond (!r2) (some (.inr false)) ((atI a0 y2.1).bind fun x3 =>
 cond (decide (x3.2.1 < 0)) (some (.inr false)) ((atI a0 y2.1).bind fun x4 =>
 cond (decide (x4.2.1 > 15)) (
 some (.inr false)) (
 cond (decide (y2.1 > 0)) ((atI a0 (IntKind.wrap .i64 (y2.1 - 1))).bind fun x5 =>
(atI a0 y2.1).bind fun x6 =>
(ref04_Refs x5 x6).bind fun r7 =>
 cond (!decide (r7 = (-1))) (
 some (.inr false)) (
 some (.inl ((IntKind.wrap .i64 (y2.1 + 1)), ())))) (some (.inl ((IntKind.wrap .i64 (y2.1 + 1)), ()))))))) (
 some (.inr true))
noncomputable def ref11_Refs (a0 : List ((Int × Int × Unit) × Int × Unit)) : Option Bool :=
 loopT (ref11_Refs_l2 a0) (0, ())
noncomputable def ref11_Refs_T : TFn := { ps := (.cons (.sl (.agg (.cons (.agg (.cons (.int .i64) (.cons (.int .i64) .unit))) (.cons (.int .i64) .unit)))) .unit), res := .bool, fn := fun v => ref11_Refs v.1 }
noncomputable def ref11_Refs_V : TEnv := { pure := [(60, ref04_Right_T), (104, ref04_Refs_T)], look := [], glob := G0T, ty := [], raw := [], fresh := [] }
theorem ref11_Refs_eq : runY Tryz.prog ref11_Refs_E ref11_Refs_H ref11_Refs_V ref11_Refs_Y Tryz.f90 ref11_Refs_T.ps ref11_Refs_T.res = ref11_Refs_T.fn := by kernel_rfl
theorem ref11_Refs_Fok : SoundP Tryz.prog G0 90 ref11_Refs_F := closeF_sound (runF_sound (P := Tryz.prog) (E := ref11_Refs_E) (h := ref11_Refs_H) (f := 90) (fn := Tryz.f90) ⟨same_ok, (envP_cons ref04_Right_Fok (envP_cons ref04_Refs_Fok envP_nil)), envS_nil, envP_nil, envX_nil⟩ Tryz.func90 rfl (by kernel_rfl))
theorem ref11_Refs_ok : TOk ref11_Refs_F ref11_Refs_T := runY_ok (E := ref11_Refs_E) (ET := ref11_Refs_V) (EnvT.ofX (E := ref11_Refs_E) (ET := ref11_Refs_V) (pure_of (pairs_cons ref04_Right_ok (pairs_cons ref04_Refs_ok pairs_nil))) looks_nil raws_nil G0_ok news_nil) ref11_Refs_eq rfl
-- palinode/palinoderef11.Check
noncomputable def ref11_Check_E : Env := { pure := [(88, ref10_Check_F), (89, ref09_Right_F), (90, ref11_Refs_F)], raw := [], glob := G0, same := [], look := [], ext := [] }
def ref11_Check_H : Hints := { seqs := [], loops := [], own := [] }
noncomputable def ref11_Check_F : PFn := closeF (runF Tryz.prog ref11_Check_E ref11_Check_H Tryz.f61)
def ref11_Check_Y : TH := { joins := [(9, { keep := [(1, (.bx 0 0))], mem := [.same, .gone] }), (11, { keep := [(1, (.bx 0 0))], mem := [.same, .gone] }), (13, { keep := [(1, (.bx 0 0))], mem := [.same, .gone] }), (15, { keep := [(1, (.bx 0 0))], mem := [.same, .gone] })], loops := [], cuts := [(11, [(8, { keep := [(1, (.bx 0 0)), (55, .bool)], mem := [.same, .gone] })])], ro := [1], news := [] }
noncomputable def ref11_Check (a0 : (Int × List (List UInt8) × (Int × Int × List UInt8 × Unit) × Int × List ((Int × Int × Unit) × Int × Unit) × Unit)) : Option Int :=
 cond (decide (a0.1 < 1)) (some 18) (cond (decide (a0.1 > 5)) (
 some 18) (
(ref10_Check a0.2.1).bind fun r1 =>
 cond (!decide (r1 = 0)) (
 some r1) (
(cond (decide (a0.1 = 3)) (cond (!(eqV (.agg (.cons (.int .i64) (.cons (.int .i64) (.cons .str .unit)))) a0.2.2.1 (0, 0, [], ()))) (
 some (.inr 2)) (
 some (.inl ()))) (cond (decide (a0.1 = 5)) (cond (!(eqV (.agg (.cons (.int .i64) (.cons (.int .i64) (.cons .str .unit)))) a0.2.2.1 (0, 0, [], ()))) (
 some (.inr 2)) (
 some (.inl ()))) (some (.inl ()))) : Option (Unit ⊕ Int)).bind (joinS fun v2 =>
(cond (!decide (a0.1 = 3)) (cond (!decide (a0.1 = 5)) ((ref09_Right a0.2.2.1).bind fun r3 =>
 cond (!r3) (
 some (.inr 2)) (
 some (.inl ()))) (some (.inl ()))) (some (.inl ())) : Option (Unit ⊕ Int)).bind (joinS fun v4 =>
((cond (!decide (a0.1 = 3)) (some ((!decide (a0.2.2.2.1 = 0)), ())) (some (false, ())) : Option (Bool × Unit)).bind fun v5 =>
 cond v5.1 (some (.inr 2)) (cond (decide (a0.1 = 3)) (cond (decide (a0.2.2.2.1 = 0)) (some (.inr 2)) (cond (decide (a0.2.2.2.1 > 2147483647)) (some (.inr 2)) (cond (decide (a0.2.2.2.1 < (-2147483647))) (
 some (.inr 2)) (
 some (.inl ()))))) (some (.inl ()))) : Option (Unit ⊕ Int)).bind (joinS fun v6 =>
(cond (decide (a0.1 = 2)) (cond (decide ((a0.2.2.2.2.1.length : Int) > 0)) (
 some (.inr 2)) (
 some (.inl ()))) (cond (decide (a0.1 = 3)) (cond (decide ((a0.2.2.2.2.1.length : Int) > 0)) (
 some (.inr 2)) (
 some (.inl ()))) (some (.inl ()))) : Option (Unit ⊕ Int)).bind (joinS fun v7 =>
 cond (decide ((a0.2.2.2.2.1.length : Int) > 256)) (
 some 7) (
(ref11_Refs a0.2.2.2.2.1).bind fun r8 =>
 cond (!r8) (
 some 2) (
 some 0)))))))))
noncomputable def ref11_Check_T : TFn := { ps := (.cons (.agg (.cons (.int .i64) (.cons (.sl .str) (.cons (.agg (.cons (.int .i64) (.cons (.int .i64) (.cons .str .unit)))) (.cons (.int .i64) (.cons (.sl (.agg (.cons (.agg (.cons (.int .i64) (.cons (.int .i64) .unit))) (.cons (.int .i64) .unit)))) .unit)))))) .unit), res := (.int .i64), fn := fun v => ref11_Check v.1 }
noncomputable def ref11_Check_V : TEnv := { pure := [(88, ref10_Check_T), (89, ref09_Right_T), (90, ref11_Refs_T)], look := [], glob := G0T, ty := [], raw := [], fresh := [] }
theorem ref11_Check_eq : runY Tryz.prog ref11_Check_E ref11_Check_H ref11_Check_V ref11_Check_Y Tryz.f61 ref11_Check_T.ps ref11_Check_T.res = ref11_Check_T.fn := by kernel_rfl
theorem ref11_Check_Fok : SoundP Tryz.prog G0 61 ref11_Check_F := closeF_sound (runF_sound (P := Tryz.prog) (E := ref11_Check_E) (h := ref11_Check_H) (f := 61) (fn := Tryz.f61) ⟨same_ok, (envP_cons ref10_Check_Fok (envP_cons ref09_Right_Fok (envP_cons ref11_Refs_Fok envP_nil))), envS_nil, envP_nil, envX_nil⟩ Tryz.func61 rfl (by kernel_rfl))
theorem ref11_Check_ok : TOk ref11_Check_F ref11_Check_T := runY_ok (E := ref11_Check_E) (ET := ref11_Check_V) (EnvT.ofX (E := ref11_Check_E) (ET := ref11_Check_V) (pure_of (pairs_cons ref10_Check_ok (pairs_cons ref09_Right_ok (pairs_cons ref11_Refs_ok pairs_nil)))) looks_nil raws_nil G0_ok news_nil) ref11_Check_eq rfl
-- palinode/palinoderef11.Gone
noncomputable def ref11_Gone_E : Env := { pure := [], raw := [], glob := G0, same := [], look := [], ext := [] }
def ref11_Gone_H : Hints := { seqs := [], loops := [], own := [] }
noncomputable def ref11_Gone_F : PFn := closeF (runF Tryz.prog ref11_Gone_E ref11_Gone_H Tryz.f62)
def ref11_Gone_Y : TH := { joins := [], loops := [], cuts := [(2, [(9, { keep := [(1, (.bx 0 0)), (3, (.bx 1 0)), (13, .bool)], mem := [.same, .box 47 (.agg (.cons (.int .i64) (.cons (.int .i64) (.cons .str .unit))))] })])], ro := [1], news := [] }
noncomputable def ref11_Gone (a0 : (Int × List (List UInt8) × (Int × Int × List UInt8 × Unit) × Int × List ((Int × Int × Unit) × Int × Unit) × Unit)) : Option Bool :=
(cond (decide (a0.1 = 0)) (some ((decide ((a0.2.1.length : Int) = 0)), (0, 0, [], ()), ())) (some (false, (0, 0, [], ()), ())) : Option (Bool × (Int × Int × List UInt8 × Unit) × Unit)).bind fun v1 =>
 cond v1.1 (cond (eqV (.agg (.cons (.int .i64) (.cons (.int .i64) (.cons .str .unit)))) a0.2.2.1 v1.2.1) (cond (decide (a0.2.2.2.1 = 0)) (some (decide ((a0.2.2.2.2.1.length : Int) = 0))) (some false)) (some false)) (some false)
noncomputable def ref11_Gone_T : TFn := { ps := (.cons (.agg (.cons (.int .i64) (.cons (.sl .str) (.cons (.agg (.cons (.int .i64) (.cons (.int .i64) (.cons .str .unit)))) (.cons (.int .i64) (.cons (.sl (.agg (.cons (.agg (.cons (.int .i64) (.cons (.int .i64) .unit))) (.cons (.int .i64) .unit)))) .unit)))))) .unit), res := .bool, fn := fun v => ref11_Gone v.1 }
noncomputable def ref11_Gone_V : TEnv := { pure := [], look := [], glob := G0T, ty := [], raw := [], fresh := [] }
theorem ref11_Gone_eq : runY Tryz.prog ref11_Gone_E ref11_Gone_H ref11_Gone_V ref11_Gone_Y Tryz.f62 ref11_Gone_T.ps ref11_Gone_T.res = ref11_Gone_T.fn := by kernel_rfl
theorem ref11_Gone_Fok : SoundP Tryz.prog G0 62 ref11_Gone_F := closeF_sound (runF_sound (P := Tryz.prog) (E := ref11_Gone_E) (h := ref11_Gone_H) (f := 62) (fn := Tryz.f62) ⟨same_ok, envP_nil, envS_nil, envP_nil, envX_nil⟩ Tryz.func62 rfl (by kernel_rfl))
theorem ref11_Gone_ok : TOk ref11_Gone_F ref11_Gone_T := runY_ok (E := ref11_Gone_E) (ET := ref11_Gone_V) (EnvT.ofX (E := ref11_Gone_E) (ET := ref11_Gone_V) (pure_of pairs_nil) looks_nil raws_nil G0_ok news_nil) ref11_Gone_eq rfl
-- palinode/palinoderef12.Check
noncomputable def ref12_Check_E : Env := { pure := [(60, ref04_Right_F), (61, ref11_Check_F), (62, ref11_Gone_F)], raw := [], glob := G0, same := [], look := [], ext := [] }
def ref12_Check_H : Hints := { seqs := [], loops := [(8, [1, 3])], own := [] }
noncomputable def ref12_Check_F : PFn := closeF (runF Tryz.prog ref12_Check_E ref12_Check_H Tryz.f42)
def ref12_Check_Y : TH := { joins := [], loops := [(8, { keep := [(1, (.bx 0 0)), (3, (.int .i64))], mem := [.same] })], cuts := [(1, [(9, { keep := [(1, (.bx 0 0)), (13, .bool)], mem := [.same] })])], ro := [1], news := [] }
noncomputable def ref12_Check_l8 (a0 : ((Int × Int × Unit) × Int × Int × Bool × List (Int × List (List UInt8) × (Int × Int × List UInt8 × Unit) × Int × List ((Int × Int × Unit) × Int × Unit) × Unit) × Unit)) (y8 : (Int × Unit)) : Option ((Int × Unit) ⊕ Int) :=
 cond (decide (y8.1 < (a0.2.2.2.2.1.length : Int))) (
(atI a0.2.2.2.2.1 y8.1).bind fun x3 =>
(ref11_Check x3).bind fun r4 =>
 cond (!decide (r4 = 0)) (cond a0.2.2.2.1 ((atI a0.2.2.2.2.1 y8.1).bind fun x5 =>
(ref11_Gone x5).bind fun r6 =>
 cond (!r6) (
 some (.inr r4)) (
 some (.inl ((IntKind.wrap .i64 (y8.1 + 1)), ())))) (some (.inr r4))) (some (.inl ((IntKind.wrap .i64 (y8.1 + 1)), ())))) (
 some (.inr 0))
noncomputable def ref12_Check (a0 : ((Int × Int × Unit) × Int × Int × Bool × List (Int × List (List UInt8) × (Int × Int × List UInt8 × Unit) × Int × List ((Int × Int × Unit) × Int × Unit) × Unit) × Unit)) : Option Int :=
((ref04_Right a0.1).bind fun r1 =>
 cond (!r1) (some (true, ())) (some ((decide (a0.2.1 < 0)), ())) : Option (Bool × Unit)).bind fun v2 =>
 cond v2.1 (some 2) (cond (decide (a0.2.1 > 7)) (some 2) (cond (decide (a0.2.2.1 < 1)) (some 2) (cond (decide (a0.2.2.1 > 1099511627776)) (
 some 2) (
 cond (decide ((a0.2.2.2.2.1.length : Int) = 0)) (
 some 11) (
 cond (decide ((a0.2.2.2.2.1.length : Int) > 16)) (
 some 7) (
 loopT (ref12_Check_l8 a0) (0, ())))))))
noncomputable def ref12_Check_T : TFn := { ps := (.cons (.agg (.cons (.agg (.cons (.int .i64) (.cons (.int .i64) .unit))) (.cons (.int .i64) (.cons (.int .i64) (.cons .bool (.cons (.sl (.agg (.cons (.int .i64) (.cons (.sl .str) (.cons (.agg (.cons (.int .i64) (.cons (.int .i64) (.cons .str .unit)))) (.cons (.int .i64) (.cons (.sl (.agg (.cons (.agg (.cons (.int .i64) (.cons (.int .i64) .unit))) (.cons (.int .i64) .unit)))) .unit))))))) .unit)))))) .unit), res := (.int .i64), fn := fun v => ref12_Check v.1 }
noncomputable def ref12_Check_V : TEnv := { pure := [(60, ref04_Right_T), (61, ref11_Check_T), (62, ref11_Gone_T)], look := [], glob := G0T, ty := [], raw := [], fresh := [] }
theorem ref12_Check_eq : runY Tryz.prog ref12_Check_E ref12_Check_H ref12_Check_V ref12_Check_Y Tryz.f42 ref12_Check_T.ps ref12_Check_T.res = ref12_Check_T.fn := by kernel_rfl
theorem ref12_Check_Fok : SoundP Tryz.prog G0 42 ref12_Check_F := closeF_sound (runF_sound (P := Tryz.prog) (E := ref12_Check_E) (h := ref12_Check_H) (f := 42) (fn := Tryz.f42) ⟨same_ok, (envP_cons ref04_Right_Fok (envP_cons ref11_Check_Fok (envP_cons ref11_Gone_Fok envP_nil))), envS_nil, envP_nil, envX_nil⟩ Tryz.func42 rfl (by kernel_rfl))
theorem ref12_Check_ok : TOk ref12_Check_F ref12_Check_T := runY_ok (E := ref12_Check_E) (ET := ref12_Check_V) (EnvT.ofX (E := ref12_Check_E) (ET := ref12_Check_V) (pure_of (pairs_cons ref04_Right_ok (pairs_cons ref11_Check_ok (pairs_cons ref11_Gone_ok pairs_nil)))) looks_nil raws_nil G0_ok news_nil) ref12_Check_eq rfl
-- palinode/palinoderef12.Good
noncomputable def ref12_Good_E : Env := { pure := [(40, ref12_Rises_F), (41, ref12_Short_F), (42, ref12_Check_F)], raw := [], glob := G0, same := [], look := [], ext := [] }
def ref12_Good_H : Hints := { seqs := [], loops := [(4, [0, 5])], own := [] }
noncomputable def ref12_Good_F : PFn := closeF (runF Tryz.prog ref12_Good_E ref12_Good_H Tryz.f17)
def ref12_Good_Y : TH := { joins := [], loops := [(4, { keep := [(5, (.int .i64))], mem := [] })], cuts := [], ro := [], news := [] }
noncomputable def ref12_Good_l4 (a0 : List ((Int × Int × Unit) × Int × Int × Bool × List (Int × List (List UInt8) × (Int × Int × List UInt8 × Unit) × Int × List ((Int × Int × Unit) × Int × Unit) × Unit) × Unit)) (y4 : (Int × Unit)) : Option ((Int × Unit) ⊕ Bool) :=
 cond (decide (y4.1 < (a0.length : Int))) (
(atI a0 y4.1).bind fun x2 =>
(ref12_Short x2).bind fun r3 =>
 cond (!r3) (some (.inr false)) ((atI a0 y4.1).bind fun x4 =>
(ref12_Check x4).bind fun r5 =>
 cond (!decide (r5 = 0)) (
 some (.inr false)) (
 some (.inl ((IntKind.wrap .i64 (y4.1 + 1)), ()))))) (
 some (.inr true))
noncomputable def ref12_Good (a0 : List ((Int × Int × Unit) × Int × Int × Bool × List (Int × List (List UInt8) × (Int × Int × List UInt8 × Unit) × Int × List ((Int × Int × Unit) × Int × Unit) × Unit) × Unit)) (a1 : Int) : Option Bool :=
 cond (decide ((a0.length : Int) > a1)) (some false) ((ref12_Rises a0).bind fun r1 =>
 cond (!r1) (
 some false) (
 loopT (ref12_Good_l4 a0) (0, ())))
noncomputable def ref12_Good_T : TFn := { ps := (.cons (.sl (.agg (.cons (.agg (.cons (.int .i64) (.cons (.int .i64) .unit))) (.cons (.int .i64) (.cons (.int .i64) (.cons .bool (.cons (.sl (.agg (.cons (.int .i64) (.cons (.sl .str) (.cons (.agg (.cons (.int .i64) (.cons (.int .i64) (.cons .str .unit)))) (.cons (.int .i64) (.cons (.sl (.agg (.cons (.agg (.cons (.int .i64) (.cons (.int .i64) .unit))) (.cons (.int .i64) .unit)))) .unit))))))) .unit))))))) (.cons (.int .i64) .unit)), res := .bool, fn := fun v => ref12_Good v.1 v.2.1 }
noncomputable def ref12_Good_V : TEnv := { pure := [(40, ref12_Rises_T), (41, ref12_Short_T), (42, ref12_Check_T)], look := [], glob := G0T, ty := [], raw := [], fresh := [] }
theorem ref12_Good_eq : runY Tryz.prog ref12_Good_E ref12_Good_H ref12_Good_V ref12_Good_Y Tryz.f17 ref12_Good_T.ps ref12_Good_T.res = ref12_Good_T.fn := by kernel_rfl
theorem ref12_Good_Fok : SoundP Tryz.prog G0 17 ref12_Good_F := closeF_sound (runF_sound (P := Tryz.prog) (E := ref12_Good_E) (h := ref12_Good_H) (f := 17) (fn := Tryz.f17) ⟨same_ok, (envP_cons ref12_Rises_Fok (envP_cons ref12_Short_Fok (envP_cons ref12_Check_Fok envP_nil))), envS_nil, envP_nil, envX_nil⟩ Tryz.func17 rfl (by kernel_rfl))
theorem ref12_Good_ok : TOk ref12_Good_F ref12_Good_T := runY_ok (E := ref12_Good_E) (ET := ref12_Good_V) (EnvT.ofX (E := ref12_Good_E) (ET := ref12_Good_V) (pure_of (pairs_cons ref12_Rises_ok (pairs_cons ref12_Short_ok (pairs_cons ref12_Check_ok pairs_nil)))) looks_nil raws_nil G0_ok news_nil) ref12_Good_eq rfl
-- palinode/palinoderef08.one
noncomputable def ref08_one_E : Env := { pure := [(60, ref04_Right_F)], raw := [], glob := G0, same := [], look := [], ext := [] }
def ref08_one_H : Hints := { seqs := [], loops := [], own := [] }
noncomputable def ref08_one_F : PFn := closeF (runF Tryz.prog ref08_one_E ref08_one_H Tryz.f63)
def ref08_one_Y : TH := { joins := [], loops := [], cuts := [], ro := [1], news := [] }
noncomputable def ref08_one (a0 : ((Int × Int × Unit) × Int × Unit)) : Option Bool :=
(ref04_Right a0.1).bind fun r1 =>
 cond r1 (cond (decide (a0.2.1 ≥ 1)) (some (decide (a0.2.1 ≤ 64))) (some false)) (some false)
noncomputable def ref08_one_T : TFn := { ps := (.cons (.agg (.cons (.agg (.cons (.int .i64) (.cons (.int .i64) .unit))) (.cons (.int .i64) .unit))) .unit), res := .bool, fn := fun v => ref08_one v.1 }
noncomputable def ref08_one_V : TEnv := { pure := [(60, ref04_Right_T)], look := [], glob := G0T, ty := [], raw := [], fresh := [] }
theorem ref08_one_eq : runY Tryz.prog ref08_one_E ref08_one_H ref08_one_V ref08_one_Y Tryz.f63 ref08_one_T.ps ref08_one_T.res = ref08_one_T.fn := by kernel_rfl
theorem ref08_one_Fok : SoundP Tryz.prog G0 63 ref08_one_F := closeF_sound (runF_sound (P := Tryz.prog) (E := ref08_one_E) (h := ref08_one_H) (f := 63) (fn := Tryz.f63) ⟨same_ok, (envP_cons ref04_Right_Fok envP_nil), envS_nil, envP_nil, envX_nil⟩ Tryz.func63 rfl (by kernel_rfl))
theorem ref08_one_ok : TOk ref08_one_F ref08_one_T := runY_ok (E := ref08_one_E) (ET := ref08_one_V) (EnvT.ofX (E := ref08_one_E) (ET := ref08_one_V) (pure_of (pairs_cons ref04_Right_ok pairs_nil)) looks_nil raws_nil G0_ok news_nil) ref08_one_eq rfl
-- palinode/palinoderef08.Right
noncomputable def ref08_Right_E : Env := { pure := [(58, ref04_Compare_F), (63, ref08_one_F)], raw := [], glob := G0, same := [], look := [], ext := [] }
def ref08_Right_H : Hints := { seqs := [], loops := [(2, [0, 3])], own := [] }
noncomputable def ref08_Right_F : PFn := closeF (runF Tryz.prog ref08_Right_E ref08_Right_H Tryz.f43)
def ref08_Right_Y : TH := { joins := [], loops := [(2, { keep := [(3, (.int .i64))], mem := [] })], cuts := [], ro := [], news := [] }
noncomputable def ref08_Right_l2 (a0 : List ((Int × Int × Unit) × Int × Unit)) (y2 : (Int × Unit)) : Option ((Int × Unit) ⊕ Bool) :=
 cond (decide (y2.1 < (a0.length : Int))) (
(atI a0 y2.1).bind fun x1 =>
(ref08_one x1).bind fun r2 =>
 cond (!r2) (some (.inr false)) (cond (decide (y2.1 > 0)) ((atI a0 (IntKind.wrap .i64 (y2.1 - 1))).bind fun x3 =>
(atI a0 y2.1).bind fun x4 =>
(ref04_Compare x3.1 x4.1).bind fun r5 =>
 cond (!decide (r5 = (-1))) (
 some (.inr false)) (
 some (.inl ((IntKind.wrap .i64 (y2.1 + 1)), ())))) (some (.inl ((IntKind.wrap .i64 (y2.1 + 1)), ()))))) (
 some (.inr true))
noncomputable def ref08_Right (a0 : List ((Int × Int × Unit) × Int × Unit)) : Option Bool :=
 loopT (ref08_Right_l2 a0) (0, ())
noncomputable def ref08_Right_T : TFn := { ps := (.cons (.sl (.agg (.cons (.agg (.cons (.int .i64) (.cons (.int .i64) .unit))) (.cons (.int .i64) .unit)))) .unit), res := .bool, fn := fun v => ref08_Right v.1 }
noncomputable def ref08_Right_V : TEnv := { pure := [(58, ref04_Compare_T), (63, ref08_one_T)], look := [], glob := G0T, ty := [], raw := [], fresh := [] }
theorem ref08_Right_eq : runY Tryz.prog ref08_Right_E ref08_Right_H ref08_Right_V ref08_Right_Y Tryz.f43 ref08_Right_T.ps ref08_Right_T.res = ref08_Right_T.fn := by kernel_rfl
theorem ref08_Right_Fok : SoundP Tryz.prog G0 43 ref08_Right_F := closeF_sound (runF_sound (P := Tryz.prog) (E := ref08_Right_E) (h := ref08_Right_H) (f := 43) (fn := Tryz.f43) ⟨same_ok, (envP_cons ref04_Compare_Fok (envP_cons ref08_one_Fok envP_nil)), envS_nil, envP_nil, envX_nil⟩ Tryz.func43 rfl (by kernel_rfl))
theorem ref08_Right_ok : TOk ref08_Right_F ref08_Right_T := runY_ok (E := ref08_Right_E) (ET := ref08_Right_V) (EnvT.ofX (E := ref08_Right_E) (ET := ref08_Right_V) (pure_of (pairs_cons ref04_Compare_ok (pairs_cons ref08_one_ok pairs_nil))) looks_nil raws_nil G0_ok news_nil) ref08_Right_eq rfl
-- palinode/palinoderef08.Good
noncomputable def ref08_Good_E : Env := { pure := [(43, ref08_Right_F)], raw := [], glob := G0, same := [], look := [], ext := [] }
def ref08_Good_H : Hints := { seqs := [], loops := [], own := [] }
noncomputable def ref08_Good_F : PFn := closeF (runF Tryz.prog ref08_Good_E ref08_Good_H Tryz.f18)
def ref08_Good_Y : TH := { joins := [], loops := [], cuts := [], ro := [], news := [] }
noncomputable def ref08_Good (a0 : List ((Int × Int × Unit) × Int × Unit)) : Option Bool :=
 cond (decide ((a0.length : Int) ≤ 100)) ((ref08_Right a0).bind fun r1 =>
 some r1) (some false)
noncomputable def ref08_Good_T : TFn := { ps := (.cons (.sl (.agg (.cons (.agg (.cons (.int .i64) (.cons (.int .i64) .unit))) (.cons (.int .i64) .unit)))) .unit), res := .bool, fn := fun v => ref08_Good v.1 }
noncomputable def ref08_Good_V : TEnv := { pure := [(43, ref08_Right_T)], look := [], glob := G0T, ty := [], raw := [], fresh := [] }
theorem ref08_Good_eq : runY Tryz.prog ref08_Good_E ref08_Good_H ref08_Good_V ref08_Good_Y Tryz.f18 ref08_Good_T.ps ref08_Good_T.res = ref08_Good_T.fn := by kernel_rfl
theorem ref08_Good_Fok : SoundP Tryz.prog G0 18 ref08_Good_F := closeF_sound (runF_sound (P := Tryz.prog) (E := ref08_Good_E) (h := ref08_Good_H) (f := 18) (fn := Tryz.f18) ⟨same_ok, (envP_cons ref08_Right_Fok envP_nil), envS_nil, envP_nil, envX_nil⟩ Tryz.func18 rfl (by kernel_rfl))
theorem ref08_Good_ok : TOk ref08_Good_F ref08_Good_T := runY_ok (E := ref08_Good_E) (ET := ref08_Good_V) (EnvT.ofX (E := ref08_Good_E) (ET := ref08_Good_V) (pure_of (pairs_cons ref08_Right_ok pairs_nil)) looks_nil raws_nil G0_ok news_nil) ref08_Good_eq rfl
-- palinode/palinodelaw13.Good
noncomputable def law13_Good_E : Env := { pure := [(17, ref12_Good_F), (18, ref08_Good_F)], raw := [], glob := G0, same := [], look := [], ext := [] }
def law13_Good_H : Hints := { seqs := [], loops := [], own := [] }
noncomputable def law13_Good_F : PFn := closeF (runF Tryz.prog law13_Good_E law13_Good_H Tryz.f4)
def law13_Good_Y : TH := { joins := [], loops := [], cuts := [], ro := [], news := [] }
noncomputable def law13_Good (a0 : List ((Int × Int × Unit) × Int × Int × Bool × List (Int × List (List UInt8) × (Int × Int × List UInt8 × Unit) × Int × List ((Int × Int × Unit) × Int × Unit) × Unit) × Unit)) (a1 : List ((Int × Int × Unit) × Int × Unit)) : Option Bool :=
(ref12_Good a0 20).bind fun r1 =>
 cond r1 ((ref08_Good a1).bind fun r2 =>
 some r2) (some false)
noncomputable def law13_Good_T : TFn := { ps := (.cons (.sl (.agg (.cons (.agg (.cons (.int .i64) (.cons (.int .i64) .unit))) (.cons (.int .i64) (.cons (.int .i64) (.cons .bool (.cons (.sl (.agg (.cons (.int .i64) (.cons (.sl .str) (.cons (.agg (.cons (.int .i64) (.cons (.int .i64) (.cons .str .unit)))) (.cons (.int .i64) (.cons (.sl (.agg (.cons (.agg (.cons (.int .i64) (.cons (.int .i64) .unit))) (.cons (.int .i64) .unit)))) .unit))))))) .unit))))))) (.cons (.sl (.agg (.cons (.agg (.cons (.int .i64) (.cons (.int .i64) .unit))) (.cons (.int .i64) .unit)))) .unit)), res := .bool, fn := fun v => law13_Good v.1 v.2.1 }
noncomputable def law13_Good_V : TEnv := { pure := [(17, ref12_Good_T), (18, ref08_Good_T)], look := [], glob := G0T, ty := [], raw := [], fresh := [] }
theorem law13_Good_eq : runY Tryz.prog law13_Good_E law13_Good_H law13_Good_V law13_Good_Y Tryz.f4 law13_Good_T.ps law13_Good_T.res = law13_Good_T.fn := by kernel_rfl
theorem law13_Good_Fok : SoundP Tryz.prog G0 4 law13_Good_F := closeF_sound (runF_sound (P := Tryz.prog) (E := law13_Good_E) (h := law13_Good_H) (f := 4) (fn := Tryz.f4) ⟨same_ok, (envP_cons ref12_Good_Fok (envP_cons ref08_Good_Fok envP_nil)), envS_nil, envP_nil, envX_nil⟩ Tryz.func4 rfl (by kernel_rfl))
theorem law13_Good_ok : TOk law13_Good_F law13_Good_T := runY_ok (E := law13_Good_E) (ET := law13_Good_V) (EnvT.ofX (E := law13_Good_E) (ET := law13_Good_V) (pure_of (pairs_cons ref12_Good_ok (pairs_cons ref08_Good_ok pairs_nil))) looks_nil raws_nil G0_ok news_nil) law13_Good_eq rfl
-- cmp.isNaN[int]
noncomputable def cmp_isNaN_int_E : Env := { pure := [], raw := [], glob := G0, same := [], look := [], ext := [] }
def cmp_isNaN_int_H : Hints := { seqs := [], loops := [], own := [] }
noncomputable def cmp_isNaN_int_F : PFn := closeF (runF Tryz.prog cmp_isNaN_int_E cmp_isNaN_int_H Tryz.f77)
def cmp_isNaN_int_Y : TH := { joins := [], loops := [], cuts := [], ro := [], news := [] }
noncomputable def cmp_isNaN_int (a0 : Int) : Option Bool :=
 some (!decide (a0 = a0))
noncomputable def cmp_isNaN_int_T : TFn := { ps := (.cons (.int .i64) .unit), res := .bool, fn := fun v => cmp_isNaN_int v.1 }
noncomputable def cmp_isNaN_int_V : TEnv := { pure := [], look := [], glob := G0T, ty := [], raw := [], fresh := [] }
theorem cmp_isNaN_int_eq : runY Tryz.prog cmp_isNaN_int_E cmp_isNaN_int_H cmp_isNaN_int_V cmp_isNaN_int_Y Tryz.f77 cmp_isNaN_int_T.ps cmp_isNaN_int_T.res = cmp_isNaN_int_T.fn := by kernel_rfl
theorem cmp_isNaN_int_Fok : SoundP Tryz.prog G0 77 cmp_isNaN_int_F := closeF_sound (runF_sound (P := Tryz.prog) (E := cmp_isNaN_int_E) (h := cmp_isNaN_int_H) (f := 77) (fn := Tryz.f77) ⟨same_ok, envP_nil, envS_nil, envP_nil, envX_nil⟩ Tryz.func77 rfl (by kernel_rfl))
theorem cmp_isNaN_int_ok : TOk cmp_isNaN_int_F cmp_isNaN_int_T := runY_ok (E := cmp_isNaN_int_E) (ET := cmp_isNaN_int_V) (EnvT.ofX (E := cmp_isNaN_int_E) (ET := cmp_isNaN_int_V) (pure_of pairs_nil) looks_nil raws_nil G0_ok news_nil) cmp_isNaN_int_eq rfl
-- cmp.Compare[int]
noncomputable def cmp_Compare_int_E : Env := { pure := [(77, cmp_isNaN_int_F)], raw := [], glob := G0, same := [], look := [], ext := [] }
def cmp_Compare_int_H : Hints := { seqs := [], loops := [], own := [] }
noncomputable def cmp_Compare_int_F : PFn := closeF (runF Tryz.prog cmp_Compare_int_E cmp_Compare_int_H Tryz.f53)
def cmp_Compare_int_Y : TH := { joins := [], loops := [], cuts := [], ro := [], news := [] }
noncomputable def cmp_Compare_int (a0 : Int) (a1 : Int) : Option Int :=
(cmp_isNaN_int a0).bind fun r1 =>
(cmp_isNaN_int a1).bind fun r2 =>
 cond r1 (
 cond r2 (
 some 0) (
 some (-1))) (
 cond r2 (
 some 1) (
 cond (decide (a0 < a1)) (
 some (-1)) (
 cond (decide (a0 > a1)) (
 some 1) (
 some 0))))
noncomputable def cmp_Compare_int_T : TFn := { ps := (.cons (.int .i64) (.cons (.int .i64) .unit)), res := (.int .i64), fn := fun v => cmp_Compare_int v.1 v.2.1 }
noncomputable def cmp_Compare_int_V : TEnv := { pure := [(77, cmp_isNaN_int_T)], look := [], glob := G0T, ty := [], raw := [], fresh := [] }
theorem cmp_Compare_int_eq : runY Tryz.prog cmp_Compare_int_E cmp_Compare_int_H cmp_Compare_int_V cmp_Compare_int_Y Tryz.f53 cmp_Compare_int_T.ps cmp_Compare_int_T.res = cmp_Compare_int_T.fn := by kernel_rfl
theorem cmp_Compare_int_Fok : SoundP Tryz.prog G0 53 cmp_Compare_int_F := closeF_sound (runF_sound (P := Tryz.prog) (E := cmp_Compare_int_E) (h := cmp_Compare_int_H) (f := 53) (fn := Tryz.f53) ⟨same_ok, (envP_cons cmp_isNaN_int_Fok envP_nil), envS_nil, envP_nil, envX_nil⟩ Tryz.func53 rfl (by kernel_rfl))
theorem cmp_Compare_int_ok : TOk cmp_Compare_int_F cmp_Compare_int_T := runY_ok (E := cmp_Compare_int_E) (ET := cmp_Compare_int_V) (EnvT.ofX (E := cmp_Compare_int_E) (ET := cmp_Compare_int_V) (pure_of (pairs_cons cmp_isNaN_int_ok pairs_nil)) looks_nil raws_nil G0_ok news_nil) cmp_Compare_int_eq rfl
-- cmp.Or[int]
noncomputable def cmp_Or_int_E : Env := { pure := [], raw := [], glob := G0, same := [], look := [], ext := [] }
def cmp_Or_int_H : Hints := { seqs := [], loops := [(3, [3, 6, 7, 8])], own := [] }
noncomputable def cmp_Or_int_F : PFn := closeF (runF Tryz.prog cmp_Or_int_E cmp_Or_int_H Tryz.f51)
def cmp_Or_int_Y : TH := { joins := [], loops := [(3, { keep := [(8, (.int .i64))], mem := [] })], cuts := [], ro := [], news := [] }
noncomputable def cmp_Or_int_l3 (a0 : List Int) (y3 : (Int × Unit)) : Option ((Int × Unit) ⊕ Int) :=
 cond (decide (y3.1 < (a0.length : Int))) (
(atI a0 y3.1).bind fun x1 =>
 cond (!decide (x1 = 0)) (
 some (.inr x1)) (
 some (.inl ((IntKind.wrap .i64 (y3.1 + 1)), ())))) (
 some (.inr 0))
noncomputable def cmp_Or_int (a0 : List Int) : Option Int :=
 loopT (cmp_Or_int_l3 a0) (0, ())
noncomputable def cmp_Or_int_T : TFn := { ps := (.cons (.sl (.int .i64)) .unit), res := (.int .i64), fn := fun v => cmp_Or_int v.1 }
noncomputable def cmp_Or_int_V : TEnv := { pure := [], look := [], glob := G0T, ty := [], raw := [], fresh := [] }
theorem cmp_Or_int_eq : runY Tryz.prog cmp_Or_int_E cmp_Or_int_H cmp_Or_int_V cmp_Or_int_Y Tryz.f51 cmp_Or_int_T.ps cmp_Or_int_T.res = cmp_Or_int_T.fn := by kernel_rfl
theorem cmp_Or_int_Fok : SoundP Tryz.prog G0 51 cmp_Or_int_F := closeF_sound (runF_sound (P := Tryz.prog) (E := cmp_Or_int_E) (h := cmp_Or_int_H) (f := 51) (fn := Tryz.f51) ⟨same_ok, envP_nil, envS_nil, envP_nil, envX_nil⟩ Tryz.func51 rfl (by kernel_rfl))
theorem cmp_Or_int_ok : TOk cmp_Or_int_F cmp_Or_int_T := runY_ok (E := cmp_Or_int_E) (ET := cmp_Or_int_V) (EnvT.ofX (E := cmp_Or_int_E) (ET := cmp_Or_int_V) (pure_of pairs_nil) looks_nil raws_nil G0_ok news_nil) cmp_Or_int_eq rfl
-- palinode/dot.Compare
noncomputable def dot_Compare_E : Env := { pure := [(51, cmp_Or_int_F), (53, cmp_Compare_int_F)], raw := [], glob := G0, same := [], look := [], ext := [] }
def dot_Compare_H : Hints := { seqs := [], loops := [], own := [] }
noncomputable def dot_Compare_F : PFn := closeF (runF Tryz.prog dot_Compare_E dot_Compare_H Tryz.f105)
def dot_Compare_Y : TH := { joins := [], loops := [], cuts := [], ro := [2, 3], news := [] }
noncomputable def dot_Compare (a0 : (Int × Int × Unit)) (a1 : (Int × Int × Unit)) : Option Int :=
(cmp_Compare_int a0.1 a1.1).bind fun r1 =>
(cmp_Compare_int a0.2.1 a1.2.1).bind fun r2 =>
(cmp_Or_int ([r1, r2] : List Int)).bind fun r3 =>
 some r3
noncomputable def dot_Compare_T : TFn := { ps := (.cons (.agg (.cons (.int .i64) (.cons (.int .i64) .unit))) (.cons (.agg (.cons (.int .i64) (.cons (.int .i64) .unit))) .unit)), res := (.int .i64), fn := fun v => dot_Compare v.1 v.2.1 }
noncomputable def dot_Compare_V : TEnv := { pure := [(51, cmp_Or_int_T), (53, cmp_Compare_int_T)], look := [], glob := G0T, ty := [(3, (.int .i64))], raw := [], fresh := [] }
theorem dot_Compare_eq : runY Tryz.prog dot_Compare_E dot_Compare_H dot_Compare_V dot_Compare_Y Tryz.f105 dot_Compare_T.ps dot_Compare_T.res = dot_Compare_T.fn := by kernel_rfl
theorem dot_Compare_Fok : SoundP Tryz.prog G0 105 dot_Compare_F := closeF_sound (runF_sound (P := Tryz.prog) (E := dot_Compare_E) (h := dot_Compare_H) (f := 105) (fn := Tryz.f105) ⟨same_ok, (envP_cons cmp_Or_int_Fok (envP_cons cmp_Compare_int_Fok envP_nil)), envS_nil, envP_nil, envX_nil⟩ Tryz.func105 rfl (by kernel_rfl))
theorem dot_Compare_ok : TOk dot_Compare_F dot_Compare_T := runY_ok (E := dot_Compare_E) (ET := dot_Compare_V) (EnvT.ofX (E := dot_Compare_E) (ET := dot_Compare_V) (pure_of (pairs_cons cmp_Or_int_ok (pairs_cons cmp_Compare_int_ok pairs_nil))) looks_nil raws_nil G0_ok news_nil) dot_Compare_eq rfl
-- palinode/tally.compare
noncomputable def tally_compare_E : Env := { pure := [(105, dot_Compare_F)], raw := [], glob := G0, same := [], look := [], ext := [] }
def tally_compare_H : Hints := { seqs := [], loops := [], own := [] }
noncomputable def tally_compare_F : PFn := closeF (runF Tryz.prog tally_compare_E tally_compare_H Tryz.f92)
def tally_compare_Y : TH := { joins := [], loops := [], cuts := [], ro := [2, 3], news := [] }
noncomputable def tally_compare (a0 : ((Int × Int × Unit) × Int × Unit)) (a1 : ((Int × Int × Unit) × Int × Unit)) : Option Int :=
(dot_Compare a0.1 a1.1).bind fun r1 =>
 some r1
noncomputable def tally_compare_T : TFn := { ps := (.cons (.agg (.cons (.agg (.cons (.int .i64) (.cons (.int .i64) .unit))) (.cons (.int .i64) .unit))) (.cons (.agg (.cons (.agg (.cons (.int .i64) (.cons (.int .i64) .unit))) (.cons (.int .i64) .unit))) .unit)), res := (.int .i64), fn := fun v => tally_compare v.1 v.2.1 }
noncomputable def tally_compare_V : TEnv := { pure := [(105, dot_Compare_T)], look := [], glob := G0T, ty := [], raw := [], fresh := [] }
theorem tally_compare_eq : runY Tryz.prog tally_compare_E tally_compare_H tally_compare_V tally_compare_Y Tryz.f92 tally_compare_T.ps tally_compare_T.res = tally_compare_T.fn := by kernel_rfl
theorem tally_compare_Fok : SoundP Tryz.prog G0 92 tally_compare_F := closeF_sound (runF_sound (P := Tryz.prog) (E := tally_compare_E) (h := tally_compare_H) (f := 92) (fn := Tryz.f92) ⟨same_ok, (envP_cons dot_Compare_Fok envP_nil), envS_nil, envP_nil, envX_nil⟩ Tryz.func92 rfl (by kernel_rfl))
theorem tally_compare_ok : TOk tally_compare_F tally_compare_T := runY_ok (E := tally_compare_E) (ET := tally_compare_V) (EnvT.ofX (E := tally_compare_E) (ET := tally_compare_V) (pure_of (pairs_cons dot_Compare_ok pairs_nil)) looks_nil raws_nil G0_ok news_nil) tally_compare_eq rfl
-- slices.BinarySearchFunc[[]palinode/api.Undo,palinode/api.Undo,palinode/api.Undo]
noncomputable def slices_BinarySearchFunc_Sl_api_Undo_api_Undo_api_Undo__tally_compare_E : Env := { pure := [(92, tally_compare_F)], raw := [], glob := G0, same := [], look := [], ext := [] }
def slices_BinarySearchFunc_Sl_api_Undo_api_Undo_api_Undo__tally_compare_H : Hints := { seqs := [], loops := [(3, [0, 2, 4, 8, 9, 10])], own := [] }
noncomputable def slices_BinarySearchFunc_Sl_api_Undo_api_Undo_api_Undo__tally_compare_F : PFn := closeF (runF Tryz.prog slices_BinarySearchFunc_Sl_api_Undo_api_Undo_api_Undo__tally_compare_E slices_BinarySearchFunc_Sl_api_Undo_api_Undo_api_Undo__tally_compare_H Tryz.f91)
def slices_BinarySearchFunc_Sl_api_Undo_api_Undo_api_Undo__tally_compare_Y : TH := { joins := [(8, { keep := [(4, (.bx 0 0)), (9, (.int .i64))], mem := [.same] })], loops := [(3, { keep := [(4, (.bx 0 0)), (9, (.int .i64)), (10, (.int .i64))], mem := [.same] })], cuts := [], ro := [4], news := [] }
noncomputable def slices_BinarySearchFunc_Sl_api_Undo_api_Undo_api_Undo__tally_compare_l3 (a0 : List ((Int × Int × Unit) × Int × Unit)) (a1 : ((Int × Int × Unit) × Int × Unit)) (y3 : (Int × Int × Unit)) : Option ((Int × Int × Unit) ⊕ ((Int × Unit) ⊕ (Int × Bool × Unit))) :=
 cond (decide (y3.1 < y3.2.1)) (
(shrT .u64 (IntKind.wrap .u64 (IntKind.wrap .i64 (y3.1 + y3.2.1))) 1).bind fun t1 =>
(atI a0 (IntKind.wrap .i64 t1)).bind fun x2 =>
(tally_compare x2 a1).bind fun r3 =>
 cond (decide (r3 < 0)) (
 some (.inl ((IntKind.wrap .i64 ((IntKind.wrap .i64 t1) + 1)), y3.2.1, ()))) (
 some (.inl (y3.1, (IntKind.wrap .i64 t1), ())))) (
 some (.inr (.inl (y3.1, ()))))
noncomputable def slices_BinarySearchFunc_Sl_api_Undo_api_Undo_api_Undo__tally_compare (a0 : List ((Int × Int × Unit) × Int × Unit)) (a1 : ((Int × Int × Unit) × Int × Unit)) (a2 : Unit) : Option (Int × Bool × Unit) :=
(loopT (slices_BinarySearchFunc_Sl_api_Undo_api_Undo_api_Undo__tally_compare_l3 a0 a1) (0, (a0.length : Int), ()) : Option ((Int × Unit) ⊕ (Int × Bool × Unit))).bind (joinS fun v4 =>
 cond (decide (v4.1 < (a0.length : Int))) ((atI a0 v4.1).bind fun x5 =>
(tally_compare x5 a1).bind fun r6 =>
 some (v4.1, (decide (r6 = 0)), ())) (some (v4.1, false, ())))
noncomputable def slices_BinarySearchFunc_Sl_api_Undo_api_Undo_api_Undo__tally_compare_T : TFn := { ps := (.cons (.sl (.agg (.cons (.agg (.cons (.int .i64) (.cons (.int .i64) .unit))) (.cons (.int .i64) .unit)))) (.cons (.agg (.cons (.agg (.cons (.int .i64) (.cons (.int .i64) .unit))) (.cons (.int .i64) .unit))) (.cons (.fn 92) .unit))), res := (.tup (.cons (.int .i64) (.cons .bool .unit))), fn := fun v => slices_BinarySearchFunc_Sl_api_Undo_api_Undo_api_Undo__tally_compare v.1 v.2.1 v.2.2.1 }
noncomputable def slices_BinarySearchFunc_Sl_api_Undo_api_Undo_api_Undo__tally_compare_V : TEnv := { pure := [(92, tally_compare_T)], look := [], glob := G0T, ty := [], raw := [], fresh := [] }
theorem slices_BinarySearchFunc_Sl_api_Undo_api_Undo_api_Undo__tally_compare_eq : runY Tryz.prog slices_BinarySearchFunc_Sl_api_Undo_api_Undo_api_Undo__tally_compare_E slices_BinarySearchFunc_Sl_api_Undo_api_Undo_api_Undo__tally_compare_H slices_BinarySearchFunc_Sl_api_Undo_api_Undo_api_Undo__tally_compare_V slices_BinarySearchFunc_Sl_api_Undo_api_Undo_api_Undo__tally_compare_Y Tryz.f91 slices_BinarySearchFunc_Sl_api_Undo_api_Undo_api_Undo__tally_compare_T.ps slices_BinarySearchFunc_Sl_api_Undo_api_Undo_api_Undo__tally_compare_T.res = slices_BinarySearchFunc_Sl_api_Undo_api_Undo_api_Undo__tally_compare_T.fn := by kernel_rfl
theorem slices_BinarySearchFunc_Sl_api_Undo_api_Undo_api_Undo__tally_compare_Fok : SoundP Tryz.prog G0 91 slices_BinarySearchFunc_Sl_api_Undo_api_Undo_api_Undo__tally_compare_F := closeF_sound (runF_sound (P := Tryz.prog) (E := slices_BinarySearchFunc_Sl_api_Undo_api_Undo_api_Undo__tally_compare_E) (h := slices_BinarySearchFunc_Sl_api_Undo_api_Undo_api_Undo__tally_compare_H) (f := 91) (fn := Tryz.f91) ⟨same_ok, (envP_cons tally_compare_Fok envP_nil), envS_nil, envP_nil, envX_nil⟩ Tryz.func91 rfl (by kernel_rfl))
theorem slices_BinarySearchFunc_Sl_api_Undo_api_Undo_api_Undo__tally_compare_ok : TOk slices_BinarySearchFunc_Sl_api_Undo_api_Undo_api_Undo__tally_compare_F slices_BinarySearchFunc_Sl_api_Undo_api_Undo_api_Undo__tally_compare_T := runY_ok (E := slices_BinarySearchFunc_Sl_api_Undo_api_Undo_api_Undo__tally_compare_E) (ET := slices_BinarySearchFunc_Sl_api_Undo_api_Undo_api_Undo__tally_compare_V) (EnvT.ofX (E := slices_BinarySearchFunc_Sl_api_Undo_api_Undo_api_Undo__tally_compare_E) (ET := slices_BinarySearchFunc_Sl_api_Undo_api_Undo_api_Undo__tally_compare_V) (pure_of (pairs_cons tally_compare_ok pairs_nil)) looks_nil raws_nil G0_ok news_nil) slices_BinarySearchFunc_Sl_api_Undo_api_Undo_api_Undo__tally_compare_eq rfl
-- palinode/tally.at
noncomputable def tally_at_E : Env := { pure := [(91, slices_BinarySearchFunc_Sl_api_Undo_api_Undo_api_Undo__tally_compare_F)], raw := [], glob := G0, same := [], look := [], ext := [] }
def tally_at_H : Hints := { seqs := [], loops := [], own := [] }
noncomputable def tally_at_F : PFn := closeF (runF Tryz.prog tally_at_E tally_at_H Tryz.f64)
def tally_at_Y : TH := { joins := [], loops := [], cuts := [], ro := [3], news := [] }
noncomputable def tally_at (a0 : List ((Int × Int × Unit) × Int × Unit)) (a1 : (Int × Int × Unit)) : Option (Int × Bool × Unit) :=
(slices_BinarySearchFunc_Sl_api_Undo_api_Undo_api_Undo__tally_compare a0 (a1, 0, ()) ()).bind fun r1 =>
 some (r1.1, r1.2.1, ())
noncomputable def tally_at_T : TFn := { ps := (.cons (.sl (.agg (.cons (.agg (.cons (.int .i64) (.cons (.int .i64) .unit))) (.cons (.int .i64) .unit)))) (.cons (.agg (.cons (.int .i64) (.cons (.int .i64) .unit))) .unit)), res := (.tup (.cons (.int .i64) (.cons .bool .unit))), fn := fun v => tally_at v.1 v.2.1 }
noncomputable def tally_at_V : TEnv := { pure := [(91, slices_BinarySearchFunc_Sl_api_Undo_api_Undo_api_Undo__tally_compare_T)], look := [], glob := G0T, ty := [], raw := [], fresh := [] }
theorem tally_at_eq : runY Tryz.prog tally_at_E tally_at_H tally_at_V tally_at_Y Tryz.f64 tally_at_T.ps tally_at_T.res = tally_at_T.fn := by kernel_rfl
theorem tally_at_Fok : SoundP Tryz.prog G0 64 tally_at_F := closeF_sound (runF_sound (P := Tryz.prog) (E := tally_at_E) (h := tally_at_H) (f := 64) (fn := Tryz.f64) ⟨same_ok, (envP_cons slices_BinarySearchFunc_Sl_api_Undo_api_Undo_api_Undo__tally_compare_Fok envP_nil), envS_nil, envP_nil, envX_nil⟩ Tryz.func64 rfl (by kernel_rfl))
theorem tally_at_ok : TOk tally_at_F tally_at_T := runY_ok (E := tally_at_E) (ET := tally_at_V) (EnvT.ofX (E := tally_at_E) (ET := tally_at_V) (pure_of (pairs_cons slices_BinarySearchFunc_Sl_api_Undo_api_Undo_api_Undo__tally_compare_ok pairs_nil)) looks_nil raws_nil G0_ok news_nil) tally_at_eq rfl
-- palinode/tally.Get
noncomputable def tally_Get_E : Env := { pure := [(64, tally_at_F)], raw := [], glob := G0, same := [], look := [], ext := [] }
def tally_Get_H : Hints := { seqs := [], loops := [], own := [] }
noncomputable def tally_Get_F : PFn := closeF (runF Tryz.prog tally_Get_E tally_Get_H Tryz.f44)
def tally_Get_Y : TH := { joins := [], loops := [], cuts := [], ro := [3], news := [] }
noncomputable def tally_Get (a0 : List ((Int × Int × Unit) × Int × Unit)) (a1 : (Int × Int × Unit)) : Option Int :=
(tally_at a0 a1).bind fun r1 =>
 cond r1.2.1 (
(atI a0 r1.1).bind fun x2 =>
 some x2.2.1) (
 some 0)
noncomputable def tally_Get_T : TFn := { ps := (.cons (.sl (.agg (.cons (.agg (.cons (.int .i64) (.cons (.int .i64) .unit))) (.cons (.int .i64) .unit)))) (.cons (.agg (.cons (.int .i64) (.cons (.int .i64) .unit))) .unit)), res := (.int .i64), fn := fun v => tally_Get v.1 v.2.1 }
noncomputable def tally_Get_V : TEnv := { pure := [(64, tally_at_T)], look := [], glob := G0T, ty := [], raw := [], fresh := [] }
theorem tally_Get_eq : runY Tryz.prog tally_Get_E tally_Get_H tally_Get_V tally_Get_Y Tryz.f44 tally_Get_T.ps tally_Get_T.res = tally_Get_T.fn := by kernel_rfl
theorem tally_Get_Fok : SoundP Tryz.prog G0 44 tally_Get_F := closeF_sound (runF_sound (P := Tryz.prog) (E := tally_Get_E) (h := tally_Get_H) (f := 44) (fn := Tryz.f44) ⟨same_ok, (envP_cons tally_at_Fok envP_nil), envS_nil, envP_nil, envX_nil⟩ Tryz.func44 rfl (by kernel_rfl))
theorem tally_Get_ok : TOk tally_Get_F tally_Get_T := runY_ok (E := tally_Get_E) (ET := tally_Get_V) (EnvT.ofX (E := tally_Get_E) (ET := tally_Get_V) (pure_of (pairs_cons tally_at_ok pairs_nil)) looks_nil raws_nil G0_ok news_nil) tally_Get_eq rfl
-- palinode/tally.Seen
noncomputable def tally_Seen_E : Env := { pure := [(44, tally_Get_F)], raw := [], glob := G0, same := [], look := [], ext := [] }
def tally_Seen_H : Hints := { seqs := [], loops := [], own := [] }
noncomputable def tally_Seen_F : PFn := closeF (runF Tryz.prog tally_Seen_E tally_Seen_H Tryz.f21)
def tally_Seen_Y : TH := { joins := [], loops := [], cuts := [], ro := [3], news := [] }
noncomputable def tally_Seen (a0 : List ((Int × Int × Unit) × Int × Unit)) (a1 : (Int × Int × Unit)) : Option Bool :=
(tally_Get a0 a1).bind fun r1 =>
(remT r1 2).bind fun t2 =>
 some (decide (t2 = 0))
noncomputable def tally_Seen_T : TFn := { ps := (.cons (.sl (.agg (.cons (.agg (.cons (.int .i64) (.cons (.int .i64) .unit))) (.cons (.int .i64) .unit)))) (.cons (.agg (.cons (.int .i64) (.cons (.int .i64) .unit))) .unit)), res := .bool, fn := fun v => tally_Seen v.1 v.2.1 }
noncomputable def tally_Seen_V : TEnv := { pure := [(44, tally_Get_T)], look := [], glob := G0T, ty := [], raw := [], fresh := [] }
theorem tally_Seen_eq : runY Tryz.prog tally_Seen_E tally_Seen_H tally_Seen_V tally_Seen_Y Tryz.f21 tally_Seen_T.ps tally_Seen_T.res = tally_Seen_T.fn := by kernel_rfl
theorem tally_Seen_Fok : SoundP Tryz.prog G0 21 tally_Seen_F := closeF_sound (runF_sound (P := Tryz.prog) (E := tally_Seen_E) (h := tally_Seen_H) (f := 21) (fn := Tryz.f21) ⟨same_ok, (envP_cons tally_Get_Fok envP_nil), envS_nil, envP_nil, envX_nil⟩ Tryz.func21 rfl (by kernel_rfl))
theorem tally_Seen_ok : TOk tally_Seen_F tally_Seen_T := runY_ok (E := tally_Seen_E) (ET := tally_Seen_V) (EnvT.ofX (E := tally_Seen_E) (ET := tally_Seen_V) (pure_of (pairs_cons tally_Get_ok pairs_nil)) looks_nil raws_nil G0_ok news_nil) tally_Seen_eq rfl
-- palinode/live.covered
noncomputable def live_covered_E : Env := { pure := [(21, tally_Seen_F)], raw := [], glob := G0, same := [], look := [], ext := [] }
def live_covered_H : Hints := { seqs := [], loops := [(3, [1, 5, 13, 14, 15]), (7, [1, 5, 13, 14, 15, 25, 26, 27]), (10, [1, 5, 13, 14, 15, 25, 26, 27, 32, 33, 34])], own := [] }
noncomputable def live_covered_S : SFn := runF Tryz.prog live_covered_E live_covered_H Tryz.f20
def live_covered_Y : TH := { joins := [], loops := [(3, { keep := [(5, (.mp 0)), (15, (.int .i64))], mem := [.map (.agg (.cons (.agg (.cons (.int .i64) (.cons (.int .i64) .unit))) (.cons (.int .i64) .unit))) .bool] }), (7, { keep := [(5, (.mp 0)), (27, (.int .i64))], mem := [.map (.agg (.cons (.agg (.cons (.int .i64) (.cons (.int .i64) .unit))) (.cons (.int .i64) .unit))) .bool, .gone] }), (10, { keep := [(5, (.mp 0)), (34, (.int .i64))], mem := [.map (.agg (.cons (.agg (.cons (.int .i64) (.cons (.int .i64) .unit))) (.cons (.int .i64) .unit))) .bool, .gone, .gone] })], cuts := [], ro := [], news := [] }
noncomputable def live_covered_l10 (y7 : (Int × List (((Int × Int × Unit) × Int × Unit) × Bool) × Unit)) (x3 : (Int × List (List UInt8) × (Int × Int × List UInt8 × Unit) × Int × List ((Int × Int × Unit) × Int × Unit) × Unit)) (y10 : (Int × List (((Int × Int × Unit) × Int × Unit) × Bool) × Unit)) : Option ((Int × List (((Int × Int × Unit) × Int × Unit) × Bool) × Unit) ⊕ ((Int × List (((Int × Int × Unit) × Int × Unit) × Bool) × Unit) ⊕ ((Int × List (((Int × Int × Unit) × Int × Unit) × Bool) × Unit) ⊕ (List (((Int × Int × Unit) × Int × Unit) × Bool))))) :=
 cond (decide (y10.1 < (x3.2.2.2.2.1.length : Int))) (
(atI x3.2.2.2.2.1 y10.1).bind fun x4 =>
 some (.inl ((IntKind.wrap .i64 (y10.1 + 1)), (putK (.agg (.cons (.agg (.cons (.int .i64) (.cons (.int .i64) .unit))) (.cons (.int .i64) .unit))) x4 true y10.2.1), ()))) (
 some (.inr (.inl ((IntKind.wrap .i64 (y7.1 + 1)), y10.2.1, ()))))
noncomputable def live_covered_l7 (y3 : (Int × List (((Int × Int × Unit) × Int × Unit) × Bool) × Unit)) (x1 : ((Int × Int × Unit) × Int × Int × Bool × List (Int × List (List UInt8) × (Int × Int × List UInt8 × Unit) × Int × List ((Int × Int × Unit) × Int × Unit) × Unit) × Unit)) (y7 : (Int × List (((Int × Int × Unit) × Int × Unit) × Bool) × Unit)) : Option ((Int × List (((Int × Int × Unit) × Int × Unit) × Bool) × Unit) ⊕ ((Int × List (((Int × Int × Unit) × Int × Unit) × Bool) × Unit) ⊕ (List (((Int × Int × Unit) × Int × Unit) × Bool)))) :=
 cond (decide (y7.1 < (x1.2.2.2.2.1.length : Int))) (
(atI x1.2.2.2.2.1 y7.1).bind fun x3 =>
 loopT (live_covered_l10 y7 x3) (0, y7.2.1, ())) (
 some (.inr (.inl ((IntKind.wrap .i64 (y3.1 + 1)), y7.2.1, ()))))
noncomputable def live_covered_l3 (a0 : List ((Int × Int × Unit) × Int × Int × Bool × List (Int × List (List UInt8) × (Int × Int × List UInt8 × Unit) × Int × List ((Int × Int × Unit) × Int × Unit) × Unit) × Unit)) (a1 : List ((Int × Int × Unit) × Int × Unit)) (y3 : (Int × List (((Int × Int × Unit) × Int × Unit) × Bool) × Unit)) : Option ((Int × List (((Int × Int × Unit) × Int × Unit) × Bool) × Unit) ⊕ (List (((Int × Int × Unit) × Int × Unit) × Bool))) :=
 cond (decide (y3.1 < (a0.length : Int))) (
(atI a0 y3.1).bind fun x1 =>
(tally_Seen a1 x1.1).bind fun r2 =>
 cond (!r2) (
 some (.inl ((IntKind.wrap .i64 (y3.1 + 1)), y3.2.1, ()))) (
 loopT (live_covered_l7 y3 x1) (0, y3.2.1, ()))) (
 some (.inr y3.2.1))
noncomputable def live_covered (a0 : List ((Int × Int × Unit) × Int × Int × Bool × List (Int × List (List UInt8) × (Int × Int × List UInt8 × Unit) × Int × List ((Int × Int × Unit) × Int × Unit) × Unit) × Unit)) (a1 : List ((Int × Int × Unit) × Int × Unit)) : Option (List (((Int × Int × Unit) × Int × Unit) × Bool)) :=
 loopT (live_covered_l3 a0 a1) (0, [], ())
noncomputable def live_covered_N : TNew := { ps := (.cons (.sl (.agg (.cons (.agg (.cons (.int .i64) (.cons (.int .i64) .unit))) (.cons (.int .i64) (.cons (.int .i64) (.cons .bool (.cons (.sl (.agg (.cons (.int .i64) (.cons (.sl .str) (.cons (.agg (.cons (.int .i64) (.cons (.int .i64) (.cons .str .unit)))) (.cons (.int .i64) (.cons (.sl (.agg (.cons (.agg (.cons (.int .i64) (.cons (.int .i64) .unit))) (.cons (.int .i64) .unit)))) .unit))))))) .unit))))))) (.cons (.sl (.agg (.cons (.agg (.cons (.int .i64) (.cons (.int .i64) .unit))) (.cons (.int .i64) .unit)))) .unit)), e := 57, t := (.sl (.cons (.agg (.cons (.agg (.cons (.int .i64) (.cons (.int .i64) .unit))) (.cons (.int .i64) .unit))) .bool)), fn := fun v => live_covered v.1 v.2.1, mp := true }
noncomputable def live_covered_V : TEnv := { pure := [(21, tally_Seen_T)], look := [], glob := G0T, ty := [(4, .bool), (61, (.agg (.cons (.agg (.cons (.int .i64) (.cons (.int .i64) .unit))) (.cons (.int .i64) .unit))))], raw := [], fresh := [] }
theorem live_covered_eq : newMY Tryz.prog live_covered_E live_covered_H live_covered_V live_covered_Y Tryz.f20 live_covered_N.ps (.agg (.cons (.agg (.cons (.int .i64) (.cons (.int .i64) .unit))) (.cons (.int .i64) .unit))) .bool = live_covered_N.fn := by kernel_rfl
theorem live_covered_Sok : SoundS Tryz.prog G0 20 live_covered_S := runF_sound (P := Tryz.prog) (E := live_covered_E) (h := live_covered_H) (f := 20) (fn := Tryz.f20) ⟨same_ok, (envP_cons tally_Seen_Fok envP_nil), envS_nil, envP_nil, envX_nil⟩ Tryz.func20 rfl (by kernel_rfl)
theorem live_covered_ok : TNewOk live_covered_S live_covered_N := newMY_ok (E := live_covered_E) (ET := live_covered_V) (EnvT.ofX (E := live_covered_E) (ET := live_covered_V) (pure_of (pairs_cons tally_Seen_ok pairs_nil)) looks_nil raws_nil G0_ok news_nil) live_covered_eq
-- palinode/live.All
noncomputable def live_All_E : Env := { pure := [(21, tally_Seen_F)], raw := [(20, live_covered_S)], glob := G0, same := [], look := [], ext := [] }
def live_All_H : Hints := { seqs := [], loops := [(4, [1, 5, 6, 15, 16, 17]), (8, [1, 5, 6, 8, 15, 16, 17, 27, 28, 29])], own := [] }
noncomputable def live_All_F : PFn := closeF (runF Tryz.prog live_All_E live_All_H Tryz.f7)
def live_All_Y : TH := { joins := [], loops := [(4, { keep := [(5, (.mp 0)), (6, (.own 4)), (17, (.int .i64))], mem := [.map (.agg (.cons (.agg (.cons (.int .i64) (.cons (.int .i64) .unit))) (.cons (.int .i64) .unit))) .bool, .gone, .gone, .gone, .row true 63 (.agg (.cons (.agg (.cons (.agg (.cons (.int .i64) (.cons (.int .i64) .unit))) (.cons (.int .i64) .unit))) (.cons (.agg (.cons (.int .i64) (.cons (.sl .str) (.cons (.agg (.cons (.int .i64) (.cons (.int .i64) (.cons .str .unit)))) (.cons (.int .i64) (.cons (.sl (.agg (.cons (.agg (.cons (.int .i64) (.cons (.int .i64) .unit))) (.cons (.int .i64) .unit)))) .unit)))))) (.cons (.int .i64) .unit))))] }), (8, { keep := [(5, (.mp 0)), (6, (.own 4)), (8, (.bx 5 0)), (29, (.int .i64))], mem := [.map (.agg (.cons (.agg (.cons (.int .i64) (.cons (.int .i64) .unit))) (.cons (.int .i64) .unit))) .bool, .gone, .gone, .gone, .row true 63 (.agg (.cons (.agg (.cons (.agg (.cons (.int .i64) (.cons (.int .i64) .unit))) (.cons (.int .i64) .unit))) (.cons (.agg (.cons (.int .i64) (.cons (.sl .str) (.cons (.agg (.cons (.int .i64) (.cons (.int .i64) (.cons .str .unit)))) (.cons (.int .i64) (.cons (.sl (.agg (.cons (.agg (.cons (.int .i64) (.cons (.int .i64) .unit))) (.cons (.int .i64) .unit)))) .unit)))))) (.cons (.int .i64) .unit)))), .box 55 (.agg (.cons (.agg (.cons (.int .i64) (.cons (.int .i64) .unit))) (.cons (.int .i64) (.cons (.int .i64) (.cons .bool (.cons (.sl (.agg (.cons (.int .i64) (.cons (.sl .str) (.cons (.agg (.cons (.int .i64) (.cons (.int .i64) (.cons .str .unit)))) (.cons (.int .i64) (.cons (.sl (.agg (.cons (.agg (.cons (.int .i64) (.cons (.int .i64) .unit))) (.cons (.int .i64) .unit)))) .unit))))))) .unit))))))] })], cuts := [], ro := [], news := [] }
noncomputable def live_All_l8 (y4 : (Int × List (((Int × Int × Unit) × Int × Unit) × Bool) × List (((Int × Int × Unit) × Int × Unit) × (Int × List (List UInt8) × (Int × Int × List UInt8 × Unit) × Int × List ((Int × Int × Unit) × Int × Unit) × Unit) × Int × Unit) × Unit)) (x2 : ((Int × Int × Unit) × Int × Int × Bool × List (Int × List (List UInt8) × (Int × Int × List UInt8 × Unit) × Int × List ((Int × Int × Unit) × Int × Unit) × Unit) × Unit)) (y8 : (Int × List (((Int × Int × Unit) × Int × Unit) × Bool) × List (((Int × Int × Unit) × Int × Unit) × (Int × List (List UInt8) × (Int × Int × List UInt8 × Unit) × Int × List ((Int × Int × Unit) × Int × Unit) × Unit) × Int × Unit) × ((Int × Int × Unit) × Int × Int × Bool × List (Int × List (List UInt8) × (Int × Int × List UInt8 × Unit) × Int × List ((Int × Int × Unit) × Int × Unit) × Unit) × Unit) × Unit)) : Option ((Int × List (((Int × Int × Unit) × Int × Unit) × Bool) × List (((Int × Int × Unit) × Int × Unit) × (Int × List (List UInt8) × (Int × Int × List UInt8 × Unit) × Int × List ((Int × Int × Unit) × Int × Unit) × Unit) × Int × Unit) × ((Int × Int × Unit) × Int × Int × Bool × List (Int × List (List UInt8) × (Int × Int × List UInt8 × Unit) × Int × List ((Int × Int × Unit) × Int × Unit) × Unit) × Unit) × Unit) ⊕ ((Int × List (((Int × Int × Unit) × Int × Unit) × Bool) × List (((Int × Int × Unit) × Int × Unit) × (Int × List (List UInt8) × (Int × Int × List UInt8 × Unit) × Int × List ((Int × Int × Unit) × Int × Unit) × Unit) × Int × Unit) × Unit) ⊕ List (((Int × Int × Unit) × Int × Unit) × (Int × List (List UInt8) × (Int × Int × List UInt8 × Unit) × Int × List ((Int × Int × Unit) × Int × Unit) × Unit) × Int × Unit))) :=
 cond (decide (y8.1 < (x2.2.2.2.2.1.length : Int))) (
(atI x2.2.2.2.2.1 y8.1).bind fun x4 =>
 cond (decide (x4.1 = 1)) (cond (!((getK (.agg (.cons (.agg (.cons (.int .i64) (.cons (.int .i64) .unit))) (.cons (.int .i64) .unit))) false (y8.2.2.2.1.1, y8.1, ()) y8.2.1).1)) (
(roomT (y8.2.2.1.length + ([((y8.2.2.2.1.1, y8.1, ()), x4, y8.2.2.2.1.2.2.1, ())] : List (((Int × Int × Unit) × Int × Unit) × (Int × List (List UInt8) × (Int × Int × List UInt8 × Unit) × Int × List ((Int × Int × Unit) × Int × Unit) × Unit) × Int × Unit)).length)).bind fun u5 =>
 some (.inl ((IntKind.wrap .i64 (y8.1 + 1)), y8.2.1, (y8.2.2.1 ++ ([((y8.2.2.2.1.1, y8.1, ()), x4, y8.2.2.2.1.2.2.1, ())] : List (((Int × Int × Unit) × Int × Unit) × (Int × List (List UInt8) × (Int × Int × List UInt8 × Unit) × Int × List ((Int × Int × Unit) × Int × Unit) × Unit) × Int × Unit))), y8.2.2.2.1, ()))) (
 some (.inl ((IntKind.wrap .i64 (y8.1 + 1)), y8.2.1, y8.2.2.1, y8.2.2.2.1, ())))) (cond (decide (x4.1 = 2)) (cond (!((getK (.agg (.cons (.agg (.cons (.int .i64) (.cons (.int .i64) .unit))) (.cons (.int .i64) .unit))) false (y8.2.2.2.1.1, y8.1, ()) y8.2.1).1)) (
(roomT (y8.2.2.1.length + ([((y8.2.2.2.1.1, y8.1, ()), x4, y8.2.2.2.1.2.2.1, ())] : List (((Int × Int × Unit) × Int × Unit) × (Int × List (List UInt8) × (Int × Int × List UInt8 × Unit) × Int × List ((Int × Int × Unit) × Int × Unit) × Unit) × Int × Unit)).length)).bind fun u6 =>
 some (.inl ((IntKind.wrap .i64 (y8.1 + 1)), y8.2.1, (y8.2.2.1 ++ ([((y8.2.2.2.1.1, y8.1, ()), x4, y8.2.2.2.1.2.2.1, ())] : List (((Int × Int × Unit) × Int × Unit) × (Int × List (List UInt8) × (Int × Int × List UInt8 × Unit) × Int × List ((Int × Int × Unit) × Int × Unit) × Unit) × Int × Unit))), y8.2.2.2.1, ()))) (
 some (.inl ((IntKind.wrap .i64 (y8.1 + 1)), y8.2.1, y8.2.2.1, y8.2.2.2.1, ())))) (cond (decide (x4.1 = 3)) (cond (!((getK (.agg (.cons (.agg (.cons (.int .i64) (.cons (.int .i64) .unit))) (.cons (.int .i64) .unit))) false (y8.2.2.2.1.1, y8.1, ()) y8.2.1).1)) (
(roomT (y8.2.2.1.length + ([((y8.2.2.2.1.1, y8.1, ()), x4, y8.2.2.2.1.2.2.1, ())] : List (((Int × Int × Unit) × Int × Unit) × (Int × List (List UInt8) × (Int × Int × List UInt8 × Unit) × Int × List ((Int × Int × Unit) × Int × Unit) × Unit) × Int × Unit)).length)).bind fun u7 =>
 some (.inl ((IntKind.wrap .i64 (y8.1 + 1)), y8.2.1, (y8.2.2.1 ++ ([((y8.2.2.2.1.1, y8.1, ()), x4, y8.2.2.2.1.2.2.1, ())] : List (((Int × Int × Unit) × Int × Unit) × (Int × List (List UInt8) × (Int × Int × List UInt8 × Unit) × Int × List ((Int × Int × Unit) × Int × Unit) × Unit) × Int × Unit))), y8.2.2.2.1, ()))) (
 some (.inl ((IntKind.wrap .i64 (y8.1 + 1)), y8.2.1, y8.2.2.1, y8.2.2.2.1, ())))) (some (.inl ((IntKind.wrap .i64 (y8.1 + 1)), y8.2.1, y8.2.2.1, y8.2.2.2.1, ())))))) (
 some (.inr (.inl ((IntKind.wrap .i64 (y4.1 + 1)), y8.2.1, y8.2.2.1, ()))))
noncomputable def live_All_l4 (a0 : List ((Int × Int × Unit) × Int × Int × Bool × List (Int × List (List UInt8) × (Int × Int × List UInt8 × Unit) × Int × List ((Int × Int × Unit) × Int × Unit) × Unit) × Unit)) (a1 : List ((Int × Int × Unit) × Int × Unit)) (y4 : (Int × List (((Int × Int × Unit) × Int × Unit) × Bool) × List (((Int × Int × Unit) × Int × Unit) × (Int × List (List UInt8) × (Int × Int × List UInt8 × Unit) × Int × List ((Int × Int × Unit) × Int × Unit) × Unit) × Int × Unit) × Unit)) : Option ((Int × List (((Int × Int × Unit) × Int × Unit) × Bool) × List (((Int × Int × Unit) × Int × Unit) × (Int × List (List UInt8) × (Int × Int × List UInt8 × Unit) × Int × List ((Int × Int × Unit) × Int × Unit) × Unit) × Int × Unit) × Unit) ⊕ List (((Int × Int × Unit) × Int × Unit) × (Int × List (List UInt8) × (Int × Int × List UInt8 × Unit) × Int × List ((Int × Int × Unit) × Int × Unit) × Unit) × Int × Unit)) :=
 cond (decide (y4.1 < (a0.length : Int))) (
(atI a0 y4.1).bind fun x2 =>
(tally_Seen a1 x2.1).bind fun r3 =>
 cond (!r3) (
 some (.inl ((IntKind.wrap .i64 (y4.1 + 1)), y4.2.1, y4.2.2.1, ()))) (
 loopT (live_All_l8 y4 x2) (0, y4.2.1, y4.2.2.1, x2, ()))) (
 some (.inr y4.2.2.1))
noncomputable def live_All (a0 : List ((Int × Int × Unit) × Int × Int × Bool × List (Int × List (List UInt8) × (Int × Int × List UInt8 × Unit) × Int × List ((Int × Int × Unit) × Int × Unit) × Unit) × Unit)) (a1 : List ((Int × Int × Unit) × Int × Unit)) : Option (List (((Int × Int × Unit) × Int × Unit) × (Int × List (List UInt8) × (Int × Int × List UInt8 × Unit) × Int × List ((Int × Int × Unit) × Int × Unit) × Unit) × Int × Unit)) :=
(live_covered a0 a1).bind fun n1 =>
 loopT (live_All_l4 a0 a1) (0, n1, [], ())
noncomputable def live_All_T : TFn := { ps := (.cons (.sl (.agg (.cons (.agg (.cons (.int .i64) (.cons (.int .i64) .unit))) (.cons (.int .i64) (.cons (.int .i64) (.cons .bool (.cons (.sl (.agg (.cons (.int .i64) (.cons (.sl .str) (.cons (.agg (.cons (.int .i64) (.cons (.int .i64) (.cons .str .unit)))) (.cons (.int .i64) (.cons (.sl (.agg (.cons (.agg (.cons (.int .i64) (.cons (.int .i64) .unit))) (.cons (.int .i64) .unit)))) .unit))))))) .unit))))))) (.cons (.sl (.agg (.cons (.agg (.cons (.int .i64) (.cons (.int .i64) .unit))) (.cons (.int .i64) .unit)))) .unit)), res := (.sl (.agg (.cons (.agg (.cons (.agg (.cons (.int .i64) (.cons (.int .i64) .unit))) (.cons (.int .i64) .unit))) (.cons (.agg (.cons (.int .i64) (.cons (.sl .str) (.cons (.agg (.cons (.int .i64) (.cons (.int .i64) (.cons .str .unit)))) (.cons (.int .i64) (.cons (.sl (.agg (.cons (.agg (.cons (.int .i64) (.cons (.int .i64) .unit))) (.cons (.int .i64) .unit)))) .unit)))))) (.cons (.int .i64) .unit))))), fn := fun v => live_All v.1 v.2.1 }
noncomputable def live_All_V : TEnv := { pure := [(21, tally_Seen_T)], look := [], glob := G0T, ty := [(63, (.agg (.cons (.agg (.cons (.agg (.cons (.int .i64) (.cons (.int .i64) .unit))) (.cons (.int .i64) .unit))) (.cons (.agg (.cons (.int .i64) (.cons (.sl .str) (.cons (.agg (.cons (.int .i64) (.cons (.int .i64) (.cons .str .unit)))) (.cons (.int .i64) (.cons (.sl (.agg (.cons (.agg (.cons (.int .i64) (.cons (.int .i64) .unit))) (.cons (.int .i64) .unit)))) .unit)))))) (.cons (.int .i64) .unit)))))], raw := [], fresh := [(20, live_covered_N)] }
theorem live_All_eq : runY Tryz.prog live_All_E live_All_H live_All_V live_All_Y Tryz.f7 live_All_T.ps live_All_T.res = live_All_T.fn := by kernel_rfl
theorem live_All_Fok : SoundP Tryz.prog G0 7 live_All_F := closeF_sound (runF_sound (P := Tryz.prog) (E := live_All_E) (h := live_All_H) (f := 7) (fn := Tryz.f7) ⟨same_ok, (envP_cons tally_Seen_Fok envP_nil), (envS_cons live_covered_Sok envS_nil), envP_nil, envX_nil⟩ Tryz.func7 rfl (by kernel_rfl))
theorem live_All_ok : TOk live_All_F live_All_T := runY_ok (E := live_All_E) (ET := live_All_V) (EnvT.ofX (E := live_All_E) (ET := live_All_V) (pure_of (pairs_cons tally_Seen_ok pairs_nil)) looks_nil (raws_more raws_nil rfl) G0_ok (news_cons live_covered_ok rfl rfl rfl news_nil)) live_All_eq rfl
-- palinode/palinoderef08.Get
noncomputable def ref08_Get_E : Env := { pure := [], raw := [], glob := G0, same := [], look := [], ext := [] }
def ref08_Get_H : Hints := { seqs := [], loops := [(2, [0, 3, 5])], own := [] }
noncomputable def ref08_Get_F : PFn := closeF (runF Tryz.prog ref08_Get_E ref08_Get_H Tryz.f45)
def ref08_Get_Y : TH := { joins := [], loops := [(2, { keep := [(3, (.bx 0 0)), (5, (.int .i64))], mem := [.same] })], cuts := [], ro := [3], news := [] }
noncomputable def ref08_Get_l2 (a0 : List ((Int × Int × Unit) × Int × Unit)) (a1 : (Int × Int × Unit)) (y2 : (Int × Unit)) : Option ((Int × Unit) ⊕ Int) :=
 cond (decide (y2.1 < (a0.length : Int))) (
(atI a0 y2.1).bind fun x1 =>
 cond (eqV (.agg (.cons (.int .i64) (.cons (.int .i64) .unit))) x1.1 a1) (
(atI a0 y2.1).bind fun x2 =>
 some (.inr x2.2.1)) (
 some (.inl ((IntKind.wrap .i64 (y2.1 + 1)), ())))) (
 some (.inr 0))
noncomputable def ref08_Get (a0 : List ((Int × Int × Unit) × Int × Unit)) (a1 : (Int × Int × Unit)) : Option Int :=
 loopT (ref08_Get_l2 a0 a1) (0, ())
noncomputable def ref08_Get_T : TFn := { ps := (.cons (.sl (.agg (.cons (.agg (.cons (.int .i64) (.cons (.int .i64) .unit))) (.cons (.int .i64) .unit)))) (.cons (.agg (.cons (.int .i64) (.cons (.int .i64) .unit))) .unit)), res := (.int .i64), fn := fun v => ref08_Get v.1 v.2.1 }
noncomputable def ref08_Get_V : TEnv := { pure := [], look := [], glob := G0T, ty := [], raw := [], fresh := [] }
theorem ref08_Get_eq : runY Tryz.prog ref08_Get_E ref08_Get_H ref08_Get_V ref08_Get_Y Tryz.f45 ref08_Get_T.ps ref08_Get_T.res = ref08_Get_T.fn := by kernel_rfl
theorem ref08_Get_Fok : SoundP Tryz.prog G0 45 ref08_Get_F := closeF_sound (runF_sound (P := Tryz.prog) (E := ref08_Get_E) (h := ref08_Get_H) (f := 45) (fn := Tryz.f45) ⟨same_ok, envP_nil, envS_nil, envP_nil, envX_nil⟩ Tryz.func45 rfl (by kernel_rfl))
theorem ref08_Get_ok : TOk ref08_Get_F ref08_Get_T := runY_ok (E := ref08_Get_E) (ET := ref08_Get_V) (EnvT.ofX (E := ref08_Get_E) (ET := ref08_Get_V) (pure_of pairs_nil) looks_nil raws_nil G0_ok news_nil) ref08_Get_eq rfl
-- palinode/palinoderef08.Seen
noncomputable def ref08_Seen_E : Env := { pure := [(45, ref08_Get_F)], raw := [], glob := G0, same := [], look := [], ext := [] }
def ref08_Seen_H : Hints := { seqs := [], loops := [], own := [] }
noncomputable def ref08_Seen_F : PFn := closeF (runF Tryz.prog ref08_Seen_E ref08_Seen_H Tryz.f22)
def ref08_Seen_Y : TH := { joins := [], loops := [], cuts := [], ro := [3], news := [] }
noncomputable def ref08_Seen (a0 : List ((Int × Int × Unit) × Int × Unit)) (a1 : (Int × Int × Unit)) : Option Bool :=
(ref08_Get a0 a1).bind fun r1 =>
(remT r1 2).bind fun t2 =>
 some (decide (t2 = 0))
noncomputable def ref08_Seen_T : TFn := { ps := (.cons (.sl (.agg (.cons (.agg (.cons (.int .i64) (.cons (.int .i64) .unit))) (.cons (.int .i64) .unit)))) (.cons (.agg (.cons (.int .i64) (.cons (.int .i64) .unit))) .unit)), res := .bool, fn := fun v => ref08_Seen v.1 v.2.1 }
noncomputable def ref08_Seen_V : TEnv := { pure := [(45, ref08_Get_T)], look := [], glob := G0T, ty := [], raw := [], fresh := [] }
theorem ref08_Seen_eq : runY Tryz.prog ref08_Seen_E ref08_Seen_H ref08_Seen_V ref08_Seen_Y Tryz.f22 ref08_Seen_T.ps ref08_Seen_T.res = ref08_Seen_T.fn := by kernel_rfl
theorem ref08_Seen_Fok : SoundP Tryz.prog G0 22 ref08_Seen_F := closeF_sound (runF_sound (P := Tryz.prog) (E := ref08_Seen_E) (h := ref08_Seen_H) (f := 22) (fn := Tryz.f22) ⟨same_ok, (envP_cons ref08_Get_Fok envP_nil), envS_nil, envP_nil, envX_nil⟩ Tryz.func22 rfl (by kernel_rfl))
theorem ref08_Seen_ok : TOk ref08_Seen_F ref08_Seen_T := runY_ok (E := ref08_Seen_E) (ET := ref08_Seen_V) (EnvT.ofX (E := ref08_Seen_E) (ET := ref08_Seen_V) (pure_of (pairs_cons ref08_Get_ok pairs_nil)) looks_nil raws_nil G0_ok news_nil) ref08_Seen_eq rfl
-- palinode/palinoderef11.Covers
noncomputable def ref11_Covers_E : Env := { pure := [], raw := [], glob := G0, same := [], look := [], ext := [] }
def ref11_Covers_H : Hints := { seqs := [], loops := [(2, [2, 3, 5])], own := [] }
noncomputable def ref11_Covers_F : PFn := closeF (runF Tryz.prog ref11_Covers_E ref11_Covers_H Tryz.f46)
def ref11_Covers_Y : TH := { joins := [], loops := [(2, { keep := [(2, (.bx 0 0)), (3, (.bx 1 0)), (5, (.int .i64))], mem := [.same, .same] })], cuts := [], ro := [2, 3], news := [] }
noncomputable def ref11_Covers_l2 (a0 : (Int × List (List UInt8) × (Int × Int × List UInt8 × Unit) × Int × List ((Int × Int × Unit) × Int × Unit) × Unit)) (a1 : ((Int × Int × Unit) × Int × Unit)) (y2 : (Int × Unit)) : Option ((Int × Unit) ⊕ Bool) :=
 cond (decide (y2.1 < (a0.2.2.2.2.1.length : Int))) (
(atI a0.2.2.2.2.1 y2.1).bind fun x1 =>
 cond (eqV (.agg (.cons (.agg (.cons (.int .i64) (.cons (.int .i64) .unit))) (.cons (.int .i64) .unit))) x1 a1) (
 some (.inr true)) (
 some (.inl ((IntKind.wrap .i64 (y2.1 + 1)), ())))) (
 some (.inr false))
noncomputable def ref11_Covers (a0 : (Int × List (List UInt8) × (Int × Int × List UInt8 × Unit) × Int × List ((Int × Int × Unit) × Int × Unit) × Unit)) (a1 : ((Int × Int × Unit) × Int × Unit)) : Option Bool :=
 loopT (ref11_Covers_l2 a0 a1) (0, ())
noncomputable def ref11_Covers_T : TFn := { ps := (.cons (.agg (.cons (.int .i64) (.cons (.sl .str) (.cons (.agg (.cons (.int .i64) (.cons (.int .i64) (.cons .str .unit)))) (.cons (.int .i64) (.cons (.sl (.agg (.cons (.agg (.cons (.int .i64) (.cons (.int .i64) .unit))) (.cons (.int .i64) .unit)))) .unit)))))) (.cons (.agg (.cons (.agg (.cons (.int .i64) (.cons (.int .i64) .unit))) (.cons (.int .i64) .unit))) .unit)), res := .bool, fn := fun v => ref11_Covers v.1 v.2.1 }
noncomputable def ref11_Covers_V : TEnv := { pure := [], look := [], glob := G0T, ty := [], raw := [], fresh := [] }
theorem ref11_Covers_eq : runY Tryz.prog ref11_Covers_E ref11_Covers_H ref11_Covers_V ref11_Covers_Y Tryz.f46 ref11_Covers_T.ps ref11_Covers_T.res = ref11_Covers_T.fn := by kernel_rfl
theorem ref11_Covers_Fok : SoundP Tryz.prog G0 46 ref11_Covers_F := closeF_sound (runF_sound (P := Tryz.prog) (E := ref11_Covers_E) (h := ref11_Covers_H) (f := 46) (fn := Tryz.f46) ⟨same_ok, envP_nil, envS_nil, envP_nil, envX_nil⟩ Tryz.func46 rfl (by kernel_rfl))
theorem ref11_Covers_ok : TOk ref11_Covers_F ref11_Covers_T := runY_ok (E := ref11_Covers_E) (ET := ref11_Covers_V) (EnvT.ofX (E := ref11_Covers_E) (ET := ref11_Covers_V) (pure_of pairs_nil) looks_nil raws_nil G0_ok news_nil) ref11_Covers_eq rfl
-- palinode/palinoderef13.Covered
noncomputable def ref13_Covered_E : Env := { pure := [(22, ref08_Seen_F), (46, ref11_Covers_F)], raw := [], glob := G0, same := [], look := [], ext := [] }
def ref13_Covered_H : Hints := { seqs := [], loops := [(2, [0, 1, 5, 7]), (5, [0, 1, 5, 7, 8])], own := [] }
noncomputable def ref13_Covered_F : PFn := closeF (runF Tryz.prog ref13_Covered_E ref13_Covered_H Tryz.f23)
def ref13_Covered_Y : TH := { joins := [], loops := [(2, { keep := [(5, (.bx 0 0)), (7, (.int .i64))], mem := [.same] }), (5, { keep := [(5, (.bx 0 0)), (8, (.int .i64))], mem := [.same] })], cuts := [], ro := [5], news := [] }
noncomputable def ref13_Covered_l5 (y2 : (Int × Unit)) (a0 : List ((Int × Int × Unit) × Int × Int × Bool × List (Int × List (List UInt8) × (Int × Int × List UInt8 × Unit) × Int × List ((Int × Int × Unit) × Int × Unit) × Unit) × Unit)) (a1 : List ((Int × Int × Unit) × Int × Unit)) (a2 : ((Int × Int × Unit) × Int × Unit)) (y5 : (Int × Unit)) : Option ((Int × Unit) ⊕ ((Int × Unit) ⊕ Bool)) :=
(atI a0 y2.1).bind fun x1 =>
 cond (decide (y5.1 < (x1.2.2.2.2.1.length : Int))) (
(atI a0 y2.1).bind fun x2 =>
(atI x2.2.2.2.2.1 y5.1).bind fun x3 =>
(ref11_Covers x3 a2).bind fun r4 =>
 cond r4 ((atI a0 y2.1).bind fun x5 =>
(ref08_Seen a1 x5.1).bind fun r6 =>
 cond r6 (
 some (.inr (.inr true))) (
 some (.inl ((IntKind.wrap .i64 (y5.1 + 1)), ())))) (some (.inl ((IntKind.wrap .i64 (y5.1 + 1)), ())))) (
 some (.inr (.inl ((IntKind.wrap .i64 (y2.1 + 1)), ()))))
noncomputable def ref13_Covered_l2 (a0 : List ((Int × Int × Unit) × Int × Int × Bool × List (Int × List (List UInt8) × (Int × Int × List UInt8 × Unit) × Int × List ((Int × Int × Unit) × Int × Unit) × Unit) × Unit)) (a1 : List ((Int × Int × Unit) × Int × Unit)) (a2 : ((Int × Int × Unit) × Int × Unit)) (y2 : (Int × Unit)) : Option ((Int × Unit) ⊕ Bool) :=
 cond (decide (y2.1 < (a0.length : Int))) (
 loopT (ref13_Covered_l5 y2 a0 a1 a2) (0, ())) (
 some (.inr false))
noncomputable def ref13_Covered (a0 : List ((Int × Int × Unit) × Int × Int × Bool × List (Int × List (List UInt8) × (Int × Int × List UInt8 × Unit) × Int × List ((Int × Int × Unit) × Int × Unit) × Unit) × Unit)) (a1 : List ((Int × Int × Unit) × Int × Unit)) (a2 : ((Int × Int × Unit) × Int × Unit)) : Option Bool :=
 loopT (ref13_Covered_l2 a0 a1 a2) (0, ())
noncomputable def ref13_Covered_T : TFn := { ps := (.cons (.sl (.agg (.cons (.agg (.cons (.int .i64) (.cons (.int .i64) .unit))) (.cons (.int .i64) (.cons (.int .i64) (.cons .bool (.cons (.sl (.agg (.cons (.int .i64) (.cons (.sl .str) (.cons (.agg (.cons (.int .i64) (.cons (.int .i64) (.cons .str .unit)))) (.cons (.int .i64) (.cons (.sl (.agg (.cons (.agg (.cons (.int .i64) (.cons (.int .i64) .unit))) (.cons (.int .i64) .unit)))) .unit))))))) .unit))))))) (.cons (.sl (.agg (.cons (.agg (.cons (.int .i64) (.cons (.int .i64) .unit))) (.cons (.int .i64) .unit)))) (.cons (.agg (.cons (.agg (.cons (.int .i64) (.cons (.int .i64) .unit))) (.cons (.int .i64) .unit))) .unit))), res := .bool, fn := fun v => ref13_Covered v.1 v.2.1 v.2.2.1 }
noncomputable def ref13_Covered_V : TEnv := { pure := [(22, ref08_Seen_T), (46, ref11_Covers_T)], look := [], glob := G0T, ty := [], raw := [], fresh := [] }
theorem ref13_Covered_eq : runY Tryz.prog ref13_Covered_E ref13_Covered_H ref13_Covered_V ref13_Covered_Y Tryz.f23 ref13_Covered_T.ps ref13_Covered_T.res = ref13_Covered_T.fn := by kernel_rfl
theorem ref13_Covered_Fok : SoundP Tryz.prog G0 23 ref13_Covered_F := closeF_sound (runF_sound (P := Tryz.prog) (E := ref13_Covered_E) (h := ref13_Covered_H) (f := 23) (fn := Tryz.f23) ⟨same_ok, (envP_cons ref08_Seen_Fok (envP_cons ref11_Covers_Fok envP_nil)), envS_nil, envP_nil, envX_nil⟩ Tryz.func23 rfl (by kernel_rfl))
theorem ref13_Covered_ok : TOk ref13_Covered_F ref13_Covered_T := runY_ok (E := ref13_Covered_E) (ET := ref13_Covered_V) (EnvT.ofX (E := ref13_Covered_E) (ET := ref13_Covered_V) (pure_of (pairs_cons ref08_Seen_ok (pairs_cons ref11_Covers_ok pairs_nil))) looks_nil raws_nil G0_ok news_nil) ref13_Covered_eq rfl
-- palinode/palinoderef13.All
noncomputable def ref13_All_E : Env := { pure := [(22, ref08_Seen_F), (23, ref13_Covered_F)], raw := [], glob := G0, same := [], look := [], ext := [] }
def ref13_All_H : Hints := { seqs := [], loops := [(3, [0, 1, 5, 6]), (6, [0, 1, 5, 6, 7])], own := [72] }
noncomputable def ref13_All_F : PFn := closeF (runF Tryz.prog ref13_All_E ref13_All_H Tryz.f8)
def ref13_All_Y : TH := { joins := [], loops := [(3, { keep := [(5, (.own 2)), (6, (.int .i64))], mem := [.gone, .gone, .row true 65 (.agg (.cons (.agg (.cons (.agg (.cons (.int .i64) (.cons (.int .i64) .unit))) (.cons (.int .i64) .unit))) (.cons (.agg (.cons (.int .i64) (.cons (.sl .str) (.cons (.agg (.cons (.int .i64) (.cons (.int .i64) (.cons .str .unit)))) (.cons (.int .i64) (.cons (.sl (.agg (.cons (.agg (.cons (.int .i64) (.cons (.int .i64) .unit))) (.cons (.int .i64) .unit)))) .unit)))))) (.cons (.int .i64) .unit))))] }), (6, { keep := [(5, (.own 2)), (7, (.int .i64))], mem := [.gone, .gone, .row true 65 (.agg (.cons (.agg (.cons (.agg (.cons (.int .i64) (.cons (.int .i64) .unit))) (.cons (.int .i64) .unit))) (.cons (.agg (.cons (.int .i64) (.cons (.sl .str) (.cons (.agg (.cons (.int .i64) (.cons (.int .i64) (.cons .str .unit)))) (.cons (.int .i64) (.cons (.sl (.agg (.cons (.agg (.cons (.int .i64) (.cons (.int .i64) .unit))) (.cons (.int .i64) .unit)))) .unit)))))) (.cons (.int .i64) .unit))))] })], cuts := [(10, [(8, { keep := [(5, (.own 2)), (8, (.bx 3 0)), (9, (.bx 4 0)), (48, .bool)], mem := [.gone, .gone, .row true 65 (.agg (.cons (.agg (.cons (.agg (.cons (.int .i64) (.cons (.int .i64) .unit))) (.cons (.int .i64) .unit))) (.cons (.agg (.cons (.int .i64) (.cons (.sl .str) (.cons (.agg (.cons (.int .i64) (.cons (.int .i64) (.cons .str .unit)))) (.cons (.int .i64) (.cons (.sl (.agg (.cons (.agg (.cons (.int .i64) (.cons (.int .i64) .unit))) (.cons (.int .i64) .unit)))) .unit)))))) (.cons (.int .i64) .unit)))), .box 50 (.agg (.cons (.int .i64) (.cons (.sl .str) (.cons (.agg (.cons (.int .i64) (.cons (.int .i64) (.cons .str .unit)))) (.cons (.int .i64) (.cons (.sl (.agg (.cons (.agg (.cons (.int .i64) (.cons (.int .i64) .unit))) (.cons (.int .i64) .unit)))) .unit)))))), .box 61 (.agg (.cons (.agg (.cons (.int .i64) (.cons (.int .i64) .unit))) (.cons (.int .i64) .unit)))] })])], ro := [], news := [] }
noncomputable def ref13_All_l6 (y3 : (Int × List (((Int × Int × Unit) × Int × Unit) × (Int × List (List UInt8) × (Int × Int × List UInt8 × Unit) × Int × List ((Int × Int × Unit) × Int × Unit) × Unit) × Int × Unit) × Unit)) (a0 : List ((Int × Int × Unit) × Int × Int × Bool × List (Int × List (List UInt8) × (Int × Int × List UInt8 × Unit) × Int × List ((Int × Int × Unit) × Int × Unit) × Unit) × Unit)) (a1 : List ((Int × Int × Unit) × Int × Unit)) (y6 : (Int × List (((Int × Int × Unit) × Int × Unit) × (Int × List (List UInt8) × (Int × Int × List UInt8 × Unit) × Int × List ((Int × Int × Unit) × Int × Unit) × Unit) × Int × Unit) × Unit)) : Option ((Int × List (((Int × Int × Unit) × Int × Unit) × (Int × List (List UInt8) × (Int × Int × List UInt8 × Unit) × Int × List ((Int × Int × Unit) × Int × Unit) × Unit) × Int × Unit) × Unit) ⊕ ((Int × List (((Int × Int × Unit) × Int × Unit) × (Int × List (List UInt8) × (Int × Int × List UInt8 × Unit) × Int × List ((Int × Int × Unit) × Int × Unit) × Unit) × Int × Unit) × Unit) ⊕ List (((Int × Int × Unit) × Int × Unit) × (Int × List (List UInt8) × (Int × Int × List UInt8 × Unit) × Int × List ((Int × Int × Unit) × Int × Unit) × Unit) × Int × Unit))) :=
(atI a0 y3.1).bind fun x1 =>
 cond (decide (y6.1 < (x1.2.2.2.2.1.length : Int))) (
(atI a0 y3.1).bind fun x2 =>
(atI x2.2.2.2.2.1 y6.1).bind fun x3 =>
(atI a0 y3.1).bind fun x4 =>
(cond (decide (x3.1 ≥ 1)) (some ((decide (x3.1 ≤ 3)), y6.2.1, x3, (x4.1, y6.1, ()), ())) (some (false, y6.2.1, x3, (x4.1, y6.1, ()), ())) : Option (Bool × List (((Int × Int × Unit) × Int × Unit) × (Int × List (List UInt8) × (Int × Int × List UInt8 × Unit) × Int × List ((Int × Int × Unit) × Int × Unit) × Unit) × Int × Unit) × (Int × List (List UInt8) × (Int × Int × List UInt8 × Unit) × Int × List ((Int × Int × Unit) × Int × Unit) × Unit) × ((Int × Int × Unit) × Int × Unit) × Unit)).bind fun v5 =>
 cond v5.1 ((atI a0 y3.1).bind fun x6 =>
(ref08_Seen a1 x6.1).bind fun r7 =>
 cond r7 ((ref13_Covered a0 a1 v5.2.2.2.1).bind fun r8 =>
 cond (!r8) (
(atI a0 y3.1).bind fun x9 =>
(roomT (v5.2.1.length + ([(v5.2.2.2.1, v5.2.2.1, x9.2.2.1, ())] : List (((Int × Int × Unit) × Int × Unit) × (Int × List (List UInt8) × (Int × Int × List UInt8 × Unit) × Int × List ((Int × Int × Unit) × Int × Unit) × Unit) × Int × Unit)).length)).bind fun u10 =>
 some (.inl ((IntKind.wrap .i64 (y6.1 + 1)), (v5.2.1 ++ ([(v5.2.2.2.1, v5.2.2.1, x9.2.2.1, ())] : List (((Int × Int × Unit) × Int × Unit) × (Int × List (List UInt8) × (Int × Int × List UInt8 × Unit) × Int × List ((Int × Int × Unit) × Int × Unit) × Unit) × Int × Unit))), ()))) (
 some (.inl ((IntKind.wrap .i64 (y6.1 + 1)), v5.2.1, ())))) (some (.inl ((IntKind.wrap .i64 (y6.1 + 1)), v5.2.1, ())))) (some (.inl ((IntKind.wrap .i64 (y6.1 + 1)), v5.2.1, ())))) (
 some (.inr (.inl ((IntKind.wrap .i64 (y3.1 + 1)), y6.2.1, ()))))
noncomputable def ref13_All_l3 (a0 : List ((Int × Int × Unit) × Int × Int × Bool × List (Int × List (List UInt8) × (Int × Int × List UInt8 × Unit) × Int × List ((Int × Int × Unit) × Int × Unit) × Unit) × Unit)) (a1 : List ((Int × Int × Unit) × Int × Unit)) (y3 : (Int × List (((Int × Int × Unit) × Int × Unit) × (Int × List (List UInt8) × (Int × Int × List UInt8 × Unit) × Int × List ((Int × Int × Unit) × Int × Unit) × Unit) × Int × Unit) × Unit)) : Option ((Int × List (((Int × Int × Unit) × Int × Unit) × (Int × List (List UInt8) × (Int × Int × List UInt8 × Unit) × Int × List ((Int × Int × Unit) × Int × Unit) × Unit) × Int × Unit) × Unit) ⊕ List (((Int × Int × Unit) × Int × Unit) × (Int × List (List UInt8) × (Int × Int × List UInt8 × Unit) × Int × List ((Int × Int × Unit) × Int × Unit) × Unit) × Int × Unit)) :=
 cond (decide (y3.1 < (a0.length : Int))) (
 loopT (ref13_All_l6 y3 a0 a1) (0, y3.2.1, ())) (
 some (.inr y3.2.1))
noncomputable def ref13_All (a0 : List ((Int × Int × Unit) × Int × Int × Bool × List (Int × List (List UInt8) × (Int × Int × List UInt8 × Unit) × Int × List ((Int × Int × Unit) × Int × Unit) × Unit) × Unit)) (a1 : List ((Int × Int × Unit) × Int × Unit)) : Option (List (((Int × Int × Unit) × Int × Unit) × (Int × List (List UInt8) × (Int × Int × List UInt8 × Unit) × Int × List ((Int × Int × Unit) × Int × Unit) × Unit) × Int × Unit)) :=
 loopT (ref13_All_l3 a0 a1) (0, [], ())
noncomputable def ref13_All_T : TFn := { ps := (.cons (.sl (.agg (.cons (.agg (.cons (.int .i64) (.cons (.int .i64) .unit))) (.cons (.int .i64) (.cons (.int .i64) (.cons .bool (.cons (.sl (.agg (.cons (.int .i64) (.cons (.sl .str) (.cons (.agg (.cons (.int .i64) (.cons (.int .i64) (.cons .str .unit)))) (.cons (.int .i64) (.cons (.sl (.agg (.cons (.agg (.cons (.int .i64) (.cons (.int .i64) .unit))) (.cons (.int .i64) .unit)))) .unit))))))) .unit))))))) (.cons (.sl (.agg (.cons (.agg (.cons (.int .i64) (.cons (.int .i64) .unit))) (.cons (.int .i64) .unit)))) .unit)), res := (.sl (.agg (.cons (.agg (.cons (.agg (.cons (.int .i64) (.cons (.int .i64) .unit))) (.cons (.int .i64) .unit))) (.cons (.agg (.cons (.int .i64) (.cons (.sl .str) (.cons (.agg (.cons (.int .i64) (.cons (.int .i64) (.cons .str .unit)))) (.cons (.int .i64) (.cons (.sl (.agg (.cons (.agg (.cons (.int .i64) (.cons (.int .i64) .unit))) (.cons (.int .i64) .unit)))) .unit)))))) (.cons (.int .i64) .unit))))), fn := fun v => ref13_All v.1 v.2.1 }
noncomputable def ref13_All_V : TEnv := { pure := [(22, ref08_Seen_T), (23, ref13_Covered_T)], look := [], glob := G0T, ty := [(65, (.agg (.cons (.agg (.cons (.agg (.cons (.int .i64) (.cons (.int .i64) .unit))) (.cons (.int .i64) .unit))) (.cons (.agg (.cons (.int .i64) (.cons (.sl .str) (.cons (.agg (.cons (.int .i64) (.cons (.int .i64) (.cons .str .unit)))) (.cons (.int .i64) (.cons (.sl (.agg (.cons (.agg (.cons (.int .i64) (.cons (.int .i64) .unit))) (.cons (.int .i64) .unit)))) .unit)))))) (.cons (.int .i64) .unit)))))], raw := [], fresh := [] }
theorem ref13_All_eq : runY Tryz.prog ref13_All_E ref13_All_H ref13_All_V ref13_All_Y Tryz.f8 ref13_All_T.ps ref13_All_T.res = ref13_All_T.fn := by kernel_rfl
theorem ref13_All_Fok : SoundP Tryz.prog G0 8 ref13_All_F := closeF_sound (runF_sound (P := Tryz.prog) (E := ref13_All_E) (h := ref13_All_H) (f := 8) (fn := Tryz.f8) ⟨same_ok, (envP_cons ref08_Seen_Fok (envP_cons ref13_Covered_Fok envP_nil)), envS_nil, envP_nil, envX_nil⟩ Tryz.func8 rfl (by kernel_rfl))
theorem ref13_All_ok : TOk ref13_All_F ref13_All_T := runY_ok (E := ref13_All_E) (ET := ref13_All_V) (EnvT.ofX (E := ref13_All_E) (ET := ref13_All_V) (pure_of (pairs_cons ref08_Seen_ok (pairs_cons ref13_Covered_ok pairs_nil))) looks_nil raws_nil G0_ok news_nil) ref13_All_eq rfl
-- palinode/op.Leaf
noncomputable def op_Leaf_E : Env := { pure := [], raw := [], glob := G0, same := [], look := [], ext := [] }
def op_Leaf_H : Hints := { seqs := [], loops := [], own := [] }
noncomputable def op_Leaf_F : PFn := closeF (runF Tryz.prog op_Leaf_E op_Leaf_H Tryz.f27)
def op_Leaf_Y : TH := { joins := [(6, { keep := [(6, .bool)], mem := [] })], loops := [], cuts := [], ro := [], news := [] }
noncomputable def op_Leaf (a0 : Int) : Option Int :=
 cond (decide (a0 = 1)) (
 some 1) (
(cond (decide (a0 = 2)) (
 some (.inl ((decide (a0 = 2)), ()))) (
 some (.inl ((decide (a0 = 4)), ()))) : Option ((Bool × Unit) ⊕ Int)).bind (joinS fun v1 =>
 cond v1.1 (
 some 2) (
 cond (decide (a0 = 3)) (
 some 3) (
 some 0))))
noncomputable def op_Leaf_T : TFn := { ps := (.cons (.int .i64) .unit), res := (.int .i64), fn := fun v => op_Leaf v.1 }
noncomputable def op_Leaf_V : TEnv := { pure := [], look := [], glob := G0T, ty := [], raw := [], fresh := [] }
theorem op_Leaf_eq : runY Tryz.prog op_Leaf_E op_Leaf_H op_Leaf_V op_Leaf_Y Tryz.f27 op_Leaf_T.ps op_Leaf_T.res = op_Leaf_T.fn := by kernel_rfl
theorem op_Leaf_Fok : SoundP Tryz.prog G0 27 op_Leaf_F := closeF_sound (runF_sound (P := Tryz.prog) (E := op_Leaf_E) (h := op_Leaf_H) (f := 27) (fn := Tryz.f27) ⟨same_ok, envP_nil, envS_nil, envP_nil, envX_nil⟩ Tryz.func27 rfl (by kernel_rfl))
theorem op_Leaf_ok : TOk op_Leaf_F op_Leaf_T := runY_ok (E := op_Leaf_E) (ET := op_Leaf_V) (EnvT.ofX (E := op_Leaf_E) (ET := op_Leaf_V) (pure_of pairs_nil) looks_nil raws_nil G0_ok news_nil) op_Leaf_eq rfl
-- slices.Equal[[]string,string]
noncomputable def slices_Equal_Sl_string_string_E : Env := { pure := [], raw := [], glob := G0, same := [], look := [], ext := [] }
def slices_Equal_Sl_string_string_H : Hints := { seqs := [], loops := [(4, [0, 1, 12, 13])], own := [] }
noncomputable def slices_Equal_Sl_string_string_F : PFn := closeF (runF Tryz.prog slices_Equal_Sl_string_string_E slices_Equal_Sl_string_string_H Tryz.f65)
def slices_Equal_Sl_string_string_Y : TH := { joins := [], loops := [(4, { keep := [(13, (.int .i64))], mem := [] })], cuts := [], ro := [], news := [] }
noncomputable def slices_Equal_Sl_string_string_l4 (a0 : List (List UInt8)) (a1 : List (List UInt8)) (y4 : (Int × Unit)) : Option ((Int × Unit) ⊕ Bool) :=
 cond (decide (y4.1 < (a0.length : Int))) (
(atI a0 y4.1).bind fun x1 =>
(atI a1 y4.1).bind fun x2 =>
 cond (!decide (x1 = x2)) (
 some (.inr false)) (
 some (.inl ((IntKind.wrap .i64 (y4.1 + 1)), ())))) (
 some (.inr true))
noncomputable def slices_Equal_Sl_string_string (a0 : List (List UInt8)) (a1 : List (List UInt8)) : Option Bool :=
 cond (!decide ((a0.length : Int) = (a1.length : Int))) (
 some false) (
 loopT (slices_Equal_Sl_string_string_l4 a0 a1) (0, ()))
noncomputable def slices_Equal_Sl_string_string_T : TFn := { ps := (.cons (.sl .str) (.cons (.sl .str) .unit)), res := .bool, fn := fun v => slices_Equal_Sl_string_string v.1 v.2.1 }
noncomputable def slices_Equal_Sl_string_string_V : TEnv := { pure := [], look := [], glob := G0T, ty := [], raw := [], fresh := [] }
theorem slices_Equal_Sl_string_string_eq : runY Tryz.prog slices_Equal_Sl_string_string_E slices_Equal_Sl_string_string_H slices_Equal_Sl_string_string_V slices_Equal_Sl_string_string_Y Tryz.f65 slices_Equal_Sl_string_string_T.ps slices_Equal_Sl_string_string_T.res = slices_Equal_Sl_string_string_T.fn := by kernel_rfl
theorem slices_Equal_Sl_string_string_Fok : SoundP Tryz.prog G0 65 slices_Equal_Sl_string_string_F := closeF_sound (runF_sound (P := Tryz.prog) (E := slices_Equal_Sl_string_string_E) (h := slices_Equal_Sl_string_string_H) (f := 65) (fn := Tryz.f65) ⟨same_ok, envP_nil, envS_nil, envP_nil, envX_nil⟩ Tryz.func65 rfl (by kernel_rfl))
theorem slices_Equal_Sl_string_string_ok : TOk slices_Equal_Sl_string_string_F slices_Equal_Sl_string_string_T := runY_ok (E := slices_Equal_Sl_string_string_E) (ET := slices_Equal_Sl_string_string_V) (EnvT.ofX (E := slices_Equal_Sl_string_string_E) (ET := slices_Equal_Sl_string_string_V) (pure_of pairs_nil) looks_nil raws_nil G0_ok news_nil) slices_Equal_Sl_string_string_eq rfl
-- palinode/path.Same
noncomputable def path_Same_E : Env := { pure := [(65, slices_Equal_Sl_string_string_F)], raw := [], glob := G0, same := [], look := [], ext := [] }
def path_Same_H : Hints := { seqs := [], loops := [], own := [] }
noncomputable def path_Same_F : PFn := closeF (runF Tryz.prog path_Same_E path_Same_H Tryz.f47)
def path_Same_Y : TH := { joins := [], loops := [], cuts := [], ro := [], news := [] }
noncomputable def path_Same (a0 : List (List UInt8)) (a1 : List (List UInt8)) : Option Bool :=
(slices_Equal_Sl_string_string a0 a1).bind fun r1 =>
 some r1
noncomputable def path_Same_T : TFn := { ps := (.cons (.sl .str) (.cons (.sl .str) .unit)), res := .bool, fn := fun v => path_Same v.1 v.2.1 }
noncomputable def path_Same_V : TEnv := { pure := [(65, slices_Equal_Sl_string_string_T)], look := [], glob := G0T, ty := [], raw := [], fresh := [] }
theorem path_Same_eq : runY Tryz.prog path_Same_E path_Same_H path_Same_V path_Same_Y Tryz.f47 path_Same_T.ps path_Same_T.res = path_Same_T.fn := by kernel_rfl
theorem path_Same_Fok : SoundP Tryz.prog G0 47 path_Same_F := closeF_sound (runF_sound (P := Tryz.prog) (E := path_Same_E) (h := path_Same_H) (f := 47) (fn := Tryz.f47) ⟨same_ok, (envP_cons slices_Equal_Sl_string_string_Fok envP_nil), envS_nil, envP_nil, envX_nil⟩ Tryz.func47 rfl (by kernel_rfl))
theorem path_Same_ok : TOk path_Same_F path_Same_T := runY_ok (E := path_Same_E) (ET := path_Same_V) (EnvT.ofX (E := path_Same_E) (ET := path_Same_V) (pure_of (pairs_cons slices_Equal_Sl_string_string_ok pairs_nil)) looks_nil raws_nil G0_ok news_nil) path_Same_eq rfl
-- palinode/live.At
noncomputable def live_At_E : Env := { pure := [(27, op_Leaf_F), (47, path_Same_F)], raw := [], glob := G0, same := [], look := [], ext := [] }
def live_At_H : Hints := { seqs := [], loops := [(3, [1, 2, 7, 10, 11, 12])], own := [] }
noncomputable def live_At_F : PFn := closeF (runF Tryz.prog live_At_E live_At_H Tryz.f24)
def live_At_Y : TH := { joins := [], loops := [(3, { keep := [(7, (.own 1)), (12, (.int .i64))], mem := [.gone, .row true 63 (.agg (.cons (.agg (.cons (.agg (.cons (.int .i64) (.cons (.int .i64) .unit))) (.cons (.int .i64) .unit))) (.cons (.agg (.cons (.int .i64) (.cons (.sl .str) (.cons (.agg (.cons (.int .i64) (.cons (.int .i64) (.cons .str .unit)))) (.cons (.int .i64) (.cons (.sl (.agg (.cons (.agg (.cons (.int .i64) (.cons (.int .i64) .unit))) (.cons (.int .i64) .unit)))) .unit)))))) (.cons (.int .i64) .unit))))] })], cuts := [], ro := [], news := [] }
noncomputable def live_At_l3 (a0 : List (((Int × Int × Unit) × Int × Unit) × (Int × List (List UInt8) × (Int × Int × List UInt8 × Unit) × Int × List ((Int × Int × Unit) × Int × Unit) × Unit) × Int × Unit)) (a1 : List (List UInt8)) (a2 : Int) (y3 : (Int × List (((Int × Int × Unit) × Int × Unit) × (Int × List (List UInt8) × (Int × Int × List UInt8 × Unit) × Int × List ((Int × Int × Unit) × Int × Unit) × Unit) × Int × Unit) × Unit)) : Option ((Int × List (((Int × Int × Unit) × Int × Unit) × (Int × List (List UInt8) × (Int × Int × List UInt8 × Unit) × Int × List ((Int × Int × Unit) × Int × Unit) × Unit) × Int × Unit) × Unit) ⊕ List (((Int × Int × Unit) × Int × Unit) × (Int × List (List UInt8) × (Int × Int × List UInt8 × Unit) × Int × List ((Int × Int × Unit) × Int × Unit) × Unit) × Int × Unit)) :=
 cond (decide (y3.1 < (a0.length : Int))) (
(atI a0 y3.1).bind fun x1 =>
(op_Leaf x1.2.1.1).bind fun r2 =>
 cond (decide (r2 = a2)) ((path_Same x1.2.1.2.1 a1).bind fun r3 =>
 cond r3 (
(roomT (y3.2.1.length + ([x1] : List (((Int × Int × Unit) × Int × Unit) × (Int × List (List UInt8) × (Int × Int × List UInt8 × Unit) × Int × List ((Int × Int × Unit) × Int × Unit) × Unit) × Int × Unit)).length)).bind fun u4 =>
 some (.inl ((IntKind.wrap .i64 (y3.1 + 1)), (y3.2.1 ++ ([x1] : List (((Int × Int × Unit) × Int × Unit) × (Int × List (List UInt8) × (Int × Int × List UInt8 × Unit) × Int × List ((Int × Int × Unit) × Int × Unit) × Unit) × Int × Unit))), ()))) (
 some (.inl ((IntKind.wrap .i64 (y3.1 + 1)), y3.2.1, ())))) (some (.inl ((IntKind.wrap .i64 (y3.1 + 1)), y3.2.1, ())))) (
 some (.inr y3.2.1))
noncomputable def live_At (a0 : List (((Int × Int × Unit) × Int × Unit) × (Int × List (List UInt8) × (Int × Int × List UInt8 × Unit) × Int × List ((Int × Int × Unit) × Int × Unit) × Unit) × Int × Unit)) (a1 : List (List UInt8)) (a2 : Int) : Option (List (((Int × Int × Unit) × Int × Unit) × (Int × List (List UInt8) × (Int × Int × List UInt8 × Unit) × Int × List ((Int × Int × Unit) × Int × Unit) × Unit) × Int × Unit)) :=
 loopT (live_At_l3 a0 a1 a2) (0, [], ())
noncomputable def live_At_T : TFn := { ps := (.cons (.sl (.agg (.cons (.agg (.cons (.agg (.cons (.int .i64) (.cons (.int .i64) .unit))) (.cons (.int .i64) .unit))) (.cons (.agg (.cons (.int .i64) (.cons (.sl .str) (.cons (.agg (.cons (.int .i64) (.cons (.int .i64) (.cons .str .unit)))) (.cons (.int .i64) (.cons (.sl (.agg (.cons (.agg (.cons (.int .i64) (.cons (.int .i64) .unit))) (.cons (.int .i64) .unit)))) .unit)))))) (.cons (.int .i64) .unit))))) (.cons (.sl .str) (.cons (.int .i64) .unit))), res := (.sl (.agg (.cons (.agg (.cons (.agg (.cons (.int .i64) (.cons (.int .i64) .unit))) (.cons (.int .i64) .unit))) (.cons (.agg (.cons (.int .i64) (.cons (.sl .str) (.cons (.agg (.cons (.int .i64) (.cons (.int .i64) (.cons .str .unit)))) (.cons (.int .i64) (.cons (.sl (.agg (.cons (.agg (.cons (.int .i64) (.cons (.int .i64) .unit))) (.cons (.int .i64) .unit)))) .unit)))))) (.cons (.int .i64) .unit))))), fn := fun v => live_At v.1 v.2.1 v.2.2.1 }
noncomputable def live_At_V : TEnv := { pure := [(27, op_Leaf_T), (47, path_Same_T)], look := [], glob := G0T, ty := [(63, (.agg (.cons (.agg (.cons (.agg (.cons (.int .i64) (.cons (.int .i64) .unit))) (.cons (.int .i64) .unit))) (.cons (.agg (.cons (.int .i64) (.cons (.sl .str) (.cons (.agg (.cons (.int .i64) (.cons (.int .i64) (.cons .str .unit)))) (.cons (.int .i64) (.cons (.sl (.agg (.cons (.agg (.cons (.int .i64) (.cons (.int .i64) .unit))) (.cons (.int .i64) .unit)))) .unit)))))) (.cons (.int .i64) .unit)))))], raw := [], fresh := [] }
theorem live_At_eq : runY Tryz.prog live_At_E live_At_H live_At_V live_At_Y Tryz.f24 live_At_T.ps live_At_T.res = live_At_T.fn := by kernel_rfl
theorem live_At_Fok : SoundP Tryz.prog G0 24 live_At_F := closeF_sound (runF_sound (P := Tryz.prog) (E := live_At_E) (h := live_At_H) (f := 24) (fn := Tryz.f24) ⟨same_ok, (envP_cons op_Leaf_Fok (envP_cons path_Same_Fok envP_nil)), envS_nil, envP_nil, envX_nil⟩ Tryz.func24 rfl (by kernel_rfl))
theorem live_At_ok : TOk live_At_F live_At_T := runY_ok (E := live_At_E) (ET := live_At_V) (EnvT.ofX (E := live_At_E) (ET := live_At_V) (pure_of (pairs_cons op_Leaf_ok (pairs_cons path_Same_ok pairs_nil))) looks_nil raws_nil G0_ok news_nil) live_At_eq rfl
-- palinode/tree.Kinds
noncomputable def tree_Kinds_E : Env := { pure := [(24, live_At_F)], raw := [], glob := G0, same := [], look := [], ext := [] }
def tree_Kinds_H : Hints := { seqs := [], loops := [(3, [0, 1, 5, 6])], own := [] }
noncomputable def tree_Kinds_F : PFn := closeF (runF Tryz.prog tree_Kinds_E tree_Kinds_H Tryz.f9)
def tree_Kinds_Y : TH := { joins := [], loops := [(3, { keep := [(5, (.own 0)), (6, (.int .i64))], mem := [.row true 3 (.int .i64)] })], cuts := [], ro := [], news := [] }
noncomputable def tree_Kinds_l3 (a0 : List (((Int × Int × Unit) × Int × Unit) × (Int × List (List UInt8) × (Int × Int × List UInt8 × Unit) × Int × List ((Int × Int × Unit) × Int × Unit) × Unit) × Int × Unit)) (a1 : List (List UInt8)) (y3 : (Int × List Int × Unit)) : Option ((Int × List Int × Unit) ⊕ List Int) :=
 cond (decide (y3.1 ≤ 3)) (
(live_At a0 a1 y3.1).bind fun r1 =>
 cond (decide ((r1.length : Int) > 0)) (
(roomT (y3.2.1.length + ([y3.1] : List Int).length)).bind fun u2 =>
 some (.inl ((IntKind.wrap .i64 (y3.1 + 1)), (y3.2.1 ++ ([y3.1] : List Int)), ()))) (
 some (.inl ((IntKind.wrap .i64 (y3.1 + 1)), y3.2.1, ())))) (
 some (.inr y3.2.1))
noncomputable def tree_Kinds (a0 : List (((Int × Int × Unit) × Int × Unit) × (Int × List (List UInt8) × (Int × Int × List UInt8 × Unit) × Int × List ((Int × Int × Unit) × Int × Unit) × Unit) × Int × Unit)) (a1 : List (List UInt8)) : Option (List Int) :=
 loopT (tree_Kinds_l3 a0 a1) (1, [], ())
noncomputable def tree_Kinds_T : TFn := { ps := (.cons (.sl (.agg (.cons (.agg (.cons (.agg (.cons (.int .i64) (.cons (.int .i64) .unit))) (.cons (.int .i64) .unit))) (.cons (.agg (.cons (.int .i64) (.cons (.sl .str) (.cons (.agg (.cons (.int .i64) (.cons (.int .i64) (.cons .str .unit)))) (.cons (.int .i64) (.cons (.sl (.agg (.cons (.agg (.cons (.int .i64) (.cons (.int .i64) .unit))) (.cons (.int .i64) .unit)))) .unit)))))) (.cons (.int .i64) .unit))))) (.cons (.sl .str) .unit)), res := (.sl (.int .i64)), fn := fun v => tree_Kinds v.1 v.2.1 }
noncomputable def tree_Kinds_V : TEnv := { pure := [(24, live_At_T)], look := [], glob := G0T, ty := [(3, (.int .i64))], raw := [], fresh := [] }
theorem tree_Kinds_eq : runY Tryz.prog tree_Kinds_E tree_Kinds_H tree_Kinds_V tree_Kinds_Y Tryz.f9 tree_Kinds_T.ps tree_Kinds_T.res = tree_Kinds_T.fn := by kernel_rfl
theorem tree_Kinds_Fok : SoundP Tryz.prog G0 9 tree_Kinds_F := closeF_sound (runF_sound (P := Tryz.prog) (E := tree_Kinds_E) (h := tree_Kinds_H) (f := 9) (fn := Tryz.f9) ⟨same_ok, (envP_cons live_At_Fok envP_nil), envS_nil, envP_nil, envX_nil⟩ Tryz.func9 rfl (by kernel_rfl))
theorem tree_Kinds_ok : TOk tree_Kinds_F tree_Kinds_T := runY_ok (E := tree_Kinds_E) (ET := tree_Kinds_V) (EnvT.ofX (E := tree_Kinds_E) (ET := tree_Kinds_V) (pure_of (pairs_cons live_At_ok pairs_nil)) looks_nil raws_nil G0_ok news_nil) tree_Kinds_eq rfl
-- palinode/palinoderef11.Leaf
noncomputable def ref11_Leaf_E : Env := { pure := [], raw := [], glob := G0, same := [], look := [], ext := [] }
def ref11_Leaf_H : Hints := { seqs := [], loops := [], own := [] }
noncomputable def ref11_Leaf_F : PFn := closeF (runF Tryz.prog ref11_Leaf_E ref11_Leaf_H Tryz.f32)
def ref11_Leaf_Y : TH := { joins := [], loops := [], cuts := [], ro := [], news := [] }
noncomputable def ref11_Leaf (a0 : Int) : Option Int :=
 cond (decide (a0 = 1)) (
 some 1) (
 cond (decide (a0 = 2)) (some 2) (cond (decide (a0 = 4)) (
 some 2) (
 cond (decide (a0 = 3)) (
 some 3) (
 some 0))))
noncomputable def ref11_Leaf_T : TFn := { ps := (.cons (.int .i64) .unit), res := (.int .i64), fn := fun v => ref11_Leaf v.1 }
noncomputable def ref11_Leaf_V : TEnv := { pure := [], look := [], glob := G0T, ty := [], raw := [], fresh := [] }
theorem ref11_Leaf_eq : runY Tryz.prog ref11_Leaf_E ref11_Leaf_H ref11_Leaf_V ref11_Leaf_Y Tryz.f32 ref11_Leaf_T.ps ref11_Leaf_T.res = ref11_Leaf_T.fn := by kernel_rfl
theorem ref11_Leaf_Fok : SoundP Tryz.prog G0 32 ref11_Leaf_F := closeF_sound (runF_sound (P := Tryz.prog) (E := ref11_Leaf_E) (h := ref11_Leaf_H) (f := 32) (fn := Tryz.f32) ⟨same_ok, envP_nil, envS_nil, envP_nil, envX_nil⟩ Tryz.func32 rfl (by kernel_rfl))
theorem ref11_Leaf_ok : TOk ref11_Leaf_F ref11_Leaf_T := runY_ok (E := ref11_Leaf_E) (ET := ref11_Leaf_V) (EnvT.ofX (E := ref11_Leaf_E) (ET := ref11_Leaf_V) (pure_of pairs_nil) looks_nil raws_nil G0_ok news_nil) ref11_Leaf_eq rfl
-- palinode/palinoderef09.ints
noncomputable def ref09_ints_E : Env := { pure := [], raw := [], glob := G0, same := [], look := [], ext := [] }
def ref09_ints_H : Hints := { seqs := [], loops := [], own := [] }
noncomputable def ref09_ints_F : PFn := closeF (runF Tryz.prog ref09_ints_E ref09_ints_H Tryz.f57)
def ref09_ints_Y : TH := { joins := [], loops := [], cuts := [], ro := [], news := [] }
noncomputable def ref09_ints (a0 : Int) (a1 : Int) : Option Int :=
 cond (decide (a0 < a1)) (
 some (-1)) (
 cond (decide (a0 > a1)) (
 some 1) (
 some 0))
noncomputable def ref09_ints_T : TFn := { ps := (.cons (.int .i64) (.cons (.int .i64) .unit)), res := (.int .i64), fn := fun v => ref09_ints v.1 v.2.1 }
noncomputable def ref09_ints_V : TEnv := { pure := [], look := [], glob := G0T, ty := [], raw := [], fresh := [] }
theorem ref09_ints_eq : runY Tryz.prog ref09_ints_E ref09_ints_H ref09_ints_V ref09_ints_Y Tryz.f57 ref09_ints_T.ps ref09_ints_T.res = ref09_ints_T.fn := by kernel_rfl
theorem ref09_ints_Fok : SoundP Tryz.prog G0 57 ref09_ints_F := closeF_sound (runF_sound (P := Tryz.prog) (E := ref09_ints_E) (h := ref09_ints_H) (f := 57) (fn := Tryz.f57) ⟨same_ok, envP_nil, envS_nil, envP_nil, envX_nil⟩ Tryz.func57 rfl (by kernel_rfl))
theorem ref09_ints_ok : TOk ref09_ints_F ref09_ints_T := runY_ok (E := ref09_ints_E) (ET := ref09_ints_V) (EnvT.ofX (E := ref09_ints_E) (ET := ref09_ints_V) (pure_of pairs_nil) looks_nil raws_nil G0_ok news_nil) ref09_ints_eq rfl
-- palinode/palinoderef09.Texts
noncomputable def ref09_Texts_E : Env := { pure := [(57, ref09_ints_F)], raw := [], glob := G0, same := [], look := [], ext := [] }
def ref09_Texts_H : Hints := { seqs := [], loops := [(2, [0, 1, 5])], own := [] }
noncomputable def ref09_Texts_F : PFn := closeF (runF Tryz.prog ref09_Texts_E ref09_Texts_H Tryz.f39)
def ref09_Texts_Y : TH := { joins := [(6, { keep := [], mem := [] })], loops := [(2, { keep := [(5, (.int .i64))], mem := [] })], cuts := [], ro := [], news := [] }
noncomputable def ref09_Texts_l2 (a0 : List UInt8) (a1 : List UInt8) (y2 : (Int × Unit)) : Option ((Int × Unit) ⊕ (Unit ⊕ Int)) :=
 cond (decide (y2.1 < (a0.length : Int))) (cond (decide (y2.1 < (a1.length : Int))) (
(atI a0 y2.1).bind fun b1 =>
(atI a1 y2.1).bind fun b2 =>
 cond (!decide ((b1.toNat : Int) = (b2.toNat : Int))) (
(atI a0 y2.1).bind fun b3 =>
(atI a1 y2.1).bind fun b4 =>
(ref09_ints (IntKind.wrap .i64 (b3.toNat : Int)) (IntKind.wrap .i64 (b4.toNat : Int))).bind fun r5 =>
 some (.inr (.inr r5))) (
 some (.inl ((IntKind.wrap .i64 (y2.1 + 1)), ())))) (
 some (.inr (.inl ())))) (some (.inr (.inl ())))
noncomputable def ref09_Texts (a0 : List UInt8) (a1 : List UInt8) : Option Int :=
(loopT (ref09_Texts_l2 a0 a1) (0, ()) : Option (Unit ⊕ Int)).bind (joinS fun v6 =>
(ref09_ints (a0.length : Int) (a1.length : Int)).bind fun r7 =>
 some r7)
noncomputable def ref09_Texts_T : TFn := { ps := (.cons .str (.cons .str .unit)), res := (.int .i64), fn := fun v => ref09_Texts v.1 v.2.1 }
noncomputable def ref09_Texts_V : TEnv := { pure := [(57, ref09_ints_T)], look := [], glob := G0T, ty := [], raw := [], fresh := [] }
theorem ref09_Texts_eq : runY Tryz.prog ref09_Texts_E ref09_Texts_H ref09_Texts_V ref09_Texts_Y Tryz.f39 ref09_Texts_T.ps ref09_Texts_T.res = ref09_Texts_T.fn := by kernel_rfl
theorem ref09_Texts_Fok : SoundP Tryz.prog G0 39 ref09_Texts_F := closeF_sound (runF_sound (P := Tryz.prog) (E := ref09_Texts_E) (h := ref09_Texts_H) (f := 39) (fn := Tryz.f39) ⟨same_ok, (envP_cons ref09_ints_Fok envP_nil), envS_nil, envP_nil, envX_nil⟩ Tryz.func39 rfl (by kernel_rfl))
theorem ref09_Texts_ok : TOk ref09_Texts_F ref09_Texts_T := runY_ok (E := ref09_Texts_E) (ET := ref09_Texts_V) (EnvT.ofX (E := ref09_Texts_E) (ET := ref09_Texts_V) (pure_of (pairs_cons ref09_ints_ok pairs_nil)) looks_nil raws_nil G0_ok news_nil) ref09_Texts_eq rfl
-- palinode/palinoderef10.Compare
noncomputable def ref10_Compare_E : Env := { pure := [(39, ref09_Texts_F)], raw := [], glob := G0, same := [], look := [], ext := [] }
def ref10_Compare_H : Hints := { seqs := [], loops := [(2, [0, 1, 5])], own := [] }
noncomputable def ref10_Compare_F : PFn := closeF (runF Tryz.prog ref10_Compare_E ref10_Compare_H Tryz.f48)
def ref10_Compare_Y : TH := { joins := [(7, { keep := [], mem := [] })], loops := [(2, { keep := [(5, (.int .i64))], mem := [] })], cuts := [], ro := [], news := [] }
noncomputable def ref10_Compare_l2 (a0 : List (List UInt8)) (a1 : List (List UInt8)) (y2 : (Int × Unit)) : Option ((Int × Unit) ⊕ (Unit ⊕ Int)) :=
 cond (decide (y2.1 < (a0.length : Int))) (cond (decide (y2.1 < (a1.length : Int))) (
(atI a0 y2.1).bind fun x1 =>
(atI a1 y2.1).bind fun x2 =>
(ref09_Texts x1 x2).bind fun r3 =>
 cond (!decide (r3 = 0)) (
 some (.inr (.inr r3))) (
 some (.inl ((IntKind.wrap .i64 (y2.1 + 1)), ())))) (
 some (.inr (.inl ())))) (some (.inr (.inl ())))
noncomputable def ref10_Compare (a0 : List (List UInt8)) (a1 : List (List UInt8)) : Option Int :=
(loopT (ref10_Compare_l2 a0 a1) (0, ()) : Option (Unit ⊕ Int)).bind (joinS fun v4 =>
 cond (decide ((a0.length : Int) < (a1.length : Int))) (
 some (-1)) (
 cond (decide ((a0.length : Int) > (a1.length : Int))) (
 some 1) (
 some 0)))
noncomputable def ref10_Compare_T : TFn := { ps := (.cons (.sl .str) (.cons (.sl .str) .unit)), res := (.int .i64), fn := fun v => ref10_Compare v.1 v.2.1 }
noncomputable def ref10_Compare_V : TEnv := { pure := [(39, ref09_Texts_T)], look := [], glob := G0T, ty := [], raw := [], fresh := [] }
theorem ref10_Compare_eq : runY Tryz.prog ref10_Compare_E ref10_Compare_H ref10_Compare_V ref10_Compare_Y Tryz.f48 ref10_Compare_T.ps ref10_Compare_T.res = ref10_Compare_T.fn := by kernel_rfl
theorem ref10_Compare_Fok : SoundP Tryz.prog G0 48 ref10_Compare_F := closeF_sound (runF_sound (P := Tryz.prog) (E := ref10_Compare_E) (h := ref10_Compare_H) (f := 48) (fn := Tryz.f48) ⟨same_ok, (envP_cons ref09_Texts_Fok envP_nil), envS_nil, envP_nil, envX_nil⟩ Tryz.func48 rfl (by kernel_rfl))
theorem ref10_Compare_ok : TOk ref10_Compare_F ref10_Compare_T := runY_ok (E := ref10_Compare_E) (ET := ref10_Compare_V) (EnvT.ofX (E := ref10_Compare_E) (ET := ref10_Compare_V) (pure_of (pairs_cons ref09_Texts_ok pairs_nil)) looks_nil raws_nil G0_ok news_nil) ref10_Compare_eq rfl
-- palinode/palinoderef13.At
noncomputable def ref13_At_E : Env := { pure := [(32, ref11_Leaf_F), (48, ref10_Compare_F)], raw := [], glob := G0, same := [], look := [], ext := [] }
def ref13_At_H : Hints := { seqs := [], loops := [(3, [0, 1, 2, 7, 8])], own := [] }
noncomputable def ref13_At_F : PFn := closeF (runF Tryz.prog ref13_At_E ref13_At_H Tryz.f25)
def ref13_At_Y : TH := { joins := [], loops := [(3, { keep := [(7, (.own 0)), (8, (.int .i64))], mem := [.row true 65 (.agg (.cons (.agg (.cons (.agg (.cons (.int .i64) (.cons (.int .i64) .unit))) (.cons (.int .i64) .unit))) (.cons (.agg (.cons (.int .i64) (.cons (.sl .str) (.cons (.agg (.cons (.int .i64) (.cons (.int .i64) (.cons .str .unit)))) (.cons (.int .i64) (.cons (.sl (.agg (.cons (.agg (.cons (.int .i64) (.cons (.int .i64) .unit))) (.cons (.int .i64) .unit)))) .unit)))))) (.cons (.int .i64) .unit))))] })], cuts := [], ro := [], news := [] }
noncomputable def ref13_At_l3 (a0 : List (((Int × Int × Unit) × Int × Unit) × (Int × List (List UInt8) × (Int × Int × List UInt8 × Unit) × Int × List ((Int × Int × Unit) × Int × Unit) × Unit) × Int × Unit)) (a1 : List (List UInt8)) (a2 : Int) (y3 : (Int × List (((Int × Int × Unit) × Int × Unit) × (Int × List (List UInt8) × (Int × Int × List UInt8 × Unit) × Int × List ((Int × Int × Unit) × Int × Unit) × Unit) × Int × Unit) × Unit)) : Option ((Int × List (((Int × Int × Unit) × Int × Unit) × (Int × List (List UInt8) × (Int × Int × List UInt8 × Unit) × Int × List ((Int × Int × Unit) × Int × Unit) × Unit) × Int × Unit) × Unit) ⊕ List (((Int × Int × Unit) × Int × Unit) × (Int × List (List UInt8) × (Int × Int × List UInt8 × Unit) × Int × List ((Int × Int × Unit) × Int × Unit) × Unit) × Int × Unit)) :=
 cond (decide (y3.1 < (a0.length : Int))) (
(atI a0 y3.1).bind fun x1 =>
(ref11_Leaf x1.2.1.1).bind fun r2 =>
 cond (decide (r2 = a2)) ((atI a0 y3.1).bind fun x3 =>
(ref10_Compare x3.2.1.2.1 a1).bind fun r4 =>
 cond (decide (r4 = 0)) (
(atI a0 y3.1).bind fun x5 =>
(roomT (y3.2.1.length + ([x5] : List (((Int × Int × Unit) × Int × Unit) × (Int × List (List UInt8) × (Int × Int × List UInt8 × Unit) × Int × List ((Int × Int × Unit) × Int × Unit) × Unit) × Int × Unit)).length)).bind fun u6 =>
 some (.inl ((IntKind.wrap .i64 (y3.1 + 1)), (y3.2.1 ++ ([x5] : List (((Int × Int × Unit) × Int × Unit) × (Int × List (List UInt8) × (Int × Int × List UInt8 × Unit) × Int × List ((Int × Int × Unit) × Int × Unit) × Unit) × Int × Unit))), ()))) (
 some (.inl ((IntKind.wrap .i64 (y3.1 + 1)), y3.2.1, ())))) (some (.inl ((IntKind.wrap .i64 (y3.1 + 1)), y3.2.1, ())))) (
 some (.inr y3.2.1))
noncomputable def ref13_At (a0 : List (((Int × Int × Unit) × Int × Unit) × (Int × List (List UInt8) × (Int × Int × List UInt8 × Unit) × Int × List ((Int × Int × Unit) × Int × Unit) × Unit) × Int × Unit)) (a1 : List (List UInt8)) (a2 : Int) : Option (List (((Int × Int × Unit) × Int × Unit) × (Int × List (List UInt8) × (Int × Int × List UInt8 × Unit) × Int × List ((Int × Int × Unit) × Int × Unit) × Unit) × Int × Unit)) :=
 loopT (ref13_At_l3 a0 a1 a2) (0, [], ())
noncomputable def ref13_At_T : TFn := { ps := (.cons (.sl (.agg (.cons (.agg (.cons (.agg (.cons (.int .i64) (.cons (.int .i64) .unit))) (.cons (.int .i64) .unit))) (.cons (.agg (.cons (.int .i64) (.cons (.sl .str) (.cons (.agg (.cons (.int .i64) (.cons (.int .i64) (.cons .str .unit)))) (.cons (.int .i64) (.cons (.sl (.agg (.cons (.agg (.cons (.int .i64) (.cons (.int .i64) .unit))) (.cons (.int .i64) .unit)))) .unit)))))) (.cons (.int .i64) .unit))))) (.cons (.sl .str) (.cons (.int .i64) .unit))), res := (.sl (.agg (.cons (.agg (.cons (.agg (.cons (.int .i64) (.cons (.int .i64) .unit))) (.cons (.int .i64) .unit))) (.cons (.agg (.cons (.int .i64) (.cons (.sl .str) (.cons (.agg (.cons (.int .i64) (.cons (.int .i64) (.cons .str .unit)))) (.cons (.int .i64) (.cons (.sl (.agg (.cons (.agg (.cons (.int .i64) (.cons (.int .i64) .unit))) (.cons (.int .i64) .unit)))) .unit)))))) (.cons (.int .i64) .unit))))), fn := fun v => ref13_At v.1 v.2.1 v.2.2.1 }
noncomputable def ref13_At_V : TEnv := { pure := [(32, ref11_Leaf_T), (48, ref10_Compare_T)], look := [], glob := G0T, ty := [(65, (.agg (.cons (.agg (.cons (.agg (.cons (.int .i64) (.cons (.int .i64) .unit))) (.cons (.int .i64) .unit))) (.cons (.agg (.cons (.int .i64) (.cons (.sl .str) (.cons (.agg (.cons (.int .i64) (.cons (.int .i64) (.cons .str .unit)))) (.cons (.int .i64) (.cons (.sl (.agg (.cons (.agg (.cons (.int .i64) (.cons (.int .i64) .unit))) (.cons (.int .i64) .unit)))) .unit)))))) (.cons (.int .i64) .unit)))))], raw := [], fresh := [] }
theorem ref13_At_eq : runY Tryz.prog ref13_At_E ref13_At_H ref13_At_V ref13_At_Y Tryz.f25 ref13_At_T.ps ref13_At_T.res = ref13_At_T.fn := by kernel_rfl
theorem ref13_At_Fok : SoundP Tryz.prog G0 25 ref13_At_F := closeF_sound (runF_sound (P := Tryz.prog) (E := ref13_At_E) (h := ref13_At_H) (f := 25) (fn := Tryz.f25) ⟨same_ok, (envP_cons ref11_Leaf_Fok (envP_cons ref10_Compare_Fok envP_nil)), envS_nil, envP_nil, envX_nil⟩ Tryz.func25 rfl (by kernel_rfl))
theorem ref13_At_ok : TOk ref13_At_F ref13_At_T := runY_ok (E := ref13_At_E) (ET := ref13_At_V) (EnvT.ofX (E := ref13_At_E) (ET := ref13_At_V) (pure_of (pairs_cons ref11_Leaf_ok (pairs_cons ref10_Compare_ok pairs_nil))) looks_nil raws_nil G0_ok news_nil) ref13_At_eq rfl
-- palinode/palinoderef17.Kinds
noncomputable def ref17_Kinds_E : Env := { pure := [(25, ref13_At_F)], raw := [], glob := G0, same := [], look := [], ext := [] }
def ref17_Kinds_H : Hints := { seqs := [], loops := [(3, [0, 1, 5, 6])], own := [] }
noncomputable def ref17_Kinds_F : PFn := closeF (runF Tryz.prog ref17_Kinds_E ref17_Kinds_H Tryz.f10)
def ref17_Kinds_Y : TH := { joins := [], loops := [(3, { keep := [(5, (.own 0)), (6, (.int .i64))], mem := [.row true 3 (.int .i64)] })], cuts := [], ro := [], news := [] }
noncomputable def ref17_Kinds_l3 (a0 : List (((Int × Int × Unit) × Int × Unit) × (Int × List (List UInt8) × (Int × Int × List UInt8 × Unit) × Int × List ((Int × Int × Unit) × Int × Unit) × Unit) × Int × Unit)) (a1 : List (List UInt8)) (y3 : (Int × List Int × Unit)) : Option ((Int × List Int × Unit) ⊕ List Int) :=
 cond (decide (y3.1 ≤ 3)) (
(ref13_At a0 a1 y3.1).bind fun r1 =>
 cond (decide ((r1.length : Int) > 0)) (
(roomT (y3.2.1.length + ([y3.1] : List Int).length)).bind fun u2 =>
 some (.inl ((IntKind.wrap .i64 (y3.1 + 1)), (y3.2.1 ++ ([y3.1] : List Int)), ()))) (
 some (.inl ((IntKind.wrap .i64 (y3.1 + 1)), y3.2.1, ())))) (
 some (.inr y3.2.1))
noncomputable def ref17_Kinds (a0 : List (((Int × Int × Unit) × Int × Unit) × (Int × List (List UInt8) × (Int × Int × List UInt8 × Unit) × Int × List ((Int × Int × Unit) × Int × Unit) × Unit) × Int × Unit)) (a1 : List (List UInt8)) : Option (List Int) :=
 loopT (ref17_Kinds_l3 a0 a1) (1, [], ())
noncomputable def ref17_Kinds_T : TFn := { ps := (.cons (.sl (.agg (.cons (.agg (.cons (.agg (.cons (.int .i64) (.cons (.int .i64) .unit))) (.cons (.int .i64) .unit))) (.cons (.agg (.cons (.int .i64) (.cons (.sl .str) (.cons (.agg (.cons (.int .i64) (.cons (.int .i64) (.cons .str .unit)))) (.cons (.int .i64) (.cons (.sl (.agg (.cons (.agg (.cons (.int .i64) (.cons (.int .i64) .unit))) (.cons (.int .i64) .unit)))) .unit)))))) (.cons (.int .i64) .unit))))) (.cons (.sl .str) .unit)), res := (.sl (.int .i64)), fn := fun v => ref17_Kinds v.1 v.2.1 }
noncomputable def ref17_Kinds_V : TEnv := { pure := [(25, ref13_At_T)], look := [], glob := G0T, ty := [(3, (.int .i64))], raw := [], fresh := [] }
theorem ref17_Kinds_eq : runY Tryz.prog ref17_Kinds_E ref17_Kinds_H ref17_Kinds_V ref17_Kinds_Y Tryz.f10 ref17_Kinds_T.ps ref17_Kinds_T.res = ref17_Kinds_T.fn := by kernel_rfl
theorem ref17_Kinds_Fok : SoundP Tryz.prog G0 10 ref17_Kinds_F := closeF_sound (runF_sound (P := Tryz.prog) (E := ref17_Kinds_E) (h := ref17_Kinds_H) (f := 10) (fn := Tryz.f10) ⟨same_ok, (envP_cons ref13_At_Fok envP_nil), envS_nil, envP_nil, envX_nil⟩ Tryz.func10 rfl (by kernel_rfl))
theorem ref17_Kinds_ok : TOk ref17_Kinds_F ref17_Kinds_T := runY_ok (E := ref17_Kinds_E) (ET := ref17_Kinds_V) (EnvT.ofX (E := ref17_Kinds_E) (ET := ref17_Kinds_V) (pure_of (pairs_cons ref13_At_ok pairs_nil)) looks_nil raws_nil G0_ok news_nil) ref17_Kinds_eq rfl
-- palinode/tree.Deep
noncomputable def tree_Deep_E : Env := { pure := [], raw := [], glob := G0, same := [], look := [], ext := [] }
def tree_Deep_H : Hints := { seqs := [], loops := [(3, [3, 6, 7, 8])], own := [] }
noncomputable def tree_Deep_F : PFn := closeF (runF Tryz.prog tree_Deep_E tree_Deep_H Tryz.f19)
def tree_Deep_Y : TH := { joins := [], loops := [(3, { keep := [(3, (.int .i64)), (8, (.int .i64))], mem := [] })], cuts := [], ro := [], news := [] }
noncomputable def tree_Deep_l3 (a0 : List (((Int × Int × Unit) × Int × Unit) × (Int × List (List UInt8) × (Int × Int × List UInt8 × Unit) × Int × List ((Int × Int × Unit) × Int × Unit) × Unit) × Int × Unit)) (y3 : (Int × Int × Unit)) : Option ((Int × Int × Unit) ⊕ Int) :=
 cond (decide (y3.2.1 < (a0.length : Int))) (
(atI a0 y3.2.1).bind fun x1 =>
 some (.inl ((max y3.1 (x1.2.1.2.1.length : Int)), (IntKind.wrap .i64 (y3.2.1 + 1)), ()))) (
 some (.inr y3.1))
noncomputable def tree_Deep (a0 : List (((Int × Int × Unit) × Int × Unit) × (Int × List (List UInt8) × (Int × Int × List UInt8 × Unit) × Int × List ((Int × Int × Unit) × Int × Unit) × Unit) × Int × Unit)) : Option Int :=
 loopT (tree_Deep_l3 a0) (0, 0, ())
noncomputable def tree_Deep_T : TFn := { ps := (.cons (.sl (.agg (.cons (.agg (.cons (.agg (.cons (.int .i64) (.cons (.int .i64) .unit))) (.cons (.int .i64) .unit))) (.cons (.agg (.cons (.int .i64) (.cons (.sl .str) (.cons (.agg (.cons (.int .i64) (.cons (.int .i64) (.cons .str .unit)))) (.cons (.int .i64) (.cons (.sl (.agg (.cons (.agg (.cons (.int .i64) (.cons (.int .i64) .unit))) (.cons (.int .i64) .unit)))) .unit)))))) (.cons (.int .i64) .unit))))) .unit), res := (.int .i64), fn := fun v => tree_Deep v.1 }
noncomputable def tree_Deep_V : TEnv := { pure := [], look := [], glob := G0T, ty := [], raw := [], fresh := [] }
theorem tree_Deep_eq : runY Tryz.prog tree_Deep_E tree_Deep_H tree_Deep_V tree_Deep_Y Tryz.f19 tree_Deep_T.ps tree_Deep_T.res = tree_Deep_T.fn := by kernel_rfl
theorem tree_Deep_Fok : SoundP Tryz.prog G0 19 tree_Deep_F := closeF_sound (runF_sound (P := Tryz.prog) (E := tree_Deep_E) (h := tree_Deep_H) (f := 19) (fn := Tryz.f19) ⟨same_ok, envP_nil, envS_nil, envP_nil, envX_nil⟩ Tryz.func19 rfl (by kernel_rfl))
theorem tree_Deep_ok : TOk tree_Deep_F tree_Deep_T := runY_ok (E := tree_Deep_E) (ET := tree_Deep_V) (EnvT.ofX (E := tree_Deep_E) (ET := tree_Deep_V) (pure_of pairs_nil) looks_nil raws_nil G0_ok news_nil) tree_Deep_eq rfl
-- palinode/path.Under
noncomputable def path_Under_E : Env := { pure := [(65, slices_Equal_Sl_string_string_F)], raw := [], glob := G0, same := [], look := [], ext := [] }
def path_Under_H : Hints := { seqs := [], loops := [], own := [] }
noncomputable def path_Under_F : PFn := closeF (runF Tryz.prog path_Under_E path_Under_H Tryz.f54)
def path_Under_Y : TH := { joins := [], loops := [], cuts := [], ro := [], news := [] }
noncomputable def path_Under (a0 : List (List UInt8)) (a1 : List (List UInt8)) : Option Bool :=
 cond (decide ((a0.length : Int) ≥ (a1.length : Int))) ((subI a0 0 (a1.length : Int)).bind fun s1 =>
(slices_Equal_Sl_string_string s1 a1).bind fun r2 =>
 some r2) (some false)
noncomputable def path_Under_T : TFn := { ps := (.cons (.sl .str) (.cons (.sl .str) .unit)), res := .bool, fn := fun v => path_Under v.1 v.2.1 }
noncomputable def path_Under_V : TEnv := { pure := [(65, slices_Equal_Sl_string_string_T)], look := [], glob := G0T, ty := [], raw := [], fresh := [] }
theorem path_Under_eq : runY Tryz.prog path_Under_E path_Under_H path_Under_V path_Under_Y Tryz.f54 path_Under_T.ps path_Under_T.res = path_Under_T.fn := by kernel_rfl
theorem path_Under_Fok : SoundP Tryz.prog G0 54 path_Under_F := closeF_sound (runF_sound (P := Tryz.prog) (E := path_Under_E) (h := path_Under_H) (f := 54) (fn := Tryz.f54) ⟨same_ok, (envP_cons slices_Equal_Sl_string_string_Fok envP_nil), envS_nil, envP_nil, envX_nil⟩ Tryz.func54 rfl (by kernel_rfl))
theorem path_Under_ok : TOk path_Under_F path_Under_T := runY_ok (E := path_Under_E) (ET := path_Under_V) (EnvT.ofX (E := path_Under_E) (ET := path_Under_V) (pure_of (pairs_cons slices_Equal_Sl_string_string_ok pairs_nil)) looks_nil raws_nil G0_ok news_nil) path_Under_eq rfl
-- palinode/live.Under
noncomputable def live_Under_E : Env := { pure := [(54, path_Under_F)], raw := [], glob := G0, same := [], look := [], ext := [] }
def live_Under_H : Hints := { seqs := [], loops := [(3, [1, 5, 8, 9, 10])], own := [] }
noncomputable def live_Under_F : PFn := closeF (runF Tryz.prog live_Under_E live_Under_H Tryz.f34)
def live_Under_Y : TH := { joins := [], loops := [(3, { keep := [(5, (.own 1)), (10, (.int .i64))], mem := [.gone, .row true 63 (.agg (.cons (.agg (.cons (.agg (.cons (.int .i64) (.cons (.int .i64) .unit))) (.cons (.int .i64) .unit))) (.cons (.agg (.cons (.int .i64) (.cons (.sl .str) (.cons (.agg (.cons (.int .i64) (.cons (.int .i64) (.cons .str .unit)))) (.cons (.int .i64) (.cons (.sl (.agg (.cons (.agg (.cons (.int .i64) (.cons (.int .i64) .unit))) (.cons (.int .i64) .unit)))) .unit)))))) (.cons (.int .i64) .unit))))] })], cuts := [], ro := [], news := [] }
noncomputable def live_Under_l3 (a0 : List (((Int × Int × Unit) × Int × Unit) × (Int × List (List UInt8) × (Int × Int × List UInt8 × Unit) × Int × List ((Int × Int × Unit) × Int × Unit) × Unit) × Int × Unit)) (a1 : List (List UInt8)) (y3 : (Int × List (((Int × Int × Unit) × Int × Unit) × (Int × List (List UInt8) × (Int × Int × List UInt8 × Unit) × Int × List ((Int × Int × Unit) × Int × Unit) × Unit) × Int × Unit) × Unit)) : Option ((Int × List (((Int × Int × Unit) × Int × Unit) × (Int × List (List UInt8) × (Int × Int × List UInt8 × Unit) × Int × List ((Int × Int × Unit) × Int × Unit) × Unit) × Int × Unit) × Unit) ⊕ List (((Int × Int × Unit) × Int × Unit) × (Int × List (List UInt8) × (Int × Int × List UInt8 × Unit) × Int × List ((Int × Int × Unit) × Int × Unit) × Unit) × Int × Unit)) :=
 cond (decide (y3.1 < (a0.length : Int))) (
(atI a0 y3.1).bind fun x1 =>
(path_Under x1.2.1.2.1 a1).bind fun r2 =>
 cond r2 (
(roomT (y3.2.1.length + ([x1] : List (((Int × Int × Unit) × Int × Unit) × (Int × List (List UInt8) × (Int × Int × List UInt8 × Unit) × Int × List ((Int × Int × Unit) × Int × Unit) × Unit) × Int × Unit)).length)).bind fun u3 =>
 some (.inl ((IntKind.wrap .i64 (y3.1 + 1)), (y3.2.1 ++ ([x1] : List (((Int × Int × Unit) × Int × Unit) × (Int × List (List UInt8) × (Int × Int × List UInt8 × Unit) × Int × List ((Int × Int × Unit) × Int × Unit) × Unit) × Int × Unit))), ()))) (
 some (.inl ((IntKind.wrap .i64 (y3.1 + 1)), y3.2.1, ())))) (
 some (.inr y3.2.1))
noncomputable def live_Under (a0 : List (((Int × Int × Unit) × Int × Unit) × (Int × List (List UInt8) × (Int × Int × List UInt8 × Unit) × Int × List ((Int × Int × Unit) × Int × Unit) × Unit) × Int × Unit)) (a1 : List (List UInt8)) : Option (List (((Int × Int × Unit) × Int × Unit) × (Int × List (List UInt8) × (Int × Int × List UInt8 × Unit) × Int × List ((Int × Int × Unit) × Int × Unit) × Unit) × Int × Unit)) :=
 loopT (live_Under_l3 a0 a1) (0, [], ())
noncomputable def live_Under_T : TFn := { ps := (.cons (.sl (.agg (.cons (.agg (.cons (.agg (.cons (.int .i64) (.cons (.int .i64) .unit))) (.cons (.int .i64) .unit))) (.cons (.agg (.cons (.int .i64) (.cons (.sl .str) (.cons (.agg (.cons (.int .i64) (.cons (.int .i64) (.cons .str .unit)))) (.cons (.int .i64) (.cons (.sl (.agg (.cons (.agg (.cons (.int .i64) (.cons (.int .i64) .unit))) (.cons (.int .i64) .unit)))) .unit)))))) (.cons (.int .i64) .unit))))) (.cons (.sl .str) .unit)), res := (.sl (.agg (.cons (.agg (.cons (.agg (.cons (.int .i64) (.cons (.int .i64) .unit))) (.cons (.int .i64) .unit))) (.cons (.agg (.cons (.int .i64) (.cons (.sl .str) (.cons (.agg (.cons (.int .i64) (.cons (.int .i64) (.cons .str .unit)))) (.cons (.int .i64) (.cons (.sl (.agg (.cons (.agg (.cons (.int .i64) (.cons (.int .i64) .unit))) (.cons (.int .i64) .unit)))) .unit)))))) (.cons (.int .i64) .unit))))), fn := fun v => live_Under v.1 v.2.1 }
noncomputable def live_Under_V : TEnv := { pure := [(54, path_Under_T)], look := [], glob := G0T, ty := [(63, (.agg (.cons (.agg (.cons (.agg (.cons (.int .i64) (.cons (.int .i64) .unit))) (.cons (.int .i64) .unit))) (.cons (.agg (.cons (.int .i64) (.cons (.sl .str) (.cons (.agg (.cons (.int .i64) (.cons (.int .i64) (.cons .str .unit)))) (.cons (.int .i64) (.cons (.sl (.agg (.cons (.agg (.cons (.int .i64) (.cons (.int .i64) .unit))) (.cons (.int .i64) .unit)))) .unit)))))) (.cons (.int .i64) .unit)))))], raw := [], fresh := [] }
theorem live_Under_eq : runY Tryz.prog live_Under_E live_Under_H live_Under_V live_Under_Y Tryz.f34 live_Under_T.ps live_Under_T.res = live_Under_T.fn := by kernel_rfl
theorem live_Under_Fok : SoundP Tryz.prog G0 34 live_Under_F := closeF_sound (runF_sound (P := Tryz.prog) (E := live_Under_E) (h := live_Under_H) (f := 34) (fn := Tryz.f34) ⟨same_ok, (envP_cons path_Under_Fok envP_nil), envS_nil, envP_nil, envX_nil⟩ Tryz.func34 rfl (by kernel_rfl))
theorem live_Under_ok : TOk live_Under_F live_Under_T := runY_ok (E := live_Under_E) (ET := live_Under_V) (EnvT.ofX (E := live_Under_E) (ET := live_Under_V) (pure_of (pairs_cons path_Under_ok pairs_nil)) looks_nil raws_nil G0_ok news_nil) live_Under_eq rfl
-- cmp.isNaN[string]
noncomputable def cmp_isNaN_string_E : Env := { pure := [], raw := [], glob := G0, same := [], look := [], ext := [] }
def cmp_isNaN_string_H : Hints := { seqs := [], loops := [], own := [] }
noncomputable def cmp_isNaN_string_F : PFn := closeF (runF Tryz.prog cmp_isNaN_string_E cmp_isNaN_string_H Tryz.f107)
def cmp_isNaN_string_Y : TH := { joins := [], loops := [], cuts := [], ro := [], news := [] }
noncomputable def cmp_isNaN_string (a0 : List UInt8) : Option Bool :=
 some (!decide (a0 = a0))
noncomputable def cmp_isNaN_string_T : TFn := { ps := (.cons .str .unit), res := .bool, fn := fun v => cmp_isNaN_string v.1 }
noncomputable def cmp_isNaN_string_V : TEnv := { pure := [], look := [], glob := G0T, ty := [], raw := [], fresh := [] }
theorem cmp_isNaN_string_eq : runY Tryz.prog cmp_isNaN_string_E cmp_isNaN_string_H cmp_isNaN_string_V cmp_isNaN_string_Y Tryz.f107 cmp_isNaN_string_T.ps cmp_isNaN_string_T.res = cmp_isNaN_string_T.fn := by kernel_rfl
theorem cmp_isNaN_string_Fok : SoundP Tryz.prog G0 107 cmp_isNaN_string_F := closeF_sound (runF_sound (P := Tryz.prog) (E := cmp_isNaN_string_E) (h := cmp_isNaN_string_H) (f := 107) (fn := Tryz.f107) ⟨same_ok, envP_nil, envS_nil, envP_nil, envX_nil⟩ Tryz.func107 rfl (by kernel_rfl))
theorem cmp_isNaN_string_ok : TOk cmp_isNaN_string_F cmp_isNaN_string_T := runY_ok (E := cmp_isNaN_string_E) (ET := cmp_isNaN_string_V) (EnvT.ofX (E := cmp_isNaN_string_E) (ET := cmp_isNaN_string_V) (pure_of pairs_nil) looks_nil raws_nil G0_ok news_nil) cmp_isNaN_string_eq rfl
-- cmp.Compare[string]
noncomputable def cmp_Compare_string_E : Env := { pure := [(107, cmp_isNaN_string_F)], raw := [], glob := G0, same := [], look := [], ext := [] }
def cmp_Compare_string_H : Hints := { seqs := [], loops := [], own := [] }
noncomputable def cmp_Compare_string_F : PFn := closeF (runF Tryz.prog cmp_Compare_string_E cmp_Compare_string_H Tryz.f98)
def cmp_Compare_string_Y : TH := { joins := [], loops := [], cuts := [], ro := [], news := [] }
noncomputable def cmp_Compare_string (a0 : List UInt8) (a1 : List UInt8) : Option Int :=
(cmp_isNaN_string a0).bind fun r1 =>
(cmp_isNaN_string a1).bind fun r2 =>
 cond r1 (
 cond r2 (
 some 0) (
 some (-1))) (
 cond r2 (
 some 1) (
 cond (Op.bytesLess a0 a1) (
 some (-1)) (
 cond (!(Op.bytesLess a0 a1 || decide (a0 = a1))) (
 some 1) (
 some 0))))
noncomputable def cmp_Compare_string_T : TFn := { ps := (.cons .str (.cons .str .unit)), res := (.int .i64), fn := fun v => cmp_Compare_string v.1 v.2.1 }
noncomputable def cmp_Compare_string_V : TEnv := { pure := [(107, cmp_isNaN_string_T)], look := [], glob := G0T, ty := [], raw := [], fresh := [] }
theorem cmp_Compare_string_eq : runY Tryz.prog cmp_Compare_string_E cmp_Compare_string_H cmp_Compare_string_V cmp_Compare_string_Y Tryz.f98 cmp_Compare_string_T.ps cmp_Compare_string_T.res = cmp_Compare_string_T.fn := by kernel_rfl
theorem cmp_Compare_string_Fok : SoundP Tryz.prog G0 98 cmp_Compare_string_F := closeF_sound (runF_sound (P := Tryz.prog) (E := cmp_Compare_string_E) (h := cmp_Compare_string_H) (f := 98) (fn := Tryz.f98) ⟨same_ok, (envP_cons cmp_isNaN_string_Fok envP_nil), envS_nil, envP_nil, envX_nil⟩ Tryz.func98 rfl (by kernel_rfl))
theorem cmp_Compare_string_ok : TOk cmp_Compare_string_F cmp_Compare_string_T := runY_ok (E := cmp_Compare_string_E) (ET := cmp_Compare_string_V) (EnvT.ofX (E := cmp_Compare_string_E) (ET := cmp_Compare_string_V) (pure_of (pairs_cons cmp_isNaN_string_ok pairs_nil)) looks_nil raws_nil G0_ok news_nil) cmp_Compare_string_eq rfl
-- slices.Compare[[]string,string]
noncomputable def slices_Compare_Sl_string_string_E : Env := { pure := [(98, cmp_Compare_string_F)], raw := [], glob := G0, same := [], look := [], ext := [] }
def slices_Compare_Sl_string_string_H : Hints := { seqs := [], loops := [(2, [0, 1, 9, 10, 11])], own := [] }
noncomputable def slices_Compare_Sl_string_string_F : PFn := closeF (runF Tryz.prog slices_Compare_Sl_string_string_E slices_Compare_Sl_string_string_H Tryz.f76)
def slices_Compare_Sl_string_string_Y : TH := { joins := [(11, { keep := [], mem := [] })], loops := [(2, { keep := [(11, (.int .i64))], mem := [] })], cuts := [], ro := [], news := [] }
noncomputable def slices_Compare_Sl_string_string_l2 (a0 : List (List UInt8)) (a1 : List (List UInt8)) (y2 : (Int × Unit)) : Option ((Int × Unit) ⊕ (Unit ⊕ Int)) :=
 cond (decide (y2.1 < (a0.length : Int))) (
(atI a0 y2.1).bind fun x1 =>
 cond (decide (y2.1 ≥ (a1.length : Int))) (
 some (.inr (.inr 1))) (
(atI a1 y2.1).bind fun x2 =>
(cmp_Compare_string x1 x2).bind fun r3 =>
 cond (!decide (r3 = 0)) (
 some (.inr (.inr r3))) (
 some (.inl ((IntKind.wrap .i64 (y2.1 + 1)), ()))))) (
 some (.inr (.inl ())))
noncomputable def slices_Compare_Sl_string_string (a0 : List (List UInt8)) (a1 : List (List UInt8)) : Option Int :=
(loopT (slices_Compare_Sl_string_string_l2 a0 a1) (0, ()) : Option (Unit ⊕ Int)).bind (joinS fun v4 =>
 cond (decide ((a0.length : Int) < (a1.length : Int))) (
 some (-1)) (
 some 0))
noncomputable def slices_Compare_Sl_string_string_T : TFn := { ps := (.cons (.sl .str) (.cons (.sl .str) .unit)), res := (.int .i64), fn := fun v => slices_Compare_Sl_string_string v.1 v.2.1 }
noncomputable def slices_Compare_Sl_string_string_V : TEnv := { pure := [(98, cmp_Compare_string_T)], look := [], glob := G0T, ty := [], raw := [], fresh := [] }
theorem slices_Compare_Sl_string_string_eq : runY Tryz.prog slices_Compare_Sl_string_string_E slices_Compare_Sl_string_string_H slices_Compare_Sl_string_string_V slices_Compare_Sl_string_string_Y Tryz.f76 slices_Compare_Sl_string_string_T.ps slices_Compare_Sl_string_string_T.res = slices_Compare_Sl_string_string_T.fn := by kernel_rfl
theorem slices_Compare_Sl_string_string_Fok : SoundP Tryz.prog G0 76 slices_Compare_Sl_string_string_F := closeF_sound (runF_sound (P := Tryz.prog) (E := slices_Compare_Sl_string_string_E) (h := slices_Compare_Sl_string_string_H) (f := 76) (fn := Tryz.f76) ⟨same_ok, (envP_cons cmp_Compare_string_Fok envP_nil), envS_nil, envP_nil, envX_nil⟩ Tryz.func76 rfl (by kernel_rfl))
theorem slices_Compare_Sl_string_string_ok : TOk slices_Compare_Sl_string_string_F slices_Compare_Sl_string_string_T := runY_ok (E := slices_Compare_Sl_string_string_E) (ET := slices_Compare_Sl_string_string_V) (EnvT.ofX (E := slices_Compare_Sl_string_string_E) (ET := slices_Compare_Sl_string_string_V) (pure_of (pairs_cons cmp_Compare_string_ok pairs_nil)) looks_nil raws_nil G0_ok news_nil) slices_Compare_Sl_string_string_eq rfl
-- palinode/path.Compare
noncomputable def path_Compare_E : Env := { pure := [(76, slices_Compare_Sl_string_string_F)], raw := [], glob := G0, same := [], look := [], ext := [] }
def path_Compare_H : Hints := { seqs := [], loops := [], own := [] }
noncomputable def path_Compare_F : PFn := closeF (runF Tryz.prog path_Compare_E path_Compare_H Tryz.f52)
def path_Compare_Y : TH := { joins := [], loops := [], cuts := [], ro := [], news := [] }
noncomputable def path_Compare (a0 : List (List UInt8)) (a1 : List (List UInt8)) : Option Int :=
(slices_Compare_Sl_string_string a0 a1).bind fun r1 =>
 some r1
noncomputable def path_Compare_T : TFn := { ps := (.cons (.sl .str) (.cons (.sl .str) .unit)), res := (.int .i64), fn := fun v => path_Compare v.1 v.2.1 }
noncomputable def path_Compare_V : TEnv := { pure := [(76, slices_Compare_Sl_string_string_T)], look := [], glob := G0T, ty := [], raw := [], fresh := [] }
theorem path_Compare_eq : runY Tryz.prog path_Compare_E path_Compare_H path_Compare_V path_Compare_Y Tryz.f52 path_Compare_T.ps path_Compare_T.res = path_Compare_T.fn := by kernel_rfl
theorem path_Compare_Fok : SoundP Tryz.prog G0 52 path_Compare_F := closeF_sound (runF_sound (P := Tryz.prog) (E := path_Compare_E) (h := path_Compare_H) (f := 52) (fn := Tryz.f52) ⟨same_ok, (envP_cons slices_Compare_Sl_string_string_Fok envP_nil), envS_nil, envP_nil, envX_nil⟩ Tryz.func52 rfl (by kernel_rfl))
theorem path_Compare_ok : TOk path_Compare_F path_Compare_T := runY_ok (E := path_Compare_E) (ET := path_Compare_V) (EnvT.ofX (E := path_Compare_E) (ET := path_Compare_V) (pure_of (pairs_cons slices_Compare_Sl_string_string_ok pairs_nil)) looks_nil raws_nil G0_ok news_nil) path_Compare_eq rfl
-- palinode/tree.compare
noncomputable def tree_compare_E : Env := { pure := [(51, cmp_Or_int_F), (52, path_Compare_F), (53, cmp_Compare_int_F)], raw := [], glob := G0, same := [], look := [], ext := [] }
def tree_compare_H : Hints := { seqs := [], loops := [], own := [] }
noncomputable def tree_compare_F : PFn := closeF (runF Tryz.prog tree_compare_E tree_compare_H Tryz.f29)
def tree_compare_Y : TH := { joins := [], loops := [], cuts := [], ro := [2, 3], news := [] }
noncomputable def tree_compare (a0 : (List (List UInt8) × Int × Unit)) (a1 : (List (List UInt8) × Int × Unit)) : Option Int :=
(path_Compare a0.1 a1.1).bind fun r1 =>
(cmp_Compare_int a0.2.1 a1.2.1).bind fun r2 =>
(cmp_Or_int ([r1, r2] : List Int)).bind fun r3 =>
 some r3
noncomputable def tree_compare_T : TFn := { ps := (.cons (.agg (.cons (.sl .str) (.cons (.int .i64) .unit))) (.cons (.agg (.cons (.sl .str) (.cons (.int .i64) .unit))) .unit)), res := (.int .i64), fn := fun v => tree_compare v.1 v.2.1 }
noncomputable def tree_compare_V : TEnv := { pure := [(51, cmp_Or_int_T), (52, path_Compare_T), (53, cmp_Compare_int_T)], look := [], glob := G0T, ty := [(3, (.int .i64))], raw := [], fresh := [] }
theorem tree_compare_eq : runY Tryz.prog tree_compare_E tree_compare_H tree_compare_V tree_compare_Y Tryz.f29 tree_compare_T.ps tree_compare_T.res = tree_compare_T.fn := by kernel_rfl
theorem tree_compare_Fok : SoundP Tryz.prog G0 29 tree_compare_F := closeF_sound (runF_sound (P := Tryz.prog) (E := tree_compare_E) (h := tree_compare_H) (f := 29) (fn := Tryz.f29) ⟨same_ok, (envP_cons cmp_Or_int_Fok (envP_cons path_Compare_Fok (envP_cons cmp_Compare_int_Fok envP_nil))), envS_nil, envP_nil, envX_nil⟩ Tryz.func29 rfl (by kernel_rfl))
theorem tree_compare_ok : TOk tree_compare_F tree_compare_T := runY_ok (E := tree_compare_E) (ET := tree_compare_V) (EnvT.ofX (E := tree_compare_E) (ET := tree_compare_V) (pure_of (pairs_cons cmp_Or_int_ok (pairs_cons path_Compare_ok (pairs_cons cmp_Compare_int_ok pairs_nil)))) looks_nil raws_nil G0_ok news_nil) tree_compare_eq rfl
-- slices.SortFunc[[]palinode/tree.Leaf,palinode/tree.Leaf] by palinode/tree.compare
theorem cmp_isNaN_int_FokD : @SoundP ⟨True⟩ Tryz.prog G0 77 cmp_isNaN_int_F := by
  letI : Drawn := ⟨True⟩
  exact closeF_sound (runF_sound (P := Tryz.prog) (E := cmp_isNaN_int_E) (h := cmp_isNaN_int_H) (f := 77) (fn := Tryz.f77) ⟨same_ok, envP_nil, envS_nil, envP_nil, envX_nil⟩ Tryz.func77 rfl (by kernel_rfl))
theorem cmp_Compare_int_FokD : @SoundP ⟨True⟩ Tryz.prog G0 53 cmp_Compare_int_F := by
  letI : Drawn := ⟨True⟩
  exact closeF_sound (runF_sound (P := Tryz.prog) (E := cmp_Compare_int_E) (h := cmp_Compare_int_H) (f := 53) (fn := Tryz.f53) ⟨same_ok, (envP_cons cmp_isNaN_int_FokD envP_nil), envS_nil, envP_nil, envX_nil⟩ Tryz.func53 rfl (by kernel_rfl))
theorem cmp_Or_int_FokD : @SoundP ⟨True⟩ Tryz.prog G0 51 cmp_Or_int_F := by
  letI : Drawn := ⟨True⟩
  exact closeF_sound (runF_sound (P := Tryz.prog) (E := cmp_Or_int_E) (h := cmp_Or_int_H) (f := 51) (fn := Tryz.f51) ⟨same_ok, envP_nil, envS_nil, envP_nil, envX_nil⟩ Tryz.func51 rfl (by kernel_rfl))
theorem cmp_isNaN_string_FokD : @SoundP ⟨True⟩ Tryz.prog G0 107 cmp_isNaN_string_F := by
  letI : Drawn := ⟨True⟩
  exact closeF_sound (runF_sound (P := Tryz.prog) (E := cmp_isNaN_string_E) (h := cmp_isNaN_string_H) (f := 107) (fn := Tryz.f107) ⟨same_ok, envP_nil, envS_nil, envP_nil, envX_nil⟩ Tryz.func107 rfl (by kernel_rfl))
theorem cmp_Compare_string_FokD : @SoundP ⟨True⟩ Tryz.prog G0 98 cmp_Compare_string_F := by
  letI : Drawn := ⟨True⟩
  exact closeF_sound (runF_sound (P := Tryz.prog) (E := cmp_Compare_string_E) (h := cmp_Compare_string_H) (f := 98) (fn := Tryz.f98) ⟨same_ok, (envP_cons cmp_isNaN_string_FokD envP_nil), envS_nil, envP_nil, envX_nil⟩ Tryz.func98 rfl (by kernel_rfl))
theorem slices_Compare_Sl_string_string_FokD : @SoundP ⟨True⟩ Tryz.prog G0 76 slices_Compare_Sl_string_string_F := by
  letI : Drawn := ⟨True⟩
  exact closeF_sound (runF_sound (P := Tryz.prog) (E := slices_Compare_Sl_string_string_E) (h := slices_Compare_Sl_string_string_H) (f := 76) (fn := Tryz.f76) ⟨same_ok, (envP_cons cmp_Compare_string_FokD envP_nil), envS_nil, envP_nil, envX_nil⟩ Tryz.func76 rfl (by kernel_rfl))
theorem path_Compare_FokD : @SoundP ⟨True⟩ Tryz.prog G0 52 path_Compare_F := by
  letI : Drawn := ⟨True⟩
  exact closeF_sound (runF_sound (P := Tryz.prog) (E := path_Compare_E) (h := path_Compare_H) (f := 52) (fn := Tryz.f52) ⟨same_ok, (envP_cons slices_Compare_Sl_string_string_FokD envP_nil), envS_nil, envP_nil, envX_nil⟩ Tryz.func52 rfl (by kernel_rfl))
theorem tree_compare_FokD : @SoundP ⟨True⟩ Tryz.prog G0 29 tree_compare_F := by
  letI : Drawn := ⟨True⟩
  exact closeF_sound (runF_sound (P := Tryz.prog) (E := tree_compare_E) (h := tree_compare_H) (f := 29) (fn := Tryz.f29) ⟨same_ok, (envP_cons cmp_Or_int_FokD (envP_cons path_Compare_FokD (envP_cons cmp_Compare_int_FokD envP_nil))), envS_nil, envP_nil, envX_nil⟩ Tryz.func29 rfl (by kernel_rfl))
def slices_SortFunc_Sl_tree_Leaf_tree_Leaf__tree_compare_ren : Go.Shelf.Ren := ⟨fun | 6 => 28 | 14 => 49 | 15 => 50 | 20 => 66 | 21 => 67 | 22 => 68 | 23 => 69 | 24 => 70 | 25 => 71 | 26 => 72 | 27 => 73 | 28 => 74 | 29 => 75 | 46 => 93 | 47 => 94 | 48 => 95 | 49 => 96 | 50 => 97 | 57 => 106 | n => n, fun | 0 => 0 | 3 => 3 | 4 => 4 | 5 => 5 | 9 => 9 | 22 => 36 | 24 => 69 | 25 => 74 | 39 => 89 | 45 => 103 | 46 => 104 | 50 => 100 | 53 => 110 | 55 => 112 | 66 => 124 | 70 => 128 | 76 => 136 | 77 => 137 | n => n, fun | n => n⟩
theorem slices_SortFunc_Sl_tree_Leaf_tree_Leaf__tree_compare_lays : Go.Proofs.SlLaysF0.n6 Tryz.prog slices_SortFunc_Sl_tree_Leaf_tree_Leaf__tree_compare_ren := {
  mixed := by kernel_rfl
  f6 := ⟨Tryz.f28.name, by decide, Tryz.func28.trans (congrArg some (by kernel_rfl))⟩
  f14 := ⟨Tryz.f49.name, by decide, Tryz.func49.trans (congrArg some (by kernel_rfl))⟩
  f15 := Tryz.func50.trans (congrArg some (by kernel_rfl))
  f20 := ⟨Tryz.f66.name, by decide, Tryz.func66.trans (congrArg some (by kernel_rfl))⟩
  f21 := ⟨Tryz.f67.name, by decide, Tryz.func67.trans (congrArg some (by kernel_rfl))⟩
  f22 := ⟨Tryz.f68.name, by decide, Tryz.func68.trans (congrArg some (by kernel_rfl))⟩
  f23 := ⟨Tryz.f69.name, by decide, Tryz.func69.trans (congrArg some (by kernel_rfl))⟩
  f24 := ⟨Tryz.f70.name, by decide, Tryz.func70.trans (congrArg some (by kernel_rfl))⟩
  f25 := ⟨Tryz.f71.name, by decide, Tryz.func71.trans (congrArg some (by kernel_rfl))⟩
  f26 := ⟨Tryz.f72.name, by decide, Tryz.func72.trans (congrArg some (by kernel_rfl))⟩
  f27 := ⟨Tryz.f73.name, by decide, Tryz.func73.trans (congrArg some (by kernel_rfl))⟩
  f28 := Tryz.func74.trans (congrArg some (by kernel_rfl))
  f29 := Tryz.func75.trans (congrArg some (by kernel_rfl))
  f46 := ⟨Tryz.f93.name, by decide, Tryz.func93.trans (congrArg some (by kernel_rfl))⟩
  f47 := Tryz.func94.trans (congrArg some (by kernel_rfl))
  f48 := Tryz.func95.trans (congrArg some (by kernel_rfl))
  f49 := ⟨Tryz.f96.name, by decide, Tryz.func96.trans (congrArg some (by kernel_rfl))⟩
  f50 := ⟨Tryz.f97.name, by decide, Tryz.func97.trans (congrArg some (by kernel_rfl))⟩
  f57 := ⟨Tryz.f106.name, by decide, Tryz.func106.trans (congrArg some (by kernel_rfl))⟩
  t0 := Tryz.underlying0
  a0 := Tryz.isAgg0
  z0 := Tryz.sizeOf0
  v0 := Tryz.zeroValue0
  t3 := Tryz.underlying3
  a3 := Tryz.isAgg3
  z3 := Tryz.sizeOf3
  v3 := Tryz.zeroValue3
  t4 := Tryz.underlying4
  a4 := Tryz.isAgg4
  z4 := Tryz.sizeOf4
  v4 := Tryz.zeroValue4
  t5 := Tryz.underlying5
  a5 := Tryz.isAgg5
  z5 := Tryz.sizeOf5
  v5 := Tryz.zeroValue5
  t9 := Tryz.underlying9
  a9 := Tryz.isAgg9
  z9 := Tryz.sizeOf9
  v9 := Tryz.zeroValue9
  t22 := Tryz.underlying36
  a22 := Tryz.isAgg36
  z22 := Tryz.sizeOf36
  v22 := Tryz.zeroValue36
  t25 := Tryz.underlying74
  a25 := Tryz.isAgg74
  z25 := Tryz.sizeOf74
  v25 := Tryz.zeroValue74
  t39 := Tryz.underlying89
  a39 := Tryz.isAgg89
  z39 := Tryz.sizeOf89
  v39 := Tryz.zeroValue89
  t45 := Tryz.underlying103
  a45 := Tryz.isAgg103
  z45 := Tryz.sizeOf103
  v45 := Tryz.zeroValue103
  t46 := Tryz.underlying104
  a46 := Tryz.isAgg104
  z46 := Tryz.sizeOf104
  v46 := Tryz.zeroValue104
  t50 := Tryz.underlying100
  a50 := Tryz.isAgg100
  z50 := Tryz.sizeOf100
  v50 := Tryz.zeroValue100
  t53 := Tryz.underlying110
  a53 := Tryz.isAgg110
  z53 := Tryz.sizeOf110
  v53 := Tryz.zeroValue110
  t55 := Tryz.underlying112
  a55 := Tryz.isAgg112
  z55 := Tryz.sizeOf112
  v55 := Tryz.zeroValue112
  t66 := Tryz.underlying124
  a66 := Tryz.isAgg124
  z66 := Tryz.sizeOf124
  v66 := Tryz.zeroValue124
  t70 := Tryz.underlying128
  a70 := Tryz.isAgg128
  z70 := Tryz.sizeOf128
  v70 := Tryz.zeroValue128
  t76 := Tryz.underlying136
  a76 := Tryz.isAgg136
  z76 := Tryz.sizeOf136
  v76 := Tryz.zeroValue136
  t77 := Tryz.underlying137
  a77 := Tryz.isAgg137
  z77 := Tryz.sizeOf137
  v77 := Tryz.zeroValue137 }
noncomputable def slices_SortFunc_Sl_tree_Leaf_tree_Leaf__tree_compare_S : SFn := sortS tree_compare_F 29 2 69
theorem slices_SortFunc_Sl_tree_Leaf_tree_Leaf__tree_compare_Sok : SoundS Tryz.prog G0 28 slices_SortFunc_Sl_tree_Leaf_tree_Leaf__tree_compare_S := sortS_sound (M := 2) (g := 29) slices_SortFunc_Sl_tree_Leaf_tree_Leaf__tree_compare_lays (by decide) (fun w => Tryz.isAgg69 w) (fun w => Tryz.sizeOf69 w) tree_compare_FokD ⟨Tryz.f28, Tryz.func28, rfl, by kernel_rfl⟩
noncomputable def slices_SortFunc_Sl_tree_Leaf_tree_Leaf__tree_compare (w0 : List (List (List UInt8) × Int × Unit)) : Option (Unit × List (List (List UInt8) × Int × Unit) × Unit) := (sortT (fun x y => tree_compare x y) w0).map fun l => ((), (l, ()))
noncomputable def slices_SortFunc_Sl_tree_Leaf_tree_Leaf__tree_compare_R : TRaw := sortR false 29 69 (.agg (.cons (.sl .str) (.cons (.int .i64) .unit))) (fun x y => tree_compare x y)
theorem slices_SortFunc_Sl_tree_Leaf_tree_Leaf__tree_compare_ok : TRawOk slices_SortFunc_Sl_tree_Leaf_tree_Leaf__tree_compare_S slices_SortFunc_Sl_tree_Leaf_tree_Leaf__tree_compare_R := sortR_ok rfl rfl rfl rfl tree_compare_ok
-- strings.Compare
noncomputable def strings_Compare_F : PFn := cmpF
noncomputable def strings_Compare (a0 : List UInt8) (a1 : List UInt8) : Option Int := cmpT a0 a1
noncomputable def strings_Compare_T : TFn := cmpT_T
theorem strings_Compare_ok : TOk strings_Compare_F strings_Compare_T := cmpT_ok
-- slices.SortFunc[[]string,string] by strings.Compare
theorem strings_Compare_FokD : @SoundP ⟨True⟩ Tryz.prog G0 36 strings_Compare_F := by
  letI : Drawn := ⟨True⟩
  exact cmp_sound ⟨Tryz.f36, Tryz.func36, rfl, by kernel_rfl⟩ Tryz.strings_Compare
def slices_SortFunc_Sl_string_string__strings_Compare_ren : Go.Shelf.Ren := ⟨fun | 6 => 35 | 14 => 55 | 15 => 50 | 20 => 78 | 21 => 79 | 22 => 80 | 23 => 81 | 24 => 82 | 25 => 83 | 26 => 84 | 27 => 85 | 28 => 74 | 29 => 75 | 46 => 99 | 47 => 94 | 48 => 95 | 49 => 100 | 50 => 101 | 57 => 108 | n => n, fun | 0 => 0 | 3 => 3 | 4 => 4 | 5 => 5 | 9 => 9 | 22 => 24 | 24 => 9 | 25 => 80 | 39 => 89 | 45 => 103 | 46 => 104 | 50 => 100 | 53 => 110 | 55 => 112 | 66 => 124 | 70 => 128 | 76 => 136 | 77 => 137 | n => n, fun | n => n⟩
theorem slices_SortFunc_Sl_string_string__strings_Compare_lays : Go.Proofs.SlLaysF.n6 Tryz.prog slices_SortFunc_Sl_string_string__strings_Compare_ren := {
  mixed := by kernel_rfl
  f6 := ⟨Tryz.f35.name, by decide, Tryz.func35.trans (congrArg some (by kernel_rfl))⟩
  f14 := ⟨Tryz.f55.name, by decide, Tryz.func55.trans (congrArg some (by kernel_rfl))⟩
  f15 := Tryz.func50.trans (congrArg some (by kernel_rfl))
  f20 := ⟨Tryz.f78.name, by decide, Tryz.func78.trans (congrArg some (by kernel_rfl))⟩
  f21 := ⟨Tryz.f79.name, by decide, Tryz.func79.trans (congrArg some (by kernel_rfl))⟩
  f22 := ⟨Tryz.f80.name, by decide, Tryz.func80.trans (congrArg some (by kernel_rfl))⟩
  f23 := ⟨Tryz.f81.name, by decide, Tryz.func81.trans (congrArg some (by kernel_rfl))⟩
  f24 := ⟨Tryz.f82.name, by decide, Tryz.func82.trans (congrArg some (by kernel_rfl))⟩
  f25 := ⟨Tryz.f83.name, by decide, Tryz.func83.trans (congrArg some (by kernel_rfl))⟩
  f26 := ⟨Tryz.f84.name, by decide, Tryz.func84.trans (congrArg some (by kernel_rfl))⟩
  f27 := ⟨Tryz.f85.name, by decide, Tryz.func85.trans (congrArg some (by kernel_rfl))⟩
  f28 := Tryz.func74.trans (congrArg some (by kernel_rfl))
  f29 := Tryz.func75.trans (congrArg some (by kernel_rfl))
  f46 := ⟨Tryz.f99.name, by decide, Tryz.func99.trans (congrArg some (by kernel_rfl))⟩
  f47 := Tryz.func94.trans (congrArg some (by kernel_rfl))
  f48 := Tryz.func95.trans (congrArg some (by kernel_rfl))
  f49 := ⟨Tryz.f100.name, by decide, Tryz.func100.trans (congrArg some (by kernel_rfl))⟩
  f50 := ⟨Tryz.f101.name, by decide, Tryz.func101.trans (congrArg some (by kernel_rfl))⟩
  f57 := ⟨Tryz.f108.name, by decide, Tryz.func108.trans (congrArg some (by kernel_rfl))⟩
  t0 := Tryz.underlying0
  a0 := Tryz.isAgg0
  z0 := Tryz.sizeOf0
  v0 := Tryz.zeroValue0
  t3 := Tryz.underlying3
  a3 := Tryz.isAgg3
  z3 := Tryz.sizeOf3
  v3 := Tryz.zeroValue3
  t4 := Tryz.underlying4
  a4 := Tryz.isAgg4
  z4 := Tryz.sizeOf4
  v4 := Tryz.zeroValue4
  t5 := Tryz.underlying5
  a5 := Tryz.isAgg5
  z5 := Tryz.sizeOf5
  v5 := Tryz.zeroValue5
  t9 := Tryz.underlying9
  a9 := Tryz.isAgg9
  z9 := Tryz.sizeOf9
  v9 := Tryz.zeroValue9
  t22 := Tryz.underlying24
  a22 := Tryz.isAgg24
  z22 := Tryz.sizeOf24
  v22 := Tryz.zeroValue24
  a24 := Tryz.isAgg9
  z24 := Tryz.sizeOf9
  t25 := Tryz.underlying80
  a25 := Tryz.isAgg80
  z25 := Tryz.sizeOf80
  v25 := Tryz.zeroValue80
  t39 := Tryz.underlying89
  a39 := Tryz.isAgg89
  z39 := Tryz.sizeOf89
  v39 := Tryz.zeroValue89
  t45 := Tryz.underlying103
  a45 := Tryz.isAgg103
  z45 := Tryz.sizeOf103
  v45 := Tryz.zeroValue103
  t46 := Tryz.underlying104
  a46 := Tryz.isAgg104
  z46 := Tryz.sizeOf104
  v46 := Tryz.zeroValue104
  t50 := Tryz.underlying100
  a50 := Tryz.isAgg100
  z50 := Tryz.sizeOf100
  v50 := Tryz.zeroValue100
  t53 := Tryz.underlying110
  a53 := Tryz.isAgg110
  z53 := Tryz.sizeOf110
  v53 := Tryz.zeroValue110
  t55 := Tryz.underlying112
  a55 := Tryz.isAgg112
  z55 := Tryz.sizeOf112
  v55 := Tryz.zeroValue112
  t66 := Tryz.underlying124
  a66 := Tryz.isAgg124
  z66 := Tryz.sizeOf124
  v66 := Tryz.zeroValue124
  t70 := Tryz.underlying128
  a70 := Tryz.isAgg128
  z70 := Tryz.sizeOf128
  v70 := Tryz.zeroValue128
  t76 := Tryz.underlying136
  a76 := Tryz.isAgg136
  z76 := Tryz.sizeOf136
  v76 := Tryz.zeroValue136
  t77 := Tryz.underlying137
  a77 := Tryz.isAgg137
  z77 := Tryz.sizeOf137
  v77 := Tryz.zeroValue137 }
noncomputable def slices_SortFunc_Sl_string_string__strings_Compare_S : SFn := sort1S strings_Compare_F 36 9
theorem slices_SortFunc_Sl_string_string__strings_Compare_Sok : SoundS Tryz.prog G0 35 slices_SortFunc_Sl_string_string__strings_Compare_S := sort1_sound (g := 36) slices_SortFunc_Sl_string_string__strings_Compare_lays strings_Compare_FokD ⟨Tryz.f35, Tryz.func35, rfl, by kernel_rfl⟩
noncomputable def slices_SortFunc_Sl_string_string__strings_Compare (w0 : List (List UInt8)) : Option (Unit × List (List UInt8) × Unit) := (sortT (fun x y => strings_Compare x y) w0).map fun l => ((), (l, ()))
noncomputable def slices_SortFunc_Sl_string_string__strings_Compare_R : TRaw := sortR false 36 9 .str (fun x y => strings_Compare x y)
theorem slices_SortFunc_Sl_string_string__strings_Compare_ok : TRawOk slices_SortFunc_Sl_string_string__strings_Compare_S slices_SortFunc_Sl_string_string__strings_Compare_R := sort1R_ok rfl rfl rfl rfl cell_str strings_Compare_ok
-- slices.Compact[[]string,string]
noncomputable def slices_Compact_Sl_string_string_E : Env := { pure := [], raw := [], glob := G0, same := [], look := [], ext := [] }
def slices_Compact_Sl_string_string_H : Hints := { seqs := [], loops := [(4, [0, 3]), (9, [0, 3, 4, 5])], own := [] }
noncomputable def slices_Compact_Sl_string_string_S : SFn := giveS (runF Tryz.prog slices_Compact_Sl_string_string_E slices_Compact_Sl_string_string_H Tryz.f37)
def slices_Compact_Sl_string_string_Y : TH := { joins := [(14, { keep := [(0, (.own 0)), (3, (.int .i64))], mem := [.row false 9 .str] })], loops := [(4, { keep := [(0, (.own 0)), (3, (.int .i64))], mem := [.row false 9 .str] }), (9, { keep := [(0, (.own 0)), (3, (.int .i64)), (4, (.vw 0)), (5, (.int .i64))], mem := [.row false 9 .str] })], cuts := [], ro := [], news := [] }
noncomputable def slices_Compact_Sl_string_string_l9 (y9 : (Int × (Nat × Nat) × Int × List (List UInt8) × Unit)) : Option ((Int × (Nat × Nat) × Int × List (List UInt8) × Unit) ⊕ ((Int × List (List UInt8) × Unit) ⊕ ((Int × List (List UInt8) × Unit) ⊕ (List (List UInt8))))) :=
 cond (decide (y9.2.2.1 < (y9.2.1.2 : Int))) (
 cond y9.2.2.2.1.isEmpty (none) ((inI y9.2.1.2 y9.2.2.1).bind fun i6 =>
(y9.2.2.2.1[(y9.2.1.1 + i6)]?).bind fun x7 =>
 cond y9.2.2.2.1.isEmpty (none) ((inI y9.2.1.2 (IntKind.wrap .i64 (y9.2.2.1 - 1))).bind fun i8 =>
(y9.2.2.2.1[(y9.2.1.1 + i8)]?).bind fun x9 =>
 cond (!decide (x7 = x9)) (
 cond y9.2.2.2.1.isEmpty (none) ((inI y9.2.1.2 y9.2.2.1).bind fun i10 =>
(y9.2.2.2.1[(y9.2.1.1 + i10)]?).bind fun x11 =>
(inI y9.2.2.2.1.length y9.1).bind fun i12 =>
(y9.2.2.2.1[i12]?).bind fun x13 =>
 some (.inl ((IntKind.wrap .i64 (y9.1 + 1)), y9.2.1, (IntKind.wrap .i64 (y9.2.2.1 + 1)), (y9.2.2.2.1.set i12 x11), ())))) (
 some (.inl (y9.1, y9.2.1, (IntKind.wrap .i64 (y9.2.2.1 + 1)), y9.2.2.2.1, ())))))) (
 some (.inr (.inl (y9.1, y9.2.2.2.1, ()))))
noncomputable def slices_Compact_Sl_string_string_l4 (y4 : (Int × List (List UInt8) × Unit)) : Option ((Int × List (List UInt8) × Unit) ⊕ (List (List UInt8))) :=
 cond (decide (y4.1 < (y4.2.1.length : Int))) (
(inI y4.2.1.length y4.1).bind fun i1 =>
(y4.2.1[i1]?).bind fun x2 =>
(inI y4.2.1.length (IntKind.wrap .i64 (y4.1 - 1))).bind fun i3 =>
(y4.2.1[i3]?).bind fun x4 =>
 cond (decide (x2 = x4)) (
 cond y4.2.1.isEmpty (none) ((viewI (y4.2.1.length) y4.1 (y4.2.1.length : Int)).bind fun p5 =>
(loopT (slices_Compact_Sl_string_string_l9) (y4.1, p5, 1, y4.2.1, ()) : Option ((Int × List (List UInt8) × Unit) ⊕ ((Int × List (List UInt8) × Unit) ⊕ (List (List UInt8))))).bind (joinS fun v14 =>
 cond v14.2.1.isEmpty (none) ((viewI (v14.2.1.length) v14.1 (v14.2.1.length : Int)).bind fun p15 =>
 cond v14.2.1.isEmpty (none) ((if p15.1 + p15.2 ≤ v14.2.1.length then some () else none).bind fun u16 =>
 cond (v14.2.1.take p15.1 ++ List.replicate p15.2 [] ++ v14.2.1.drop (p15.1 + p15.2)).isEmpty (none) ((viewI ((v14.2.1.take p15.1 ++ List.replicate p15.2 [] ++ v14.2.1.drop (p15.1 + p15.2)).length) 0 v14.1).bind fun p17 =>
(cond (v14.2.1.take p15.1 ++ List.replicate p15.2 [] ++ v14.2.1.drop (p15.1 + p15.2)).isEmpty none (if p17.1 + p17.2 ≤ (v14.2.1.take p15.1 ++ List.replicate p15.2 [] ++ v14.2.1.drop (p15.1 + p15.2)).length then some (((v14.2.1.take p15.1 ++ List.replicate p15.2 [] ++ v14.2.1.drop (p15.1 + p15.2)).drop p17.1).take p17.2) else none)).map .inr)))))) (
 some (.inl ((IntKind.wrap .i64 (y4.1 + 1)), y4.2.1, ())))) (
 some (.inr y4.2.1))
noncomputable def slices_Compact_Sl_string_string_g (w0 : List (List UInt8)) : Option (List (List UInt8)) :=
 cond (decide ((w0.length : Int) < 2)) (
 some w0) (
 loopT (slices_Compact_Sl_string_string_l4) (1, w0, ()))
noncomputable def slices_Compact_Sl_string_string (w0 : List (List UInt8)) : Option (List (List UInt8) × Unit) := (slices_Compact_Sl_string_string_g w0).map fun l => (l, ())
noncomputable def slices_Compact_Sl_string_string_R : TRaw := { ps := (.cons (.own 0) .unit), ins := [.row false 9 .str], res := (.sl .str), outs := [.gone], fn := fun v w => slices_Compact_Sl_string_string w.1 }
noncomputable def slices_Compact_Sl_string_string_V : TEnv := { pure := [], look := [], glob := G0T, ty := [], raw := [], fresh := [] }
theorem slices_Compact_Sl_string_string_eq : giveY Tryz.prog slices_Compact_Sl_string_string_E slices_Compact_Sl_string_string_H slices_Compact_Sl_string_string_V slices_Compact_Sl_string_string_Y Tryz.f37 (.cons (.own 0) .unit) false 9 .str = fun _ w => slices_Compact_Sl_string_string_g w := by kernel_rfl
theorem slices_Compact_Sl_string_string_Sok : SoundS Tryz.prog G0 37 slices_Compact_Sl_string_string_S := giveS_sound (runF_sound (P := Tryz.prog) (E := slices_Compact_Sl_string_string_E) (h := slices_Compact_Sl_string_string_H) (f := 37) (fn := Tryz.f37) ⟨same_ok, envP_nil, envS_nil, envP_nil, envX_nil⟩ Tryz.func37 rfl (by kernel_rfl))
theorem slices_Compact_Sl_string_string_ok : TRawOk slices_Compact_Sl_string_string_S slices_Compact_Sl_string_string_R := giveY_ok (E := slices_Compact_Sl_string_string_E) (ET := slices_Compact_Sl_string_string_V) (EnvT.ofX (E := slices_Compact_Sl_string_string_E) (ET := slices_Compact_Sl_string_string_V) (pure_of pairs_nil) looks_nil raws_nil G0_ok news_nil) slices_Compact_Sl_string_string_eq
-- slices.Clone[[]string,string]
def slices_Clone_Sl_string_string_ren : Go.Shelf.Ren := ⟨fun | 41 => 26 | n => n, fun | 22 => 24 | 23 => 9 | 4 => 4 | n => n, fun | n => n⟩
theorem slices_Clone_Sl_string_string_lays : Go.Proofs.SlLaysE0.n41 Tryz.prog slices_Clone_Sl_string_string_ren := {
  mixed := by kernel_rfl
  f41 := ⟨Tryz.f26.name, by decide, Tryz.func26.trans (congrArg some (by kernel_rfl))⟩
  t4 := Tryz.underlying4
  a4 := Tryz.isAgg4
  z4 := Tryz.sizeOf4
  v4 := Tryz.zeroValue4
  t22 := Tryz.underlying24
  a22 := Tryz.isAgg24
  z22 := Tryz.sizeOf24
  v22 := Tryz.zeroValue24 }
noncomputable def slices_Clone_Sl_string_string_F : PFn := (cloneF 1)
theorem slices_Clone_Sl_string_string_Fok : SoundP Tryz.prog G0 26 slices_Clone_Sl_string_string_F := clone_lays slices_Clone_Sl_string_string_lays 1 ⟨Tryz.f26, Tryz.func26, rfl, by kernel_rfl⟩ (by kernel_rfl) (by kernel_rfl) (by kernel_rfl) (by kernel_rfl) (by kernel_rfl) (by decide) (fun w => Tryz.sizeOf9 w)
noncomputable def slices_Clone_Sl_string_string (a0 : List (List UInt8)) : Option (List (List UInt8)) := cloneT a0
noncomputable def slices_Clone_Sl_string_string_T : TFn := cloneT_T .str
theorem slices_Clone_Sl_string_string_ok : TOk slices_Clone_Sl_string_string_F slices_Clone_Sl_string_string_T := cloneT_ok rfl rfl rfl
-- palinode/tree.Leaves$1
noncomputable def tree_Leaves_1_E : Env := { pure := [(29, tree_compare_F)], raw := [], glob := G0, same := [], look := [], ext := [] }
def tree_Leaves_1_H : Hints := { seqs := [], loops := [], own := [] }
noncomputable def tree_Leaves_1_F : PFn := closeF (runF Tryz.prog tree_Leaves_1_E tree_Leaves_1_H Tryz.f31)
def tree_Leaves_1_Y : TH := { joins := [], loops := [], cuts := [], ro := [2, 3], news := [] }
noncomputable def tree_Leaves_1 (a0 : (List (List UInt8) × Int × Unit)) (a1 : (List (List UInt8) × Int × Unit)) : Option Bool :=
(tree_compare a0 a1).bind fun r1 =>
 some (decide (r1 = 0))
noncomputable def tree_Leaves_1_T : TFn := { ps := (.cons (.agg (.cons (.sl .str) (.cons (.int .i64) .unit))) (.cons (.agg (.cons (.sl .str) (.cons (.int .i64) .unit))) .unit)), res := .bool, fn := fun v => tree_Leaves_1 v.1 v.2.1 }
noncomputable def tree_Leaves_1_V : TEnv := { pure := [(29, tree_compare_T)], look := [], glob := G0T, ty := [], raw := [], fresh := [] }
theorem tree_Leaves_1_eq : runY Tryz.prog tree_Leaves_1_E tree_Leaves_1_H tree_Leaves_1_V tree_Leaves_1_Y Tryz.f31 tree_Leaves_1_T.ps tree_Leaves_1_T.res = tree_Leaves_1_T.fn := by kernel_rfl
theorem tree_Leaves_1_Fok : SoundP Tryz.prog G0 31 tree_Leaves_1_F := closeF_sound (runF_sound (P := Tryz.prog) (E := tree_Leaves_1_E) (h := tree_Leaves_1_H) (f := 31) (fn := Tryz.f31) ⟨same_ok, (envP_cons tree_compare_Fok envP_nil), envS_nil, envP_nil, envX_nil⟩ Tryz.func31 rfl (by kernel_rfl))
theorem tree_Leaves_1_ok : TOk tree_Leaves_1_F tree_Leaves_1_T := runY_ok (E := tree_Leaves_1_E) (ET := tree_Leaves_1_V) (EnvT.ofX (E := tree_Leaves_1_E) (ET := tree_Leaves_1_V) (pure_of (pairs_cons tree_compare_ok pairs_nil)) looks_nil raws_nil G0_ok news_nil) tree_Leaves_1_eq rfl
-- slices.CompactFunc[[]palinode/tree.Leaf,palinode/tree.Leaf]
noncomputable def slices_CompactFunc_Sl_tree_Leaf_tree_Leaf__tree_Leaves_1_E : Env := { pure := [(31, tree_Leaves_1_F)], raw := [], glob := G0, same := [], look := [], ext := [] }
def slices_CompactFunc_Sl_tree_Leaf_tree_Leaf__tree_Leaves_1_H : Hints := { seqs := [], loops := [(4, [0, 1, 5]), (9, [0, 1, 5, 6, 7])], own := [] }
noncomputable def slices_CompactFunc_Sl_tree_Leaf_tree_Leaf__tree_Leaves_1_S : SFn := giveS (runF Tryz.prog slices_CompactFunc_Sl_tree_Leaf_tree_Leaf__tree_Leaves_1_E slices_CompactFunc_Sl_tree_Leaf_tree_Leaf__tree_Leaves_1_H Tryz.f30)
def slices_CompactFunc_Sl_tree_Leaf_tree_Leaf__tree_Leaves_1_Y : TH := { joins := [(14, { keep := [(0, (.own 0)), (5, (.int .i64))], mem := [.row false 69 (.agg (.cons (.sl .str) (.cons (.int .i64) .unit)))] })], loops := [(4, { keep := [(0, (.own 0)), (5, (.int .i64))], mem := [.row false 69 (.agg (.cons (.sl .str) (.cons (.int .i64) .unit)))] }), (9, { keep := [(0, (.own 0)), (5, (.int .i64)), (6, (.vw 0)), (7, (.int .i64))], mem := [.row false 69 (.agg (.cons (.sl .str) (.cons (.int .i64) .unit)))] })], cuts := [], ro := [], news := [] }
noncomputable def slices_CompactFunc_Sl_tree_Leaf_tree_Leaf__tree_Leaves_1_l9 (y9 : (Int × (Nat × Nat) × Int × List (List (List UInt8) × Int × Unit) × Unit)) : Option ((Int × (Nat × Nat) × Int × List (List (List UInt8) × Int × Unit) × Unit) ⊕ ((Int × List (List (List UInt8) × Int × Unit) × Unit) ⊕ ((Int × List (List (List UInt8) × Int × Unit) × Unit) ⊕ (List (List (List UInt8) × Int × Unit))))) :=
 cond (decide (y9.2.2.1 < (y9.2.1.2 : Int))) (
 cond y9.2.2.2.1.isEmpty (none) ((inI y9.2.1.2 y9.2.2.1).bind fun i7 =>
(y9.2.2.2.1[(y9.2.1.1 + i7)]?).bind fun x8 =>
 cond y9.2.2.2.1.isEmpty (none) ((inI y9.2.1.2 (IntKind.wrap .i64 (y9.2.2.1 - 1))).bind fun i9 =>
(y9.2.2.2.1[(y9.2.1.1 + i9)]?).bind fun x10 =>
(tree_Leaves_1 x8 x10).bind fun r11 =>
 cond (!r11) (
 cond y9.2.2.2.1.isEmpty (none) ((inI y9.2.1.2 y9.2.2.1).bind fun i12 =>
(y9.2.2.2.1[(y9.2.1.1 + i12)]?).bind fun x13 =>
(inI y9.2.2.2.1.length y9.1).bind fun i14 =>
(y9.2.2.2.1[i14]?).bind fun x15 =>
 some (.inl ((IntKind.wrap .i64 (y9.1 + 1)), y9.2.1, (IntKind.wrap .i64 (y9.2.2.1 + 1)), (y9.2.2.2.1.set i14 x13), ())))) (
 some (.inl (y9.1, y9.2.1, (IntKind.wrap .i64 (y9.2.2.1 + 1)), y9.2.2.2.1, ())))))) (
 some (.inr (.inl (y9.1, y9.2.2.2.1, ()))))
noncomputable def slices_CompactFunc_Sl_tree_Leaf_tree_Leaf__tree_Leaves_1_l4 (y4 : (Int × List (List (List UInt8) × Int × Unit) × Unit)) : Option ((Int × List (List (List UInt8) × Int × Unit) × Unit) ⊕ (List (List (List UInt8) × Int × Unit))) :=
 cond (decide (y4.1 < (y4.2.1.length : Int))) (
(inI y4.2.1.length y4.1).bind fun i1 =>
(y4.2.1[i1]?).bind fun x2 =>
(inI y4.2.1.length (IntKind.wrap .i64 (y4.1 - 1))).bind fun i3 =>
(y4.2.1[i3]?).bind fun x4 =>
(tree_Leaves_1 x2 x4).bind fun r5 =>
 cond r5 (
 cond y4.2.1.isEmpty (none) ((viewI (y4.2.1.length) y4.1 (y4.2.1.length : Int)).bind fun p6 =>
(loopT (slices_CompactFunc_Sl_tree_Leaf_tree_Leaf__tree_Leaves_1_l9) (y4.1, p6, 1, y4.2.1, ()) : Option ((Int × List (List (List UInt8) × Int × Unit) × Unit) ⊕ ((Int × List (List (List UInt8) × Int × Unit) × Unit) ⊕ (List (List (List UInt8) × Int × Unit))))).bind (joinS fun v16 =>
 cond v16.2.1.isEmpty (none) ((viewI (v16.2.1.length) v16.1 (v16.2.1.length : Int)).bind fun p17 =>
 cond v16.2.1.isEmpty (none) ((if p17.1 + p17.2 ≤ v16.2.1.length then some () else none).bind fun u18 =>
 cond (v16.2.1.take p17.1 ++ List.replicate p17.2 ([], 0, ()) ++ v16.2.1.drop (p17.1 + p17.2)).isEmpty (none) ((viewI ((v16.2.1.take p17.1 ++ List.replicate p17.2 ([], 0, ()) ++ v16.2.1.drop (p17.1 + p17.2)).length) 0 v16.1).bind fun p19 =>
(cond (v16.2.1.take p17.1 ++ List.replicate p17.2 ([], 0, ()) ++ v16.2.1.drop (p17.1 + p17.2)).isEmpty none (if p19.1 + p19.2 ≤ (v16.2.1.take p17.1 ++ List.replicate p17.2 ([], 0, ()) ++ v16.2.1.drop (p17.1 + p17.2)).length then some (((v16.2.1.take p17.1 ++ List.replicate p17.2 ([], 0, ()) ++ v16.2.1.drop (p17.1 + p17.2)).drop p19.1).take p19.2) else none)).map .inr)))))) (
 some (.inl ((IntKind.wrap .i64 (y4.1 + 1)), y4.2.1, ())))) (
 some (.inr y4.2.1))
noncomputable def slices_CompactFunc_Sl_tree_Leaf_tree_Leaf__tree_Leaves_1_g (w0 : List (List (List UInt8) × Int × Unit)) : Option (List (List (List UInt8) × Int × Unit)) :=
 cond (decide ((w0.length : Int) < 2)) (
 some w0) (
 loopT (slices_CompactFunc_Sl_tree_Leaf_tree_Leaf__tree_Leaves_1_l4) (1, w0, ()))
noncomputable def slices_CompactFunc_Sl_tree_Leaf_tree_Leaf__tree_Leaves_1 (w0 : List (List (List UInt8) × Int × Unit)) : Option (List (List (List UInt8) × Int × Unit) × Unit) := (slices_CompactFunc_Sl_tree_Leaf_tree_Leaf__tree_Leaves_1_g w0).map fun l => (l, ())
noncomputable def slices_CompactFunc_Sl_tree_Leaf_tree_Leaf__tree_Leaves_1_R : TRaw := { ps := (.cons (.own 0) (.cons (.fn 31) .unit)), ins := [.row false 69 (.agg (.cons (.sl .str) (.cons (.int .i64) .unit)))], res := (.sl (.agg (.cons (.sl .str) (.cons (.int .i64) .unit)))), outs := [.gone], fn := fun v w => slices_CompactFunc_Sl_tree_Leaf_tree_Leaf__tree_Leaves_1 w.1 }
noncomputable def slices_CompactFunc_Sl_tree_Leaf_tree_Leaf__tree_Leaves_1_V : TEnv := { pure := [(31, tree_Leaves_1_T)], look := [], glob := G0T, ty := [], raw := [], fresh := [] }
theorem slices_CompactFunc_Sl_tree_Leaf_tree_Leaf__tree_Leaves_1_eq : giveY Tryz.prog slices_CompactFunc_Sl_tree_Leaf_tree_Leaf__tree_Leaves_1_E slices_CompactFunc_Sl_tree_Leaf_tree_Leaf__tree_Leaves_1_H slices_CompactFunc_Sl_tree_Leaf_tree_Leaf__tree_Leaves_1_V slices_CompactFunc_Sl_tree_Leaf_tree_Leaf__tree_Leaves_1_Y Tryz.f30 (.cons (.own 0) (.cons (.fn 31) .unit)) false 69 (.agg (.cons (.sl .str) (.cons (.int .i64) .unit))) = fun _ w => slices_CompactFunc_Sl_tree_Leaf_tree_Leaf__tree_Leaves_1_g w := by kernel_rfl
theorem slices_CompactFunc_Sl_tree_Leaf_tree_Leaf__tree_Leaves_1_Sok : SoundS Tryz.prog G0 30 slices_CompactFunc_Sl_tree_Leaf_tree_Leaf__tree_Leaves_1_S := giveS_sound (runF_sound (P := Tryz.prog) (E := slices_CompactFunc_Sl_tree_Leaf_tree_Leaf__tree_Leaves_1_E) (h := slices_CompactFunc_Sl_tree_Leaf_tree_Leaf__tree_Leaves_1_H) (f := 30) (fn := Tryz.f30) ⟨same_ok, (envP_cons tree_Leaves_1_Fok envP_nil), envS_nil, envP_nil, envX_nil⟩ Tryz.func30 rfl (by kernel_rfl))
theorem slices_CompactFunc_Sl_tree_Leaf_tree_Leaf__tree_Leaves_1_ok : TRawOk slices_CompactFunc_Sl_tree_Leaf_tree_Leaf__tree_Leaves_1_S slices_CompactFunc_Sl_tree_Leaf_tree_Leaf__tree_Leaves_1_R := giveY_ok (E := slices_CompactFunc_Sl_tree_Leaf_tree_Leaf__tree_Leaves_1_E) (ET := slices_CompactFunc_Sl_tree_Leaf_tree_Leaf__tree_Leaves_1_V) (EnvT.ofX (E := slices_CompactFunc_Sl_tree_Leaf_tree_Leaf__tree_Leaves_1_E) (ET := slices_CompactFunc_Sl_tree_Leaf_tree_Leaf__tree_Leaves_1_V) (pure_of (pairs_cons tree_Leaves_1_ok pairs_nil)) looks_nil raws_nil G0_ok news_nil) slices_CompactFunc_Sl_tree_Leaf_tree_Leaf__tree_Leaves_1_eq
-- palinode/tree.Leaves
noncomputable def tree_Leaves_E : Env := { pure := [(26, slices_Clone_Sl_string_string_F), (27, op_Leaf_F)], raw := [(28, slices_SortFunc_Sl_tree_Leaf_tree_Leaf__tree_compare_S), (30, slices_CompactFunc_Sl_tree_Leaf_tree_Leaf__tree_Leaves_1_S)], glob := G0, same := [], look := [], ext := [] }
def tree_Leaves_H : Hints := { seqs := [], loops := [(3, [3, 6, 7, 8])], own := [] }
noncomputable def tree_Leaves_F : PFn := closeF (runF Tryz.prog tree_Leaves_E tree_Leaves_H Tryz.f12)
def tree_Leaves_Y : TH := { joins := [(7, { keep := [(3, (.own 1))], mem := [.gone, .row true 69 (.agg (.cons (.sl .str) (.cons (.int .i64) .unit)))] })], loops := [(3, { keep := [(3, (.own 1)), (8, (.int .i64))], mem := [.gone, .row true 69 (.agg (.cons (.sl .str) (.cons (.int .i64) .unit)))] })], cuts := [], ro := [], news := [] }
noncomputable def tree_Leaves_l3 (a0 : List (((Int × Int × Unit) × Int × Unit) × (Int × List (List UInt8) × (Int × Int × List UInt8 × Unit) × Int × List ((Int × Int × Unit) × Int × Unit) × Unit) × Int × Unit)) (y3 : (Int × List (List (List UInt8) × Int × Unit) × Unit)) : Option ((Int × List (List (List UInt8) × Int × Unit) × Unit) ⊕ ((List (List (List UInt8) × Int × Unit) × Unit) ⊕ List (List (List UInt8) × Int × Unit))) :=
 cond (decide (y3.1 < (a0.length : Int))) (
(atI a0 y3.1).bind fun x1 =>
(slices_Clone_Sl_string_string x1.2.1.2.1).bind fun r2 =>
(op_Leaf x1.2.1.1).bind fun r3 =>
(roomT (y3.2.1.length + ([(r2, r3, ())] : List (List (List UInt8) × Int × Unit)).length)).bind fun u4 =>
 some (.inl ((IntKind.wrap .i64 (y3.1 + 1)), (y3.2.1 ++ ([(r2, r3, ())] : List (List (List UInt8) × Int × Unit))), ()))) (
 some (.inr (.inl (y3.2.1, ()))))
noncomputable def tree_Leaves (a0 : List (((Int × Int × Unit) × Int × Unit) × (Int × List (List UInt8) × (Int × Int × List UInt8 × Unit) × Int × List ((Int × Int × Unit) × Int × Unit) × Unit) × Int × Unit)) : Option (List (List (List UInt8) × Int × Unit)) :=
(loopT (tree_Leaves_l3 a0) (0, [], ()) : Option ((List (List (List UInt8) × Int × Unit) × Unit) ⊕ List (List (List UInt8) × Int × Unit))).bind (joinS fun v5 =>
(slices_SortFunc_Sl_tree_Leaf_tree_Leaf__tree_compare v5.1).bind fun q6 =>
(slices_CompactFunc_Sl_tree_Leaf_tree_Leaf__tree_Leaves_1 q6.2.1).bind fun q7 =>
 some q7.1)
noncomputable def tree_Leaves_T : TFn := { ps := (.cons (.sl (.agg (.cons (.agg (.cons (.agg (.cons (.int .i64) (.cons (.int .i64) .unit))) (.cons (.int .i64) .unit))) (.cons (.agg (.cons (.int .i64) (.cons (.sl .str) (.cons (.agg (.cons (.int .i64) (.cons (.int .i64) (.cons .str .unit)))) (.cons (.int .i64) (.cons (.sl (.agg (.cons (.agg (.cons (.int .i64) (.cons (.int .i64) .unit))) (.cons (.int .i64) .unit)))) .unit)))))) (.cons (.int .i64) .unit))))) .unit), res := (.sl (.agg (.cons (.sl .str) (.cons (.int .i64) .unit)))), fn := fun v => tree_Leaves v.1 }
noncomputable def tree_Leaves_V : TEnv := { pure := [(26, slices_Clone_Sl_string_string_T), (27, op_Leaf_T)], look := [], glob := G0T, ty := [(69, (.agg (.cons (.sl .str) (.cons (.int .i64) .unit))))], raw := [(28, slices_SortFunc_Sl_tree_Leaf_tree_Leaf__tree_compare_R), (30, slices_CompactFunc_Sl_tree_Leaf_tree_Leaf__tree_Leaves_1_R)], fresh := [] }
theorem tree_Leaves_eq : runY Tryz.prog tree_Leaves_E tree_Leaves_H tree_Leaves_V tree_Leaves_Y Tryz.f12 tree_Leaves_T.ps tree_Leaves_T.res = tree_Leaves_T.fn := by kernel_rfl
theorem tree_Leaves_Fok : SoundP Tryz.prog G0 12 tree_Leaves_F := closeF_sound (runF_sound (P := Tryz.prog) (E := tree_Leaves_E) (h := tree_Leaves_H) (f := 12) (fn := Tryz.f12) ⟨same_ok, (envP_cons slices_Clone_Sl_string_string_Fok (envP_cons op_Leaf_Fok envP_nil)), (envS_cons slices_SortFunc_Sl_tree_Leaf_tree_Leaf__tree_compare_Sok (envS_cons slices_CompactFunc_Sl_tree_Leaf_tree_Leaf__tree_Leaves_1_Sok envS_nil)), envP_nil, envX_nil⟩ Tryz.func12 rfl (by kernel_rfl))
theorem tree_Leaves_ok : TOk tree_Leaves_F tree_Leaves_T := runY_ok (E := tree_Leaves_E) (ET := tree_Leaves_V) (EnvT.ofX (E := tree_Leaves_E) (ET := tree_Leaves_V) (pure_of (pairs_cons slices_Clone_Sl_string_string_ok (pairs_cons op_Leaf_ok pairs_nil))) looks_nil (raws_cons slices_SortFunc_Sl_tree_Leaf_tree_Leaf__tree_compare_ok rfl rfl (raws_cons slices_CompactFunc_Sl_tree_Leaf_tree_Leaf__tree_Leaves_1_ok rfl rfl raws_nil)) G0_ok news_nil) tree_Leaves_eq rfl
-- palinode/tree.Keys
noncomputable def tree_Keys_E : Env := { pure := [(34, live_Under_F)], raw := [(35, slices_SortFunc_Sl_string_string__strings_Compare_S), (37, slices_Compact_Sl_string_string_S)], glob := G0, same := [], look := [], ext := [] }
def tree_Keys_H : Hints := { seqs := [], loops := [(3, [1, 5, 10, 11, 12])], own := [] }
noncomputable def tree_Keys_F : PFn := closeF (runF Tryz.prog tree_Keys_E tree_Keys_H Tryz.f15)
def tree_Keys_Y : TH := { joins := [(8, { keep := [(5, (.own 1))], mem := [.gone, .row true 9 .str] })], loops := [(3, { keep := [(5, (.own 1)), (12, (.int .i64))], mem := [.gone, .row true 9 .str] })], cuts := [], ro := [], news := [] }
noncomputable def tree_Keys_l3 (a1 : List (List UInt8)) (r1 : List (((Int × Int × Unit) × Int × Unit) × (Int × List (List UInt8) × (Int × Int × List UInt8 × Unit) × Int × List ((Int × Int × Unit) × Int × Unit) × Unit) × Int × Unit)) (y3 : (Int × List (List UInt8) × Unit)) : Option ((Int × List (List UInt8) × Unit) ⊕ ((List (List UInt8) × Unit) ⊕ List (List UInt8))) :=
 cond (decide (y3.1 < (r1.length : Int))) (
(atI r1 y3.1).bind fun x2 =>
 cond (decide ((x2.2.1.2.1.length : Int) > (a1.length : Int))) (
(atI x2.2.1.2.1 (a1.length : Int)).bind fun x3 =>
(roomT (y3.2.1.length + ([x3] : List (List UInt8)).length)).bind fun u4 =>
 some (.inl ((IntKind.wrap .i64 (y3.1 + 1)), (y3.2.1 ++ ([x3] : List (List UInt8))), ()))) (
 some (.inl ((IntKind.wrap .i64 (y3.1 + 1)), y3.2.1, ())))) (
 some (.inr (.inl (y3.2.1, ()))))
noncomputable def tree_Keys (a0 : List (((Int × Int × Unit) × Int × Unit) × (Int × List (List UInt8) × (Int × Int × List UInt8 × Unit) × Int × List ((Int × Int × Unit) × Int × Unit) × Unit) × Int × Unit)) (a1 : List (List UInt8)) : Option (List (List UInt8)) :=
((live_Under a0 a1).bind fun r1 =>
 loopT (tree_Keys_l3 a1 r1) (0, [], ()) : Option ((List (List UInt8) × Unit) ⊕ List (List UInt8))).bind (joinS fun v5 =>
(slices_SortFunc_Sl_string_string__strings_Compare v5.1).bind fun q6 =>
(slices_Compact_Sl_string_string q6.2.1).bind fun q7 =>
 some q7.1)
noncomputable def tree_Keys_T : TFn := { ps := (.cons (.sl (.agg (.cons (.agg (.cons (.agg (.cons (.int .i64) (.cons (.int .i64) .unit))) (.cons (.int .i64) .unit))) (.cons (.agg (.cons (.int .i64) (.cons (.sl .str) (.cons (.agg (.cons (.int .i64) (.cons (.int .i64) (.cons .str .unit)))) (.cons (.int .i64) (.cons (.sl (.agg (.cons (.agg (.cons (.int .i64) (.cons (.int .i64) .unit))) (.cons (.int .i64) .unit)))) .unit)))))) (.cons (.int .i64) .unit))))) (.cons (.sl .str) .unit)), res := (.sl .str), fn := fun v => tree_Keys v.1 v.2.1 }
noncomputable def tree_Keys_V : TEnv := { pure := [(34, live_Under_T)], look := [], glob := G0T, ty := [(9, .str)], raw := [(35, slices_SortFunc_Sl_string_string__strings_Compare_R), (37, slices_Compact_Sl_string_string_R)], fresh := [] }
theorem tree_Keys_eq : runY Tryz.prog tree_Keys_E tree_Keys_H tree_Keys_V tree_Keys_Y Tryz.f15 tree_Keys_T.ps tree_Keys_T.res = tree_Keys_T.fn := by kernel_rfl
theorem tree_Keys_Fok : SoundP Tryz.prog G0 15 tree_Keys_F := closeF_sound (runF_sound (P := Tryz.prog) (E := tree_Keys_E) (h := tree_Keys_H) (f := 15) (fn := Tryz.f15) ⟨same_ok, (envP_cons live_Under_Fok envP_nil), (envS_cons slices_SortFunc_Sl_string_string__strings_Compare_Sok (envS_cons slices_Compact_Sl_string_string_Sok envS_nil)), envP_nil, envX_nil⟩ Tryz.func15 rfl (by kernel_rfl))
theorem tree_Keys_ok : TOk tree_Keys_F tree_Keys_T := runY_ok (E := tree_Keys_E) (ET := tree_Keys_V) (EnvT.ofX (E := tree_Keys_E) (ET := tree_Keys_V) (pure_of (pairs_cons live_Under_ok pairs_nil)) looks_nil (raws_cons slices_SortFunc_Sl_string_string__strings_Compare_ok rfl rfl (raws_cons slices_Compact_Sl_string_string_ok rfl rfl raws_nil)) G0_ok news_nil) tree_Keys_eq rfl
-- palinode/palinoderef17.compare
noncomputable def ref17_compare_E : Env := { pure := [(48, ref10_Compare_F)], raw := [], glob := G0, same := [], look := [], ext := [] }
def ref17_compare_H : Hints := { seqs := [], loops := [], own := [] }
noncomputable def ref17_compare_F : PFn := closeF (runF Tryz.prog ref17_compare_E ref17_compare_H Tryz.f33)
def ref17_compare_Y : TH := { joins := [], loops := [], cuts := [], ro := [2, 3], news := [] }
noncomputable def ref17_compare (a0 : (List (List UInt8) × Int × Unit)) (a1 : (List (List UInt8) × Int × Unit)) : Option Int :=
(ref10_Compare a0.1 a1.1).bind fun r1 =>
 cond (!decide (r1 = 0)) (
 some r1) (
 some (IntKind.wrap .i64 (a0.2.1 - a1.2.1)))
noncomputable def ref17_compare_T : TFn := { ps := (.cons (.agg (.cons (.sl .str) (.cons (.int .i64) .unit))) (.cons (.agg (.cons (.sl .str) (.cons (.int .i64) .unit))) .unit)), res := (.int .i64), fn := fun v => ref17_compare v.1 v.2.1 }
noncomputable def ref17_compare_V : TEnv := { pure := [(48, ref10_Compare_T)], look := [], glob := G0T, ty := [], raw := [], fresh := [] }
theorem ref17_compare_eq : runY Tryz.prog ref17_compare_E ref17_compare_H ref17_compare_V ref17_compare_Y Tryz.f33 ref17_compare_T.ps ref17_compare_T.res = ref17_compare_T.fn := by kernel_rfl
theorem ref17_compare_Fok : SoundP Tryz.prog G0 33 ref17_compare_F := closeF_sound (runF_sound (P := Tryz.prog) (E := ref17_compare_E) (h := ref17_compare_H) (f := 33) (fn := Tryz.f33) ⟨same_ok, (envP_cons ref10_Compare_Fok envP_nil), envS_nil, envP_nil, envX_nil⟩ Tryz.func33 rfl (by kernel_rfl))
theorem ref17_compare_ok : TOk ref17_compare_F ref17_compare_T := runY_ok (E := ref17_compare_E) (ET := ref17_compare_V) (EnvT.ofX (E := ref17_compare_E) (ET := ref17_compare_V) (pure_of (pairs_cons ref10_Compare_ok pairs_nil)) looks_nil raws_nil G0_ok news_nil) ref17_compare_eq rfl
-- palinode/palinoderef17.Leaves
noncomputable def ref17_Leaves_E : Env := { pure := [(32, ref11_Leaf_F), (33, ref17_compare_F)], raw := [], glob := G0, same := [], look := [], ext := [] }
def ref17_Leaves_H : Hints := { seqs := [], loops := [(3, [0, 3, 4]), (7, [0, 3, 4, 5, 6]), (12, [0, 3, 4, 5, 6, 7])], own := [19, 25] }
noncomputable def ref17_Leaves_F : PFn := closeF (runF Tryz.prog ref17_Leaves_E ref17_Leaves_H Tryz.f13)
def ref17_Leaves_Y : TH := { joins := [(9, { keep := [(3, (.own 1)), (5, (.bx 2 0)), (6, (.int .i64))], mem := [.gone, .row true 70 (.agg (.cons (.sl .str) (.cons (.int .i64) .unit))), .box 70 (.agg (.cons (.sl .str) (.cons (.int .i64) .unit)))] }), (10, { keep := [(3, (.own 1)), (5, (.bx 2 0))], mem := [.gone, .row true 70 (.agg (.cons (.sl .str) (.cons (.int .i64) .unit))), .box 70 (.agg (.cons (.sl .str) (.cons (.int .i64) .unit)))] }), (15, { keep := [(3, (.own 1)), (5, (.bx 2 0))], mem := [.gone, .row true 70 (.agg (.cons (.sl .str) (.cons (.int .i64) .unit))), .box 70 (.agg (.cons (.sl .str) (.cons (.int .i64) .unit)))] })], loops := [(3, { keep := [(3, (.own 1)), (4, (.int .i64))], mem := [.gone, .row true 70 (.agg (.cons (.sl .str) (.cons (.int .i64) .unit)))] }), (7, { keep := [(3, (.own 1)), (5, (.bx 2 0)), (6, (.int .i64))], mem := [.gone, .row true 70 (.agg (.cons (.sl .str) (.cons (.int .i64) .unit))), .box 70 (.agg (.cons (.sl .str) (.cons (.int .i64) .unit)))] }), (12, { keep := [(3, (.own 1)), (5, (.bx 2 0)), (7, (.int .i64))], mem := [.gone, .row true 70 (.agg (.cons (.sl .str) (.cons (.int .i64) .unit))), .box 70 (.agg (.cons (.sl .str) (.cons (.int .i64) .unit)))] })], cuts := [], ro := [], news := [] }
noncomputable def ref17_Leaves_l7 (y7 : (Int × List (List (List UInt8) × Int × Unit) × (List (List UInt8) × Int × Unit) × Unit)) : Option ((Int × List (List (List UInt8) × Int × Unit) × (List (List UInt8) × Int × Unit) × Unit) ⊕ ((Int × List (List (List UInt8) × Int × Unit) × (List (List UInt8) × Int × Unit) × Unit) ⊕ ((Int × List (List (List UInt8) × Int × Unit) × Unit) ⊕ List (List (List UInt8) × Int × Unit)))) :=
 cond (decide (y7.1 < (y7.2.1.length : Int))) ((inI y7.2.1.length y7.1).bind fun i4 =>
(y7.2.1[i4]?).bind fun x5 =>
(ref17_compare x5 y7.2.2.1).bind fun r6 =>
 cond (decide (r6 < 0)) (
 some (.inl ((IntKind.wrap .i64 (y7.1 + 1)), y7.2.1, y7.2.2.1, ()))) (
 some (.inr (.inl (y7.1, y7.2.1, y7.2.2.1, ()))))) (some (.inr (.inl (y7.1, y7.2.1, y7.2.2.1, ()))))
noncomputable def ref17_Leaves_l12 (v7 : (Int × List (List (List UInt8) × Int × Unit) × (List (List UInt8) × Int × Unit) × Unit)) (y12 : (Int × List (List (List UInt8) × Int × Unit) × (List (List UInt8) × Int × Unit) × Unit)) : Option ((Int × List (List (List UInt8) × Int × Unit) × (List (List UInt8) × Int × Unit) × Unit) ⊕ ((List (List (List UInt8) × Int × Unit) × (List (List UInt8) × Int × Unit) × Unit) ⊕ ((Int × List (List (List UInt8) × Int × Unit) × Unit) ⊕ List (List (List UInt8) × Int × Unit)))) :=
 cond (decide (y12.1 > v7.1)) (
(inI y12.2.1.length (IntKind.wrap .i64 (y12.1 - 1))).bind fun i13 =>
(y12.2.1[i13]?).bind fun x14 =>
(inI y12.2.1.length y12.1).bind fun i15 =>
(y12.2.1[i15]?).bind fun x16 =>
 some (.inl ((IntKind.wrap .i64 (y12.1 - 1)), (y12.2.1.set i15 x14), y12.2.2.1, ()))) (
 some (.inr (.inl (y12.2.1, y12.2.2.1, ()))))
noncomputable def ref17_Leaves_l3 (a0 : List (((Int × Int × Unit) × Int × Unit) × (Int × List (List UInt8) × (Int × Int × List UInt8 × Unit) × Int × List ((Int × Int × Unit) × Int × Unit) × Unit) × Int × Unit)) (y3 : (Int × List (List (List UInt8) × Int × Unit) × Unit)) : Option ((Int × List (List (List UInt8) × Int × Unit) × Unit) ⊕ List (List (List UInt8) × Int × Unit)) :=
 cond (decide (y3.1 < (a0.length : Int))) (
(atI a0 y3.1).bind fun x1 =>
(atI a0 y3.1).bind fun x2 =>
(ref11_Leaf x2.2.1.1).bind fun r3 =>
(loopT (ref17_Leaves_l7) (0, y3.2.1, (x1.2.1.2.1, r3, ()), ()) : Option ((Int × List (List (List UInt8) × Int × Unit) × (List (List UInt8) × Int × Unit) × Unit) ⊕ ((Int × List (List (List UInt8) × Int × Unit) × Unit) ⊕ List (List (List UInt8) × Int × Unit)))).bind (joinS fun v7 =>
(cond (decide (v7.1 < (v7.2.1.length : Int))) ((inI v7.2.1.length v7.1).bind fun i8 =>
(v7.2.1[i8]?).bind fun x9 =>
(ref17_compare x9 v7.2.2.1).bind fun r10 =>
 cond (decide (r10 = 0)) (
 some (.inr (.inl ((IntKind.wrap .i64 (y3.1 + 1)), v7.2.1, ())))) (
 some (.inl (v7.2.1, v7.2.2.1, ())))) (some (.inl (v7.2.1, v7.2.2.1, ()))) : Option ((List (List (List UInt8) × Int × Unit) × (List (List UInt8) × Int × Unit) × Unit) ⊕ ((Int × List (List (List UInt8) × Int × Unit) × Unit) ⊕ List (List (List UInt8) × Int × Unit)))).bind (joinS fun v11 =>
(roomT (v11.1.length + ([v11.2.1] : List (List (List UInt8) × Int × Unit)).length)).bind fun u12 =>
(loopT (ref17_Leaves_l12 v7) ((IntKind.wrap .i64 (((v11.1 ++ ([v11.2.1] : List (List (List UInt8) × Int × Unit))).length : Int) - 1)), (v11.1 ++ ([v11.2.1] : List (List (List UInt8) × Int × Unit))), v11.2.1, ()) : Option ((List (List (List UInt8) × Int × Unit) × (List (List UInt8) × Int × Unit) × Unit) ⊕ ((Int × List (List (List UInt8) × Int × Unit) × Unit) ⊕ List (List (List UInt8) × Int × Unit)))).bind (joinS fun v17 =>
(inI v17.1.length v7.1).bind fun i18 =>
(v17.1[i18]?).bind fun x19 =>
 some (.inl ((IntKind.wrap .i64 (y3.1 + 1)), (v17.1.set i18 v17.2.1), ())))))) (
 some (.inr y3.2.1))
noncomputable def ref17_Leaves (a0 : List (((Int × Int × Unit) × Int × Unit) × (Int × List (List UInt8) × (Int × Int × List UInt8 × Unit) × Int × List ((Int × Int × Unit) × Int × Unit) × Unit) × Int × Unit)) : Option (List (List (List UInt8) × Int × Unit)) :=
 loopT (ref17_Leaves_l3 a0) (0, [], ())
noncomputable def ref17_Leaves_T : TFn := { ps := (.cons (.sl (.agg (.cons (.agg (.cons (.agg (.cons (.int .i64) (.cons (.int .i64) .unit))) (.cons (.int .i64) .unit))) (.cons (.agg (.cons (.int .i64) (.cons (.sl .str) (.cons (.agg (.cons (.int .i64) (.cons (.int .i64) (.cons .str .unit)))) (.cons (.int .i64) (.cons (.sl (.agg (.cons (.agg (.cons (.int .i64) (.cons (.int .i64) .unit))) (.cons (.int .i64) .unit)))) .unit)))))) (.cons (.int .i64) .unit))))) .unit), res := (.sl (.agg (.cons (.sl .str) (.cons (.int .i64) .unit)))), fn := fun v => ref17_Leaves v.1 }
noncomputable def ref17_Leaves_V : TEnv := { pure := [(32, ref11_Leaf_T), (33, ref17_compare_T)], look := [], glob := G0T, ty := [(70, (.agg (.cons (.sl .str) (.cons (.int .i64) .unit))))], raw := [], fresh := [] }
theorem ref17_Leaves_eq : runY Tryz.prog ref17_Leaves_E ref17_Leaves_H ref17_Leaves_V ref17_Leaves_Y Tryz.f13 ref17_Leaves_T.ps ref17_Leaves_T.res = ref17_Leaves_T.fn := by kernel_rfl
theorem ref17_Leaves_Fok : SoundP Tryz.prog G0 13 ref17_Leaves_F := closeF_sound (runF_sound (P := Tryz.prog) (E := ref17_Leaves_E) (h := ref17_Leaves_H) (f := 13) (fn := Tryz.f13) ⟨same_ok, (envP_cons ref11_Leaf_Fok (envP_cons ref17_compare_Fok envP_nil)), envS_nil, envP_nil, envX_nil⟩ Tryz.func13 rfl (by kernel_rfl))
theorem ref17_Leaves_ok : TOk ref17_Leaves_F ref17_Leaves_T := runY_ok (E := ref17_Leaves_E) (ET := ref17_Leaves_V) (EnvT.ofX (E := ref17_Leaves_E) (ET := ref17_Leaves_V) (pure_of (pairs_cons ref11_Leaf_ok (pairs_cons ref17_compare_ok pairs_nil))) looks_nil raws_nil G0_ok news_nil) ref17_Leaves_eq rfl
-- palinode/palinoderef10.Under
noncomputable def ref10_Under_E : Env := { pure := [], raw := [], glob := G0, same := [], look := [], ext := [] }
def ref10_Under_H : Hints := { seqs := [], loops := [(4, [0, 1, 5])], own := [] }
noncomputable def ref10_Under_F : PFn := closeF (runF Tryz.prog ref10_Under_E ref10_Under_H Tryz.f38)
def ref10_Under_Y : TH := { joins := [], loops := [(4, { keep := [(5, (.int .i64))], mem := [] })], cuts := [], ro := [], news := [] }
noncomputable def ref10_Under_l4 (a0 : List (List UInt8)) (a1 : List (List UInt8)) (y4 : (Int × Unit)) : Option ((Int × Unit) ⊕ Bool) :=
 cond (decide (y4.1 < (a1.length : Int))) (
(atI a0 y4.1).bind fun x1 =>
(atI a1 y4.1).bind fun x2 =>
 cond (!decide (x1 = x2)) (
 some (.inr false)) (
 some (.inl ((IntKind.wrap .i64 (y4.1 + 1)), ())))) (
 some (.inr true))
noncomputable def ref10_Under (a0 : List (List UInt8)) (a1 : List (List UInt8)) : Option Bool :=
 cond (decide ((a1.length : Int) > (a0.length : Int))) (
 some false) (
 loopT (ref10_Under_l4 a0 a1) (0, ()))
noncomputable def ref10_Under_T : TFn := { ps := (.cons (.sl .str) (.cons (.sl .str) .unit)), res := .bool, fn := fun v => ref10_Under v.1 v.2.1 }
noncomputable def ref10_Under_V : TEnv := { pure := [], look := [], glob := G0T, ty := [], raw := [], fresh := [] }
theorem ref10_Under_eq : runY Tryz.prog ref10_Under_E ref10_Under_H ref10_Under_V ref10_Under_Y Tryz.f38 ref10_Under_T.ps ref10_Under_T.res = ref10_Under_T.fn := by kernel_rfl
theorem ref10_Under_Fok : SoundP Tryz.prog G0 38 ref10_Under_F := closeF_sound (runF_sound (P := Tryz.prog) (E := ref10_Under_E) (h := ref10_Under_H) (f := 38) (fn := Tryz.f38) ⟨same_ok, envP_nil, envS_nil, envP_nil, envX_nil⟩ Tryz.func38 rfl (by kernel_rfl))
theorem ref10_Under_ok : TOk ref10_Under_F ref10_Under_T := runY_ok (E := ref10_Under_E) (ET := ref10_Under_V) (EnvT.ofX (E := ref10_Under_E) (ET := ref10_Under_V) (pure_of pairs_nil) looks_nil raws_nil G0_ok news_nil) ref10_Under_eq rfl
-- palinode/palinoderef17.Keys
noncomputable def ref17_Keys_E : Env := { pure := [(38, ref10_Under_F), (39, ref09_Texts_F)], raw := [], glob := G0, same := [], look := [], ext := [] }
def ref17_Keys_H : Hints := { seqs := [], loops := [(3, [0, 1, 5, 6]), (9, [0, 1, 5, 6, 8, 9]), (14, [0, 1, 5, 6, 8, 9, 10])], own := [] }
noncomputable def ref17_Keys_F : PFn := closeF (runF Tryz.prog ref17_Keys_E ref17_Keys_H Tryz.f16)
def ref17_Keys_Y : TH := { joins := [(11, { keep := [(5, (.own 0)), (9, (.int .i64))], mem := [.row true 9 .str] }), (12, { keep := [(5, (.own 0))], mem := [.row true 9 .str] }), (17, { keep := [(5, (.own 0))], mem := [.row true 9 .str] })], loops := [(3, { keep := [(5, (.own 0)), (6, (.int .i64))], mem := [.row true 9 .str] }), (9, { keep := [(5, (.own 0)), (9, (.int .i64))], mem := [.row true 9 .str] }), (14, { keep := [(5, (.own 0)), (10, (.int .i64))], mem := [.row true 9 .str] })], cuts := [], ro := [], news := [] }
noncomputable def ref17_Keys_l9 (x3 : List UInt8) (y9 : (Int × List (List UInt8) × Unit)) : Option ((Int × List (List UInt8) × Unit) ⊕ ((Int × List (List UInt8) × Unit) ⊕ ((Int × List (List UInt8) × Unit) ⊕ List (List UInt8)))) :=
 cond (decide (y9.1 < (y9.2.1.length : Int))) ((inI y9.2.1.length y9.1).bind fun i4 =>
(y9.2.1[i4]?).bind fun x5 =>
(ref09_Texts x5 x3).bind fun r6 =>
 cond (decide (r6 < 0)) (
 some (.inl ((IntKind.wrap .i64 (y9.1 + 1)), y9.2.1, ()))) (
 some (.inr (.inl (y9.1, y9.2.1, ()))))) (some (.inr (.inl (y9.1, y9.2.1, ()))))
noncomputable def ref17_Keys_l14 (v7 : (Int × List (List UInt8) × Unit)) (y14 : (Int × List (List UInt8) × Unit)) : Option ((Int × List (List UInt8) × Unit) ⊕ ((List (List UInt8) × Unit) ⊕ ((Int × List (List UInt8) × Unit) ⊕ List (List UInt8)))) :=
 cond (decide (y14.1 > v7.1)) (
(inI y14.2.1.length (IntKind.wrap .i64 (y14.1 - 1))).bind fun i12 =>
(y14.2.1[i12]?).bind fun x13 =>
(inI y14.2.1.length y14.1).bind fun i14 =>
(y14.2.1[i14]?).bind fun x15 =>
 some (.inl ((IntKind.wrap .i64 (y14.1 - 1)), (y14.2.1.set i14 x13), ()))) (
 some (.inr (.inl (y14.2.1, ()))))
noncomputable def ref17_Keys_l3 (a0 : List (((Int × Int × Unit) × Int × Unit) × (Int × List (List UInt8) × (Int × Int × List UInt8 × Unit) × Int × List ((Int × Int × Unit) × Int × Unit) × Unit) × Int × Unit)) (a1 : List (List UInt8)) (y3 : (Int × List (List UInt8) × Unit)) : Option ((Int × List (List UInt8) × Unit) ⊕ List (List UInt8)) :=
 cond (decide (y3.1 < (a0.length : Int))) (
(atI a0 y3.1).bind fun x1 =>
 cond (decide ((x1.2.1.2.1.length : Int) ≤ (a1.length : Int))) (some (.inl ((IntKind.wrap .i64 (y3.1 + 1)), y3.2.1, ()))) ((ref10_Under x1.2.1.2.1 a1).bind fun r2 =>
 cond (!r2) (
 some (.inl ((IntKind.wrap .i64 (y3.1 + 1)), y3.2.1, ()))) (
(atI x1.2.1.2.1 (a1.length : Int)).bind fun x3 =>
(loopT (ref17_Keys_l9 x3) (0, y3.2.1, ()) : Option ((Int × List (List UInt8) × Unit) ⊕ ((Int × List (List UInt8) × Unit) ⊕ List (List UInt8)))).bind (joinS fun v7 =>
(cond (decide (v7.1 < (v7.2.1.length : Int))) ((inI v7.2.1.length v7.1).bind fun i8 =>
(v7.2.1[i8]?).bind fun x9 =>
 cond (decide (x9 = x3)) (
 some (.inr (.inl ((IntKind.wrap .i64 (y3.1 + 1)), v7.2.1, ())))) (
 some (.inl (v7.2.1, ())))) (some (.inl (v7.2.1, ()))) : Option ((List (List UInt8) × Unit) ⊕ ((Int × List (List UInt8) × Unit) ⊕ List (List UInt8)))).bind (joinS fun v10 =>
(roomT (v10.1.length + ([x3] : List (List UInt8)).length)).bind fun u11 =>
(loopT (ref17_Keys_l14 v7) ((IntKind.wrap .i64 (((v10.1 ++ ([x3] : List (List UInt8))).length : Int) - 1)), (v10.1 ++ ([x3] : List (List UInt8))), ()) : Option ((List (List UInt8) × Unit) ⊕ ((Int × List (List UInt8) × Unit) ⊕ List (List UInt8)))).bind (joinS fun v16 =>
(inI v16.1.length v7.1).bind fun i17 =>
(v16.1[i17]?).bind fun x18 =>
 some (.inl ((IntKind.wrap .i64 (y3.1 + 1)), (v16.1.set i17 x3), ())))))))) (
 some (.inr y3.2.1))
noncomputable def ref17_Keys (a0 : List (((Int × Int × Unit) × Int × Unit) × (Int × List (List UInt8) × (Int × Int × List UInt8 × Unit) × Int × List ((Int × Int × Unit) × Int × Unit) × Unit) × Int × Unit)) (a1 : List (List UInt8)) : Option (List (List UInt8)) :=
 loopT (ref17_Keys_l3 a0 a1) (0, [], ())
noncomputable def ref17_Keys_T : TFn := { ps := (.cons (.sl (.agg (.cons (.agg (.cons (.agg (.cons (.int .i64) (.cons (.int .i64) .unit))) (.cons (.int .i64) .unit))) (.cons (.agg (.cons (.int .i64) (.cons (.sl .str) (.cons (.agg (.cons (.int .i64) (.cons (.int .i64) (.cons .str .unit)))) (.cons (.int .i64) (.cons (.sl (.agg (.cons (.agg (.cons (.int .i64) (.cons (.int .i64) .unit))) (.cons (.int .i64) .unit)))) .unit)))))) (.cons (.int .i64) .unit))))) (.cons (.sl .str) .unit)), res := (.sl .str), fn := fun v => ref17_Keys v.1 v.2.1 }
noncomputable def ref17_Keys_V : TEnv := { pure := [(38, ref10_Under_T), (39, ref09_Texts_T)], look := [], glob := G0T, ty := [(9, .str)], raw := [], fresh := [] }
theorem ref17_Keys_eq : runY Tryz.prog ref17_Keys_E ref17_Keys_H ref17_Keys_V ref17_Keys_Y Tryz.f16 ref17_Keys_T.ps ref17_Keys_T.res = ref17_Keys_T.fn := by kernel_rfl
theorem ref17_Keys_Fok : SoundP Tryz.prog G0 16 ref17_Keys_F := closeF_sound (runF_sound (P := Tryz.prog) (E := ref17_Keys_E) (h := ref17_Keys_H) (f := 16) (fn := Tryz.f16) ⟨same_ok, (envP_cons ref10_Under_Fok (envP_cons ref09_Texts_Fok envP_nil)), envS_nil, envP_nil, envX_nil⟩ Tryz.func16 rfl (by kernel_rfl))
theorem ref17_Keys_ok : TOk ref17_Keys_F ref17_Keys_T := runY_ok (E := ref17_Keys_E) (ET := ref17_Keys_V) (EnvT.ofX (E := ref17_Keys_E) (ET := ref17_Keys_V) (pure_of (pairs_cons ref10_Under_ok (pairs_cons ref09_Texts_ok pairs_nil))) looks_nil raws_nil G0_ok news_nil) ref17_Keys_eq rfl
-- palinode/palinoderef03.Same
noncomputable def ref03_Same_E : Env := { pure := [], raw := [], glob := G0, same := [], look := [], ext := [] }
def ref03_Same_H : Hints := { seqs := [], loops := [(4, [0, 1, 5])], own := [] }
noncomputable def ref03_Same_F : PFn := closeF (runF Tryz.prog ref03_Same_E ref03_Same_H Tryz.f14)
def ref03_Same_Y : TH := { joins := [], loops := [(4, { keep := [(5, (.int .i64))], mem := [] })], cuts := [], ro := [], news := [] }
noncomputable def ref03_Same_l4 (a0 : List (List UInt8)) (a1 : List (List UInt8)) (y4 : (Int × Unit)) : Option ((Int × Unit) ⊕ Bool) :=
 cond (decide (y4.1 < (a0.length : Int))) (
(atI a0 y4.1).bind fun x1 =>
(atI a1 y4.1).bind fun x2 =>
 cond (!decide (x1 = x2)) (
 some (.inr false)) (
 some (.inl ((IntKind.wrap .i64 (y4.1 + 1)), ())))) (
 some (.inr true))
noncomputable def ref03_Same (a0 : List (List UInt8)) (a1 : List (List UInt8)) : Option Bool :=
 cond (!decide ((a0.length : Int) = (a1.length : Int))) (
 some false) (
 loopT (ref03_Same_l4 a0 a1) (0, ()))
noncomputable def ref03_Same_T : TFn := { ps := (.cons (.sl .str) (.cons (.sl .str) .unit)), res := .bool, fn := fun v => ref03_Same v.1 v.2.1 }
noncomputable def ref03_Same_V : TEnv := { pure := [], look := [], glob := G0T, ty := [], raw := [], fresh := [] }
theorem ref03_Same_eq : runY Tryz.prog ref03_Same_E ref03_Same_H ref03_Same_V ref03_Same_Y Tryz.f14 ref03_Same_T.ps ref03_Same_T.res = ref03_Same_T.fn := by kernel_rfl
theorem ref03_Same_Fok : SoundP Tryz.prog G0 14 ref03_Same_F := closeF_sound (runF_sound (P := Tryz.prog) (E := ref03_Same_E) (h := ref03_Same_H) (f := 14) (fn := Tryz.f14) ⟨same_ok, envP_nil, envS_nil, envP_nil, envX_nil⟩ Tryz.func14 rfl (by kernel_rfl))
theorem ref03_Same_ok : TOk ref03_Same_F ref03_Same_T := runY_ok (E := ref03_Same_E) (ET := ref03_Same_V) (EnvT.ofX (E := ref03_Same_E) (ET := ref03_Same_V) (pure_of pairs_nil) looks_nil raws_nil G0_ok news_nil) ref03_Same_eq rfl
-- palinode/palinodelaw17.same
noncomputable def law17_same_E : Env := { pure := [(14, ref03_Same_F)], raw := [], glob := G0, same := [], look := [], ext := [] }
def law17_same_H : Hints := { seqs := [], loops := [(4, [0, 1, 5])], own := [] }
noncomputable def law17_same_F : PFn := closeF (runF Tryz.prog law17_same_E law17_same_H Tryz.f11)
def law17_same_Y : TH := { joins := [], loops := [(4, { keep := [(5, (.int .i64))], mem := [] })], cuts := [], ro := [], news := [] }
noncomputable def law17_same_l4 (a0 : List (List (List UInt8) × Int × Unit)) (a1 : List (List (List UInt8) × Int × Unit)) (y4 : (Int × Unit)) : Option ((Int × Unit) ⊕ Bool) :=
 cond (decide (y4.1 < (a0.length : Int))) (
(atI a0 y4.1).bind fun x1 =>
(atI a1 y4.1).bind fun x2 =>
 cond (!decide (x1.2.1 = x2.2.1)) (some (.inr false)) ((atI a0 y4.1).bind fun x3 =>
(atI a1 y4.1).bind fun x4 =>
(ref03_Same x3.1 x4.1).bind fun r5 =>
 cond (!r5) (
 some (.inr false)) (
 some (.inl ((IntKind.wrap .i64 (y4.1 + 1)), ()))))) (
 some (.inr true))
noncomputable def law17_same (a0 : List (List (List UInt8) × Int × Unit)) (a1 : List (List (List UInt8) × Int × Unit)) : Option Bool :=
 cond (!decide ((a0.length : Int) = (a1.length : Int))) (
 some false) (
 loopT (law17_same_l4 a0 a1) (0, ()))
noncomputable def law17_same_T : TFn := { ps := (.cons (.sl (.agg (.cons (.sl .str) (.cons (.int .i64) .unit)))) (.cons (.sl (.agg (.cons (.sl .str) (.cons (.int .i64) .unit)))) .unit)), res := .bool, fn := fun v => law17_same v.1 v.2.1 }
noncomputable def law17_same_V : TEnv := { pure := [(14, ref03_Same_T)], look := [], glob := G0T, ty := [], raw := [], fresh := [] }
theorem law17_same_eq : runY Tryz.prog law17_same_E law17_same_H law17_same_V law17_same_Y Tryz.f11 law17_same_T.ps law17_same_T.res = law17_same_T.fn := by kernel_rfl
theorem law17_same_Fok : SoundP Tryz.prog G0 11 law17_same_F := closeF_sound (runF_sound (P := Tryz.prog) (E := law17_same_E) (h := law17_same_H) (f := 11) (fn := Tryz.f11) ⟨same_ok, (envP_cons ref03_Same_Fok envP_nil), envS_nil, envP_nil, envX_nil⟩ Tryz.func11 rfl (by kernel_rfl))
theorem law17_same_ok : TOk law17_same_F law17_same_T := runY_ok (E := law17_same_E) (ET := law17_same_V) (EnvT.ofX (E := law17_same_E) (ET := law17_same_V) (pure_of (pairs_cons ref03_Same_ok pairs_nil)) looks_nil raws_nil G0_ok news_nil) law17_same_eq rfl
-- palinode/palinodelaw17.awake
noncomputable def law17_awake_E : Env := { pure := [(7, live_All_F), (12, tree_Leaves_F), (14, ref03_Same_F), (15, tree_Keys_F), (19, tree_Deep_F)], raw := [], glob := G0, same := [], look := [], ext := [] }
def law17_awake_H : Hints := { seqs := [], loops := [], own := [] }
noncomputable def law17_awake_F : PFn := closeF (runF Tryz.prog law17_awake_E law17_awake_H Tryz.f6)
def law17_awake_Y : TH := { joins := [], loops := [], cuts := [], ro := [], news := [] }
noncomputable def law17_awake : Option Bool :=
(live_All ([((0, 1, ()), 0, 1, false, ([(3, ([[97], [109]] : List (List UInt8)), (0, 0, [], ()), 1, [], ()), (3, ([[97], [107]] : List (List UInt8)), (0, 0, [], ()), 1, [], ())] : List (Int × List (List UInt8) × (Int × Int × List UInt8 × Unit) × Int × List ((Int × Int × Unit) × Int × Unit) × Unit)), ())] : List ((Int × Int × Unit) × Int × Int × Bool × List (Int × List (List UInt8) × (Int × Int × List UInt8 × Unit) × Int × List ((Int × Int × Unit) × Int × Unit) × Unit) × Unit)) []).bind fun r1 =>
(tree_Keys r1 []).bind fun r2 =>
(ref03_Same r2 ([[97]] : List (List UInt8))).bind fun r3 =>
 cond r3 ((tree_Keys r1 ([[97]] : List (List UInt8))).bind fun r4 =>
(ref03_Same r4 ([[107], [109]] : List (List UInt8))).bind fun r5 =>
 cond r5 ((tree_Leaves r1).bind fun r6 =>
 cond (decide ((r6.length : Int) = 2)) ((tree_Deep r1).bind fun r7 =>
 some (decide (r7 = 2))) (some false)) (some false)) (some false)
noncomputable def law17_awake_T : TFn := { ps := .unit, res := .bool, fn := fun v => law17_awake  }
noncomputable def law17_awake_V : TEnv := { pure := [(7, live_All_T), (12, tree_Leaves_T), (14, ref03_Same_T), (15, tree_Keys_T), (19, tree_Deep_T)], look := [], glob := G0T, ty := [(9, .str), (50, (.agg (.cons (.int .i64) (.cons (.sl .str) (.cons (.agg (.cons (.int .i64) (.cons (.int .i64) (.cons .str .unit)))) (.cons (.int .i64) (.cons (.sl (.agg (.cons (.agg (.cons (.int .i64) (.cons (.int .i64) .unit))) (.cons (.int .i64) .unit)))) .unit))))))), (55, (.agg (.cons (.agg (.cons (.int .i64) (.cons (.int .i64) .unit))) (.cons (.int .i64) (.cons (.int .i64) (.cons .bool (.cons (.sl (.agg (.cons (.int .i64) (.cons (.sl .str) (.cons (.agg (.cons (.int .i64) (.cons (.int .i64) (.cons .str .unit)))) (.cons (.int .i64) (.cons (.sl (.agg (.cons (.agg (.cons (.int .i64) (.cons (.int .i64) .unit))) (.cons (.int .i64) .unit)))) .unit))))))) .unit)))))))], raw := [], fresh := [] }
theorem law17_awake_eq : runY Tryz.prog law17_awake_E law17_awake_H law17_awake_V law17_awake_Y Tryz.f6 law17_awake_T.ps law17_awake_T.res = law17_awake_T.fn := by kernel_rfl
theorem law17_awake_Fok : SoundP Tryz.prog G0 6 law17_awake_F := closeF_sound (runF_sound (P := Tryz.prog) (E := law17_awake_E) (h := law17_awake_H) (f := 6) (fn := Tryz.f6) ⟨same_ok, (envP_cons live_All_Fok (envP_cons tree_Leaves_Fok (envP_cons ref03_Same_Fok (envP_cons tree_Keys_Fok (envP_cons tree_Deep_Fok envP_nil))))), envS_nil, envP_nil, envX_nil⟩ Tryz.func6 rfl (by kernel_rfl))
theorem law17_awake_ok : TOk law17_awake_F law17_awake_T := runY_ok (E := law17_awake_E) (ET := law17_awake_V) (EnvT.ofX (E := law17_awake_E) (ET := law17_awake_V) (pure_of (pairs_cons live_All_ok (pairs_cons tree_Leaves_ok (pairs_cons ref03_Same_ok (pairs_cons tree_Keys_ok (pairs_cons tree_Deep_ok pairs_nil)))))) looks_nil raws_nil G0_ok news_nil) law17_awake_eq rfl
-- palinode/palinodelaw17.TreeTells
noncomputable def law17_TreeTells_E : Env := { pure := [(4, law13_Good_F), (5, ref10_Short_F), (6, law17_awake_F), (7, live_All_F), (8, ref13_All_F), (9, tree_Kinds_F), (10, ref17_Kinds_F), (11, law17_same_F), (12, tree_Leaves_F), (13, ref17_Leaves_F), (14, ref03_Same_F), (15, tree_Keys_F), (16, ref17_Keys_F)], raw := [], glob := G0, same := [], look := [], ext := [] }
def law17_TreeTells_H : Hints := { seqs := [], loops := [(8, [9, 10, 11])], own := [] }
noncomputable def law17_TreeTells_F : PFn := closeF (runF Tryz.prog law17_TreeTells_E law17_TreeTells_H Tryz.f3)
def law17_TreeTells_Y : TH := { joins := [], loops := [(8, { keep := [(11, (.int .i64))], mem := [] })], cuts := [], ro := [], news := [] }
noncomputable def law17_TreeTells_l8 (r7 : List Int) (r8 : List Int) (y8 : (Int × Unit)) : Option ((Int × Unit) ⊕ Bool) :=
 cond (decide (y8.1 < (r7.length : Int))) (
(atI r7 y8.1).bind fun x15 =>
(atI r8 y8.1).bind fun x16 =>
 cond (!decide (x15 = x16)) (
 some (.inr false)) (
 some (.inl ((IntKind.wrap .i64 (y8.1 + 1)), ())))) (
((law17_awake).bind fun r17 =>
 some r17).map .inr)
noncomputable def law17_TreeTells (a0 : List ((Int × Int × Unit) × Int × Int × Bool × List (Int × List (List UInt8) × (Int × Int × List UInt8 × Unit) × Int × List ((Int × Int × Unit) × Int × Unit) × Unit) × Unit)) (a1 : List ((Int × Int × Unit) × Int × Unit)) (a2 : List (List UInt8)) : Option Bool :=
(law13_Good a0 a1).bind fun r1 =>
 cond (!r1) ((law17_awake).bind fun r2 =>
 some r2) ((ref10_Short a2).bind fun r3 =>
 cond (!r3) (
(law17_awake).bind fun r4 =>
 some r4) (
(live_All a0 a1).bind fun r5 =>
(ref13_All a0 a1).bind fun r6 =>
(tree_Kinds r5 a2).bind fun r7 =>
(ref17_Kinds r6 a2).bind fun r8 =>
 cond (!decide ((r7.length : Int) = (r8.length : Int))) (some false) ((tree_Leaves r5).bind fun r9 =>
(ref17_Leaves r6).bind fun r10 =>
(law17_same r9 r10).bind fun r11 =>
 cond (!r11) (some false) ((tree_Keys r5 a2).bind fun r12 =>
(ref17_Keys r6 a2).bind fun r13 =>
(ref03_Same r12 r13).bind fun r14 =>
 cond (!r14) (
 some false) (
 loopT (law17_TreeTells_l8 r7 r8) (0, ()))))))
noncomputable def law17_TreeTells_T : TFn := { ps := (.cons (.sl (.agg (.cons (.agg (.cons (.int .i64) (.cons (.int .i64) .unit))) (.cons (.int .i64) (.cons (.int .i64) (.cons .bool (.cons (.sl (.agg (.cons (.int .i64) (.cons (.sl .str) (.cons (.agg (.cons (.int .i64) (.cons (.int .i64) (.cons .str .unit)))) (.cons (.int .i64) (.cons (.sl (.agg (.cons (.agg (.cons (.int .i64) (.cons (.int .i64) .unit))) (.cons (.int .i64) .unit)))) .unit))))))) .unit))))))) (.cons (.sl (.agg (.cons (.agg (.cons (.int .i64) (.cons (.int .i64) .unit))) (.cons (.int .i64) .unit)))) (.cons (.sl .str) .unit))), res := .bool, fn := fun v => law17_TreeTells v.1 v.2.1 v.2.2.1 }
noncomputable def law17_TreeTells_V : TEnv := { pure := [(4, law13_Good_T), (5, ref10_Short_T), (6, law17_awake_T), (7, live_All_T), (8, ref13_All_T), (9, tree_Kinds_T), (10, ref17_Kinds_T), (11, law17_same_T), (12, tree_Leaves_T), (13, ref17_Leaves_T), (14, ref03_Same_T), (15, tree_Keys_T), (16, ref17_Keys_T)], look := [], glob := G0T, ty := [], raw := [], fresh := [] }
theorem law17_TreeTells_eq : runY Tryz.prog law17_TreeTells_E law17_TreeTells_H law17_TreeTells_V law17_TreeTells_Y Tryz.f3 law17_TreeTells_T.ps law17_TreeTells_T.res = law17_TreeTells_T.fn := by kernel_rfl
theorem law17_TreeTells_Fok : SoundP Tryz.prog G0 3 law17_TreeTells_F := closeF_sound (runF_sound (P := Tryz.prog) (E := law17_TreeTells_E) (h := law17_TreeTells_H) (f := 3) (fn := Tryz.f3) ⟨same_ok, (envP_cons law13_Good_Fok (envP_cons ref10_Short_Fok (envP_cons law17_awake_Fok (envP_cons live_All_Fok (envP_cons ref13_All_Fok (envP_cons tree_Kinds_Fok (envP_cons ref17_Kinds_Fok (envP_cons law17_same_Fok (envP_cons tree_Leaves_Fok (envP_cons ref17_Leaves_Fok (envP_cons ref03_Same_Fok (envP_cons tree_Keys_Fok (envP_cons ref17_Keys_Fok envP_nil))))))))))))), envS_nil, envP_nil, envX_nil⟩ Tryz.func3 rfl (by kernel_rfl))
theorem law17_TreeTells_ok : TOk law17_TreeTells_F law17_TreeTells_T := runY_ok (E := law17_TreeTells_E) (ET := law17_TreeTells_V) (EnvT.ofX (E := law17_TreeTells_E) (ET := law17_TreeTells_V) (pure_of (pairs_cons law13_Good_ok (pairs_cons ref10_Short_ok (pairs_cons law17_awake_ok (pairs_cons live_All_ok (pairs_cons ref13_All_ok (pairs_cons tree_Kinds_ok (pairs_cons ref17_Kinds_ok (pairs_cons law17_same_ok (pairs_cons tree_Leaves_ok (pairs_cons ref17_Leaves_ok (pairs_cons ref03_Same_ok (pairs_cons tree_Keys_ok (pairs_cons ref17_Keys_ok pairs_nil)))))))))))))) looks_nil raws_nil G0_ok news_nil) law17_TreeTells_eq rfl
end Go.Proofs.YthdchambdfenhaaGreat.Y
