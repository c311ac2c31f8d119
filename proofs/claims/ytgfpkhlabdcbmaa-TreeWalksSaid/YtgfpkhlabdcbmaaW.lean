import Derived.Shelf.Small.Strs
import Derived.Test.YtgfpkhlabdcbmaaProg
import Derived.Test.YtgfpkhlabdcbmaaT29
/-
  DERIVED: THE SHELF's CONTRACTS AT THIS DUMP, IN PLAIN WORDS (tools/lay-plain.mjs out of 'TryShelf.lean', which tools/lay-shelf.mjs wrote): THE SAME DECLARATIONS UNDER THE SAME NAMES: 'import', 'namespace', 'open', 'def', 'theorem' AND NOTHING ELSE: no command of the shelf's: FOR A HAND-IN. Each laying: the table of numbers ('.._ren') and one theorem, a field a fact of the dump's own or the kernel's comparison; each contract: ONE APPLICATION.
-/
namespace Go.Proofs
open Go.Shelf
def Try.lays213_ren : Go.Shelf.Ren := ⟨fun | 213 => 43 | 265 => 72 | n => n, fun | 9 => 9 | 3 => 3 | n => n, fun | n => n⟩
theorem Try.lays213 : Go.Proofs.Lays.n213 Try.prog Try.lays213_ren := {
  mixed := by kernel_rfl
  f213 := Try.func43.trans (congrArg some (by kernel_rfl))
  f265 := Try.func72.trans (congrArg some (by kernel_rfl))
  t3 := Try.underlying3
  a3 := Try.isAgg3
  z3 := Try.sizeOf3
  v3 := Try.zeroValue3
  t9 := Try.underlying9
  a9 := Try.isAgg9
  z9 := Try.sizeOf9
  v9 := Try.zeroValue9 }
open Go.RowKit in
/-- internal/bytealg.CompareString (what strings.Compare calls): IT RETURNS 'Lib.compareBytes a b'; the world is as it was. (LAID: no walk: one application.) -/
theorem Try.bytealg_CompareString (a b : ByteArray) (w : World) :
    Calls Try.prog 43 #[.string a, .string b] w fun e w' => e = .returned (.int .i64 (Lib.compareBytes a.data.toList b.data.toList)) ∧ w' = w := Any.bytealg_CompareString Try.lays213 a b w
def Try.lays106_ren : Go.Shelf.Ren := ⟨fun | 106 => 28 | 213 => 43 | 265 => 72 | n => n, fun | 9 => 9 | 3 => 3 | n => n, fun | n => n⟩
theorem Try.lays106 : Go.Proofs.Lays.n106 Try.prog Try.lays106_ren := {
  mixed := by kernel_rfl
  f106 := Try.func28.trans (congrArg some (by kernel_rfl))
  f213 := Try.func43.trans (congrArg some (by kernel_rfl))
  f265 := Try.func72.trans (congrArg some (by kernel_rfl))
  t3 := Try.underlying3
  a3 := Try.isAgg3
  z3 := Try.sizeOf3
  v3 := Try.zeroValue3
  t9 := Try.underlying9
  a9 := Try.isAgg9
  z9 := Try.sizeOf9
  v9 := Try.zeroValue9 }
open Go.RowKit in
/-- strings.Compare: "Compare returns an integer comparing two strings lexicographically. The result will be 0 if a == b, -1 if a < b, and +1 if a > b.": IT RETURNS 'Lib.compareBytes a b'; the world is as it was. (LAID: no walk: one application.) -/
theorem Try.strings_Compare (a b : ByteArray) (w : World) :
    Calls Try.prog 28 #[.string a, .string b] w fun e w' => e = .returned (.int .i64 (Lib.compareBytes a.data.toList b.data.toList)) ∧ w' = w := Any.strings_Compare Try.lays106 a b w
end Go.Proofs

set_option linter.unusedVariables false
set_option maxRecDepth 100000
namespace Go.Proofs.Ytgfpkhlabdcbmaa.Y
open Go.EM Go.TY Go.Proofs
def G0 : List (Nat × AVal) := []
def G0T : List (Nat × TV) := []
theorem G0_ok : GlobsOk G0 G0T := globs_nil
theorem same_ok : ∀ f, memN f [] = true → Same Try.prog f := by
  intro f h
  simp_all [memN]
-- palinode/palinoderef04.ints
noncomputable def ref04_ints_E : Env := { pure := [], raw := [], glob := G0, same := [], look := [], ext := [] }
def ref04_ints_H : Hints := { seqs := [], loops := [], own := [] }
noncomputable def ref04_ints_F : PFn := closeF (runF Try.prog ref04_ints_E ref04_ints_H Try.f73)
def ref04_ints_Y : TH := { joins := [], loops := [], cuts := [], ro := [], news := [] }
noncomputable def ref04_ints (a0 : Int) (a1 : Int) : Option Int :=
 cond (decide (a0 < a1)) (
 some (-1)) (
 cond (decide (a0 > a1)) (
 some 1) (
 some 0))
noncomputable def ref04_ints_T : TFn := { ps := (.cons (.int .i64) (.cons (.int .i64) .unit)), res := (.int .i64), fn := fun v => ref04_ints v.1 v.2.1 }
noncomputable def ref04_ints_V : TEnv := { pure := [], look := [], glob := G0T, ty := [], raw := [], fresh := [] }
theorem ref04_ints_eq : runY Try.prog ref04_ints_E ref04_ints_H ref04_ints_V ref04_ints_Y Try.f73 ref04_ints_T.ps ref04_ints_T.res = ref04_ints_T.fn := by kernel_rfl
theorem ref04_ints_Fok : SoundP Try.prog G0 73 ref04_ints_F := closeF_sound (runF_sound (P := Try.prog) (E := ref04_ints_E) (h := ref04_ints_H) (f := 73) (fn := Try.f73) ⟨same_ok, envP_nil, envS_nil, envP_nil, envX_nil⟩ Try.func73 rfl (by kernel_rfl))
theorem ref04_ints_ok : TOk ref04_ints_F ref04_ints_T := runY_ok (E := ref04_ints_E) (ET := ref04_ints_V) (EnvT.ofX (E := ref04_ints_E) (ET := ref04_ints_V) (pure_of pairs_nil) looks_nil raws_nil G0_ok news_nil) ref04_ints_eq rfl
-- palinode/palinoderef04.Compare
noncomputable def ref04_Compare_E : Env := { pure := [(73, ref04_ints_F)], raw := [], glob := G0, same := [], look := [], ext := [] }
def ref04_Compare_H : Hints := { seqs := [], loops := [], own := [] }
noncomputable def ref04_Compare_F : PFn := closeF (runF Try.prog ref04_Compare_E ref04_Compare_H Try.f45)
def ref04_Compare_Y : TH := { joins := [], loops := [], cuts := [], ro := [2, 3], news := [] }
noncomputable def ref04_Compare (a0 : (Int × Int × Unit)) (a1 : (Int × Int × Unit)) : Option Int :=
 cond (!decide (a0.1 = a1.1)) (
(ref04_ints a0.1 a1.1).bind fun r1 =>
 some r1) (
(ref04_ints a0.2.1 a1.2.1).bind fun r2 =>
 some r2)
noncomputable def ref04_Compare_T : TFn := { ps := (.cons (.agg (.cons (.int .i64) (.cons (.int .i64) .unit))) (.cons (.agg (.cons (.int .i64) (.cons (.int .i64) .unit))) .unit)), res := (.int .i64), fn := fun v => ref04_Compare v.1 v.2.1 }
noncomputable def ref04_Compare_V : TEnv := { pure := [(73, ref04_ints_T)], look := [], glob := G0T, ty := [], raw := [], fresh := [] }
theorem ref04_Compare_eq : runY Try.prog ref04_Compare_E ref04_Compare_H ref04_Compare_V ref04_Compare_Y Try.f45 ref04_Compare_T.ps ref04_Compare_T.res = ref04_Compare_T.fn := by kernel_rfl
theorem ref04_Compare_Fok : SoundP Try.prog G0 45 ref04_Compare_F := closeF_sound (runF_sound (P := Try.prog) (E := ref04_Compare_E) (h := ref04_Compare_H) (f := 45) (fn := Try.f45) ⟨same_ok, (envP_cons ref04_ints_Fok envP_nil), envS_nil, envP_nil, envX_nil⟩ Try.func45 rfl (by kernel_rfl))
theorem ref04_Compare_ok : TOk ref04_Compare_F ref04_Compare_T := runY_ok (E := ref04_Compare_E) (ET := ref04_Compare_V) (EnvT.ofX (E := ref04_Compare_E) (ET := ref04_Compare_V) (pure_of (pairs_cons ref04_ints_ok pairs_nil)) looks_nil raws_nil G0_ok news_nil) ref04_Compare_eq rfl
-- palinode/palinoderef12.Rises
noncomputable def ref12_Rises_E : Env := { pure := [(45, ref04_Compare_F)], raw := [], glob := G0, same := [], look := [], ext := [] }
def ref12_Rises_H : Hints := { seqs := [], loops := [(2, [0, 3])], own := [] }
noncomputable def ref12_Rises_F : PFn := closeF (runF Try.prog ref12_Rises_E ref12_Rises_H Try.f32)
def ref12_Rises_Y : TH := { joins := [], loops := [(2, { keep := [(3, (.int .i64))], mem := [] })], cuts := [], ro := [], news := [] }
noncomputable def ref12_Rises_l2 (a0 : List ((Int × Int × Unit) × Int × Int × Bool × List (Int × List (List UInt8) × (Int × Int × List UInt8 × Unit) × Int × List ((Int × Int × Unit) × Int × Unit) × Unit) × Unit)) (y2 : (Int × Unit)) : Option ((Int × Unit) ⊕ Bool) :=
 cond (decide (y2.1 < (a0.length : Int))) (
(atI a0 (IntKind.wrap .i64 (y2.1 - 1))).bind fun x1 =>
(atI a0 y2.1).bind fun x2 =>
(ref04_Compare x1.1 x2.1).bind fun r3 =>
 cond (!decide (r3 = (-1))) (
 some (.inr false)) (
 some (.inl ((IntKind.wrap .i64 (y2.1 + 1)), ())))) (
 some (.inr true))
noncomputable def ref12_Rises (a0 : List ((Int × Int × Unit) × Int × Int × Bool × List (Int × List (List UInt8) × (Int × Int × List UInt8 × Unit) × Int × List ((Int × Int × Unit) × Int × Unit) × Unit) × Unit)) : Option Bool :=
 loopT (ref12_Rises_l2 a0) (1, ())
noncomputable def ref12_Rises_T : TFn := { ps := (.cons (.sl (.agg (.cons (.agg (.cons (.int .i64) (.cons (.int .i64) .unit))) (.cons (.int .i64) (.cons (.int .i64) (.cons .bool (.cons (.sl (.agg (.cons (.int .i64) (.cons (.sl .str) (.cons (.agg (.cons (.int .i64) (.cons (.int .i64) (.cons .str .unit)))) (.cons (.int .i64) (.cons (.sl (.agg (.cons (.agg (.cons (.int .i64) (.cons (.int .i64) .unit))) (.cons (.int .i64) .unit)))) .unit))))))) .unit))))))) .unit), res := .bool, fn := fun v => ref12_Rises v.1 }
noncomputable def ref12_Rises_V : TEnv := { pure := [(45, ref04_Compare_T)], look := [], glob := G0T, ty := [], raw := [], fresh := [] }
theorem ref12_Rises_eq : runY Try.prog ref12_Rises_E ref12_Rises_H ref12_Rises_V ref12_Rises_Y Try.f32 ref12_Rises_T.ps ref12_Rises_T.res = ref12_Rises_T.fn := by kernel_rfl
theorem ref12_Rises_Fok : SoundP Try.prog G0 32 ref12_Rises_F := closeF_sound (runF_sound (P := Try.prog) (E := ref12_Rises_E) (h := ref12_Rises_H) (f := 32) (fn := Try.f32) ⟨same_ok, (envP_cons ref04_Compare_Fok envP_nil), envS_nil, envP_nil, envX_nil⟩ Try.func32 rfl (by kernel_rfl))
theorem ref12_Rises_ok : TOk ref12_Rises_F ref12_Rises_T := runY_ok (E := ref12_Rises_E) (ET := ref12_Rises_V) (EnvT.ofX (E := ref12_Rises_E) (ET := ref12_Rises_V) (pure_of (pairs_cons ref04_Compare_ok pairs_nil)) looks_nil raws_nil G0_ok news_nil) ref12_Rises_eq rfl
-- palinode/palinoderef10.Short
noncomputable def ref10_Short_E : Env := { pure := [], raw := [], glob := G0, same := [], look := [], ext := [] }
def ref10_Short_H : Hints := { seqs := [], loops := [(4, [0, 3])], own := [] }
noncomputable def ref10_Short_F : PFn := closeF (runF Try.prog ref10_Short_E ref10_Short_H Try.f13)
def ref10_Short_Y : TH := { joins := [], loops := [(4, { keep := [(3, (.int .i64))], mem := [] })], cuts := [], ro := [], news := [] }
noncomputable def ref10_Short_l4 (a0 : List (List UInt8)) (y4 : (Int × Unit)) : Option ((Int × Unit) ⊕ Bool) :=
 cond (decide (y4.1 < (a0.length : Int))) (
(atI a0 y4.1).bind fun x1 =>
 cond (decide ((x1.length : Int) > 120)) (
 some (.inr false)) (
 some (.inl ((IntKind.wrap .i64 (y4.1 + 1)), ())))) (
 some (.inr true))
noncomputable def ref10_Short (a0 : List (List UInt8)) : Option Bool :=
 cond (decide ((a0.length : Int) > 12)) (
 some false) (
 loopT (ref10_Short_l4 a0) (0, ()))
noncomputable def ref10_Short_T : TFn := { ps := (.cons (.sl .str) .unit), res := .bool, fn := fun v => ref10_Short v.1 }
noncomputable def ref10_Short_V : TEnv := { pure := [], look := [], glob := G0T, ty := [], raw := [], fresh := [] }
theorem ref10_Short_eq : runY Try.prog ref10_Short_E ref10_Short_H ref10_Short_V ref10_Short_Y Try.f13 ref10_Short_T.ps ref10_Short_T.res = ref10_Short_T.fn := by kernel_rfl
theorem ref10_Short_Fok : SoundP Try.prog G0 13 ref10_Short_F := closeF_sound (runF_sound (P := Try.prog) (E := ref10_Short_E) (h := ref10_Short_H) (f := 13) (fn := Try.f13) ⟨same_ok, envP_nil, envS_nil, envP_nil, envX_nil⟩ Try.func13 rfl (by kernel_rfl))
theorem ref10_Short_ok : TOk ref10_Short_F ref10_Short_T := runY_ok (E := ref10_Short_E) (ET := ref10_Short_V) (EnvT.ofX (E := ref10_Short_E) (ET := ref10_Short_V) (pure_of pairs_nil) looks_nil raws_nil G0_ok news_nil) ref10_Short_eq rfl
-- palinode/palinoderef11.Short
noncomputable def ref11_Short_E : Env := { pure := [(13, ref10_Short_F)], raw := [], glob := G0, same := [], look := [], ext := [] }
def ref11_Short_H : Hints := { seqs := [], loops := [], own := [] }
noncomputable def ref11_Short_F : PFn := closeF (runF Try.prog ref11_Short_E ref11_Short_H Try.f46)
def ref11_Short_Y : TH := { joins := [], loops := [], cuts := [], ro := [1], news := [] }
noncomputable def ref11_Short (a0 : (Int × List (List UInt8) × (Int × Int × List UInt8 × Unit) × Int × List ((Int × Int × Unit) × Int × Unit) × Unit)) : Option Bool :=
(ref10_Short a0.2.1).bind fun r1 =>
 cond r1 (cond (decide ((a0.2.2.1.2.2.1.length : Int) ≤ 200)) (some (decide ((a0.2.2.2.2.1.length : Int) ≤ 300))) (some false)) (some false)
noncomputable def ref11_Short_T : TFn := { ps := (.cons (.agg (.cons (.int .i64) (.cons (.sl .str) (.cons (.agg (.cons (.int .i64) (.cons (.int .i64) (.cons .str .unit)))) (.cons (.int .i64) (.cons (.sl (.agg (.cons (.agg (.cons (.int .i64) (.cons (.int .i64) .unit))) (.cons (.int .i64) .unit)))) .unit)))))) .unit), res := .bool, fn := fun v => ref11_Short v.1 }
noncomputable def ref11_Short_V : TEnv := { pure := [(13, ref10_Short_T)], look := [], glob := G0T, ty := [], raw := [], fresh := [] }
theorem ref11_Short_eq : runY Try.prog ref11_Short_E ref11_Short_H ref11_Short_V ref11_Short_Y Try.f46 ref11_Short_T.ps ref11_Short_T.res = ref11_Short_T.fn := by kernel_rfl
theorem ref11_Short_Fok : SoundP Try.prog G0 46 ref11_Short_F := closeF_sound (runF_sound (P := Try.prog) (E := ref11_Short_E) (h := ref11_Short_H) (f := 46) (fn := Try.f46) ⟨same_ok, (envP_cons ref10_Short_Fok envP_nil), envS_nil, envP_nil, envX_nil⟩ Try.func46 rfl (by kernel_rfl))
theorem ref11_Short_ok : TOk ref11_Short_F ref11_Short_T := runY_ok (E := ref11_Short_E) (ET := ref11_Short_V) (EnvT.ofX (E := ref11_Short_E) (ET := ref11_Short_V) (pure_of (pairs_cons ref10_Short_ok pairs_nil)) looks_nil raws_nil G0_ok news_nil) ref11_Short_eq rfl
-- palinode/palinoderef12.Short
noncomputable def ref12_Short_E : Env := { pure := [(46, ref11_Short_F)], raw := [], glob := G0, same := [], look := [], ext := [] }
def ref12_Short_H : Hints := { seqs := [], loops := [(4, [1, 3])], own := [] }
noncomputable def ref12_Short_F : PFn := closeF (runF Try.prog ref12_Short_E ref12_Short_H Try.f33)
def ref12_Short_Y : TH := { joins := [], loops := [(4, { keep := [(1, (.bx 0 0)), (3, (.int .i64))], mem := [.same] })], cuts := [], ro := [1], news := [] }
noncomputable def ref12_Short_l4 (a0 : ((Int × Int × Unit) × Int × Int × Bool × List (Int × List (List UInt8) × (Int × Int × List UInt8 × Unit) × Int × List ((Int × Int × Unit) × Int × Unit) × Unit) × Unit)) (y4 : (Int × Unit)) : Option ((Int × Unit) ⊕ Bool) :=
 cond (decide (y4.1 < (a0.2.2.2.2.1.length : Int))) (
(atI a0.2.2.2.2.1 y4.1).bind fun x1 =>
(ref11_Short x1).bind fun r2 =>
 cond (!r2) (
 some (.inr false)) (
 some (.inl ((IntKind.wrap .i64 (y4.1 + 1)), ())))) (
 some (.inr true))
noncomputable def ref12_Short (a0 : ((Int × Int × Unit) × Int × Int × Bool × List (Int × List (List UInt8) × (Int × Int × List UInt8 × Unit) × Int × List ((Int × Int × Unit) × Int × Unit) × Unit) × Unit)) : Option Bool :=
 cond (decide ((a0.2.2.2.2.1.length : Int) > 20)) (
 some false) (
 loopT (ref12_Short_l4 a0) (0, ()))
noncomputable def ref12_Short_T : TFn := { ps := (.cons (.agg (.cons (.agg (.cons (.int .i64) (.cons (.int .i64) .unit))) (.cons (.int .i64) (.cons (.int .i64) (.cons .bool (.cons (.sl (.agg (.cons (.int .i64) (.cons (.sl .str) (.cons (.agg (.cons (.int .i64) (.cons (.int .i64) (.cons .str .unit)))) (.cons (.int .i64) (.cons (.sl (.agg (.cons (.agg (.cons (.int .i64) (.cons (.int .i64) .unit))) (.cons (.int .i64) .unit)))) .unit))))))) .unit)))))) .unit), res := .bool, fn := fun v => ref12_Short v.1 }
noncomputable def ref12_Short_V : TEnv := { pure := [(46, ref11_Short_T)], look := [], glob := G0T, ty := [], raw := [], fresh := [] }
theorem ref12_Short_eq : runY Try.prog ref12_Short_E ref12_Short_H ref12_Short_V ref12_Short_Y Try.f33 ref12_Short_T.ps ref12_Short_T.res = ref12_Short_T.fn := by kernel_rfl
theorem ref12_Short_Fok : SoundP Try.prog G0 33 ref12_Short_F := closeF_sound (runF_sound (P := Try.prog) (E := ref12_Short_E) (h := ref12_Short_H) (f := 33) (fn := Try.f33) ⟨same_ok, (envP_cons ref11_Short_Fok envP_nil), envS_nil, envP_nil, envX_nil⟩ Try.func33 rfl (by kernel_rfl))
theorem ref12_Short_ok : TOk ref12_Short_F ref12_Short_T := runY_ok (E := ref12_Short_E) (ET := ref12_Short_V) (EnvT.ofX (E := ref12_Short_E) (ET := ref12_Short_V) (pure_of (pairs_cons ref11_Short_ok pairs_nil)) looks_nil raws_nil G0_ok news_nil) ref12_Short_eq rfl
-- palinode/palinoderef04.Right
noncomputable def ref04_Right_E : Env := { pure := [], raw := [], glob := G0, same := [], look := [], ext := [] }
def ref04_Right_H : Hints := { seqs := [], loops := [], own := [] }
noncomputable def ref04_Right_F : PFn := closeF (runF Try.prog ref04_Right_E ref04_Right_H Try.f47)
def ref04_Right_Y : TH := { joins := [], loops := [], cuts := [], ro := [1], news := [] }
noncomputable def ref04_Right (a0 : (Int × Int × Unit)) : Option Bool :=
 cond (decide (a0.1 ≥ 0)) (cond (decide (a0.1 ≤ 15)) (cond (decide (a0.2.1 ≥ 1)) (some (decide (a0.2.1 ≤ 1048576))) (some false)) (some false)) (some false)
noncomputable def ref04_Right_T : TFn := { ps := (.cons (.agg (.cons (.int .i64) (.cons (.int .i64) .unit))) .unit), res := .bool, fn := fun v => ref04_Right v.1 }
noncomputable def ref04_Right_V : TEnv := { pure := [], look := [], glob := G0T, ty := [], raw := [], fresh := [] }
theorem ref04_Right_eq : runY Try.prog ref04_Right_E ref04_Right_H ref04_Right_V ref04_Right_Y Try.f47 ref04_Right_T.ps ref04_Right_T.res = ref04_Right_T.fn := by kernel_rfl
theorem ref04_Right_Fok : SoundP Try.prog G0 47 ref04_Right_F := closeF_sound (runF_sound (P := Try.prog) (E := ref04_Right_E) (h := ref04_Right_H) (f := 47) (fn := Try.f47) ⟨same_ok, envP_nil, envS_nil, envP_nil, envX_nil⟩ Try.func47 rfl (by kernel_rfl))
theorem ref04_Right_ok : TOk ref04_Right_F ref04_Right_T := runY_ok (E := ref04_Right_E) (ET := ref04_Right_V) (EnvT.ofX (E := ref04_Right_E) (ET := ref04_Right_V) (pure_of pairs_nil) looks_nil raws_nil G0_ok news_nil) ref04_Right_eq rfl
-- palinode/palinoderef03.Char
noncomputable def ref03_Char_E : Env := { pure := [], raw := [], glob := G0, same := [], look := [], ext := [] }
def ref03_Char_H : Hints := { seqs := [], loops := [(17, [0, 4, 5, 6, 7])], own := [] }
noncomputable def ref03_Char_F : PFn := closeF (runF Try.prog ref03_Char_E ref03_Char_H Try.f96)
def ref03_Char_Y : TH := { joins := [(14, { keep := [(4, (.int .i64)), (5, (.int .i64)), (6, (.int .i64))], mem := [] }), (9, { keep := [(18, .bool)], mem := [] }), (22, { keep := [(4, (.int .i64))], mem := [] }), (24, { keep := [], mem := [] })], loops := [(17, { keep := [(4, (.int .i64)), (7, (.int .i64))], mem := [] })], cuts := [], ro := [], news := [] }
noncomputable def ref03_Char_l17 (a0 : List UInt8) (v3 : (Int × Int × Int × Unit)) (y17 : (Int × Int × Unit)) : Option ((Int × Int × Unit) ⊕ ((Int × Unit) ⊕ (Int × Int × Unit))) :=
 cond (decide (y17.2.1 < v3.2.1)) (
(atI a0 y17.2.1).bind fun b4 =>
 cond (decide ((b4.toNat : Int) < 128)) (some (.inr (.inr (0, 0, ())))) ((atI a0 y17.2.1).bind fun b5 =>
 cond (decide ((b5.toNat : Int) > 191)) (
 some (.inr (.inr (0, 0, ())))) (
(atI a0 y17.2.1).bind fun b6 =>
 some (.inl ((IntKind.wrap .i64 ((IntKind.wrap .i64 ((IntKind.wrap .i64 (64 * y17.1)) + (IntKind.wrap .i64 (b6.toNat : Int)))) - 128)), (IntKind.wrap .i64 (y17.2.1 + 1)), ()))))) (
 some (.inr (.inl (y17.1, ()))))
noncomputable def ref03_Char (a0 : List UInt8) : Option (Int × Int × Unit) :=
 cond (decide ((a0.length : Int) = 0)) (
 some (0, 0, ())) (
(atI a0 0).bind fun b1 =>
(cond (decide ((IntKind.wrap .i64 (b1.toNat : Int)) < 128)) (
 some (.inr ((IntKind.wrap .i64 (b1.toNat : Int)), 1, ()))) (
(cond (decide ((IntKind.wrap .i64 (b1.toNat : Int)) ≥ 194)) (some (.inl ((decide ((IntKind.wrap .i64 (b1.toNat : Int)) < 224)), ()))) (some (.inl (false, ()))) : Option ((Bool × Unit) ⊕ ((Int × Int × Int × Unit) ⊕ (Int × Int × Unit)))).bind (joinS fun v2 =>
 cond v2.1 (
 some (.inl ((IntKind.wrap .i64 ((IntKind.wrap .i64 (b1.toNat : Int)) - 192)), 2, 128, ()))) (
 cond (decide ((IntKind.wrap .i64 (b1.toNat : Int)) ≥ 224)) (cond (decide ((IntKind.wrap .i64 (b1.toNat : Int)) < 240)) (
 some (.inl ((IntKind.wrap .i64 ((IntKind.wrap .i64 (b1.toNat : Int)) - 224)), 3, 2048, ()))) (
 cond (decide ((IntKind.wrap .i64 (b1.toNat : Int)) ≥ 240)) (cond (decide ((IntKind.wrap .i64 (b1.toNat : Int)) < 245)) (
 some (.inl ((IntKind.wrap .i64 ((IntKind.wrap .i64 (b1.toNat : Int)) - 240)), 4, 65536, ()))) (
 some (.inr (0, 0, ())))) (some (.inr (0, 0, ()))))) (cond (decide ((IntKind.wrap .i64 (b1.toNat : Int)) ≥ 240)) (cond (decide ((IntKind.wrap .i64 (b1.toNat : Int)) < 245)) (
 some (.inl ((IntKind.wrap .i64 ((IntKind.wrap .i64 (b1.toNat : Int)) - 240)), 4, 65536, ()))) (
 some (.inr (0, 0, ())))) (some (.inr (0, 0, ()))))))) : Option ((Int × Int × Int × Unit) ⊕ (Int × Int × Unit))).bind (joinS fun v3 =>
 cond (decide ((a0.length : Int) < v3.2.1)) (
 some (0, 0, ())) (
(loopT (ref03_Char_l17 a0 v3) (v3.1, 1, ()) : Option ((Int × Unit) ⊕ (Int × Int × Unit))).bind (joinS fun v7 =>
(cond (decide (v7.1 < v3.2.2.1)) (some (.inr (0, 0, ()))) (cond (decide (v7.1 > 1114111)) (some (.inr (0, 0, ()))) (cond (decide (v7.1 ≥ 55296)) (cond (decide (v7.1 ≤ 57343)) (
 some (.inr (0, 0, ()))) (
 some (.inl ()))) (some (.inl ())))) : Option (Unit ⊕ (Int × Int × Unit))).bind (joinS fun v8 =>
 some (v7.1, v3.2.1, ()))))))
noncomputable def ref03_Char_T : TFn := { ps := (.cons .str .unit), res := (.tup (.cons (.int .i64) (.cons (.int .i64) .unit))), fn := fun v => ref03_Char v.1 }
noncomputable def ref03_Char_V : TEnv := { pure := [], look := [], glob := G0T, ty := [], raw := [], fresh := [] }
theorem ref03_Char_eq : runY Try.prog ref03_Char_E ref03_Char_H ref03_Char_V ref03_Char_Y Try.f96 ref03_Char_T.ps ref03_Char_T.res = ref03_Char_T.fn := by kernel_rfl
theorem ref03_Char_Fok : SoundP Try.prog G0 96 ref03_Char_F := closeF_sound (runF_sound (P := Try.prog) (E := ref03_Char_E) (h := ref03_Char_H) (f := 96) (fn := Try.f96) ⟨same_ok, envP_nil, envS_nil, envP_nil, envX_nil⟩ Try.func96 rfl (by kernel_rfl))
theorem ref03_Char_ok : TOk ref03_Char_F ref03_Char_T := runY_ok (E := ref03_Char_E) (ET := ref03_Char_V) (EnvT.ofX (E := ref03_Char_E) (ET := ref03_Char_V) (pure_of pairs_nil) looks_nil raws_nil G0_ok news_nil) ref03_Char_eq rfl
-- palinode/palinoderef03.Runes
noncomputable def ref03_Runes_E : Env := { pure := [(96, ref03_Char_F)], raw := [], glob := G0, same := [], look := [], ext := [] }
def ref03_Runes_H : Hints := { seqs := [], loops := [(3, [0, 4, 5])], own := [] }
noncomputable def ref03_Runes_F : PFn := closeF (runF Try.prog ref03_Runes_E ref03_Runes_H Try.f89)
def ref03_Runes_Y : TH := { joins := [], loops := [(3, { keep := [(4, (.own 0)), (5, (.int .i64))], mem := [.row true 3 (.int .i64)] })], cuts := [], ro := [], news := [] }
noncomputable def ref03_Runes_l3 (a0 : List UInt8) (y3 : (Int × List Int × Unit)) : Option ((Int × List Int × Unit) ⊕ (List Int × Bool × Unit)) :=
 cond (decide (y3.1 < (a0.length : Int))) (
(subI a0 y3.1 (a0.length : Int)).bind fun s1 =>
(ref03_Char s1).bind fun r2 =>
 cond (decide (r2.2.1 = 0)) (
 some (.inr ([], false, ()))) (
(roomT (y3.2.1.length + ([r2.1] : List Int).length)).bind fun u3 =>
 some (.inl ((IntKind.wrap .i64 (y3.1 + r2.2.1)), (y3.2.1 ++ ([r2.1] : List Int)), ())))) (
 some (.inr (y3.2.1, true, ())))
noncomputable def ref03_Runes (a0 : List UInt8) : Option (List Int × Bool × Unit) :=
 loopT (ref03_Runes_l3 a0) (0, [], ())
noncomputable def ref03_Runes_T : TFn := { ps := (.cons .str .unit), res := (.tup (.cons (.sl (.int .i64)) (.cons .bool .unit))), fn := fun v => ref03_Runes v.1 }
noncomputable def ref03_Runes_V : TEnv := { pure := [(96, ref03_Char_T)], look := [], glob := G0T, ty := [(3, (.int .i64))], raw := [], fresh := [] }
theorem ref03_Runes_eq : runY Try.prog ref03_Runes_E ref03_Runes_H ref03_Runes_V ref03_Runes_Y Try.f89 ref03_Runes_T.ps ref03_Runes_T.res = ref03_Runes_T.fn := by kernel_rfl
theorem ref03_Runes_Fok : SoundP Try.prog G0 89 ref03_Runes_F := closeF_sound (runF_sound (P := Try.prog) (E := ref03_Runes_E) (h := ref03_Runes_H) (f := 89) (fn := Try.f89) ⟨same_ok, (envP_cons ref03_Char_Fok envP_nil), envS_nil, envP_nil, envX_nil⟩ Try.func89 rfl (by kernel_rfl))
theorem ref03_Runes_ok : TOk ref03_Runes_F ref03_Runes_T := runY_ok (E := ref03_Runes_E) (ET := ref03_Runes_V) (EnvT.ofX (E := ref03_Runes_E) (ET := ref03_Runes_V) (pure_of (pairs_cons ref03_Char_ok pairs_nil)) looks_nil raws_nil G0_ok news_nil) ref03_Runes_eq rfl
-- palinode/palinoderef03.may
noncomputable def ref03_may_E : Env := { pure := [], raw := [], glob := G0, same := [], look := [], ext := [] }
def ref03_may_H : Hints := { seqs := [], loops := [], own := [] }
noncomputable def ref03_may_F : PFn := closeF (runF Try.prog ref03_may_E ref03_may_H Try.f95)
def ref03_may_Y : TH := { joins := [], loops := [], cuts := [], ro := [], news := [] }
noncomputable def ref03_may (a0 : Int) : Option Bool :=
 cond (decide (a0 ≥ 32)) (cond (decide (a0 < 127)) (some (!decide (a0 = 65533))) (cond (decide (a0 > 159)) (some (!decide (a0 = 65533))) (some false))) (some false)
noncomputable def ref03_may_T : TFn := { ps := (.cons (.int .i64) .unit), res := .bool, fn := fun v => ref03_may v.1 }
noncomputable def ref03_may_V : TEnv := { pure := [], look := [], glob := G0T, ty := [], raw := [], fresh := [] }
theorem ref03_may_eq : runY Try.prog ref03_may_E ref03_may_H ref03_may_V ref03_may_Y Try.f95 ref03_may_T.ps ref03_may_T.res = ref03_may_T.fn := by kernel_rfl
theorem ref03_may_Fok : SoundP Try.prog G0 95 ref03_may_F := closeF_sound (runF_sound (P := Try.prog) (E := ref03_may_E) (h := ref03_may_H) (f := 95) (fn := Try.f95) ⟨same_ok, envP_nil, envS_nil, envP_nil, envX_nil⟩ Try.func95 rfl (by kernel_rfl))
theorem ref03_may_ok : TOk ref03_may_F ref03_may_T := runY_ok (E := ref03_may_E) (ET := ref03_may_V) (EnvT.ofX (E := ref03_may_E) (ET := ref03_may_V) (pure_of pairs_nil) looks_nil raws_nil G0_ok news_nil) ref03_may_eq rfl
-- palinode/palinoderef03.Right
noncomputable def ref03_Right_E : Env := { pure := [(89, ref03_Runes_F), (95, ref03_may_F)], raw := [], glob := G0, same := [], look := [], ext := [] }
def ref03_Right_H : Hints := { seqs := [], loops := [(3, [3, 4, 5])], own := [] }
noncomputable def ref03_Right_F : PFn := closeF (runF Try.prog ref03_Right_E ref03_Right_H Try.f88)
def ref03_Right_Y : TH := { joins := [(7, { keep := [], mem := [] })], loops := [(3, { keep := [(5, (.int .i64))], mem := [] })], cuts := [], ro := [], news := [] }
noncomputable def ref03_Right_l3 (r1 : (List Int × Bool × Unit)) (y3 : (Int × Unit)) : Option ((Int × Unit) ⊕ (Unit ⊕ Bool)) :=
 cond (decide (y3.1 < (r1.1.length : Int))) (
(atI r1.1 y3.1).bind fun x2 =>
(ref03_may x2).bind fun r3 =>
 cond (!r3) (
 some (.inr (.inr false))) (
 some (.inl ((IntKind.wrap .i64 (y3.1 + 1)), ())))) (
 some (.inr (.inl ())))
noncomputable def ref03_Right (a0 : List UInt8) : Option Bool :=
(ref03_Runes a0).bind fun r1 =>
(loopT (ref03_Right_l3 r1) (0, ()) : Option (Unit ⊕ Bool)).bind (joinS fun v4 =>
 cond r1.2.1 (cond (decide ((r1.1.length : Int) ≥ 1)) (some (decide ((r1.1.length : Int) ≤ 24))) (some false)) (some false))
noncomputable def ref03_Right_T : TFn := { ps := (.cons .str .unit), res := .bool, fn := fun v => ref03_Right v.1 }
noncomputable def ref03_Right_V : TEnv := { pure := [(89, ref03_Runes_T), (95, ref03_may_T)], look := [], glob := G0T, ty := [], raw := [], fresh := [] }
theorem ref03_Right_eq : runY Try.prog ref03_Right_E ref03_Right_H ref03_Right_V ref03_Right_Y Try.f88 ref03_Right_T.ps ref03_Right_T.res = ref03_Right_T.fn := by kernel_rfl
theorem ref03_Right_Fok : SoundP Try.prog G0 88 ref03_Right_F := closeF_sound (runF_sound (P := Try.prog) (E := ref03_Right_E) (h := ref03_Right_H) (f := 88) (fn := Try.f88) ⟨same_ok, (envP_cons ref03_Runes_Fok (envP_cons ref03_may_Fok envP_nil)), envS_nil, envP_nil, envX_nil⟩ Try.func88 rfl (by kernel_rfl))
theorem ref03_Right_ok : TOk ref03_Right_F ref03_Right_T := runY_ok (E := ref03_Right_E) (ET := ref03_Right_V) (EnvT.ofX (E := ref03_Right_E) (ET := ref03_Right_V) (pure_of (pairs_cons ref03_Runes_ok (pairs_cons ref03_may_ok pairs_nil))) looks_nil raws_nil G0_ok news_nil) ref03_Right_eq rfl
-- palinode/palinoderef10.Check
noncomputable def ref10_Check_E : Env := { pure := [(88, ref03_Right_F)], raw := [], glob := G0, same := [], look := [], ext := [] }
def ref10_Check_H : Hints := { seqs := [], loops := [(6, [0, 3])], own := [] }
noncomputable def ref10_Check_F : PFn := closeF (runF Try.prog ref10_Check_E ref10_Check_H Try.f74)
def ref10_Check_Y : TH := { joins := [], loops := [(6, { keep := [(3, (.int .i64))], mem := [] })], cuts := [], ro := [], news := [] }
noncomputable def ref10_Check_l6 (a0 : List (List UInt8)) (y6 : (Int × Unit)) : Option ((Int × Unit) ⊕ Int) :=
 cond (decide (y6.1 < (a0.length : Int))) (
(atI a0 y6.1).bind fun x1 =>
(ref03_Right x1).bind fun r2 =>
 cond (!r2) (
 some (.inr 8)) (
 some (.inl ((IntKind.wrap .i64 (y6.1 + 1)), ())))) (
 some (.inr 0))
noncomputable def ref10_Check (a0 : List (List UInt8)) : Option Int :=
 cond (decide ((a0.length : Int) = 0)) (
 some 8) (
 cond (decide ((a0.length : Int) > 8)) (
 some 9) (
 loopT (ref10_Check_l6 a0) (0, ())))
noncomputable def ref10_Check_T : TFn := { ps := (.cons (.sl .str) .unit), res := (.int .i64), fn := fun v => ref10_Check v.1 }
noncomputable def ref10_Check_V : TEnv := { pure := [(88, ref03_Right_T)], look := [], glob := G0T, ty := [], raw := [], fresh := [] }
theorem ref10_Check_eq : runY Try.prog ref10_Check_E ref10_Check_H ref10_Check_V ref10_Check_Y Try.f74 ref10_Check_T.ps ref10_Check_T.res = ref10_Check_T.fn := by kernel_rfl
theorem ref10_Check_Fok : SoundP Try.prog G0 74 ref10_Check_F := closeF_sound (runF_sound (P := Try.prog) (E := ref10_Check_E) (h := ref10_Check_H) (f := 74) (fn := Try.f74) ⟨same_ok, (envP_cons ref03_Right_Fok envP_nil), envS_nil, envP_nil, envX_nil⟩ Try.func74 rfl (by kernel_rfl))
theorem ref10_Check_ok : TOk ref10_Check_F ref10_Check_T := runY_ok (E := ref10_Check_E) (ET := ref10_Check_V) (EnvT.ofX (E := ref10_Check_E) (ET := ref10_Check_V) (pure_of (pairs_cons ref03_Right_ok pairs_nil)) looks_nil raws_nil G0_ok news_nil) ref10_Check_eq rfl
-- palinode/palinoderef09.Right
noncomputable def ref09_Right_E : Env := { pure := [(89, ref03_Runes_F)], raw := [], glob := G0, same := [], look := [], ext := [] }
def ref09_Right_H : Hints := { seqs := [], loops := [], own := [] }
noncomputable def ref09_Right_F : PFn := closeF (runF Try.prog ref09_Right_E ref09_Right_H Try.f75)
def ref09_Right_Y : TH := { joins := [], loops := [], cuts := [], ro := [1], news := [] }
noncomputable def ref09_Right (a0 : (Int × Int × List UInt8 × Unit)) : Option Bool :=
 cond (decide (a0.1 = 1)) (
 cond (decide (a0.2.2.1 = [])) (cond (decide (a0.2.1 ≥ (-2147483647))) (some (decide (a0.2.1 ≤ 2147483647))) (some false)) (some false)) (
 cond (decide (a0.1 = 2)) (
(ref03_Runes a0.2.2.1).bind fun r1 =>
 cond (decide (a0.2.1 = 0)) (cond r1.2.1 (some (decide ((a0.2.2.1.length : Int) ≤ 64))) (some false)) (some false)) (
 cond (decide (a0.1 = 3)) (cond (decide (a0.2.2.1 = [])) (cond (decide (a0.2.1 ≥ 0)) (some (decide (a0.2.1 ≤ 1))) (some false)) (some false)) (some false)))
noncomputable def ref09_Right_T : TFn := { ps := (.cons (.agg (.cons (.int .i64) (.cons (.int .i64) (.cons .str .unit)))) .unit), res := .bool, fn := fun v => ref09_Right v.1 }
noncomputable def ref09_Right_V : TEnv := { pure := [(89, ref03_Runes_T)], look := [], glob := G0T, ty := [], raw := [], fresh := [] }
theorem ref09_Right_eq : runY Try.prog ref09_Right_E ref09_Right_H ref09_Right_V ref09_Right_Y Try.f75 ref09_Right_T.ps ref09_Right_T.res = ref09_Right_T.fn := by kernel_rfl
theorem ref09_Right_Fok : SoundP Try.prog G0 75 ref09_Right_F := closeF_sound (runF_sound (P := Try.prog) (E := ref09_Right_E) (h := ref09_Right_H) (f := 75) (fn := Try.f75) ⟨same_ok, (envP_cons ref03_Runes_Fok envP_nil), envS_nil, envP_nil, envX_nil⟩ Try.func75 rfl (by kernel_rfl))
theorem ref09_Right_ok : TOk ref09_Right_F ref09_Right_T := runY_ok (E := ref09_Right_E) (ET := ref09_Right_V) (EnvT.ofX (E := ref09_Right_E) (ET := ref09_Right_V) (pure_of (pairs_cons ref03_Runes_ok pairs_nil)) looks_nil raws_nil G0_ok news_nil) ref09_Right_eq rfl
-- palinode/palinoderef04.Refs
noncomputable def ref04_Refs_E : Env := { pure := [(45, ref04_Compare_F), (73, ref04_ints_F)], raw := [], glob := G0, same := [], look := [], ext := [] }
def ref04_Refs_H : Hints := { seqs := [], loops := [], own := [] }
noncomputable def ref04_Refs_F : PFn := closeF (runF Try.prog ref04_Refs_E ref04_Refs_H Try.f90)
def ref04_Refs_Y : TH := { joins := [], loops := [], cuts := [], ro := [2, 3], news := [] }
noncomputable def ref04_Refs (a0 : ((Int × Int × Unit) × Int × Unit)) (a1 : ((Int × Int × Unit) × Int × Unit)) : Option Int :=
(ref04_Compare a0.1 a1.1).bind fun r1 =>
 cond (!decide (r1 = 0)) (
(ref04_Compare a0.1 a1.1).bind fun r2 =>
 some r2) (
(ref04_ints a0.2.1 a1.2.1).bind fun r3 =>
 some r3)
noncomputable def ref04_Refs_T : TFn := { ps := (.cons (.agg (.cons (.agg (.cons (.int .i64) (.cons (.int .i64) .unit))) (.cons (.int .i64) .unit))) (.cons (.agg (.cons (.agg (.cons (.int .i64) (.cons (.int .i64) .unit))) (.cons (.int .i64) .unit))) .unit)), res := (.int .i64), fn := fun v => ref04_Refs v.1 v.2.1 }
noncomputable def ref04_Refs_V : TEnv := { pure := [(45, ref04_Compare_T), (73, ref04_ints_T)], look := [], glob := G0T, ty := [], raw := [], fresh := [] }
theorem ref04_Refs_eq : runY Try.prog ref04_Refs_E ref04_Refs_H ref04_Refs_V ref04_Refs_Y Try.f90 ref04_Refs_T.ps ref04_Refs_T.res = ref04_Refs_T.fn := by kernel_rfl
theorem ref04_Refs_Fok : SoundP Try.prog G0 90 ref04_Refs_F := closeF_sound (runF_sound (P := Try.prog) (E := ref04_Refs_E) (h := ref04_Refs_H) (f := 90) (fn := Try.f90) ⟨same_ok, (envP_cons ref04_Compare_Fok (envP_cons ref04_ints_Fok envP_nil)), envS_nil, envP_nil, envX_nil⟩ Try.func90 rfl (by kernel_rfl))
theorem ref04_Refs_ok : TOk ref04_Refs_F ref04_Refs_T := runY_ok (E := ref04_Refs_E) (ET := ref04_Refs_V) (EnvT.ofX (E := ref04_Refs_E) (ET := ref04_Refs_V) (pure_of (pairs_cons ref04_Compare_ok (pairs_cons ref04_ints_ok pairs_nil))) looks_nil raws_nil G0_ok news_nil) ref04_Refs_eq rfl
-- palinode/palinoderef11.Refs
noncomputable def ref11_Refs_E : Env := { pure := [(47, ref04_Right_F), (90, ref04_Refs_F)], raw := [], glob := G0, same := [], look := [], ext := [] }
def ref11_Refs_H : Hints := { seqs := [], loops := [(2, [0, 3])], own := [] }
noncomputable def ref11_Refs_F : PFn := closeF (runF Try.prog ref11_Refs_E ref11_Refs_H Try.f76)
def ref11_Refs_Y : TH := { joins := [], loops := [(2, { keep := [(3, (.int .i64))], mem := [] })], cuts := [], ro := [], news := [] }
noncomputable def ref11_Refs_l2 (a0 : List ((Int × Int × Unit) × Int × Unit)) (y2 : (Int × Unit)) : Option ((Int × Unit) ⊕ Bool) :=
 cond (decide (y2.1 < (a0.length : Int))) (
(atI a0 y2.1).bind fun x1 =>
(ref04_Right x1.1).bind fun r2 =>
 cond (!r2) (some (.inr false)) ((atI a0 y2.1).bind fun x3 =>
 cond (decide (x3.2.1 < 0)) (some (.inr false)) ((atI a0 y2.1).bind fun x4 =>
 cond (decide (x4.2.1 > 15)) (
 some (.inr false)) (
 cond (decide (y2.1 > 0)) ((atI a0 (IntKind.wrap .i64 (y2.1 - 1))).bind fun x5 =>
(atI a0 y2.1).bind fun x6 =>
(ref04_Refs x5 x6).bind fun r7 =>
 cond (!decide (r7 = (-1))) (
 some (.inr false)) (
 some (.inl ((IntKind.wrap .i64 (y2.1 + 1)), ())))) (some (.inl ((IntKind.wrap .i64 (y2.1 + 1)), ()))))))) (
 some (.inr true))
noncomputable def ref11_Refs (a0 : List ((Int × Int × Unit) × Int × Unit)) : Option Bool :=
 loopT (ref11_Refs_l2 a0) (0, ())
noncomputable def ref11_Refs_T : TFn := { ps := (.cons (.sl (.agg (.cons (.agg (.cons (.int .i64) (.cons (.int .i64) .unit))) (.cons (.int .i64) .unit)))) .unit), res := .bool, fn := fun v => ref11_Refs v.1 }
noncomputable def ref11_Refs_V : TEnv := { pure := [(47, ref04_Right_T), (90, ref04_Refs_T)], look := [], glob := G0T, ty := [], raw := [], fresh := [] }
theorem ref11_Refs_eq : runY Try.prog ref11_Refs_E ref11_Refs_H ref11_Refs_V ref11_Refs_Y Try.f76 ref11_Refs_T.ps ref11_Refs_T.res = ref11_Refs_T.fn := by kernel_rfl
theorem ref11_Refs_Fok : SoundP Try.prog G0 76 ref11_Refs_F := closeF_sound (runF_sound (P := Try.prog) (E := ref11_Refs_E) (h := ref11_Refs_H) (f := 76) (fn := Try.f76) ⟨same_ok, (envP_cons ref04_Right_Fok (envP_cons ref04_Refs_Fok envP_nil)), envS_nil, envP_nil, envX_nil⟩ Try.func76 rfl (by kernel_rfl))
theorem ref11_Refs_ok : TOk ref11_Refs_F ref11_Refs_T := runY_ok (E := ref11_Refs_E) (ET := ref11_Refs_V) (EnvT.ofX (E := ref11_Refs_E) (ET := ref11_Refs_V) (pure_of (pairs_cons ref04_Right_ok (pairs_cons ref04_Refs_ok pairs_nil))) looks_nil raws_nil G0_ok news_nil) ref11_Refs_eq rfl
-- palinode/palinoderef11.Check
noncomputable def ref11_Check_E : Env := { pure := [(74, ref10_Check_F), (75, ref09_Right_F), (76, ref11_Refs_F)], raw := [], glob := G0, same := [], look := [], ext := [] }
def ref11_Check_H : Hints := { seqs := [], loops := [], own := [] }
noncomputable def ref11_Check_F : PFn := closeF (runF Try.prog ref11_Check_E ref11_Check_H Try.f48)
def ref11_Check_Y : TH := { joins := [(9, { keep := [(1, (.bx 0 0))], mem := [.same, .gone] }), (11, { keep := [(1, (.bx 0 0))], mem := [.same, .gone] }), (13, { keep := [(1, (.bx 0 0))], mem := [.same, .gone] }), (15, { keep := [(1, (.bx 0 0))], mem := [.same, .gone] })], loops := [], cuts := [(11, [(8, { keep := [(1, (.bx 0 0)), (55, .bool)], mem := [.same, .gone] })])], ro := [1], news := [] }
noncomputable def ref11_Check (a0 : (Int × List (List UInt8) × (Int × Int × List UInt8 × Unit) × Int × List ((Int × Int × Unit) × Int × Unit) × Unit)) : Option Int :=
 cond (decide (a0.1 < 1)) (some 18) (cond (decide (a0.1 > 5)) (
 some 18) (
(ref10_Check a0.2.1).bind fun r1 =>
 cond (!decide (r1 = 0)) (
 some r1) (
(cond (decide (a0.1 = 3)) (cond (!(eqV (.agg (.cons (.int .i64) (.cons (.int .i64) (.cons .str .unit)))) a0.2.2.1 (0, 0, [], ()))) (
 some (.inr 2)) (
 some (.inl ()))) (cond (decide (a0.1 = 5)) (cond (!(eqV (.agg (.cons (.int .i64) (.cons (.int .i64) (.cons .str .unit)))) a0.2.2.1 (0, 0, [], ()))) (
 some (.inr 2)) (
 some (.inl ()))) (some (.inl ()))) : Option (Unit ⊕ Int)).bind (joinS fun v2 =>
(cond (!decide (a0.1 = 3)) (cond (!decide (a0.1 = 5)) ((ref09_Right a0.2.2.1).bind fun r3 =>
 cond (!r3) (
 some (.inr 2)) (
 some (.inl ()))) (some (.inl ()))) (some (.inl ())) : Option (Unit ⊕ Int)).bind (joinS fun v4 =>
((cond (!decide (a0.1 = 3)) (some ((!decide (a0.2.2.2.1 = 0)), ())) (some (false, ())) : Option (Bool × Unit)).bind fun v5 =>
 cond v5.1 (some (.inr 2)) (cond (decide (a0.1 = 3)) (cond (decide (a0.2.2.2.1 = 0)) (some (.inr 2)) (cond (decide (a0.2.2.2.1 > 2147483647)) (some (.inr 2)) (cond (decide (a0.2.2.2.1 < (-2147483647))) (
 some (.inr 2)) (
 some (.inl ()))))) (some (.inl ()))) : Option (Unit ⊕ Int)).bind (joinS fun v6 =>
(cond (decide (a0.1 = 2)) (cond (decide ((a0.2.2.2.2.1.length : Int) > 0)) (
 some (.inr 2)) (
 some (.inl ()))) (cond (decide (a0.1 = 3)) (cond (decide ((a0.2.2.2.2.1.length : Int) > 0)) (
 some (.inr 2)) (
 some (.inl ()))) (some (.inl ()))) : Option (Unit ⊕ Int)).bind (joinS fun v7 =>
 cond (decide ((a0.2.2.2.2.1.length : Int) > 256)) (
 some 7) (
(ref11_Refs a0.2.2.2.2.1).bind fun r8 =>
 cond (!r8) (
 some 2) (
 some 0)))))))))
noncomputable def ref11_Check_T : TFn := { ps := (.cons (.agg (.cons (.int .i64) (.cons (.sl .str) (.cons (.agg (.cons (.int .i64) (.cons (.int .i64) (.cons .str .unit)))) (.cons (.int .i64) (.cons (.sl (.agg (.cons (.agg (.cons (.int .i64) (.cons (.int .i64) .unit))) (.cons (.int .i64) .unit)))) .unit)))))) .unit), res := (.int .i64), fn := fun v => ref11_Check v.1 }
noncomputable def ref11_Check_V : TEnv := { pure := [(74, ref10_Check_T), (75, ref09_Right_T), (76, ref11_Refs_T)], look := [], glob := G0T, ty := [], raw := [], fresh := [] }
theorem ref11_Check_eq : runY Try.prog ref11_Check_E ref11_Check_H ref11_Check_V ref11_Check_Y Try.f48 ref11_Check_T.ps ref11_Check_T.res = ref11_Check_T.fn := by kernel_rfl
theorem ref11_Check_Fok : SoundP Try.prog G0 48 ref11_Check_F := closeF_sound (runF_sound (P := Try.prog) (E := ref11_Check_E) (h := ref11_Check_H) (f := 48) (fn := Try.f48) ⟨same_ok, (envP_cons ref10_Check_Fok (envP_cons ref09_Right_Fok (envP_cons ref11_Refs_Fok envP_nil))), envS_nil, envP_nil, envX_nil⟩ Try.func48 rfl (by kernel_rfl))
theorem ref11_Check_ok : TOk ref11_Check_F ref11_Check_T := runY_ok (E := ref11_Check_E) (ET := ref11_Check_V) (EnvT.ofX (E := ref11_Check_E) (ET := ref11_Check_V) (pure_of (pairs_cons ref10_Check_ok (pairs_cons ref09_Right_ok (pairs_cons ref11_Refs_ok pairs_nil)))) looks_nil raws_nil G0_ok news_nil) ref11_Check_eq rfl
-- palinode/palinoderef11.Gone
noncomputable def ref11_Gone_E : Env := { pure := [], raw := [], glob := G0, same := [], look := [], ext := [] }
def ref11_Gone_H : Hints := { seqs := [], loops := [], own := [] }
noncomputable def ref11_Gone_F : PFn := closeF (runF Try.prog ref11_Gone_E ref11_Gone_H Try.f49)
def ref11_Gone_Y : TH := { joins := [], loops := [], cuts := [(2, [(9, { keep := [(1, (.bx 0 0)), (3, (.bx 1 0)), (13, .bool)], mem := [.same, .box 45 (.agg (.cons (.int .i64) (.cons (.int .i64) (.cons .str .unit))))] })])], ro := [1], news := [] }
noncomputable def ref11_Gone (a0 : (Int × List (List UInt8) × (Int × Int × List UInt8 × Unit) × Int × List ((Int × Int × Unit) × Int × Unit) × Unit)) : Option Bool :=
(cond (decide (a0.1 = 0)) (some ((decide ((a0.2.1.length : Int) = 0)), (0, 0, [], ()), ())) (some (false, (0, 0, [], ()), ())) : Option (Bool × (Int × Int × List UInt8 × Unit) × Unit)).bind fun v1 =>
 cond v1.1 (cond (eqV (.agg (.cons (.int .i64) (.cons (.int .i64) (.cons .str .unit)))) a0.2.2.1 v1.2.1) (cond (decide (a0.2.2.2.1 = 0)) (some (decide ((a0.2.2.2.2.1.length : Int) = 0))) (some false)) (some false)) (some false)
noncomputable def ref11_Gone_T : TFn := { ps := (.cons (.agg (.cons (.int .i64) (.cons (.sl .str) (.cons (.agg (.cons (.int .i64) (.cons (.int .i64) (.cons .str .unit)))) (.cons (.int .i64) (.cons (.sl (.agg (.cons (.agg (.cons (.int .i64) (.cons (.int .i64) .unit))) (.cons (.int .i64) .unit)))) .unit)))))) .unit), res := .bool, fn := fun v => ref11_Gone v.1 }
noncomputable def ref11_Gone_V : TEnv := { pure := [], look := [], glob := G0T, ty := [], raw := [], fresh := [] }
theorem ref11_Gone_eq : runY Try.prog ref11_Gone_E ref11_Gone_H ref11_Gone_V ref11_Gone_Y Try.f49 ref11_Gone_T.ps ref11_Gone_T.res = ref11_Gone_T.fn := by kernel_rfl
theorem ref11_Gone_Fok : SoundP Try.prog G0 49 ref11_Gone_F := closeF_sound (runF_sound (P := Try.prog) (E := ref11_Gone_E) (h := ref11_Gone_H) (f := 49) (fn := Try.f49) ⟨same_ok, envP_nil, envS_nil, envP_nil, envX_nil⟩ Try.func49 rfl (by kernel_rfl))
theorem ref11_Gone_ok : TOk ref11_Gone_F ref11_Gone_T := runY_ok (E := ref11_Gone_E) (ET := ref11_Gone_V) (EnvT.ofX (E := ref11_Gone_E) (ET := ref11_Gone_V) (pure_of pairs_nil) looks_nil raws_nil G0_ok news_nil) ref11_Gone_eq rfl
-- palinode/palinoderef12.Check
noncomputable def ref12_Check_E : Env := { pure := [(47, ref04_Right_F), (48, ref11_Check_F), (49, ref11_Gone_F)], raw := [], glob := G0, same := [], look := [], ext := [] }
def ref12_Check_H : Hints := { seqs := [], loops := [(8, [1, 3])], own := [] }
noncomputable def ref12_Check_F : PFn := closeF (runF Try.prog ref12_Check_E ref12_Check_H Try.f34)
def ref12_Check_Y : TH := { joins := [], loops := [(8, { keep := [(1, (.bx 0 0)), (3, (.int .i64))], mem := [.same] })], cuts := [(1, [(9, { keep := [(1, (.bx 0 0)), (13, .bool)], mem := [.same] })])], ro := [1], news := [] }
noncomputable def ref12_Check_l8 (a0 : ((Int × Int × Unit) × Int × Int × Bool × List (Int × List (List UInt8) × (Int × Int × List UInt8 × Unit) × Int × List ((Int × Int × Unit) × Int × Unit) × Unit) × Unit)) (y8 : (Int × Unit)) : Option ((Int × Unit) ⊕ Int) :=
 cond (decide (y8.1 < (a0.2.2.2.2.1.length : Int))) (
(atI a0.2.2.2.2.1 y8.1).bind fun x3 =>
(ref11_Check x3).bind fun r4 =>
 cond (!decide (r4 = 0)) (cond a0.2.2.2.1 ((atI a0.2.2.2.2.1 y8.1).bind fun x5 =>
(ref11_Gone x5).bind fun r6 =>
 cond (!r6) (
 some (.inr r4)) (
 some (.inl ((IntKind.wrap .i64 (y8.1 + 1)), ())))) (some (.inr r4))) (some (.inl ((IntKind.wrap .i64 (y8.1 + 1)), ())))) (
 some (.inr 0))
noncomputable def ref12_Check (a0 : ((Int × Int × Unit) × Int × Int × Bool × List (Int × List (List UInt8) × (Int × Int × List UInt8 × Unit) × Int × List ((Int × Int × Unit) × Int × Unit) × Unit) × Unit)) : Option Int :=
((ref04_Right a0.1).bind fun r1 =>
 cond (!r1) (some (true, ())) (some ((decide (a0.2.1 < 0)), ())) : Option (Bool × Unit)).bind fun v2 =>
 cond v2.1 (some 2) (cond (decide (a0.2.1 > 7)) (some 2) (cond (decide (a0.2.2.1 < 1)) (some 2) (cond (decide (a0.2.2.1 > 1099511627776)) (
 some 2) (
 cond (decide ((a0.2.2.2.2.1.length : Int) = 0)) (
 some 11) (
 cond (decide ((a0.2.2.2.2.1.length : Int) > 16)) (
 some 7) (
 loopT (ref12_Check_l8 a0) (0, ())))))))
noncomputable def ref12_Check_T : TFn := { ps := (.cons (.agg (.cons (.agg (.cons (.int .i64) (.cons (.int .i64) .unit))) (.cons (.int .i64) (.cons (.int .i64) (.cons .bool (.cons (.sl (.agg (.cons (.int .i64) (.cons (.sl .str) (.cons (.agg (.cons (.int .i64) (.cons (.int .i64) (.cons .str .unit)))) (.cons (.int .i64) (.cons (.sl (.agg (.cons (.agg (.cons (.int .i64) (.cons (.int .i64) .unit))) (.cons (.int .i64) .unit)))) .unit))))))) .unit)))))) .unit), res := (.int .i64), fn := fun v => ref12_Check v.1 }
noncomputable def ref12_Check_V : TEnv := { pure := [(47, ref04_Right_T), (48, ref11_Check_T), (49, ref11_Gone_T)], look := [], glob := G0T, ty := [], raw := [], fresh := [] }
theorem ref12_Check_eq : runY Try.prog ref12_Check_E ref12_Check_H ref12_Check_V ref12_Check_Y Try.f34 ref12_Check_T.ps ref12_Check_T.res = ref12_Check_T.fn := by kernel_rfl
theorem ref12_Check_Fok : SoundP Try.prog G0 34 ref12_Check_F := closeF_sound (runF_sound (P := Try.prog) (E := ref12_Check_E) (h := ref12_Check_H) (f := 34) (fn := Try.f34) ⟨same_ok, (envP_cons ref04_Right_Fok (envP_cons ref11_Check_Fok (envP_cons ref11_Gone_Fok envP_nil))), envS_nil, envP_nil, envX_nil⟩ Try.func34 rfl (by kernel_rfl))
theorem ref12_Check_ok : TOk ref12_Check_F ref12_Check_T := runY_ok (E := ref12_Check_E) (ET := ref12_Check_V) (EnvT.ofX (E := ref12_Check_E) (ET := ref12_Check_V) (pure_of (pairs_cons ref04_Right_ok (pairs_cons ref11_Check_ok (pairs_cons ref11_Gone_ok pairs_nil)))) looks_nil raws_nil G0_ok news_nil) ref12_Check_eq rfl
-- palinode/palinoderef12.Good
noncomputable def ref12_Good_E : Env := { pure := [(32, ref12_Rises_F), (33, ref12_Short_F), (34, ref12_Check_F)], raw := [], glob := G0, same := [], look := [], ext := [] }
def ref12_Good_H : Hints := { seqs := [], loops := [(4, [0, 5])], own := [] }
noncomputable def ref12_Good_F : PFn := closeF (runF Try.prog ref12_Good_E ref12_Good_H Try.f16)
def ref12_Good_Y : TH := { joins := [], loops := [(4, { keep := [(5, (.int .i64))], mem := [] })], cuts := [], ro := [], news := [] }
noncomputable def ref12_Good_l4 (a0 : List ((Int × Int × Unit) × Int × Int × Bool × List (Int × List (List UInt8) × (Int × Int × List UInt8 × Unit) × Int × List ((Int × Int × Unit) × Int × Unit) × Unit) × Unit)) (y4 : (Int × Unit)) : Option ((Int × Unit) ⊕ Bool) :=
 cond (decide (y4.1 < (a0.length : Int))) (
(atI a0 y4.1).bind fun x2 =>
(ref12_Short x2).bind fun r3 =>
 cond (!r3) (some (.inr false)) ((atI a0 y4.1).bind fun x4 =>
(ref12_Check x4).bind fun r5 =>
 cond (!decide (r5 = 0)) (
 some (.inr false)) (
 some (.inl ((IntKind.wrap .i64 (y4.1 + 1)), ()))))) (
 some (.inr true))
noncomputable def ref12_Good (a0 : List ((Int × Int × Unit) × Int × Int × Bool × List (Int × List (List UInt8) × (Int × Int × List UInt8 × Unit) × Int × List ((Int × Int × Unit) × Int × Unit) × Unit) × Unit)) (a1 : Int) : Option Bool :=
 cond (decide ((a0.length : Int) > a1)) (some false) ((ref12_Rises a0).bind fun r1 =>
 cond (!r1) (
 some false) (
 loopT (ref12_Good_l4 a0) (0, ())))
noncomputable def ref12_Good_T : TFn := { ps := (.cons (.sl (.agg (.cons (.agg (.cons (.int .i64) (.cons (.int .i64) .unit))) (.cons (.int .i64) (.cons (.int .i64) (.cons .bool (.cons (.sl (.agg (.cons (.int .i64) (.cons (.sl .str) (.cons (.agg (.cons (.int .i64) (.cons (.int .i64) (.cons .str .unit)))) (.cons (.int .i64) (.cons (.sl (.agg (.cons (.agg (.cons (.int .i64) (.cons (.int .i64) .unit))) (.cons (.int .i64) .unit)))) .unit))))))) .unit))))))) (.cons (.int .i64) .unit)), res := .bool, fn := fun v => ref12_Good v.1 v.2.1 }
noncomputable def ref12_Good_V : TEnv := { pure := [(32, ref12_Rises_T), (33, ref12_Short_T), (34, ref12_Check_T)], look := [], glob := G0T, ty := [], raw := [], fresh := [] }
theorem ref12_Good_eq : runY Try.prog ref12_Good_E ref12_Good_H ref12_Good_V ref12_Good_Y Try.f16 ref12_Good_T.ps ref12_Good_T.res = ref12_Good_T.fn := by kernel_rfl
theorem ref12_Good_Fok : SoundP Try.prog G0 16 ref12_Good_F := closeF_sound (runF_sound (P := Try.prog) (E := ref12_Good_E) (h := ref12_Good_H) (f := 16) (fn := Try.f16) ⟨same_ok, (envP_cons ref12_Rises_Fok (envP_cons ref12_Short_Fok (envP_cons ref12_Check_Fok envP_nil))), envS_nil, envP_nil, envX_nil⟩ Try.func16 rfl (by kernel_rfl))
theorem ref12_Good_ok : TOk ref12_Good_F ref12_Good_T := runY_ok (E := ref12_Good_E) (ET := ref12_Good_V) (EnvT.ofX (E := ref12_Good_E) (ET := ref12_Good_V) (pure_of (pairs_cons ref12_Rises_ok (pairs_cons ref12_Short_ok (pairs_cons ref12_Check_ok pairs_nil)))) looks_nil raws_nil G0_ok news_nil) ref12_Good_eq rfl
-- palinode/palinoderef08.one
noncomputable def ref08_one_E : Env := { pure := [(47, ref04_Right_F)], raw := [], glob := G0, same := [], look := [], ext := [] }
def ref08_one_H : Hints := { seqs := [], loops := [], own := [] }
noncomputable def ref08_one_F : PFn := closeF (runF Try.prog ref08_one_E ref08_one_H Try.f50)
def ref08_one_Y : TH := { joins := [], loops := [], cuts := [], ro := [1], news := [] }
noncomputable def ref08_one (a0 : ((Int × Int × Unit) × Int × Unit)) : Option Bool :=
(ref04_Right a0.1).bind fun r1 =>
 cond r1 (cond (decide (a0.2.1 ≥ 1)) (some (decide (a0.2.1 ≤ 64))) (some false)) (some false)
noncomputable def ref08_one_T : TFn := { ps := (.cons (.agg (.cons (.agg (.cons (.int .i64) (.cons (.int .i64) .unit))) (.cons (.int .i64) .unit))) .unit), res := .bool, fn := fun v => ref08_one v.1 }
noncomputable def ref08_one_V : TEnv := { pure := [(47, ref04_Right_T)], look := [], glob := G0T, ty := [], raw := [], fresh := [] }
theorem ref08_one_eq : runY Try.prog ref08_one_E ref08_one_H ref08_one_V ref08_one_Y Try.f50 ref08_one_T.ps ref08_one_T.res = ref08_one_T.fn := by kernel_rfl
theorem ref08_one_Fok : SoundP Try.prog G0 50 ref08_one_F := closeF_sound (runF_sound (P := Try.prog) (E := ref08_one_E) (h := ref08_one_H) (f := 50) (fn := Try.f50) ⟨same_ok, (envP_cons ref04_Right_Fok envP_nil), envS_nil, envP_nil, envX_nil⟩ Try.func50 rfl (by kernel_rfl))
theorem ref08_one_ok : TOk ref08_one_F ref08_one_T := runY_ok (E := ref08_one_E) (ET := ref08_one_V) (EnvT.ofX (E := ref08_one_E) (ET := ref08_one_V) (pure_of (pairs_cons ref04_Right_ok pairs_nil)) looks_nil raws_nil G0_ok news_nil) ref08_one_eq rfl
-- palinode/palinoderef08.Right
noncomputable def ref08_Right_E : Env := { pure := [(45, ref04_Compare_F), (50, ref08_one_F)], raw := [], glob := G0, same := [], look := [], ext := [] }
def ref08_Right_H : Hints := { seqs := [], loops := [(2, [0, 3])], own := [] }
noncomputable def ref08_Right_F : PFn := closeF (runF Try.prog ref08_Right_E ref08_Right_H Try.f35)
def ref08_Right_Y : TH := { joins := [], loops := [(2, { keep := [(3, (.int .i64))], mem := [] })], cuts := [], ro := [], news := [] }
noncomputable def ref08_Right_l2 (a0 : List ((Int × Int × Unit) × Int × Unit)) (y2 : (Int × Unit)) : Option ((Int × Unit) ⊕ Bool) :=
 cond (decide (y2.1 < (a0.length : Int))) (
(atI a0 y2.1).bind fun x1 =>
(ref08_one x1).bind fun r2 =>
 cond (!r2) (some (.inr false)) (cond (decide (y2.1 > 0)) ((atI a0 (IntKind.wrap .i64 (y2.1 - 1))).bind fun x3 =>
(atI a0 y2.1).bind fun x4 =>
(ref04_Compare x3.1 x4.1).bind fun r5 =>
 cond (!decide (r5 = (-1))) (
 some (.inr false)) (
 some (.inl ((IntKind.wrap .i64 (y2.1 + 1)), ())))) (some (.inl ((IntKind.wrap .i64 (y2.1 + 1)), ()))))) (
 some (.inr true))
noncomputable def ref08_Right (a0 : List ((Int × Int × Unit) × Int × Unit)) : Option Bool :=
 loopT (ref08_Right_l2 a0) (0, ())
noncomputable def ref08_Right_T : TFn := { ps := (.cons (.sl (.agg (.cons (.agg (.cons (.int .i64) (.cons (.int .i64) .unit))) (.cons (.int .i64) .unit)))) .unit), res := .bool, fn := fun v => ref08_Right v.1 }
noncomputable def ref08_Right_V : TEnv := { pure := [(45, ref04_Compare_T), (50, ref08_one_T)], look := [], glob := G0T, ty := [], raw := [], fresh := [] }
theorem ref08_Right_eq : runY Try.prog ref08_Right_E ref08_Right_H ref08_Right_V ref08_Right_Y Try.f35 ref08_Right_T.ps ref08_Right_T.res = ref08_Right_T.fn := by kernel_rfl
theorem ref08_Right_Fok : SoundP Try.prog G0 35 ref08_Right_F := closeF_sound (runF_sound (P := Try.prog) (E := ref08_Right_E) (h := ref08_Right_H) (f := 35) (fn := Try.f35) ⟨same_ok, (envP_cons ref04_Compare_Fok (envP_cons ref08_one_Fok envP_nil)), envS_nil, envP_nil, envX_nil⟩ Try.func35 rfl (by kernel_rfl))
theorem ref08_Right_ok : TOk ref08_Right_F ref08_Right_T := runY_ok (E := ref08_Right_E) (ET := ref08_Right_V) (EnvT.ofX (E := ref08_Right_E) (ET := ref08_Right_V) (pure_of (pairs_cons ref04_Compare_ok (pairs_cons ref08_one_ok pairs_nil))) looks_nil raws_nil G0_ok news_nil) ref08_Right_eq rfl
-- palinode/palinoderef08.Good
noncomputable def ref08_Good_E : Env := { pure := [(35, ref08_Right_F)], raw := [], glob := G0, same := [], look := [], ext := [] }
def ref08_Good_H : Hints := { seqs := [], loops := [], own := [] }
noncomputable def ref08_Good_F : PFn := closeF (runF Try.prog ref08_Good_E ref08_Good_H Try.f17)
def ref08_Good_Y : TH := { joins := [], loops := [], cuts := [], ro := [], news := [] }
noncomputable def ref08_Good (a0 : List ((Int × Int × Unit) × Int × Unit)) : Option Bool :=
 cond (decide ((a0.length : Int) ≤ 100)) ((ref08_Right a0).bind fun r1 =>
 some r1) (some false)
noncomputable def ref08_Good_T : TFn := { ps := (.cons (.sl (.agg (.cons (.agg (.cons (.int .i64) (.cons (.int .i64) .unit))) (.cons (.int .i64) .unit)))) .unit), res := .bool, fn := fun v => ref08_Good v.1 }
noncomputable def ref08_Good_V : TEnv := { pure := [(35, ref08_Right_T)], look := [], glob := G0T, ty := [], raw := [], fresh := [] }
theorem ref08_Good_eq : runY Try.prog ref08_Good_E ref08_Good_H ref08_Good_V ref08_Good_Y Try.f17 ref08_Good_T.ps ref08_Good_T.res = ref08_Good_T.fn := by kernel_rfl
theorem ref08_Good_Fok : SoundP Try.prog G0 17 ref08_Good_F := closeF_sound (runF_sound (P := Try.prog) (E := ref08_Good_E) (h := ref08_Good_H) (f := 17) (fn := Try.f17) ⟨same_ok, (envP_cons ref08_Right_Fok envP_nil), envS_nil, envP_nil, envX_nil⟩ Try.func17 rfl (by kernel_rfl))
theorem ref08_Good_ok : TOk ref08_Good_F ref08_Good_T := runY_ok (E := ref08_Good_E) (ET := ref08_Good_V) (EnvT.ofX (E := ref08_Good_E) (ET := ref08_Good_V) (pure_of (pairs_cons ref08_Right_ok pairs_nil)) looks_nil raws_nil G0_ok news_nil) ref08_Good_eq rfl
-- palinode/palinodelaw13.Good
noncomputable def law13_Good_E : Env := { pure := [(16, ref12_Good_F), (17, ref08_Good_F)], raw := [], glob := G0, same := [], look := [], ext := [] }
def law13_Good_H : Hints := { seqs := [], loops := [], own := [] }
noncomputable def law13_Good_F : PFn := closeF (runF Try.prog law13_Good_E law13_Good_H Try.f5)
def law13_Good_Y : TH := { joins := [], loops := [], cuts := [], ro := [], news := [] }
noncomputable def law13_Good (a0 : List ((Int × Int × Unit) × Int × Int × Bool × List (Int × List (List UInt8) × (Int × Int × List UInt8 × Unit) × Int × List ((Int × Int × Unit) × Int × Unit) × Unit) × Unit)) (a1 : List ((Int × Int × Unit) × Int × Unit)) : Option Bool :=
(ref12_Good a0 20).bind fun r1 =>
 cond r1 ((ref08_Good a1).bind fun r2 =>
 some r2) (some false)
noncomputable def law13_Good_T : TFn := { ps := (.cons (.sl (.agg (.cons (.agg (.cons (.int .i64) (.cons (.int .i64) .unit))) (.cons (.int .i64) (.cons (.int .i64) (.cons .bool (.cons (.sl (.agg (.cons (.int .i64) (.cons (.sl .str) (.cons (.agg (.cons (.int .i64) (.cons (.int .i64) (.cons .str .unit)))) (.cons (.int .i64) (.cons (.sl (.agg (.cons (.agg (.cons (.int .i64) (.cons (.int .i64) .unit))) (.cons (.int .i64) .unit)))) .unit))))))) .unit))))))) (.cons (.sl (.agg (.cons (.agg (.cons (.int .i64) (.cons (.int .i64) .unit))) (.cons (.int .i64) .unit)))) .unit)), res := .bool, fn := fun v => law13_Good v.1 v.2.1 }
noncomputable def law13_Good_V : TEnv := { pure := [(16, ref12_Good_T), (17, ref08_Good_T)], look := [], glob := G0T, ty := [], raw := [], fresh := [] }
theorem law13_Good_eq : runY Try.prog law13_Good_E law13_Good_H law13_Good_V law13_Good_Y Try.f5 law13_Good_T.ps law13_Good_T.res = law13_Good_T.fn := by kernel_rfl
theorem law13_Good_Fok : SoundP Try.prog G0 5 law13_Good_F := closeF_sound (runF_sound (P := Try.prog) (E := law13_Good_E) (h := law13_Good_H) (f := 5) (fn := Try.f5) ⟨same_ok, (envP_cons ref12_Good_Fok (envP_cons ref08_Good_Fok envP_nil)), envS_nil, envP_nil, envX_nil⟩ Try.func5 rfl (by kernel_rfl))
theorem law13_Good_ok : TOk law13_Good_F law13_Good_T := runY_ok (E := law13_Good_E) (ET := law13_Good_V) (EnvT.ofX (E := law13_Good_E) (ET := law13_Good_V) (pure_of (pairs_cons ref12_Good_ok (pairs_cons ref08_Good_ok pairs_nil))) looks_nil raws_nil G0_ok news_nil) law13_Good_eq rfl
-- cmp.isNaN[int]
noncomputable def cmp_isNaN_int_E : Env := { pure := [], raw := [], glob := G0, same := [], look := [], ext := [] }
def cmp_isNaN_int_H : Hints := { seqs := [], loops := [], own := [] }
noncomputable def cmp_isNaN_int_F : PFn := closeF (runF Try.prog cmp_isNaN_int_E cmp_isNaN_int_H Try.f63)
def cmp_isNaN_int_Y : TH := { joins := [], loops := [], cuts := [], ro := [], news := [] }
noncomputable def cmp_isNaN_int (a0 : Int) : Option Bool :=
 some (!decide (a0 = a0))
noncomputable def cmp_isNaN_int_T : TFn := { ps := (.cons (.int .i64) .unit), res := .bool, fn := fun v => cmp_isNaN_int v.1 }
noncomputable def cmp_isNaN_int_V : TEnv := { pure := [], look := [], glob := G0T, ty := [], raw := [], fresh := [] }
theorem cmp_isNaN_int_eq : runY Try.prog cmp_isNaN_int_E cmp_isNaN_int_H cmp_isNaN_int_V cmp_isNaN_int_Y Try.f63 cmp_isNaN_int_T.ps cmp_isNaN_int_T.res = cmp_isNaN_int_T.fn := by kernel_rfl
theorem cmp_isNaN_int_Fok : SoundP Try.prog G0 63 cmp_isNaN_int_F := closeF_sound (runF_sound (P := Try.prog) (E := cmp_isNaN_int_E) (h := cmp_isNaN_int_H) (f := 63) (fn := Try.f63) ⟨same_ok, envP_nil, envS_nil, envP_nil, envX_nil⟩ Try.func63 rfl (by kernel_rfl))
theorem cmp_isNaN_int_ok : TOk cmp_isNaN_int_F cmp_isNaN_int_T := runY_ok (E := cmp_isNaN_int_E) (ET := cmp_isNaN_int_V) (EnvT.ofX (E := cmp_isNaN_int_E) (ET := cmp_isNaN_int_V) (pure_of pairs_nil) looks_nil raws_nil G0_ok news_nil) cmp_isNaN_int_eq rfl
-- cmp.Compare[int]
noncomputable def cmp_Compare_int_E : Env := { pure := [(63, cmp_isNaN_int_F)], raw := [], glob := G0, same := [], look := [], ext := [] }
def cmp_Compare_int_H : Hints := { seqs := [], loops := [], own := [] }
noncomputable def cmp_Compare_int_F : PFn := closeF (runF Try.prog cmp_Compare_int_E cmp_Compare_int_H Try.f41)
def cmp_Compare_int_Y : TH := { joins := [], loops := [], cuts := [], ro := [], news := [] }
noncomputable def cmp_Compare_int (a0 : Int) (a1 : Int) : Option Int :=
(cmp_isNaN_int a0).bind fun r1 =>
(cmp_isNaN_int a1).bind fun r2 =>
 cond r1 (
 cond r2 (
 some 0) (
 some (-1))) (
 cond r2 (
 some 1) (
 cond (decide (a0 < a1)) (
 some (-1)) (
 cond (decide (a0 > a1)) (
 some 1) (
 some 0))))
noncomputable def cmp_Compare_int_T : TFn := { ps := (.cons (.int .i64) (.cons (.int .i64) .unit)), res := (.int .i64), fn := fun v => cmp_Compare_int v.1 v.2.1 }
noncomputable def cmp_Compare_int_V : TEnv := { pure := [(63, cmp_isNaN_int_T)], look := [], glob := G0T, ty := [], raw := [], fresh := [] }
theorem cmp_Compare_int_eq : runY Try.prog cmp_Compare_int_E cmp_Compare_int_H cmp_Compare_int_V cmp_Compare_int_Y Try.f41 cmp_Compare_int_T.ps cmp_Compare_int_T.res = cmp_Compare_int_T.fn := by kernel_rfl
theorem cmp_Compare_int_Fok : SoundP Try.prog G0 41 cmp_Compare_int_F := closeF_sound (runF_sound (P := Try.prog) (E := cmp_Compare_int_E) (h := cmp_Compare_int_H) (f := 41) (fn := Try.f41) ⟨same_ok, (envP_cons cmp_isNaN_int_Fok envP_nil), envS_nil, envP_nil, envX_nil⟩ Try.func41 rfl (by kernel_rfl))
theorem cmp_Compare_int_ok : TOk cmp_Compare_int_F cmp_Compare_int_T := runY_ok (E := cmp_Compare_int_E) (ET := cmp_Compare_int_V) (EnvT.ofX (E := cmp_Compare_int_E) (ET := cmp_Compare_int_V) (pure_of (pairs_cons cmp_isNaN_int_ok pairs_nil)) looks_nil raws_nil G0_ok news_nil) cmp_Compare_int_eq rfl
-- cmp.Or[int]
noncomputable def cmp_Or_int_E : Env := { pure := [], raw := [], glob := G0, same := [], look := [], ext := [] }
def cmp_Or_int_H : Hints := { seqs := [], loops := [(3, [3, 6, 7, 8])], own := [] }
noncomputable def cmp_Or_int_F : PFn := closeF (runF Try.prog cmp_Or_int_E cmp_Or_int_H Try.f39)
def cmp_Or_int_Y : TH := { joins := [], loops := [(3, { keep := [(8, (.int .i64))], mem := [] })], cuts := [], ro := [], news := [] }
noncomputable def cmp_Or_int_l3 (a0 : List Int) (y3 : (Int × Unit)) : Option ((Int × Unit) ⊕ Int) :=
 cond (decide (y3.1 < (a0.length : Int))) (
(atI a0 y3.1).bind fun x1 =>
 cond (!decide (x1 = 0)) (
 some (.inr x1)) (
 some (.inl ((IntKind.wrap .i64 (y3.1 + 1)), ())))) (
 some (.inr 0))
noncomputable def cmp_Or_int (a0 : List Int) : Option Int :=
 loopT (cmp_Or_int_l3 a0) (0, ())
noncomputable def cmp_Or_int_T : TFn := { ps := (.cons (.sl (.int .i64)) .unit), res := (.int .i64), fn := fun v => cmp_Or_int v.1 }
noncomputable def cmp_Or_int_V : TEnv := { pure := [], look := [], glob := G0T, ty := [], raw := [], fresh := [] }
theorem cmp_Or_int_eq : runY Try.prog cmp_Or_int_E cmp_Or_int_H cmp_Or_int_V cmp_Or_int_Y Try.f39 cmp_Or_int_T.ps cmp_Or_int_T.res = cmp_Or_int_T.fn := by kernel_rfl
theorem cmp_Or_int_Fok : SoundP Try.prog G0 39 cmp_Or_int_F := closeF_sound (runF_sound (P := Try.prog) (E := cmp_Or_int_E) (h := cmp_Or_int_H) (f := 39) (fn := Try.f39) ⟨same_ok, envP_nil, envS_nil, envP_nil, envX_nil⟩ Try.func39 rfl (by kernel_rfl))
theorem cmp_Or_int_ok : TOk cmp_Or_int_F cmp_Or_int_T := runY_ok (E := cmp_Or_int_E) (ET := cmp_Or_int_V) (EnvT.ofX (E := cmp_Or_int_E) (ET := cmp_Or_int_V) (pure_of pairs_nil) looks_nil raws_nil G0_ok news_nil) cmp_Or_int_eq rfl
-- palinode/dot.Compare
noncomputable def dot_Compare_E : Env := { pure := [(39, cmp_Or_int_F), (41, cmp_Compare_int_F)], raw := [], glob := G0, same := [], look := [], ext := [] }
def dot_Compare_H : Hints := { seqs := [], loops := [], own := [] }
noncomputable def dot_Compare_F : PFn := closeF (runF Try.prog dot_Compare_E dot_Compare_H Try.f91)
def dot_Compare_Y : TH := { joins := [], loops := [], cuts := [], ro := [2, 3], news := [] }
noncomputable def dot_Compare (a0 : (Int × Int × Unit)) (a1 : (Int × Int × Unit)) : Option Int :=
(cmp_Compare_int a0.1 a1.1).bind fun r1 =>
(cmp_Compare_int a0.2.1 a1.2.1).bind fun r2 =>
(cmp_Or_int ([r1, r2] : List Int)).bind fun r3 =>
 some r3
noncomputable def dot_Compare_T : TFn := { ps := (.cons (.agg (.cons (.int .i64) (.cons (.int .i64) .unit))) (.cons (.agg (.cons (.int .i64) (.cons (.int .i64) .unit))) .unit)), res := (.int .i64), fn := fun v => dot_Compare v.1 v.2.1 }
noncomputable def dot_Compare_V : TEnv := { pure := [(39, cmp_Or_int_T), (41, cmp_Compare_int_T)], look := [], glob := G0T, ty := [(3, (.int .i64))], raw := [], fresh := [] }
theorem dot_Compare_eq : runY Try.prog dot_Compare_E dot_Compare_H dot_Compare_V dot_Compare_Y Try.f91 dot_Compare_T.ps dot_Compare_T.res = dot_Compare_T.fn := by kernel_rfl
theorem dot_Compare_Fok : SoundP Try.prog G0 91 dot_Compare_F := closeF_sound (runF_sound (P := Try.prog) (E := dot_Compare_E) (h := dot_Compare_H) (f := 91) (fn := Try.f91) ⟨same_ok, (envP_cons cmp_Or_int_Fok (envP_cons cmp_Compare_int_Fok envP_nil)), envS_nil, envP_nil, envX_nil⟩ Try.func91 rfl (by kernel_rfl))
theorem dot_Compare_ok : TOk dot_Compare_F dot_Compare_T := runY_ok (E := dot_Compare_E) (ET := dot_Compare_V) (EnvT.ofX (E := dot_Compare_E) (ET := dot_Compare_V) (pure_of (pairs_cons cmp_Or_int_ok (pairs_cons cmp_Compare_int_ok pairs_nil))) looks_nil raws_nil G0_ok news_nil) dot_Compare_eq rfl
-- palinode/tally.compare
noncomputable def tally_compare_E : Env := { pure := [(91, dot_Compare_F)], raw := [], glob := G0, same := [], look := [], ext := [] }
def tally_compare_H : Hints := { seqs := [], loops := [], own := [] }
noncomputable def tally_compare_F : PFn := closeF (runF Try.prog tally_compare_E tally_compare_H Try.f78)
def tally_compare_Y : TH := { joins := [], loops := [], cuts := [], ro := [2, 3], news := [] }
noncomputable def tally_compare (a0 : ((Int × Int × Unit) × Int × Unit)) (a1 : ((Int × Int × Unit) × Int × Unit)) : Option Int :=
(dot_Compare a0.1 a1.1).bind fun r1 =>
 some r1
noncomputable def tally_compare_T : TFn := { ps := (.cons (.agg (.cons (.agg (.cons (.int .i64) (.cons (.int .i64) .unit))) (.cons (.int .i64) .unit))) (.cons (.agg (.cons (.agg (.cons (.int .i64) (.cons (.int .i64) .unit))) (.cons (.int .i64) .unit))) .unit)), res := (.int .i64), fn := fun v => tally_compare v.1 v.2.1 }
noncomputable def tally_compare_V : TEnv := { pure := [(91, dot_Compare_T)], look := [], glob := G0T, ty := [], raw := [], fresh := [] }
theorem tally_compare_eq : runY Try.prog tally_compare_E tally_compare_H tally_compare_V tally_compare_Y Try.f78 tally_compare_T.ps tally_compare_T.res = tally_compare_T.fn := by kernel_rfl
theorem tally_compare_Fok : SoundP Try.prog G0 78 tally_compare_F := closeF_sound (runF_sound (P := Try.prog) (E := tally_compare_E) (h := tally_compare_H) (f := 78) (fn := Try.f78) ⟨same_ok, (envP_cons dot_Compare_Fok envP_nil), envS_nil, envP_nil, envX_nil⟩ Try.func78 rfl (by kernel_rfl))
theorem tally_compare_ok : TOk tally_compare_F tally_compare_T := runY_ok (E := tally_compare_E) (ET := tally_compare_V) (EnvT.ofX (E := tally_compare_E) (ET := tally_compare_V) (pure_of (pairs_cons dot_Compare_ok pairs_nil)) looks_nil raws_nil G0_ok news_nil) tally_compare_eq rfl
-- slices.BinarySearchFunc[[]palinode/api.Undo,palinode/api.Undo,palinode/api.Undo]
noncomputable def slices_BinarySearchFunc_Sl_api_Undo_api_Undo_api_Undo__tally_compare_E : Env := { pure := [(78, tally_compare_F)], raw := [], glob := G0, same := [], look := [], ext := [] }
def slices_BinarySearchFunc_Sl_api_Undo_api_Undo_api_Undo__tally_compare_H : Hints := { seqs := [], loops := [(3, [0, 2, 4, 8, 9, 10])], own := [] }
noncomputable def slices_BinarySearchFunc_Sl_api_Undo_api_Undo_api_Undo__tally_compare_F : PFn := closeF (runF Try.prog slices_BinarySearchFunc_Sl_api_Undo_api_Undo_api_Undo__tally_compare_E slices_BinarySearchFunc_Sl_api_Undo_api_Undo_api_Undo__tally_compare_H Try.f77)
def slices_BinarySearchFunc_Sl_api_Undo_api_Undo_api_Undo__tally_compare_Y : TH := { joins := [(8, { keep := [(4, (.bx 0 0)), (9, (.int .i64))], mem := [.same] })], loops := [(3, { keep := [(4, (.bx 0 0)), (9, (.int .i64)), (10, (.int .i64))], mem := [.same] })], cuts := [], ro := [4], news := [] }
noncomputable def slices_BinarySearchFunc_Sl_api_Undo_api_Undo_api_Undo__tally_compare_l3 (a0 : List ((Int × Int × Unit) × Int × Unit)) (a1 : ((Int × Int × Unit) × Int × Unit)) (y3 : (Int × Int × Unit)) : Option ((Int × Int × Unit) ⊕ ((Int × Unit) ⊕ (Int × Bool × Unit))) :=
 cond (decide (y3.1 < y3.2.1)) (
(shrT .u64 (IntKind.wrap .u64 (IntKind.wrap .i64 (y3.1 + y3.2.1))) 1).bind fun t1 =>
(atI a0 (IntKind.wrap .i64 t1)).bind fun x2 =>
(tally_compare x2 a1).bind fun r3 =>
 cond (decide (r3 < 0)) (
 some (.inl ((IntKind.wrap .i64 ((IntKind.wrap .i64 t1) + 1)), y3.2.1, ()))) (
 some (.inl (y3.1, (IntKind.wrap .i64 t1), ())))) (
 some (.inr (.inl (y3.1, ()))))
noncomputable def slices_BinarySearchFunc_Sl_api_Undo_api_Undo_api_Undo__tally_compare (a0 : List ((Int × Int × Unit) × Int × Unit)) (a1 : ((Int × Int × Unit) × Int × Unit)) (a2 : Unit) : Option (Int × Bool × Unit) :=
(loopT (slices_BinarySearchFunc_Sl_api_Undo_api_Undo_api_Undo__tally_compare_l3 a0 a1) (0, (a0.length : Int), ()) : Option ((Int × Unit) ⊕ (Int × Bool × Unit))).bind (joinS fun v4 =>
 cond (decide (v4.1 < (a0.length : Int))) ((atI a0 v4.1).bind fun x5 =>
(tally_compare x5 a1).bind fun r6 =>
 some (v4.1, (decide (r6 = 0)), ())) (some (v4.1, false, ())))
noncomputable def slices_BinarySearchFunc_Sl_api_Undo_api_Undo_api_Undo__tally_compare_T : TFn := { ps := (.cons (.sl (.agg (.cons (.agg (.cons (.int .i64) (.cons (.int .i64) .unit))) (.cons (.int .i64) .unit)))) (.cons (.agg (.cons (.agg (.cons (.int .i64) (.cons (.int .i64) .unit))) (.cons (.int .i64) .unit))) (.cons (.fn 78) .unit))), res := (.tup (.cons (.int .i64) (.cons .bool .unit))), fn := fun v => slices_BinarySearchFunc_Sl_api_Undo_api_Undo_api_Undo__tally_compare v.1 v.2.1 v.2.2.1 }
noncomputable def slices_BinarySearchFunc_Sl_api_Undo_api_Undo_api_Undo__tally_compare_V : TEnv := { pure := [(78, tally_compare_T)], look := [], glob := G0T, ty := [], raw := [], fresh := [] }
theorem slices_BinarySearchFunc_Sl_api_Undo_api_Undo_api_Undo__tally_compare_eq : runY Try.prog slices_BinarySearchFunc_Sl_api_Undo_api_Undo_api_Undo__tally_compare_E slices_BinarySearchFunc_Sl_api_Undo_api_Undo_api_Undo__tally_compare_H slices_BinarySearchFunc_Sl_api_Undo_api_Undo_api_Undo__tally_compare_V slices_BinarySearchFunc_Sl_api_Undo_api_Undo_api_Undo__tally_compare_Y Try.f77 slices_BinarySearchFunc_Sl_api_Undo_api_Undo_api_Undo__tally_compare_T.ps slices_BinarySearchFunc_Sl_api_Undo_api_Undo_api_Undo__tally_compare_T.res = slices_BinarySearchFunc_Sl_api_Undo_api_Undo_api_Undo__tally_compare_T.fn := by kernel_rfl
theorem slices_BinarySearchFunc_Sl_api_Undo_api_Undo_api_Undo__tally_compare_Fok : SoundP Try.prog G0 77 slices_BinarySearchFunc_Sl_api_Undo_api_Undo_api_Undo__tally_compare_F := closeF_sound (runF_sound (P := Try.prog) (E := slices_BinarySearchFunc_Sl_api_Undo_api_Undo_api_Undo__tally_compare_E) (h := slices_BinarySearchFunc_Sl_api_Undo_api_Undo_api_Undo__tally_compare_H) (f := 77) (fn := Try.f77) ⟨same_ok, (envP_cons tally_compare_Fok envP_nil), envS_nil, envP_nil, envX_nil⟩ Try.func77 rfl (by kernel_rfl))
theorem slices_BinarySearchFunc_Sl_api_Undo_api_Undo_api_Undo__tally_compare_ok : TOk slices_BinarySearchFunc_Sl_api_Undo_api_Undo_api_Undo__tally_compare_F slices_BinarySearchFunc_Sl_api_Undo_api_Undo_api_Undo__tally_compare_T := runY_ok (E := slices_BinarySearchFunc_Sl_api_Undo_api_Undo_api_Undo__tally_compare_E) (ET := slices_BinarySearchFunc_Sl_api_Undo_api_Undo_api_Undo__tally_compare_V) (EnvT.ofX (E := slices_BinarySearchFunc_Sl_api_Undo_api_Undo_api_Undo__tally_compare_E) (ET := slices_BinarySearchFunc_Sl_api_Undo_api_Undo_api_Undo__tally_compare_V) (pure_of (pairs_cons tally_compare_ok pairs_nil)) looks_nil raws_nil G0_ok news_nil) slices_BinarySearchFunc_Sl_api_Undo_api_Undo_api_Undo__tally_compare_eq rfl
-- palinode/tally.at
noncomputable def tally_at_E : Env := { pure := [(77, slices_BinarySearchFunc_Sl_api_Undo_api_Undo_api_Undo__tally_compare_F)], raw := [], glob := G0, same := [], look := [], ext := [] }
def tally_at_H : Hints := { seqs := [], loops := [], own := [] }
noncomputable def tally_at_F : PFn := closeF (runF Try.prog tally_at_E tally_at_H Try.f51)
def tally_at_Y : TH := { joins := [], loops := [], cuts := [], ro := [3], news := [] }
noncomputable def tally_at (a0 : List ((Int × Int × Unit) × Int × Unit)) (a1 : (Int × Int × Unit)) : Option (Int × Bool × Unit) :=
(slices_BinarySearchFunc_Sl_api_Undo_api_Undo_api_Undo__tally_compare a0 (a1, 0, ()) ()).bind fun r1 =>
 some (r1.1, r1.2.1, ())
noncomputable def tally_at_T : TFn := { ps := (.cons (.sl (.agg (.cons (.agg (.cons (.int .i64) (.cons (.int .i64) .unit))) (.cons (.int .i64) .unit)))) (.cons (.agg (.cons (.int .i64) (.cons (.int .i64) .unit))) .unit)), res := (.tup (.cons (.int .i64) (.cons .bool .unit))), fn := fun v => tally_at v.1 v.2.1 }
noncomputable def tally_at_V : TEnv := { pure := [(77, slices_BinarySearchFunc_Sl_api_Undo_api_Undo_api_Undo__tally_compare_T)], look := [], glob := G0T, ty := [], raw := [], fresh := [] }
theorem tally_at_eq : runY Try.prog tally_at_E tally_at_H tally_at_V tally_at_Y Try.f51 tally_at_T.ps tally_at_T.res = tally_at_T.fn := by kernel_rfl
theorem tally_at_Fok : SoundP Try.prog G0 51 tally_at_F := closeF_sound (runF_sound (P := Try.prog) (E := tally_at_E) (h := tally_at_H) (f := 51) (fn := Try.f51) ⟨same_ok, (envP_cons slices_BinarySearchFunc_Sl_api_Undo_api_Undo_api_Undo__tally_compare_Fok envP_nil), envS_nil, envP_nil, envX_nil⟩ Try.func51 rfl (by kernel_rfl))
theorem tally_at_ok : TOk tally_at_F tally_at_T := runY_ok (E := tally_at_E) (ET := tally_at_V) (EnvT.ofX (E := tally_at_E) (ET := tally_at_V) (pure_of (pairs_cons slices_BinarySearchFunc_Sl_api_Undo_api_Undo_api_Undo__tally_compare_ok pairs_nil)) looks_nil raws_nil G0_ok news_nil) tally_at_eq rfl
-- palinode/tally.Get
noncomputable def tally_Get_E : Env := { pure := [(51, tally_at_F)], raw := [], glob := G0, same := [], look := [], ext := [] }
def tally_Get_H : Hints := { seqs := [], loops := [], own := [] }
noncomputable def tally_Get_F : PFn := closeF (runF Try.prog tally_Get_E tally_Get_H Try.f36)
def tally_Get_Y : TH := { joins := [], loops := [], cuts := [], ro := [3], news := [] }
noncomputable def tally_Get (a0 : List ((Int × Int × Unit) × Int × Unit)) (a1 : (Int × Int × Unit)) : Option Int :=
(tally_at a0 a1).bind fun r1 =>
 cond r1.2.1 (
(atI a0 r1.1).bind fun x2 =>
 some x2.2.1) (
 some 0)
noncomputable def tally_Get_T : TFn := { ps := (.cons (.sl (.agg (.cons (.agg (.cons (.int .i64) (.cons (.int .i64) .unit))) (.cons (.int .i64) .unit)))) (.cons (.agg (.cons (.int .i64) (.cons (.int .i64) .unit))) .unit)), res := (.int .i64), fn := fun v => tally_Get v.1 v.2.1 }
noncomputable def tally_Get_V : TEnv := { pure := [(51, tally_at_T)], look := [], glob := G0T, ty := [], raw := [], fresh := [] }
theorem tally_Get_eq : runY Try.prog tally_Get_E tally_Get_H tally_Get_V tally_Get_Y Try.f36 tally_Get_T.ps tally_Get_T.res = tally_Get_T.fn := by kernel_rfl
theorem tally_Get_Fok : SoundP Try.prog G0 36 tally_Get_F := closeF_sound (runF_sound (P := Try.prog) (E := tally_Get_E) (h := tally_Get_H) (f := 36) (fn := Try.f36) ⟨same_ok, (envP_cons tally_at_Fok envP_nil), envS_nil, envP_nil, envX_nil⟩ Try.func36 rfl (by kernel_rfl))
theorem tally_Get_ok : TOk tally_Get_F tally_Get_T := runY_ok (E := tally_Get_E) (ET := tally_Get_V) (EnvT.ofX (E := tally_Get_E) (ET := tally_Get_V) (pure_of (pairs_cons tally_at_ok pairs_nil)) looks_nil raws_nil G0_ok news_nil) tally_Get_eq rfl
-- palinode/tally.Seen
noncomputable def tally_Seen_E : Env := { pure := [(36, tally_Get_F)], raw := [], glob := G0, same := [], look := [], ext := [] }
def tally_Seen_H : Hints := { seqs := [], loops := [], own := [] }
noncomputable def tally_Seen_F : PFn := closeF (runF Try.prog tally_Seen_E tally_Seen_H Try.f20)
def tally_Seen_Y : TH := { joins := [], loops := [], cuts := [], ro := [3], news := [] }
noncomputable def tally_Seen (a0 : List ((Int × Int × Unit) × Int × Unit)) (a1 : (Int × Int × Unit)) : Option Bool :=
(tally_Get a0 a1).bind fun r1 =>
(remT r1 2).bind fun t2 =>
 some (decide (t2 = 0))
noncomputable def tally_Seen_T : TFn := { ps := (.cons (.sl (.agg (.cons (.agg (.cons (.int .i64) (.cons (.int .i64) .unit))) (.cons (.int .i64) .unit)))) (.cons (.agg (.cons (.int .i64) (.cons (.int .i64) .unit))) .unit)), res := .bool, fn := fun v => tally_Seen v.1 v.2.1 }
noncomputable def tally_Seen_V : TEnv := { pure := [(36, tally_Get_T)], look := [], glob := G0T, ty := [], raw := [], fresh := [] }
theorem tally_Seen_eq : runY Try.prog tally_Seen_E tally_Seen_H tally_Seen_V tally_Seen_Y Try.f20 tally_Seen_T.ps tally_Seen_T.res = tally_Seen_T.fn := by kernel_rfl
theorem tally_Seen_Fok : SoundP Try.prog G0 20 tally_Seen_F := closeF_sound (runF_sound (P := Try.prog) (E := tally_Seen_E) (h := tally_Seen_H) (f := 20) (fn := Try.f20) ⟨same_ok, (envP_cons tally_Get_Fok envP_nil), envS_nil, envP_nil, envX_nil⟩ Try.func20 rfl (by kernel_rfl))
theorem tally_Seen_ok : TOk tally_Seen_F tally_Seen_T := runY_ok (E := tally_Seen_E) (ET := tally_Seen_V) (EnvT.ofX (E := tally_Seen_E) (ET := tally_Seen_V) (pure_of (pairs_cons tally_Get_ok pairs_nil)) looks_nil raws_nil G0_ok news_nil) tally_Seen_eq rfl
-- palinode/live.covered
noncomputable def live_covered_E : Env := { pure := [(20, tally_Seen_F)], raw := [], glob := G0, same := [], look := [], ext := [] }
def live_covered_H : Hints := { seqs := [], loops := [(3, [1, 5, 13, 14, 15]), (7, [1, 5, 13, 14, 15, 25, 26, 27]), (10, [1, 5, 13, 14, 15, 25, 26, 27, 32, 33, 34])], own := [] }
noncomputable def live_covered_S : SFn := runF Try.prog live_covered_E live_covered_H Try.f19
def live_covered_Y : TH := { joins := [], loops := [(3, { keep := [(5, (.mp 0)), (15, (.int .i64))], mem := [.map (.agg (.cons (.agg (.cons (.int .i64) (.cons (.int .i64) .unit))) (.cons (.int .i64) .unit))) .bool] }), (7, { keep := [(5, (.mp 0)), (27, (.int .i64))], mem := [.map (.agg (.cons (.agg (.cons (.int .i64) (.cons (.int .i64) .unit))) (.cons (.int .i64) .unit))) .bool, .gone] }), (10, { keep := [(5, (.mp 0)), (34, (.int .i64))], mem := [.map (.agg (.cons (.agg (.cons (.int .i64) (.cons (.int .i64) .unit))) (.cons (.int .i64) .unit))) .bool, .gone, .gone] })], cuts := [], ro := [], news := [] }
noncomputable def live_covered_l10 (y7 : (Int × List (((Int × Int × Unit) × Int × Unit) × Bool) × Unit)) (x3 : (Int × List (List UInt8) × (Int × Int × List UInt8 × Unit) × Int × List ((Int × Int × Unit) × Int × Unit) × Unit)) (y10 : (Int × List (((Int × Int × Unit) × Int × Unit) × Bool) × Unit)) : Option ((Int × List (((Int × Int × Unit) × Int × Unit) × Bool) × Unit) ⊕ ((Int × List (((Int × Int × Unit) × Int × Unit) × Bool) × Unit) ⊕ ((Int × List (((Int × Int × Unit) × Int × Unit) × Bool) × Unit) ⊕ (List (((Int × Int × Unit) × Int × Unit) × Bool))))) :=
 cond (decide (y10.1 < (x3.2.2.2.2.1.length : Int))) (
(atI x3.2.2.2.2.1 y10.1).bind fun x4 =>
 some (.inl ((IntKind.wrap .i64 (y10.1 + 1)), (putK (.agg (.cons (.agg (.cons (.int .i64) (.cons (.int .i64) .unit))) (.cons (.int .i64) .unit))) x4 true y10.2.1), ()))) (
 some (.inr (.inl ((IntKind.wrap .i64 (y7.1 + 1)), y10.2.1, ()))))
noncomputable def live_covered_l7 (y3 : (Int × List (((Int × Int × Unit) × Int × Unit) × Bool) × Unit)) (x1 : ((Int × Int × Unit) × Int × Int × Bool × List (Int × List (List UInt8) × (Int × Int × List UInt8 × Unit) × Int × List ((Int × Int × Unit) × Int × Unit) × Unit) × Unit)) (y7 : (Int × List (((Int × Int × Unit) × Int × Unit) × Bool) × Unit)) : Option ((Int × List (((Int × Int × Unit) × Int × Unit) × Bool) × Unit) ⊕ ((Int × List (((Int × Int × Unit) × Int × Unit) × Bool) × Unit) ⊕ (List (((Int × Int × Unit) × Int × Unit) × Bool)))) :=
 cond (decide (y7.1 < (x1.2.2.2.2.1.length : Int))) (
(atI x1.2.2.2.2.1 y7.1).bind fun x3 =>
 loopT (live_covered_l10 y7 x3) (0, y7.2.1, ())) (
 some (.inr (.inl ((IntKind.wrap .i64 (y3.1 + 1)), y7.2.1, ()))))
noncomputable def live_covered_l3 (a0 : List ((Int × Int × Unit) × Int × Int × Bool × List (Int × List (List UInt8) × (Int × Int × List UInt8 × Unit) × Int × List ((Int × Int × Unit) × Int × Unit) × Unit) × Unit)) (a1 : List ((Int × Int × Unit) × Int × Unit)) (y3 : (Int × List (((Int × Int × Unit) × Int × Unit) × Bool) × Unit)) : Option ((Int × List (((Int × Int × Unit) × Int × Unit) × Bool) × Unit) ⊕ (List (((Int × Int × Unit) × Int × Unit) × Bool))) :=
 cond (decide (y3.1 < (a0.length : Int))) (
(atI a0 y3.1).bind fun x1 =>
(tally_Seen a1 x1.1).bind fun r2 =>
 cond (!r2) (
 some (.inl ((IntKind.wrap .i64 (y3.1 + 1)), y3.2.1, ()))) (
 loopT (live_covered_l7 y3 x1) (0, y3.2.1, ()))) (
 some (.inr y3.2.1))
noncomputable def live_covered (a0 : List ((Int × Int × Unit) × Int × Int × Bool × List (Int × List (List UInt8) × (Int × Int × List UInt8 × Unit) × Int × List ((Int × Int × Unit) × Int × Unit) × Unit) × Unit)) (a1 : List ((Int × Int × Unit) × Int × Unit)) : Option (List (((Int × Int × Unit) × Int × Unit) × Bool)) :=
 loopT (live_covered_l3 a0 a1) (0, [], ())
noncomputable def live_covered_N : TNew := { ps := (.cons (.sl (.agg (.cons (.agg (.cons (.int .i64) (.cons (.int .i64) .unit))) (.cons (.int .i64) (.cons (.int .i64) (.cons .bool (.cons (.sl (.agg (.cons (.int .i64) (.cons (.sl .str) (.cons (.agg (.cons (.int .i64) (.cons (.int .i64) (.cons .str .unit)))) (.cons (.int .i64) (.cons (.sl (.agg (.cons (.agg (.cons (.int .i64) (.cons (.int .i64) .unit))) (.cons (.int .i64) .unit)))) .unit))))))) .unit))))))) (.cons (.sl (.agg (.cons (.agg (.cons (.int .i64) (.cons (.int .i64) .unit))) (.cons (.int .i64) .unit)))) .unit)), e := 55, t := (.sl (.cons (.agg (.cons (.agg (.cons (.int .i64) (.cons (.int .i64) .unit))) (.cons (.int .i64) .unit))) .bool)), fn := fun v => live_covered v.1 v.2.1, mp := true }
noncomputable def live_covered_V : TEnv := { pure := [(20, tally_Seen_T)], look := [], glob := G0T, ty := [(4, .bool), (59, (.agg (.cons (.agg (.cons (.int .i64) (.cons (.int .i64) .unit))) (.cons (.int .i64) .unit))))], raw := [], fresh := [] }
theorem live_covered_eq : newMY Try.prog live_covered_E live_covered_H live_covered_V live_covered_Y Try.f19 live_covered_N.ps (.agg (.cons (.agg (.cons (.int .i64) (.cons (.int .i64) .unit))) (.cons (.int .i64) .unit))) .bool = live_covered_N.fn := by kernel_rfl
theorem live_covered_Sok : SoundS Try.prog G0 19 live_covered_S := runF_sound (P := Try.prog) (E := live_covered_E) (h := live_covered_H) (f := 19) (fn := Try.f19) ⟨same_ok, (envP_cons tally_Seen_Fok envP_nil), envS_nil, envP_nil, envX_nil⟩ Try.func19 rfl (by kernel_rfl)
theorem live_covered_ok : TNewOk live_covered_S live_covered_N := newMY_ok (E := live_covered_E) (ET := live_covered_V) (EnvT.ofX (E := live_covered_E) (ET := live_covered_V) (pure_of (pairs_cons tally_Seen_ok pairs_nil)) looks_nil raws_nil G0_ok news_nil) live_covered_eq
-- palinode/live.All
noncomputable def live_All_E : Env := { pure := [(20, tally_Seen_F)], raw := [(19, live_covered_S)], glob := G0, same := [], look := [], ext := [] }
def live_All_H : Hints := { seqs := [], loops := [(4, [1, 5, 6, 15, 16, 17]), (8, [1, 5, 6, 8, 15, 16, 17, 27, 28, 29])], own := [] }
noncomputable def live_All_F : PFn := closeF (runF Try.prog live_All_E live_All_H Try.f7)
def live_All_Y : TH := { joins := [], loops := [(4, { keep := [(5, (.mp 0)), (6, (.own 4)), (17, (.int .i64))], mem := [.map (.agg (.cons (.agg (.cons (.int .i64) (.cons (.int .i64) .unit))) (.cons (.int .i64) .unit))) .bool, .gone, .gone, .gone, .row true 61 (.agg (.cons (.agg (.cons (.agg (.cons (.int .i64) (.cons (.int .i64) .unit))) (.cons (.int .i64) .unit))) (.cons (.agg (.cons (.int .i64) (.cons (.sl .str) (.cons (.agg (.cons (.int .i64) (.cons (.int .i64) (.cons .str .unit)))) (.cons (.int .i64) (.cons (.sl (.agg (.cons (.agg (.cons (.int .i64) (.cons (.int .i64) .unit))) (.cons (.int .i64) .unit)))) .unit)))))) (.cons (.int .i64) .unit))))] }), (8, { keep := [(5, (.mp 0)), (6, (.own 4)), (8, (.bx 5 0)), (29, (.int .i64))], mem := [.map (.agg (.cons (.agg (.cons (.int .i64) (.cons (.int .i64) .unit))) (.cons (.int .i64) .unit))) .bool, .gone, .gone, .gone, .row true 61 (.agg (.cons (.agg (.cons (.agg (.cons (.int .i64) (.cons (.int .i64) .unit))) (.cons (.int .i64) .unit))) (.cons (.agg (.cons (.int .i64) (.cons (.sl .str) (.cons (.agg (.cons (.int .i64) (.cons (.int .i64) (.cons .str .unit)))) (.cons (.int .i64) (.cons (.sl (.agg (.cons (.agg (.cons (.int .i64) (.cons (.int .i64) .unit))) (.cons (.int .i64) .unit)))) .unit)))))) (.cons (.int .i64) .unit)))), .box 53 (.agg (.cons (.agg (.cons (.int .i64) (.cons (.int .i64) .unit))) (.cons (.int .i64) (.cons (.int .i64) (.cons .bool (.cons (.sl (.agg (.cons (.int .i64) (.cons (.sl .str) (.cons (.agg (.cons (.int .i64) (.cons (.int .i64) (.cons .str .unit)))) (.cons (.int .i64) (.cons (.sl (.agg (.cons (.agg (.cons (.int .i64) (.cons (.int .i64) .unit))) (.cons (.int .i64) .unit)))) .unit))))))) .unit))))))] })], cuts := [], ro := [], news := [] }
noncomputable def live_All_l8 (y4 : (Int × List (((Int × Int × Unit) × Int × Unit) × Bool) × List (((Int × Int × Unit) × Int × Unit) × (Int × List (List UInt8) × (Int × Int × List UInt8 × Unit) × Int × List ((Int × Int × Unit) × Int × Unit) × Unit) × Int × Unit) × Unit)) (x2 : ((Int × Int × Unit) × Int × Int × Bool × List (Int × List (List UInt8) × (Int × Int × List UInt8 × Unit) × Int × List ((Int × Int × Unit) × Int × Unit) × Unit) × Unit)) (y8 : (Int × List (((Int × Int × Unit) × Int × Unit) × Bool) × List (((Int × Int × Unit) × Int × Unit) × (Int × List (List UInt8) × (Int × Int × List UInt8 × Unit) × Int × List ((Int × Int × Unit) × Int × Unit) × Unit) × Int × Unit) × ((Int × Int × Unit) × Int × Int × Bool × List (Int × List (List UInt8) × (Int × Int × List UInt8 × Unit) × Int × List ((Int × Int × Unit) × Int × Unit) × Unit) × Unit) × Unit)) : Option ((Int × List (((Int × Int × Unit) × Int × Unit) × Bool) × List (((Int × Int × Unit) × Int × Unit) × (Int × List (List UInt8) × (Int × Int × List UInt8 × Unit) × Int × List ((Int × Int × Unit) × Int × Unit) × Unit) × Int × Unit) × ((Int × Int × Unit) × Int × Int × Bool × List (Int × List (List UInt8) × (Int × Int × List UInt8 × Unit) × Int × List ((Int × Int × Unit) × Int × Unit) × Unit) × Unit) × Unit) ⊕ ((Int × List (((Int × Int × Unit) × Int × Unit) × Bool) × List (((Int × Int × Unit) × Int × Unit) × (Int × List (List UInt8) × (Int × Int × List UInt8 × Unit) × Int × List ((Int × Int × Unit) × Int × Unit) × Unit) × Int × Unit) × Unit) ⊕ List (((Int × Int × Unit) × Int × Unit) × (Int × List (List UInt8) × (Int × Int × List UInt8 × Unit) × Int × List ((Int × Int × Unit) × Int × Unit) × Unit) × Int × Unit))) :=
 cond (decide (y8.1 < (x2.2.2.2.2.1.length : Int))) (
(atI x2.2.2.2.2.1 y8.1).bind fun x4 =>
 cond (decide (x4.1 = 1)) (cond (!((getK (.agg (.cons (.agg (.cons (.int .i64) (.cons (.int .i64) .unit))) (.cons (.int .i64) .unit))) false (y8.2.2.2.1.1, y8.1, ()) y8.2.1).1)) (
(roomT (y8.2.2.1.length + ([((y8.2.2.2.1.1, y8.1, ()), x4, y8.2.2.2.1.2.2.1, ())] : List (((Int × Int × Unit) × Int × Unit) × (Int × List (List UInt8) × (Int × Int × List UInt8 × Unit) × Int × List ((Int × Int × Unit) × Int × Unit) × Unit) × Int × Unit)).length)).bind fun u5 =>
 some (.inl ((IntKind.wrap .i64 (y8.1 + 1)), y8.2.1, (y8.2.2.1 ++ ([((y8.2.2.2.1.1, y8.1, ()), x4, y8.2.2.2.1.2.2.1, ())] : List (((Int × Int × Unit) × Int × Unit) × (Int × List (List UInt8) × (Int × Int × List UInt8 × Unit) × Int × List ((Int × Int × Unit) × Int × Unit) × Unit) × Int × Unit))), y8.2.2.2.1, ()))) (
 some (.inl ((IntKind.wrap .i64 (y8.1 + 1)), y8.2.1, y8.2.2.1, y8.2.2.2.1, ())))) (cond (decide (x4.1 = 2)) (cond (!((getK (.agg (.cons (.agg (.cons (.int .i64) (.cons (.int .i64) .unit))) (.cons (.int .i64) .unit))) false (y8.2.2.2.1.1, y8.1, ()) y8.2.1).1)) (
(roomT (y8.2.2.1.length + ([((y8.2.2.2.1.1, y8.1, ()), x4, y8.2.2.2.1.2.2.1, ())] : List (((Int × Int × Unit) × Int × Unit) × (Int × List (List UInt8) × (Int × Int × List UInt8 × Unit) × Int × List ((Int × Int × Unit) × Int × Unit) × Unit) × Int × Unit)).length)).bind fun u6 =>
 some (.inl ((IntKind.wrap .i64 (y8.1 + 1)), y8.2.1, (y8.2.2.1 ++ ([((y8.2.2.2.1.1, y8.1, ()), x4, y8.2.2.2.1.2.2.1, ())] : List (((Int × Int × Unit) × Int × Unit) × (Int × List (List UInt8) × (Int × Int × List UInt8 × Unit) × Int × List ((Int × Int × Unit) × Int × Unit) × Unit) × Int × Unit))), y8.2.2.2.1, ()))) (
 some (.inl ((IntKind.wrap .i64 (y8.1 + 1)), y8.2.1, y8.2.2.1, y8.2.2.2.1, ())))) (cond (decide (x4.1 = 3)) (cond (!((getK (.agg (.cons (.agg (.cons (.int .i64) (.cons (.int .i64) .unit))) (.cons (.int .i64) .unit))) false (y8.2.2.2.1.1, y8.1, ()) y8.2.1).1)) (
(roomT (y8.2.2.1.length + ([((y8.2.2.2.1.1, y8.1, ()), x4, y8.2.2.2.1.2.2.1, ())] : List (((Int × Int × Unit) × Int × Unit) × (Int × List (List UInt8) × (Int × Int × List UInt8 × Unit) × Int × List ((Int × Int × Unit) × Int × Unit) × Unit) × Int × Unit)).length)).bind fun u7 =>
 some (.inl ((IntKind.wrap .i64 (y8.1 + 1)), y8.2.1, (y8.2.2.1 ++ ([((y8.2.2.2.1.1, y8.1, ()), x4, y8.2.2.2.1.2.2.1, ())] : List (((Int × Int × Unit) × Int × Unit) × (Int × List (List UInt8) × (Int × Int × List UInt8 × Unit) × Int × List ((Int × Int × Unit) × Int × Unit) × Unit) × Int × Unit))), y8.2.2.2.1, ()))) (
 some (.inl ((IntKind.wrap .i64 (y8.1 + 1)), y8.2.1, y8.2.2.1, y8.2.2.2.1, ())))) (some (.inl ((IntKind.wrap .i64 (y8.1 + 1)), y8.2.1, y8.2.2.1, y8.2.2.2.1, ())))))) (
 some (.inr (.inl ((IntKind.wrap .i64 (y4.1 + 1)), y8.2.1, y8.2.2.1, ()))))
noncomputable def live_All_l4 (a0 : List ((Int × Int × Unit) × Int × Int × Bool × List (Int × List (List UInt8) × (Int × Int × List UInt8 × Unit) × Int × List ((Int × Int × Unit) × Int × Unit) × Unit) × Unit)) (a1 : List ((Int × Int × Unit) × Int × Unit)) (y4 : (Int × List (((Int × Int × Unit) × Int × Unit) × Bool) × List (((Int × Int × Unit) × Int × Unit) × (Int × List (List UInt8) × (Int × Int × List UInt8 × Unit) × Int × List ((Int × Int × Unit) × Int × Unit) × Unit) × Int × Unit) × Unit)) : Option ((Int × List (((Int × Int × Unit) × Int × Unit) × Bool) × List (((Int × Int × Unit) × Int × Unit) × (Int × List (List UInt8) × (Int × Int × List UInt8 × Unit) × Int × List ((Int × Int × Unit) × Int × Unit) × Unit) × Int × Unit) × Unit) ⊕ List (((Int × Int × Unit) × Int × Unit) × (Int × List (List UInt8) × (Int × Int × List UInt8 × Unit) × Int × List ((Int × Int × Unit) × Int × Unit) × Unit) × Int × Unit)) :=
 cond (decide (y4.1 < (a0.length : Int))) (
(atI a0 y4.1).bind fun x2 =>
(tally_Seen a1 x2.1).bind fun r3 =>
 cond (!r3) (
 some (.inl ((IntKind.wrap .i64 (y4.1 + 1)), y4.2.1, y4.2.2.1, ()))) (
 loopT (live_All_l8 y4 x2) (0, y4.2.1, y4.2.2.1, x2, ()))) (
 some (.inr y4.2.2.1))
noncomputable def live_All (a0 : List ((Int × Int × Unit) × Int × Int × Bool × List (Int × List (List UInt8) × (Int × Int × List UInt8 × Unit) × Int × List ((Int × Int × Unit) × Int × Unit) × Unit) × Unit)) (a1 : List ((Int × Int × Unit) × Int × Unit)) : Option (List (((Int × Int × Unit) × Int × Unit) × (Int × List (List UInt8) × (Int × Int × List UInt8 × Unit) × Int × List ((Int × Int × Unit) × Int × Unit) × Unit) × Int × Unit)) :=
(live_covered a0 a1).bind fun n1 =>
 loopT (live_All_l4 a0 a1) (0, n1, [], ())
noncomputable def live_All_T : TFn := { ps := (.cons (.sl (.agg (.cons (.agg (.cons (.int .i64) (.cons (.int .i64) .unit))) (.cons (.int .i64) (.cons (.int .i64) (.cons .bool (.cons (.sl (.agg (.cons (.int .i64) (.cons (.sl .str) (.cons (.agg (.cons (.int .i64) (.cons (.int .i64) (.cons .str .unit)))) (.cons (.int .i64) (.cons (.sl (.agg (.cons (.agg (.cons (.int .i64) (.cons (.int .i64) .unit))) (.cons (.int .i64) .unit)))) .unit))))))) .unit))))))) (.cons (.sl (.agg (.cons (.agg (.cons (.int .i64) (.cons (.int .i64) .unit))) (.cons (.int .i64) .unit)))) .unit)), res := (.sl (.agg (.cons (.agg (.cons (.agg (.cons (.int .i64) (.cons (.int .i64) .unit))) (.cons (.int .i64) .unit))) (.cons (.agg (.cons (.int .i64) (.cons (.sl .str) (.cons (.agg (.cons (.int .i64) (.cons (.int .i64) (.cons .str .unit)))) (.cons (.int .i64) (.cons (.sl (.agg (.cons (.agg (.cons (.int .i64) (.cons (.int .i64) .unit))) (.cons (.int .i64) .unit)))) .unit)))))) (.cons (.int .i64) .unit))))), fn := fun v => live_All v.1 v.2.1 }
noncomputable def live_All_V : TEnv := { pure := [(20, tally_Seen_T)], look := [], glob := G0T, ty := [(61, (.agg (.cons (.agg (.cons (.agg (.cons (.int .i64) (.cons (.int .i64) .unit))) (.cons (.int .i64) .unit))) (.cons (.agg (.cons (.int .i64) (.cons (.sl .str) (.cons (.agg (.cons (.int .i64) (.cons (.int .i64) (.cons .str .unit)))) (.cons (.int .i64) (.cons (.sl (.agg (.cons (.agg (.cons (.int .i64) (.cons (.int .i64) .unit))) (.cons (.int .i64) .unit)))) .unit)))))) (.cons (.int .i64) .unit)))))], raw := [], fresh := [(19, live_covered_N)] }
theorem live_All_eq : runY Try.prog live_All_E live_All_H live_All_V live_All_Y Try.f7 live_All_T.ps live_All_T.res = live_All_T.fn := by kernel_rfl
theorem live_All_Fok : SoundP Try.prog G0 7 live_All_F := closeF_sound (runF_sound (P := Try.prog) (E := live_All_E) (h := live_All_H) (f := 7) (fn := Try.f7) ⟨same_ok, (envP_cons tally_Seen_Fok envP_nil), (envS_cons live_covered_Sok envS_nil), envP_nil, envX_nil⟩ Try.func7 rfl (by kernel_rfl))
theorem live_All_ok : TOk live_All_F live_All_T := runY_ok (E := live_All_E) (ET := live_All_V) (EnvT.ofX (E := live_All_E) (ET := live_All_V) (pure_of (pairs_cons tally_Seen_ok pairs_nil)) looks_nil (raws_more raws_nil rfl) G0_ok (news_cons live_covered_ok rfl rfl rfl news_nil)) live_All_eq rfl
-- palinode/op.Leaf
noncomputable def op_Leaf_E : Env := { pure := [], raw := [], glob := G0, same := [], look := [], ext := [] }
def op_Leaf_H : Hints := { seqs := [], loops := [], own := [] }
noncomputable def op_Leaf_F : PFn := closeF (runF Try.prog op_Leaf_E op_Leaf_H Try.f22)
def op_Leaf_Y : TH := { joins := [(6, { keep := [(6, .bool)], mem := [] })], loops := [], cuts := [], ro := [], news := [] }
noncomputable def op_Leaf (a0 : Int) : Option Int :=
 cond (decide (a0 = 1)) (
 some 1) (
(cond (decide (a0 = 2)) (
 some (.inl ((decide (a0 = 2)), ()))) (
 some (.inl ((decide (a0 = 4)), ()))) : Option ((Bool × Unit) ⊕ Int)).bind (joinS fun v1 =>
 cond v1.1 (
 some 2) (
 cond (decide (a0 = 3)) (
 some 3) (
 some 0))))
noncomputable def op_Leaf_T : TFn := { ps := (.cons (.int .i64) .unit), res := (.int .i64), fn := fun v => op_Leaf v.1 }
noncomputable def op_Leaf_V : TEnv := { pure := [], look := [], glob := G0T, ty := [], raw := [], fresh := [] }
theorem op_Leaf_eq : runY Try.prog op_Leaf_E op_Leaf_H op_Leaf_V op_Leaf_Y Try.f22 op_Leaf_T.ps op_Leaf_T.res = op_Leaf_T.fn := by kernel_rfl
theorem op_Leaf_Fok : SoundP Try.prog G0 22 op_Leaf_F := closeF_sound (runF_sound (P := Try.prog) (E := op_Leaf_E) (h := op_Leaf_H) (f := 22) (fn := Try.f22) ⟨same_ok, envP_nil, envS_nil, envP_nil, envX_nil⟩ Try.func22 rfl (by kernel_rfl))
theorem op_Leaf_ok : TOk op_Leaf_F op_Leaf_T := runY_ok (E := op_Leaf_E) (ET := op_Leaf_V) (EnvT.ofX (E := op_Leaf_E) (ET := op_Leaf_V) (pure_of pairs_nil) looks_nil raws_nil G0_ok news_nil) op_Leaf_eq rfl
-- slices.Equal[[]string,string]
noncomputable def slices_Equal_Sl_string_string_E : Env := { pure := [], raw := [], glob := G0, same := [], look := [], ext := [] }
def slices_Equal_Sl_string_string_H : Hints := { seqs := [], loops := [(4, [0, 1, 12, 13])], own := [] }
noncomputable def slices_Equal_Sl_string_string_F : PFn := closeF (runF Try.prog slices_Equal_Sl_string_string_E slices_Equal_Sl_string_string_H Try.f44)
def slices_Equal_Sl_string_string_Y : TH := { joins := [], loops := [(4, { keep := [(13, (.int .i64))], mem := [] })], cuts := [], ro := [], news := [] }
noncomputable def slices_Equal_Sl_string_string_l4 (a0 : List (List UInt8)) (a1 : List (List UInt8)) (y4 : (Int × Unit)) : Option ((Int × Unit) ⊕ Bool) :=
 cond (decide (y4.1 < (a0.length : Int))) (
(atI a0 y4.1).bind fun x1 =>
(atI a1 y4.1).bind fun x2 =>
 cond (!decide (x1 = x2)) (
 some (.inr false)) (
 some (.inl ((IntKind.wrap .i64 (y4.1 + 1)), ())))) (
 some (.inr true))
noncomputable def slices_Equal_Sl_string_string (a0 : List (List UInt8)) (a1 : List (List UInt8)) : Option Bool :=
 cond (!decide ((a0.length : Int) = (a1.length : Int))) (
 some false) (
 loopT (slices_Equal_Sl_string_string_l4 a0 a1) (0, ()))
noncomputable def slices_Equal_Sl_string_string_T : TFn := { ps := (.cons (.sl .str) (.cons (.sl .str) .unit)), res := .bool, fn := fun v => slices_Equal_Sl_string_string v.1 v.2.1 }
noncomputable def slices_Equal_Sl_string_string_V : TEnv := { pure := [], look := [], glob := G0T, ty := [], raw := [], fresh := [] }
theorem slices_Equal_Sl_string_string_eq : runY Try.prog slices_Equal_Sl_string_string_E slices_Equal_Sl_string_string_H slices_Equal_Sl_string_string_V slices_Equal_Sl_string_string_Y Try.f44 slices_Equal_Sl_string_string_T.ps slices_Equal_Sl_string_string_T.res = slices_Equal_Sl_string_string_T.fn := by kernel_rfl
theorem slices_Equal_Sl_string_string_Fok : SoundP Try.prog G0 44 slices_Equal_Sl_string_string_F := closeF_sound (runF_sound (P := Try.prog) (E := slices_Equal_Sl_string_string_E) (h := slices_Equal_Sl_string_string_H) (f := 44) (fn := Try.f44) ⟨same_ok, envP_nil, envS_nil, envP_nil, envX_nil⟩ Try.func44 rfl (by kernel_rfl))
theorem slices_Equal_Sl_string_string_ok : TOk slices_Equal_Sl_string_string_F slices_Equal_Sl_string_string_T := runY_ok (E := slices_Equal_Sl_string_string_E) (ET := slices_Equal_Sl_string_string_V) (EnvT.ofX (E := slices_Equal_Sl_string_string_E) (ET := slices_Equal_Sl_string_string_V) (pure_of pairs_nil) looks_nil raws_nil G0_ok news_nil) slices_Equal_Sl_string_string_eq rfl
-- palinode/path.Same
noncomputable def path_Same_E : Env := { pure := [(44, slices_Equal_Sl_string_string_F)], raw := [], glob := G0, same := [], look := [], ext := [] }
def path_Same_H : Hints := { seqs := [], loops := [], own := [] }
noncomputable def path_Same_F : PFn := closeF (runF Try.prog path_Same_E path_Same_H Try.f30)
def path_Same_Y : TH := { joins := [], loops := [], cuts := [], ro := [], news := [] }
noncomputable def path_Same (a0 : List (List UInt8)) (a1 : List (List UInt8)) : Option Bool :=
(slices_Equal_Sl_string_string a0 a1).bind fun r1 =>
 some r1
noncomputable def path_Same_T : TFn := { ps := (.cons (.sl .str) (.cons (.sl .str) .unit)), res := .bool, fn := fun v => path_Same v.1 v.2.1 }
noncomputable def path_Same_V : TEnv := { pure := [(44, slices_Equal_Sl_string_string_T)], look := [], glob := G0T, ty := [], raw := [], fresh := [] }
theorem path_Same_eq : runY Try.prog path_Same_E path_Same_H path_Same_V path_Same_Y Try.f30 path_Same_T.ps path_Same_T.res = path_Same_T.fn := by kernel_rfl
theorem path_Same_Fok : SoundP Try.prog G0 30 path_Same_F := closeF_sound (runF_sound (P := Try.prog) (E := path_Same_E) (h := path_Same_H) (f := 30) (fn := Try.f30) ⟨same_ok, (envP_cons slices_Equal_Sl_string_string_Fok envP_nil), envS_nil, envP_nil, envX_nil⟩ Try.func30 rfl (by kernel_rfl))
theorem path_Same_ok : TOk path_Same_F path_Same_T := runY_ok (E := path_Same_E) (ET := path_Same_V) (EnvT.ofX (E := path_Same_E) (ET := path_Same_V) (pure_of (pairs_cons slices_Equal_Sl_string_string_ok pairs_nil)) looks_nil raws_nil G0_ok news_nil) path_Same_eq rfl
-- palinode/live.At
noncomputable def live_At_E : Env := { pure := [(22, op_Leaf_F), (30, path_Same_F)], raw := [], glob := G0, same := [], look := [], ext := [] }
def live_At_H : Hints := { seqs := [], loops := [(3, [1, 2, 7, 10, 11, 12])], own := [] }
noncomputable def live_At_F : PFn := closeF (runF Try.prog live_At_E live_At_H Try.f12)
def live_At_Y : TH := { joins := [], loops := [(3, { keep := [(7, (.own 1)), (12, (.int .i64))], mem := [.gone, .row true 61 (.agg (.cons (.agg (.cons (.agg (.cons (.int .i64) (.cons (.int .i64) .unit))) (.cons (.int .i64) .unit))) (.cons (.agg (.cons (.int .i64) (.cons (.sl .str) (.cons (.agg (.cons (.int .i64) (.cons (.int .i64) (.cons .str .unit)))) (.cons (.int .i64) (.cons (.sl (.agg (.cons (.agg (.cons (.int .i64) (.cons (.int .i64) .unit))) (.cons (.int .i64) .unit)))) .unit)))))) (.cons (.int .i64) .unit))))] })], cuts := [], ro := [], news := [] }
noncomputable def live_At_l3 (a0 : List (((Int × Int × Unit) × Int × Unit) × (Int × List (List UInt8) × (Int × Int × List UInt8 × Unit) × Int × List ((Int × Int × Unit) × Int × Unit) × Unit) × Int × Unit)) (a1 : List (List UInt8)) (a2 : Int) (y3 : (Int × List (((Int × Int × Unit) × Int × Unit) × (Int × List (List UInt8) × (Int × Int × List UInt8 × Unit) × Int × List ((Int × Int × Unit) × Int × Unit) × Unit) × Int × Unit) × Unit)) : Option ((Int × List (((Int × Int × Unit) × Int × Unit) × (Int × List (List UInt8) × (Int × Int × List UInt8 × Unit) × Int × List ((Int × Int × Unit) × Int × Unit) × Unit) × Int × Unit) × Unit) ⊕ List (((Int × Int × Unit) × Int × Unit) × (Int × List (List UInt8) × (Int × Int × List UInt8 × Unit) × Int × List ((Int × Int × Unit) × Int × Unit) × Unit) × Int × Unit)) :=
 cond (decide (y3.1 < (a0.length : Int))) (
(atI a0 y3.1).bind fun x1 =>
(op_Leaf x1.2.1.1).bind fun r2 =>
 cond (decide (r2 = a2)) ((path_Same x1.2.1.2.1 a1).bind fun r3 =>
 cond r3 (
(roomT (y3.2.1.length + ([x1] : List (((Int × Int × Unit) × Int × Unit) × (Int × List (List UInt8) × (Int × Int × List UInt8 × Unit) × Int × List ((Int × Int × Unit) × Int × Unit) × Unit) × Int × Unit)).length)).bind fun u4 =>
 some (.inl ((IntKind.wrap .i64 (y3.1 + 1)), (y3.2.1 ++ ([x1] : List (((Int × Int × Unit) × Int × Unit) × (Int × List (List UInt8) × (Int × Int × List UInt8 × Unit) × Int × List ((Int × Int × Unit) × Int × Unit) × Unit) × Int × Unit))), ()))) (
 some (.inl ((IntKind.wrap .i64 (y3.1 + 1)), y3.2.1, ())))) (some (.inl ((IntKind.wrap .i64 (y3.1 + 1)), y3.2.1, ())))) (
 some (.inr y3.2.1))
noncomputable def live_At (a0 : List (((Int × Int × Unit) × Int × Unit) × (Int × List (List UInt8) × (Int × Int × List UInt8 × Unit) × Int × List ((Int × Int × Unit) × Int × Unit) × Unit) × Int × Unit)) (a1 : List (List UInt8)) (a2 : Int) : Option (List (((Int × Int × Unit) × Int × Unit) × (Int × List (List UInt8) × (Int × Int × List UInt8 × Unit) × Int × List ((Int × Int × Unit) × Int × Unit) × Unit) × Int × Unit)) :=
 loopT (live_At_l3 a0 a1 a2) (0, [], ())
noncomputable def live_At_T : TFn := { ps := (.cons (.sl (.agg (.cons (.agg (.cons (.agg (.cons (.int .i64) (.cons (.int .i64) .unit))) (.cons (.int .i64) .unit))) (.cons (.agg (.cons (.int .i64) (.cons (.sl .str) (.cons (.agg (.cons (.int .i64) (.cons (.int .i64) (.cons .str .unit)))) (.cons (.int .i64) (.cons (.sl (.agg (.cons (.agg (.cons (.int .i64) (.cons (.int .i64) .unit))) (.cons (.int .i64) .unit)))) .unit)))))) (.cons (.int .i64) .unit))))) (.cons (.sl .str) (.cons (.int .i64) .unit))), res := (.sl (.agg (.cons (.agg (.cons (.agg (.cons (.int .i64) (.cons (.int .i64) .unit))) (.cons (.int .i64) .unit))) (.cons (.agg (.cons (.int .i64) (.cons (.sl .str) (.cons (.agg (.cons (.int .i64) (.cons (.int .i64) (.cons .str .unit)))) (.cons (.int .i64) (.cons (.sl (.agg (.cons (.agg (.cons (.int .i64) (.cons (.int .i64) .unit))) (.cons (.int .i64) .unit)))) .unit)))))) (.cons (.int .i64) .unit))))), fn := fun v => live_At v.1 v.2.1 v.2.2.1 }
noncomputable def live_At_V : TEnv := { pure := [(22, op_Leaf_T), (30, path_Same_T)], look := [], glob := G0T, ty := [(61, (.agg (.cons (.agg (.cons (.agg (.cons (.int .i64) (.cons (.int .i64) .unit))) (.cons (.int .i64) .unit))) (.cons (.agg (.cons (.int .i64) (.cons (.sl .str) (.cons (.agg (.cons (.int .i64) (.cons (.int .i64) (.cons .str .unit)))) (.cons (.int .i64) (.cons (.sl (.agg (.cons (.agg (.cons (.int .i64) (.cons (.int .i64) .unit))) (.cons (.int .i64) .unit)))) .unit)))))) (.cons (.int .i64) .unit)))))], raw := [], fresh := [] }
theorem live_At_eq : runY Try.prog live_At_E live_At_H live_At_V live_At_Y Try.f12 live_At_T.ps live_At_T.res = live_At_T.fn := by kernel_rfl
theorem live_At_Fok : SoundP Try.prog G0 12 live_At_F := closeF_sound (runF_sound (P := Try.prog) (E := live_At_E) (h := live_At_H) (f := 12) (fn := Try.f12) ⟨same_ok, (envP_cons op_Leaf_Fok (envP_cons path_Same_Fok envP_nil)), envS_nil, envP_nil, envX_nil⟩ Try.func12 rfl (by kernel_rfl))
theorem live_At_ok : TOk live_At_F live_At_T := runY_ok (E := live_At_E) (ET := live_At_V) (EnvT.ofX (E := live_At_E) (ET := live_At_V) (pure_of (pairs_cons op_Leaf_ok (pairs_cons path_Same_ok pairs_nil))) looks_nil raws_nil G0_ok news_nil) live_At_eq rfl
-- palinode/path.Under
noncomputable def path_Under_E : Env := { pure := [(44, slices_Equal_Sl_string_string_F)], raw := [], glob := G0, same := [], look := [], ext := [] }
def path_Under_H : Hints := { seqs := [], loops := [], own := [] }
noncomputable def path_Under_F : PFn := closeF (runF Try.prog path_Under_E path_Under_H Try.f31)
def path_Under_Y : TH := { joins := [], loops := [], cuts := [], ro := [], news := [] }
noncomputable def path_Under (a0 : List (List UInt8)) (a1 : List (List UInt8)) : Option Bool :=
 cond (decide ((a0.length : Int) ≥ (a1.length : Int))) ((subI a0 0 (a1.length : Int)).bind fun s1 =>
(slices_Equal_Sl_string_string s1 a1).bind fun r2 =>
 some r2) (some false)
noncomputable def path_Under_T : TFn := { ps := (.cons (.sl .str) (.cons (.sl .str) .unit)), res := .bool, fn := fun v => path_Under v.1 v.2.1 }
noncomputable def path_Under_V : TEnv := { pure := [(44, slices_Equal_Sl_string_string_T)], look := [], glob := G0T, ty := [], raw := [], fresh := [] }
theorem path_Under_eq : runY Try.prog path_Under_E path_Under_H path_Under_V path_Under_Y Try.f31 path_Under_T.ps path_Under_T.res = path_Under_T.fn := by kernel_rfl
theorem path_Under_Fok : SoundP Try.prog G0 31 path_Under_F := closeF_sound (runF_sound (P := Try.prog) (E := path_Under_E) (h := path_Under_H) (f := 31) (fn := Try.f31) ⟨same_ok, (envP_cons slices_Equal_Sl_string_string_Fok envP_nil), envS_nil, envP_nil, envX_nil⟩ Try.func31 rfl (by kernel_rfl))
theorem path_Under_ok : TOk path_Under_F path_Under_T := runY_ok (E := path_Under_E) (ET := path_Under_V) (EnvT.ofX (E := path_Under_E) (ET := path_Under_V) (pure_of (pairs_cons slices_Equal_Sl_string_string_ok pairs_nil)) looks_nil raws_nil G0_ok news_nil) path_Under_eq rfl
-- palinode/live.Under
noncomputable def live_Under_E : Env := { pure := [(31, path_Under_F)], raw := [], glob := G0, same := [], look := [], ext := [] }
def live_Under_H : Hints := { seqs := [], loops := [(3, [1, 5, 8, 9, 10])], own := [] }
noncomputable def live_Under_F : PFn := closeF (runF Try.prog live_Under_E live_Under_H Try.f14)
def live_Under_Y : TH := { joins := [], loops := [(3, { keep := [(5, (.own 1)), (10, (.int .i64))], mem := [.gone, .row true 61 (.agg (.cons (.agg (.cons (.agg (.cons (.int .i64) (.cons (.int .i64) .unit))) (.cons (.int .i64) .unit))) (.cons (.agg (.cons (.int .i64) (.cons (.sl .str) (.cons (.agg (.cons (.int .i64) (.cons (.int .i64) (.cons .str .unit)))) (.cons (.int .i64) (.cons (.sl (.agg (.cons (.agg (.cons (.int .i64) (.cons (.int .i64) .unit))) (.cons (.int .i64) .unit)))) .unit)))))) (.cons (.int .i64) .unit))))] })], cuts := [], ro := [], news := [] }
noncomputable def live_Under_l3 (a0 : List (((Int × Int × Unit) × Int × Unit) × (Int × List (List UInt8) × (Int × Int × List UInt8 × Unit) × Int × List ((Int × Int × Unit) × Int × Unit) × Unit) × Int × Unit)) (a1 : List (List UInt8)) (y3 : (Int × List (((Int × Int × Unit) × Int × Unit) × (Int × List (List UInt8) × (Int × Int × List UInt8 × Unit) × Int × List ((Int × Int × Unit) × Int × Unit) × Unit) × Int × Unit) × Unit)) : Option ((Int × List (((Int × Int × Unit) × Int × Unit) × (Int × List (List UInt8) × (Int × Int × List UInt8 × Unit) × Int × List ((Int × Int × Unit) × Int × Unit) × Unit) × Int × Unit) × Unit) ⊕ List (((Int × Int × Unit) × Int × Unit) × (Int × List (List UInt8) × (Int × Int × List UInt8 × Unit) × Int × List ((Int × Int × Unit) × Int × Unit) × Unit) × Int × Unit)) :=
 cond (decide (y3.1 < (a0.length : Int))) (
(atI a0 y3.1).bind fun x1 =>
(path_Under x1.2.1.2.1 a1).bind fun r2 =>
 cond r2 (
(roomT (y3.2.1.length + ([x1] : List (((Int × Int × Unit) × Int × Unit) × (Int × List (List UInt8) × (Int × Int × List UInt8 × Unit) × Int × List ((Int × Int × Unit) × Int × Unit) × Unit) × Int × Unit)).length)).bind fun u3 =>
 some (.inl ((IntKind.wrap .i64 (y3.1 + 1)), (y3.2.1 ++ ([x1] : List (((Int × Int × Unit) × Int × Unit) × (Int × List (List UInt8) × (Int × Int × List UInt8 × Unit) × Int × List ((Int × Int × Unit) × Int × Unit) × Unit) × Int × Unit))), ()))) (
 some (.inl ((IntKind.wrap .i64 (y3.1 + 1)), y3.2.1, ())))) (
 some (.inr y3.2.1))
noncomputable def live_Under (a0 : List (((Int × Int × Unit) × Int × Unit) × (Int × List (List UInt8) × (Int × Int × List UInt8 × Unit) × Int × List ((Int × Int × Unit) × Int × Unit) × Unit) × Int × Unit)) (a1 : List (List UInt8)) : Option (List (((Int × Int × Unit) × Int × Unit) × (Int × List (List UInt8) × (Int × Int × List UInt8 × Unit) × Int × List ((Int × Int × Unit) × Int × Unit) × Unit) × Int × Unit)) :=
 loopT (live_Under_l3 a0 a1) (0, [], ())
noncomputable def live_Under_T : TFn := { ps := (.cons (.sl (.agg (.cons (.agg (.cons (.agg (.cons (.int .i64) (.cons (.int .i64) .unit))) (.cons (.int .i64) .unit))) (.cons (.agg (.cons (.int .i64) (.cons (.sl .str) (.cons (.agg (.cons (.int .i64) (.cons (.int .i64) (.cons .str .unit)))) (.cons (.int .i64) (.cons (.sl (.agg (.cons (.agg (.cons (.int .i64) (.cons (.int .i64) .unit))) (.cons (.int .i64) .unit)))) .unit)))))) (.cons (.int .i64) .unit))))) (.cons (.sl .str) .unit)), res := (.sl (.agg (.cons (.agg (.cons (.agg (.cons (.int .i64) (.cons (.int .i64) .unit))) (.cons (.int .i64) .unit))) (.cons (.agg (.cons (.int .i64) (.cons (.sl .str) (.cons (.agg (.cons (.int .i64) (.cons (.int .i64) (.cons .str .unit)))) (.cons (.int .i64) (.cons (.sl (.agg (.cons (.agg (.cons (.int .i64) (.cons (.int .i64) .unit))) (.cons (.int .i64) .unit)))) .unit)))))) (.cons (.int .i64) .unit))))), fn := fun v => live_Under v.1 v.2.1 }
noncomputable def live_Under_V : TEnv := { pure := [(31, path_Under_T)], look := [], glob := G0T, ty := [(61, (.agg (.cons (.agg (.cons (.agg (.cons (.int .i64) (.cons (.int .i64) .unit))) (.cons (.int .i64) .unit))) (.cons (.agg (.cons (.int .i64) (.cons (.sl .str) (.cons (.agg (.cons (.int .i64) (.cons (.int .i64) (.cons .str .unit)))) (.cons (.int .i64) (.cons (.sl (.agg (.cons (.agg (.cons (.int .i64) (.cons (.int .i64) .unit))) (.cons (.int .i64) .unit)))) .unit)))))) (.cons (.int .i64) .unit)))))], raw := [], fresh := [] }
theorem live_Under_eq : runY Try.prog live_Under_E live_Under_H live_Under_V live_Under_Y Try.f14 live_Under_T.ps live_Under_T.res = live_Under_T.fn := by kernel_rfl
theorem live_Under_Fok : SoundP Try.prog G0 14 live_Under_F := closeF_sound (runF_sound (P := Try.prog) (E := live_Under_E) (h := live_Under_H) (f := 14) (fn := Try.f14) ⟨same_ok, (envP_cons path_Under_Fok envP_nil), envS_nil, envP_nil, envX_nil⟩ Try.func14 rfl (by kernel_rfl))
theorem live_Under_ok : TOk live_Under_F live_Under_T := runY_ok (E := live_Under_E) (ET := live_Under_V) (EnvT.ofX (E := live_Under_E) (ET := live_Under_V) (pure_of (pairs_cons path_Under_ok pairs_nil)) looks_nil raws_nil G0_ok news_nil) live_Under_eq rfl
-- cmp.isNaN[string]
noncomputable def cmp_isNaN_string_E : Env := { pure := [], raw := [], glob := G0, same := [], look := [], ext := [] }
def cmp_isNaN_string_H : Hints := { seqs := [], loops := [], own := [] }
noncomputable def cmp_isNaN_string_F : PFn := closeF (runF Try.prog cmp_isNaN_string_E cmp_isNaN_string_H Try.f93)
def cmp_isNaN_string_Y : TH := { joins := [], loops := [], cuts := [], ro := [], news := [] }
noncomputable def cmp_isNaN_string (a0 : List UInt8) : Option Bool :=
 some (!decide (a0 = a0))
noncomputable def cmp_isNaN_string_T : TFn := { ps := (.cons .str .unit), res := .bool, fn := fun v => cmp_isNaN_string v.1 }
noncomputable def cmp_isNaN_string_V : TEnv := { pure := [], look := [], glob := G0T, ty := [], raw := [], fresh := [] }
theorem cmp_isNaN_string_eq : runY Try.prog cmp_isNaN_string_E cmp_isNaN_string_H cmp_isNaN_string_V cmp_isNaN_string_Y Try.f93 cmp_isNaN_string_T.ps cmp_isNaN_string_T.res = cmp_isNaN_string_T.fn := by kernel_rfl
theorem cmp_isNaN_string_Fok : SoundP Try.prog G0 93 cmp_isNaN_string_F := closeF_sound (runF_sound (P := Try.prog) (E := cmp_isNaN_string_E) (h := cmp_isNaN_string_H) (f := 93) (fn := Try.f93) ⟨same_ok, envP_nil, envS_nil, envP_nil, envX_nil⟩ Try.func93 rfl (by kernel_rfl))
theorem cmp_isNaN_string_ok : TOk cmp_isNaN_string_F cmp_isNaN_string_T := runY_ok (E := cmp_isNaN_string_E) (ET := cmp_isNaN_string_V) (EnvT.ofX (E := cmp_isNaN_string_E) (ET := cmp_isNaN_string_V) (pure_of pairs_nil) looks_nil raws_nil G0_ok news_nil) cmp_isNaN_string_eq rfl
-- cmp.Compare[string]
noncomputable def cmp_Compare_string_E : Env := { pure := [(93, cmp_isNaN_string_F)], raw := [], glob := G0, same := [], look := [], ext := [] }
def cmp_Compare_string_H : Hints := { seqs := [], loops := [], own := [] }
noncomputable def cmp_Compare_string_F : PFn := closeF (runF Try.prog cmp_Compare_string_E cmp_Compare_string_H Try.f84)
def cmp_Compare_string_Y : TH := { joins := [], loops := [], cuts := [], ro := [], news := [] }
noncomputable def cmp_Compare_string (a0 : List UInt8) (a1 : List UInt8) : Option Int :=
(cmp_isNaN_string a0).bind fun r1 =>
(cmp_isNaN_string a1).bind fun r2 =>
 cond r1 (
 cond r2 (
 some 0) (
 some (-1))) (
 cond r2 (
 some 1) (
 cond (Op.bytesLess a0 a1) (
 some (-1)) (
 cond (!(Op.bytesLess a0 a1 || decide (a0 = a1))) (
 some 1) (
 some 0))))
noncomputable def cmp_Compare_string_T : TFn := { ps := (.cons .str (.cons .str .unit)), res := (.int .i64), fn := fun v => cmp_Compare_string v.1 v.2.1 }
noncomputable def cmp_Compare_string_V : TEnv := { pure := [(93, cmp_isNaN_string_T)], look := [], glob := G0T, ty := [], raw := [], fresh := [] }
theorem cmp_Compare_string_eq : runY Try.prog cmp_Compare_string_E cmp_Compare_string_H cmp_Compare_string_V cmp_Compare_string_Y Try.f84 cmp_Compare_string_T.ps cmp_Compare_string_T.res = cmp_Compare_string_T.fn := by kernel_rfl
theorem cmp_Compare_string_Fok : SoundP Try.prog G0 84 cmp_Compare_string_F := closeF_sound (runF_sound (P := Try.prog) (E := cmp_Compare_string_E) (h := cmp_Compare_string_H) (f := 84) (fn := Try.f84) ⟨same_ok, (envP_cons cmp_isNaN_string_Fok envP_nil), envS_nil, envP_nil, envX_nil⟩ Try.func84 rfl (by kernel_rfl))
theorem cmp_Compare_string_ok : TOk cmp_Compare_string_F cmp_Compare_string_T := runY_ok (E := cmp_Compare_string_E) (ET := cmp_Compare_string_V) (EnvT.ofX (E := cmp_Compare_string_E) (ET := cmp_Compare_string_V) (pure_of (pairs_cons cmp_isNaN_string_ok pairs_nil)) looks_nil raws_nil G0_ok news_nil) cmp_Compare_string_eq rfl
-- slices.Compare[[]string,string]
noncomputable def slices_Compare_Sl_string_string_E : Env := { pure := [(84, cmp_Compare_string_F)], raw := [], glob := G0, same := [], look := [], ext := [] }
def slices_Compare_Sl_string_string_H : Hints := { seqs := [], loops := [(2, [0, 1, 9, 10, 11])], own := [] }
noncomputable def slices_Compare_Sl_string_string_F : PFn := closeF (runF Try.prog slices_Compare_Sl_string_string_E slices_Compare_Sl_string_string_H Try.f62)
def slices_Compare_Sl_string_string_Y : TH := { joins := [(11, { keep := [], mem := [] })], loops := [(2, { keep := [(11, (.int .i64))], mem := [] })], cuts := [], ro := [], news := [] }
noncomputable def slices_Compare_Sl_string_string_l2 (a0 : List (List UInt8)) (a1 : List (List UInt8)) (y2 : (Int × Unit)) : Option ((Int × Unit) ⊕ (Unit ⊕ Int)) :=
 cond (decide (y2.1 < (a0.length : Int))) (
(atI a0 y2.1).bind fun x1 =>
 cond (decide (y2.1 ≥ (a1.length : Int))) (
 some (.inr (.inr 1))) (
(atI a1 y2.1).bind fun x2 =>
(cmp_Compare_string x1 x2).bind fun r3 =>
 cond (!decide (r3 = 0)) (
 some (.inr (.inr r3))) (
 some (.inl ((IntKind.wrap .i64 (y2.1 + 1)), ()))))) (
 some (.inr (.inl ())))
noncomputable def slices_Compare_Sl_string_string (a0 : List (List UInt8)) (a1 : List (List UInt8)) : Option Int :=
(loopT (slices_Compare_Sl_string_string_l2 a0 a1) (0, ()) : Option (Unit ⊕ Int)).bind (joinS fun v4 =>
 cond (decide ((a0.length : Int) < (a1.length : Int))) (
 some (-1)) (
 some 0))
noncomputable def slices_Compare_Sl_string_string_T : TFn := { ps := (.cons (.sl .str) (.cons (.sl .str) .unit)), res := (.int .i64), fn := fun v => slices_Compare_Sl_string_string v.1 v.2.1 }
noncomputable def slices_Compare_Sl_string_string_V : TEnv := { pure := [(84, cmp_Compare_string_T)], look := [], glob := G0T, ty := [], raw := [], fresh := [] }
theorem slices_Compare_Sl_string_string_eq : runY Try.prog slices_Compare_Sl_string_string_E slices_Compare_Sl_string_string_H slices_Compare_Sl_string_string_V slices_Compare_Sl_string_string_Y Try.f62 slices_Compare_Sl_string_string_T.ps slices_Compare_Sl_string_string_T.res = slices_Compare_Sl_string_string_T.fn := by kernel_rfl
theorem slices_Compare_Sl_string_string_Fok : SoundP Try.prog G0 62 slices_Compare_Sl_string_string_F := closeF_sound (runF_sound (P := Try.prog) (E := slices_Compare_Sl_string_string_E) (h := slices_Compare_Sl_string_string_H) (f := 62) (fn := Try.f62) ⟨same_ok, (envP_cons cmp_Compare_string_Fok envP_nil), envS_nil, envP_nil, envX_nil⟩ Try.func62 rfl (by kernel_rfl))
theorem slices_Compare_Sl_string_string_ok : TOk slices_Compare_Sl_string_string_F slices_Compare_Sl_string_string_T := runY_ok (E := slices_Compare_Sl_string_string_E) (ET := slices_Compare_Sl_string_string_V) (EnvT.ofX (E := slices_Compare_Sl_string_string_E) (ET := slices_Compare_Sl_string_string_V) (pure_of (pairs_cons cmp_Compare_string_ok pairs_nil)) looks_nil raws_nil G0_ok news_nil) slices_Compare_Sl_string_string_eq rfl
-- palinode/path.Compare
noncomputable def path_Compare_E : Env := { pure := [(62, slices_Compare_Sl_string_string_F)], raw := [], glob := G0, same := [], look := [], ext := [] }
def path_Compare_H : Hints := { seqs := [], loops := [], own := [] }
noncomputable def path_Compare_F : PFn := closeF (runF Try.prog path_Compare_E path_Compare_H Try.f40)
def path_Compare_Y : TH := { joins := [], loops := [], cuts := [], ro := [], news := [] }
noncomputable def path_Compare (a0 : List (List UInt8)) (a1 : List (List UInt8)) : Option Int :=
(slices_Compare_Sl_string_string a0 a1).bind fun r1 =>
 some r1
noncomputable def path_Compare_T : TFn := { ps := (.cons (.sl .str) (.cons (.sl .str) .unit)), res := (.int .i64), fn := fun v => path_Compare v.1 v.2.1 }
noncomputable def path_Compare_V : TEnv := { pure := [(62, slices_Compare_Sl_string_string_T)], look := [], glob := G0T, ty := [], raw := [], fresh := [] }
theorem path_Compare_eq : runY Try.prog path_Compare_E path_Compare_H path_Compare_V path_Compare_Y Try.f40 path_Compare_T.ps path_Compare_T.res = path_Compare_T.fn := by kernel_rfl
theorem path_Compare_Fok : SoundP Try.prog G0 40 path_Compare_F := closeF_sound (runF_sound (P := Try.prog) (E := path_Compare_E) (h := path_Compare_H) (f := 40) (fn := Try.f40) ⟨same_ok, (envP_cons slices_Compare_Sl_string_string_Fok envP_nil), envS_nil, envP_nil, envX_nil⟩ Try.func40 rfl (by kernel_rfl))
theorem path_Compare_ok : TOk path_Compare_F path_Compare_T := runY_ok (E := path_Compare_E) (ET := path_Compare_V) (EnvT.ofX (E := path_Compare_E) (ET := path_Compare_V) (pure_of (pairs_cons slices_Compare_Sl_string_string_ok pairs_nil)) looks_nil raws_nil G0_ok news_nil) path_Compare_eq rfl
-- palinode/tree.compare
noncomputable def tree_compare_E : Env := { pure := [(39, cmp_Or_int_F), (40, path_Compare_F), (41, cmp_Compare_int_F)], raw := [], glob := G0, same := [], look := [], ext := [] }
def tree_compare_H : Hints := { seqs := [], loops := [], own := [] }
noncomputable def tree_compare_F : PFn := closeF (runF Try.prog tree_compare_E tree_compare_H Try.f24)
def tree_compare_Y : TH := { joins := [], loops := [], cuts := [], ro := [2, 3], news := [] }
noncomputable def tree_compare (a0 : (List (List UInt8) × Int × Unit)) (a1 : (List (List UInt8) × Int × Unit)) : Option Int :=
(path_Compare a0.1 a1.1).bind fun r1 =>
(cmp_Compare_int a0.2.1 a1.2.1).bind fun r2 =>
(cmp_Or_int ([r1, r2] : List Int)).bind fun r3 =>
 some r3
noncomputable def tree_compare_T : TFn := { ps := (.cons (.agg (.cons (.sl .str) (.cons (.int .i64) .unit))) (.cons (.agg (.cons (.sl .str) (.cons (.int .i64) .unit))) .unit)), res := (.int .i64), fn := fun v => tree_compare v.1 v.2.1 }
noncomputable def tree_compare_V : TEnv := { pure := [(39, cmp_Or_int_T), (40, path_Compare_T), (41, cmp_Compare_int_T)], look := [], glob := G0T, ty := [(3, (.int .i64))], raw := [], fresh := [] }
theorem tree_compare_eq : runY Try.prog tree_compare_E tree_compare_H tree_compare_V tree_compare_Y Try.f24 tree_compare_T.ps tree_compare_T.res = tree_compare_T.fn := by kernel_rfl
theorem tree_compare_Fok : SoundP Try.prog G0 24 tree_compare_F := closeF_sound (runF_sound (P := Try.prog) (E := tree_compare_E) (h := tree_compare_H) (f := 24) (fn := Try.f24) ⟨same_ok, (envP_cons cmp_Or_int_Fok (envP_cons path_Compare_Fok (envP_cons cmp_Compare_int_Fok envP_nil))), envS_nil, envP_nil, envX_nil⟩ Try.func24 rfl (by kernel_rfl))
theorem tree_compare_ok : TOk tree_compare_F tree_compare_T := runY_ok (E := tree_compare_E) (ET := tree_compare_V) (EnvT.ofX (E := tree_compare_E) (ET := tree_compare_V) (pure_of (pairs_cons cmp_Or_int_ok (pairs_cons path_Compare_ok (pairs_cons cmp_Compare_int_ok pairs_nil)))) looks_nil raws_nil G0_ok news_nil) tree_compare_eq rfl
-- slices.SortFunc[[]palinode/tree.Leaf,palinode/tree.Leaf] by palinode/tree.compare
theorem cmp_isNaN_int_FokD : @SoundP ⟨True⟩ Try.prog G0 63 cmp_isNaN_int_F := by
  letI : Drawn := ⟨True⟩
  exact closeF_sound (runF_sound (P := Try.prog) (E := cmp_isNaN_int_E) (h := cmp_isNaN_int_H) (f := 63) (fn := Try.f63) ⟨same_ok, envP_nil, envS_nil, envP_nil, envX_nil⟩ Try.func63 rfl (by kernel_rfl))
theorem cmp_Compare_int_FokD : @SoundP ⟨True⟩ Try.prog G0 41 cmp_Compare_int_F := by
  letI : Drawn := ⟨True⟩
  exact closeF_sound (runF_sound (P := Try.prog) (E := cmp_Compare_int_E) (h := cmp_Compare_int_H) (f := 41) (fn := Try.f41) ⟨same_ok, (envP_cons cmp_isNaN_int_FokD envP_nil), envS_nil, envP_nil, envX_nil⟩ Try.func41 rfl (by kernel_rfl))
theorem cmp_Or_int_FokD : @SoundP ⟨True⟩ Try.prog G0 39 cmp_Or_int_F := by
  letI : Drawn := ⟨True⟩
  exact closeF_sound (runF_sound (P := Try.prog) (E := cmp_Or_int_E) (h := cmp_Or_int_H) (f := 39) (fn := Try.f39) ⟨same_ok, envP_nil, envS_nil, envP_nil, envX_nil⟩ Try.func39 rfl (by kernel_rfl))
theorem cmp_isNaN_string_FokD : @SoundP ⟨True⟩ Try.prog G0 93 cmp_isNaN_string_F := by
  letI : Drawn := ⟨True⟩
  exact closeF_sound (runF_sound (P := Try.prog) (E := cmp_isNaN_string_E) (h := cmp_isNaN_string_H) (f := 93) (fn := Try.f93) ⟨same_ok, envP_nil, envS_nil, envP_nil, envX_nil⟩ Try.func93 rfl (by kernel_rfl))
theorem cmp_Compare_string_FokD : @SoundP ⟨True⟩ Try.prog G0 84 cmp_Compare_string_F := by
  letI : Drawn := ⟨True⟩
  exact closeF_sound (runF_sound (P := Try.prog) (E := cmp_Compare_string_E) (h := cmp_Compare_string_H) (f := 84) (fn := Try.f84) ⟨same_ok, (envP_cons cmp_isNaN_string_FokD envP_nil), envS_nil, envP_nil, envX_nil⟩ Try.func84 rfl (by kernel_rfl))
theorem slices_Compare_Sl_string_string_FokD : @SoundP ⟨True⟩ Try.prog G0 62 slices_Compare_Sl_string_string_F := by
  letI : Drawn := ⟨True⟩
  exact closeF_sound (runF_sound (P := Try.prog) (E := slices_Compare_Sl_string_string_E) (h := slices_Compare_Sl_string_string_H) (f := 62) (fn := Try.f62) ⟨same_ok, (envP_cons cmp_Compare_string_FokD envP_nil), envS_nil, envP_nil, envX_nil⟩ Try.func62 rfl (by kernel_rfl))
theorem path_Compare_FokD : @SoundP ⟨True⟩ Try.prog G0 40 path_Compare_F := by
  letI : Drawn := ⟨True⟩
  exact closeF_sound (runF_sound (P := Try.prog) (E := path_Compare_E) (h := path_Compare_H) (f := 40) (fn := Try.f40) ⟨same_ok, (envP_cons slices_Compare_Sl_string_string_FokD envP_nil), envS_nil, envP_nil, envX_nil⟩ Try.func40 rfl (by kernel_rfl))
theorem tree_compare_FokD : @SoundP ⟨True⟩ Try.prog G0 24 tree_compare_F := by
  letI : Drawn := ⟨True⟩
  exact closeF_sound (runF_sound (P := Try.prog) (E := tree_compare_E) (h := tree_compare_H) (f := 24) (fn := Try.f24) ⟨same_ok, (envP_cons cmp_Or_int_FokD (envP_cons path_Compare_FokD (envP_cons cmp_Compare_int_FokD envP_nil))), envS_nil, envP_nil, envX_nil⟩ Try.func24 rfl (by kernel_rfl))
def slices_SortFunc_Sl_tree_Leaf_tree_Leaf__tree_compare_ren : Go.Shelf.Ren := ⟨fun | 6 => 23 | 14 => 37 | 15 => 38 | 20 => 52 | 21 => 53 | 22 => 54 | 23 => 55 | 24 => 56 | 25 => 57 | 26 => 58 | 27 => 59 | 28 => 60 | 29 => 61 | 46 => 79 | 47 => 80 | 48 => 81 | 49 => 82 | 50 => 83 | 57 => 92 | n => n, fun | 0 => 0 | 3 => 3 | 4 => 4 | 5 => 5 | 9 => 9 | 22 => 28 | 24 => 33 | 25 => 65 | 39 => 76 | 45 => 91 | 46 => 92 | 50 => 88 | 53 => 98 | 55 => 100 | 66 => 112 | 70 => 116 | 76 => 124 | 77 => 125 | n => n, fun | n => n⟩
theorem slices_SortFunc_Sl_tree_Leaf_tree_Leaf__tree_compare_lays : Go.Proofs.SlLaysF0.n6 Try.prog slices_SortFunc_Sl_tree_Leaf_tree_Leaf__tree_compare_ren := {
  mixed := by kernel_rfl
  f6 := ⟨Try.f23.name, by decide, Try.func23.trans (congrArg some (by kernel_rfl))⟩
  f14 := ⟨Try.f37.name, by decide, Try.func37.trans (congrArg some (by kernel_rfl))⟩
  f15 := Try.func38.trans (congrArg some (by kernel_rfl))
  f20 := ⟨Try.f52.name, by decide, Try.func52.trans (congrArg some (by kernel_rfl))⟩
  f21 := ⟨Try.f53.name, by decide, Try.func53.trans (congrArg some (by kernel_rfl))⟩
  f22 := ⟨Try.f54.name, by decide, Try.func54.trans (congrArg some (by kernel_rfl))⟩
  f23 := ⟨Try.f55.name, by decide, Try.func55.trans (congrArg some (by kernel_rfl))⟩
  f24 := ⟨Try.f56.name, by decide, Try.func56.trans (congrArg some (by kernel_rfl))⟩
  f25 := ⟨Try.f57.name, by decide, Try.func57.trans (congrArg some (by kernel_rfl))⟩
  f26 := ⟨Try.f58.name, by decide, Try.func58.trans (congrArg some (by kernel_rfl))⟩
  f27 := ⟨Try.f59.name, by decide, Try.func59.trans (congrArg some (by kernel_rfl))⟩
  f28 := Try.func60.trans (congrArg some (by kernel_rfl))
  f29 := Try.func61.trans (congrArg some (by kernel_rfl))
  f46 := ⟨Try.f79.name, by decide, Try.func79.trans (congrArg some (by kernel_rfl))⟩
  f47 := Try.func80.trans (congrArg some (by kernel_rfl))
  f48 := Try.func81.trans (congrArg some (by kernel_rfl))
  f49 := ⟨Try.f82.name, by decide, Try.func82.trans (congrArg some (by kernel_rfl))⟩
  f50 := ⟨Try.f83.name, by decide, Try.func83.trans (congrArg some (by kernel_rfl))⟩
  f57 := ⟨Try.f92.name, by decide, Try.func92.trans (congrArg some (by kernel_rfl))⟩
  t0 := Try.underlying0
  a0 := Try.isAgg0
  z0 := Try.sizeOf0
  v0 := Try.zeroValue0
  t3 := Try.underlying3
  a3 := Try.isAgg3
  z3 := Try.sizeOf3
  v3 := Try.zeroValue3
  t4 := Try.underlying4
  a4 := Try.isAgg4
  z4 := Try.sizeOf4
  v4 := Try.zeroValue4
  t5 := Try.underlying5
  a5 := Try.isAgg5
  z5 := Try.sizeOf5
  v5 := Try.zeroValue5
  t9 := Try.underlying9
  a9 := Try.isAgg9
  z9 := Try.sizeOf9
  v9 := Try.zeroValue9
  t22 := Try.underlying28
  a22 := Try.isAgg28
  z22 := Try.sizeOf28
  v22 := Try.zeroValue28
  t25 := Try.underlying65
  a25 := Try.isAgg65
  z25 := Try.sizeOf65
  v25 := Try.zeroValue65
  t39 := Try.underlying76
  a39 := Try.isAgg76
  z39 := Try.sizeOf76
  v39 := Try.zeroValue76
  t45 := Try.underlying91
  a45 := Try.isAgg91
  z45 := Try.sizeOf91
  v45 := Try.zeroValue91
  t46 := Try.underlying92
  a46 := Try.isAgg92
  z46 := Try.sizeOf92
  v46 := Try.zeroValue92
  t50 := Try.underlying88
  a50 := Try.isAgg88
  z50 := Try.sizeOf88
  v50 := Try.zeroValue88
  t53 := Try.underlying98
  a53 := Try.isAgg98
  z53 := Try.sizeOf98
  v53 := Try.zeroValue98
  t55 := Try.underlying100
  a55 := Try.isAgg100
  z55 := Try.sizeOf100
  v55 := Try.zeroValue100
  t66 := Try.underlying112
  a66 := Try.isAgg112
  z66 := Try.sizeOf112
  v66 := Try.zeroValue112
  t70 := Try.underlying116
  a70 := Try.isAgg116
  z70 := Try.sizeOf116
  v70 := Try.zeroValue116
  t76 := Try.underlying124
  a76 := Try.isAgg124
  z76 := Try.sizeOf124
  v76 := Try.zeroValue124
  t77 := Try.underlying125
  a77 := Try.isAgg125
  z77 := Try.sizeOf125
  v77 := Try.zeroValue125 }
noncomputable def slices_SortFunc_Sl_tree_Leaf_tree_Leaf__tree_compare_S : SFn := sortS tree_compare_F 24 2 33
theorem slices_SortFunc_Sl_tree_Leaf_tree_Leaf__tree_compare_Sok : SoundS Try.prog G0 23 slices_SortFunc_Sl_tree_Leaf_tree_Leaf__tree_compare_S := sortS_sound (M := 2) (g := 24) slices_SortFunc_Sl_tree_Leaf_tree_Leaf__tree_compare_lays (by decide) (fun w => Try.isAgg33 w) (fun w => Try.sizeOf33 w) tree_compare_FokD ⟨Try.f23, Try.func23, rfl, by kernel_rfl⟩
noncomputable def slices_SortFunc_Sl_tree_Leaf_tree_Leaf__tree_compare (w0 : List (List (List UInt8) × Int × Unit)) : Option (Unit × List (List (List UInt8) × Int × Unit) × Unit) := (sortT (fun x y => tree_compare x y) w0).map fun l => ((), (l, ()))
noncomputable def slices_SortFunc_Sl_tree_Leaf_tree_Leaf__tree_compare_R : TRaw := sortR false 24 33 (.agg (.cons (.sl .str) (.cons (.int .i64) .unit))) (fun x y => tree_compare x y)
theorem slices_SortFunc_Sl_tree_Leaf_tree_Leaf__tree_compare_ok : TRawOk slices_SortFunc_Sl_tree_Leaf_tree_Leaf__tree_compare_S slices_SortFunc_Sl_tree_Leaf_tree_Leaf__tree_compare_R := sortR_ok rfl rfl rfl rfl tree_compare_ok
-- palinode/tree.Leaves$1
noncomputable def tree_Leaves_1_E : Env := { pure := [(24, tree_compare_F)], raw := [], glob := G0, same := [], look := [], ext := [] }
def tree_Leaves_1_H : Hints := { seqs := [], loops := [], own := [] }
noncomputable def tree_Leaves_1_F : PFn := closeF (runF Try.prog tree_Leaves_1_E tree_Leaves_1_H Try.f26)
def tree_Leaves_1_Y : TH := { joins := [], loops := [], cuts := [], ro := [2, 3], news := [] }
noncomputable def tree_Leaves_1 (a0 : (List (List UInt8) × Int × Unit)) (a1 : (List (List UInt8) × Int × Unit)) : Option Bool :=
(tree_compare a0 a1).bind fun r1 =>
 some (decide (r1 = 0))
noncomputable def tree_Leaves_1_T : TFn := { ps := (.cons (.agg (.cons (.sl .str) (.cons (.int .i64) .unit))) (.cons (.agg (.cons (.sl .str) (.cons (.int .i64) .unit))) .unit)), res := .bool, fn := fun v => tree_Leaves_1 v.1 v.2.1 }
noncomputable def tree_Leaves_1_V : TEnv := { pure := [(24, tree_compare_T)], look := [], glob := G0T, ty := [], raw := [], fresh := [] }
theorem tree_Leaves_1_eq : runY Try.prog tree_Leaves_1_E tree_Leaves_1_H tree_Leaves_1_V tree_Leaves_1_Y Try.f26 tree_Leaves_1_T.ps tree_Leaves_1_T.res = tree_Leaves_1_T.fn := by kernel_rfl
theorem tree_Leaves_1_Fok : SoundP Try.prog G0 26 tree_Leaves_1_F := closeF_sound (runF_sound (P := Try.prog) (E := tree_Leaves_1_E) (h := tree_Leaves_1_H) (f := 26) (fn := Try.f26) ⟨same_ok, (envP_cons tree_compare_Fok envP_nil), envS_nil, envP_nil, envX_nil⟩ Try.func26 rfl (by kernel_rfl))
theorem tree_Leaves_1_ok : TOk tree_Leaves_1_F tree_Leaves_1_T := runY_ok (E := tree_Leaves_1_E) (ET := tree_Leaves_1_V) (EnvT.ofX (E := tree_Leaves_1_E) (ET := tree_Leaves_1_V) (pure_of (pairs_cons tree_compare_ok pairs_nil)) looks_nil raws_nil G0_ok news_nil) tree_Leaves_1_eq rfl
-- slices.Clone[[]string,string]
def slices_Clone_Sl_string_string_ren : Go.Shelf.Ren := ⟨fun | 41 => 21 | n => n, fun | 22 => 31 | 23 => 9 | 4 => 4 | n => n, fun | n => n⟩
theorem slices_Clone_Sl_string_string_lays : Go.Proofs.SlLaysE0.n41 Try.prog slices_Clone_Sl_string_string_ren := {
  mixed := by kernel_rfl
  f41 := ⟨Try.f21.name, by decide, Try.func21.trans (congrArg some (by kernel_rfl))⟩
  t4 := Try.underlying4
  a4 := Try.isAgg4
  z4 := Try.sizeOf4
  v4 := Try.zeroValue4
  t22 := Try.underlying31
  a22 := Try.isAgg31
  z22 := Try.sizeOf31
  v22 := Try.zeroValue31 }
noncomputable def slices_Clone_Sl_string_string_F : PFn := (cloneF 1)
theorem slices_Clone_Sl_string_string_Fok : SoundP Try.prog G0 21 slices_Clone_Sl_string_string_F := clone_lays slices_Clone_Sl_string_string_lays 1 ⟨Try.f21, Try.func21, rfl, by kernel_rfl⟩ (by kernel_rfl) (by kernel_rfl) (by kernel_rfl) (by kernel_rfl) (by kernel_rfl) (by decide) (fun w => Try.sizeOf9 w)
noncomputable def slices_Clone_Sl_string_string (a0 : List (List UInt8)) : Option (List (List UInt8)) := cloneT a0
noncomputable def slices_Clone_Sl_string_string_T : TFn := cloneT_T .str
theorem slices_Clone_Sl_string_string_ok : TOk slices_Clone_Sl_string_string_F slices_Clone_Sl_string_string_T := cloneT_ok rfl rfl rfl
-- slices.CompactFunc[[]palinode/tree.Leaf,palinode/tree.Leaf]
noncomputable def slices_CompactFunc_Sl_tree_Leaf_tree_Leaf__tree_Leaves_1_E : Env := { pure := [(26, tree_Leaves_1_F)], raw := [], glob := G0, same := [], look := [], ext := [] }
def slices_CompactFunc_Sl_tree_Leaf_tree_Leaf__tree_Leaves_1_H : Hints := { seqs := [], loops := [(4, [0, 1, 5]), (9, [0, 1, 5, 6, 7])], own := [] }
noncomputable def slices_CompactFunc_Sl_tree_Leaf_tree_Leaf__tree_Leaves_1_S : SFn := giveS (runF Try.prog slices_CompactFunc_Sl_tree_Leaf_tree_Leaf__tree_Leaves_1_E slices_CompactFunc_Sl_tree_Leaf_tree_Leaf__tree_Leaves_1_H Try.f25)
def slices_CompactFunc_Sl_tree_Leaf_tree_Leaf__tree_Leaves_1_Y : TH := { joins := [(14, { keep := [(0, (.own 0)), (5, (.int .i64))], mem := [.row false 33 (.agg (.cons (.sl .str) (.cons (.int .i64) .unit)))] })], loops := [(4, { keep := [(0, (.own 0)), (5, (.int .i64))], mem := [.row false 33 (.agg (.cons (.sl .str) (.cons (.int .i64) .unit)))] }), (9, { keep := [(0, (.own 0)), (5, (.int .i64)), (6, (.vw 0)), (7, (.int .i64))], mem := [.row false 33 (.agg (.cons (.sl .str) (.cons (.int .i64) .unit)))] })], cuts := [], ro := [], news := [] }
noncomputable def slices_CompactFunc_Sl_tree_Leaf_tree_Leaf__tree_Leaves_1_l9 (y9 : (Int × (Nat × Nat) × Int × List (List (List UInt8) × Int × Unit) × Unit)) : Option ((Int × (Nat × Nat) × Int × List (List (List UInt8) × Int × Unit) × Unit) ⊕ ((Int × List (List (List UInt8) × Int × Unit) × Unit) ⊕ ((Int × List (List (List UInt8) × Int × Unit) × Unit) ⊕ (List (List (List UInt8) × Int × Unit))))) :=
 cond (decide (y9.2.2.1 < (y9.2.1.2 : Int))) (
 cond y9.2.2.2.1.isEmpty (none) ((inI y9.2.1.2 y9.2.2.1).bind fun i7 =>
(y9.2.2.2.1[(y9.2.1.1 + i7)]?).bind fun x8 =>
 cond y9.2.2.2.1.isEmpty (none) ((inI y9.2.1.2 (IntKind.wrap .i64 (y9.2.2.1 - 1))).bind fun i9 =>
(y9.2.2.2.1[(y9.2.1.1 + i9)]?).bind fun x10 =>
(tree_Leaves_1 x8 x10).bind fun r11 =>
 cond (!r11) (
 cond y9.2.2.2.1.isEmpty (none) ((inI y9.2.1.2 y9.2.2.1).bind fun i12 =>
(y9.2.2.2.1[(y9.2.1.1 + i12)]?).bind fun x13 =>
(inI y9.2.2.2.1.length y9.1).bind fun i14 =>
(y9.2.2.2.1[i14]?).bind fun x15 =>
 some (.inl ((IntKind.wrap .i64 (y9.1 + 1)), y9.2.1, (IntKind.wrap .i64 (y9.2.2.1 + 1)), (y9.2.2.2.1.set i14 x13), ())))) (
 some (.inl (y9.1, y9.2.1, (IntKind.wrap .i64 (y9.2.2.1 + 1)), y9.2.2.2.1, ())))))) (
 some (.inr (.inl (y9.1, y9.2.2.2.1, ()))))
noncomputable def slices_CompactFunc_Sl_tree_Leaf_tree_Leaf__tree_Leaves_1_l4 (y4 : (Int × List (List (List UInt8) × Int × Unit) × Unit)) : Option ((Int × List (List (List UInt8) × Int × Unit) × Unit) ⊕ (List (List (List UInt8) × Int × Unit))) :=
 cond (decide (y4.1 < (y4.2.1.length : Int))) (
(inI y4.2.1.length y4.1).bind fun i1 =>
(y4.2.1[i1]?).bind fun x2 =>
(inI y4.2.1.length (IntKind.wrap .i64 (y4.1 - 1))).bind fun i3 =>
(y4.2.1[i3]?).bind fun x4 =>
(tree_Leaves_1 x2 x4).bind fun r5 =>
 cond r5 (
 cond y4.2.1.isEmpty (none) ((viewI (y4.2.1.length) y4.1 (y4.2.1.length : Int)).bind fun p6 =>
(loopT (slices_CompactFunc_Sl_tree_Leaf_tree_Leaf__tree_Leaves_1_l9) (y4.1, p6, 1, y4.2.1, ()) : Option ((Int × List (List (List UInt8) × Int × Unit) × Unit) ⊕ ((Int × List (List (List UInt8) × Int × Unit) × Unit) ⊕ (List (List (List UInt8) × Int × Unit))))).bind (joinS fun v16 =>
 cond v16.2.1.isEmpty (none) ((viewI (v16.2.1.length) v16.1 (v16.2.1.length : Int)).bind fun p17 =>
 cond v16.2.1.isEmpty (none) ((if p17.1 + p17.2 ≤ v16.2.1.length then some () else none).bind fun u18 =>
 cond (v16.2.1.take p17.1 ++ List.replicate p17.2 ([], 0, ()) ++ v16.2.1.drop (p17.1 + p17.2)).isEmpty (none) ((viewI ((v16.2.1.take p17.1 ++ List.replicate p17.2 ([], 0, ()) ++ v16.2.1.drop (p17.1 + p17.2)).length) 0 v16.1).bind fun p19 =>
(cond (v16.2.1.take p17.1 ++ List.replicate p17.2 ([], 0, ()) ++ v16.2.1.drop (p17.1 + p17.2)).isEmpty none (if p19.1 + p19.2 ≤ (v16.2.1.take p17.1 ++ List.replicate p17.2 ([], 0, ()) ++ v16.2.1.drop (p17.1 + p17.2)).length then some (((v16.2.1.take p17.1 ++ List.replicate p17.2 ([], 0, ()) ++ v16.2.1.drop (p17.1 + p17.2)).drop p19.1).take p19.2) else none)).map .inr)))))) (
 some (.inl ((IntKind.wrap .i64 (y4.1 + 1)), y4.2.1, ())))) (
 some (.inr y4.2.1))
noncomputable def slices_CompactFunc_Sl_tree_Leaf_tree_Leaf__tree_Leaves_1_g (w0 : List (List (List UInt8) × Int × Unit)) : Option (List (List (List UInt8) × Int × Unit)) :=
 cond (decide ((w0.length : Int) < 2)) (
 some w0) (
 loopT (slices_CompactFunc_Sl_tree_Leaf_tree_Leaf__tree_Leaves_1_l4) (1, w0, ()))
noncomputable def slices_CompactFunc_Sl_tree_Leaf_tree_Leaf__tree_Leaves_1 (w0 : List (List (List UInt8) × Int × Unit)) : Option (List (List (List UInt8) × Int × Unit) × Unit) := (slices_CompactFunc_Sl_tree_Leaf_tree_Leaf__tree_Leaves_1_g w0).map fun l => (l, ())
noncomputable def slices_CompactFunc_Sl_tree_Leaf_tree_Leaf__tree_Leaves_1_R : TRaw := { ps := (.cons (.own 0) (.cons (.fn 26) .unit)), ins := [.row false 33 (.agg (.cons (.sl .str) (.cons (.int .i64) .unit)))], res := (.sl (.agg (.cons (.sl .str) (.cons (.int .i64) .unit)))), outs := [.gone], fn := fun v w => slices_CompactFunc_Sl_tree_Leaf_tree_Leaf__tree_Leaves_1 w.1 }
noncomputable def slices_CompactFunc_Sl_tree_Leaf_tree_Leaf__tree_Leaves_1_V : TEnv := { pure := [(26, tree_Leaves_1_T)], look := [], glob := G0T, ty := [], raw := [], fresh := [] }
theorem slices_CompactFunc_Sl_tree_Leaf_tree_Leaf__tree_Leaves_1_eq : giveY Try.prog slices_CompactFunc_Sl_tree_Leaf_tree_Leaf__tree_Leaves_1_E slices_CompactFunc_Sl_tree_Leaf_tree_Leaf__tree_Leaves_1_H slices_CompactFunc_Sl_tree_Leaf_tree_Leaf__tree_Leaves_1_V slices_CompactFunc_Sl_tree_Leaf_tree_Leaf__tree_Leaves_1_Y Try.f25 (.cons (.own 0) (.cons (.fn 26) .unit)) false 33 (.agg (.cons (.sl .str) (.cons (.int .i64) .unit))) = fun _ w => slices_CompactFunc_Sl_tree_Leaf_tree_Leaf__tree_Leaves_1_g w := by kernel_rfl
theorem slices_CompactFunc_Sl_tree_Leaf_tree_Leaf__tree_Leaves_1_Sok : SoundS Try.prog G0 25 slices_CompactFunc_Sl_tree_Leaf_tree_Leaf__tree_Leaves_1_S := giveS_sound (runF_sound (P := Try.prog) (E := slices_CompactFunc_Sl_tree_Leaf_tree_Leaf__tree_Leaves_1_E) (h := slices_CompactFunc_Sl_tree_Leaf_tree_Leaf__tree_Leaves_1_H) (f := 25) (fn := Try.f25) ⟨same_ok, (envP_cons tree_Leaves_1_Fok envP_nil), envS_nil, envP_nil, envX_nil⟩ Try.func25 rfl (by kernel_rfl))
theorem slices_CompactFunc_Sl_tree_Leaf_tree_Leaf__tree_Leaves_1_ok : TRawOk slices_CompactFunc_Sl_tree_Leaf_tree_Leaf__tree_Leaves_1_S slices_CompactFunc_Sl_tree_Leaf_tree_Leaf__tree_Leaves_1_R := giveY_ok (E := slices_CompactFunc_Sl_tree_Leaf_tree_Leaf__tree_Leaves_1_E) (ET := slices_CompactFunc_Sl_tree_Leaf_tree_Leaf__tree_Leaves_1_V) (EnvT.ofX (E := slices_CompactFunc_Sl_tree_Leaf_tree_Leaf__tree_Leaves_1_E) (ET := slices_CompactFunc_Sl_tree_Leaf_tree_Leaf__tree_Leaves_1_V) (pure_of (pairs_cons tree_Leaves_1_ok pairs_nil)) looks_nil raws_nil G0_ok news_nil) slices_CompactFunc_Sl_tree_Leaf_tree_Leaf__tree_Leaves_1_eq
-- palinode/tree.Leaves
noncomputable def tree_Leaves_E : Env := { pure := [(21, slices_Clone_Sl_string_string_F), (22, op_Leaf_F)], raw := [(23, slices_SortFunc_Sl_tree_Leaf_tree_Leaf__tree_compare_S), (25, slices_CompactFunc_Sl_tree_Leaf_tree_Leaf__tree_Leaves_1_S)], glob := G0, same := [], look := [], ext := [] }
def tree_Leaves_H : Hints := { seqs := [], loops := [(3, [3, 6, 7, 8])], own := [] }
noncomputable def tree_Leaves_F : PFn := closeF (runF Try.prog tree_Leaves_E tree_Leaves_H Try.f8)
def tree_Leaves_Y : TH := { joins := [(7, { keep := [(3, (.own 1))], mem := [.gone, .row true 33 (.agg (.cons (.sl .str) (.cons (.int .i64) .unit)))] })], loops := [(3, { keep := [(3, (.own 1)), (8, (.int .i64))], mem := [.gone, .row true 33 (.agg (.cons (.sl .str) (.cons (.int .i64) .unit)))] })], cuts := [], ro := [], news := [] }
noncomputable def tree_Leaves_l3 (a0 : List (((Int × Int × Unit) × Int × Unit) × (Int × List (List UInt8) × (Int × Int × List UInt8 × Unit) × Int × List ((Int × Int × Unit) × Int × Unit) × Unit) × Int × Unit)) (y3 : (Int × List (List (List UInt8) × Int × Unit) × Unit)) : Option ((Int × List (List (List UInt8) × Int × Unit) × Unit) ⊕ ((List (List (List UInt8) × Int × Unit) × Unit) ⊕ List (List (List UInt8) × Int × Unit))) :=
 cond (decide (y3.1 < (a0.length : Int))) (
(atI a0 y3.1).bind fun x1 =>
(slices_Clone_Sl_string_string x1.2.1.2.1).bind fun r2 =>
(op_Leaf x1.2.1.1).bind fun r3 =>
(roomT (y3.2.1.length + ([(r2, r3, ())] : List (List (List UInt8) × Int × Unit)).length)).bind fun u4 =>
 some (.inl ((IntKind.wrap .i64 (y3.1 + 1)), (y3.2.1 ++ ([(r2, r3, ())] : List (List (List UInt8) × Int × Unit))), ()))) (
 some (.inr (.inl (y3.2.1, ()))))
noncomputable def tree_Leaves (a0 : List (((Int × Int × Unit) × Int × Unit) × (Int × List (List UInt8) × (Int × Int × List UInt8 × Unit) × Int × List ((Int × Int × Unit) × Int × Unit) × Unit) × Int × Unit)) : Option (List (List (List UInt8) × Int × Unit)) :=
(loopT (tree_Leaves_l3 a0) (0, [], ()) : Option ((List (List (List UInt8) × Int × Unit) × Unit) ⊕ List (List (List UInt8) × Int × Unit))).bind (joinS fun v5 =>
(slices_SortFunc_Sl_tree_Leaf_tree_Leaf__tree_compare v5.1).bind fun q6 =>
(slices_CompactFunc_Sl_tree_Leaf_tree_Leaf__tree_Leaves_1 q6.2.1).bind fun q7 =>
 some q7.1)
noncomputable def tree_Leaves_T : TFn := { ps := (.cons (.sl (.agg (.cons (.agg (.cons (.agg (.cons (.int .i64) (.cons (.int .i64) .unit))) (.cons (.int .i64) .unit))) (.cons (.agg (.cons (.int .i64) (.cons (.sl .str) (.cons (.agg (.cons (.int .i64) (.cons (.int .i64) (.cons .str .unit)))) (.cons (.int .i64) (.cons (.sl (.agg (.cons (.agg (.cons (.int .i64) (.cons (.int .i64) .unit))) (.cons (.int .i64) .unit)))) .unit)))))) (.cons (.int .i64) .unit))))) .unit), res := (.sl (.agg (.cons (.sl .str) (.cons (.int .i64) .unit)))), fn := fun v => tree_Leaves v.1 }
noncomputable def tree_Leaves_V : TEnv := { pure := [(21, slices_Clone_Sl_string_string_T), (22, op_Leaf_T)], look := [], glob := G0T, ty := [(33, (.agg (.cons (.sl .str) (.cons (.int .i64) .unit))))], raw := [(23, slices_SortFunc_Sl_tree_Leaf_tree_Leaf__tree_compare_R), (25, slices_CompactFunc_Sl_tree_Leaf_tree_Leaf__tree_Leaves_1_R)], fresh := [] }
theorem tree_Leaves_eq : runY Try.prog tree_Leaves_E tree_Leaves_H tree_Leaves_V tree_Leaves_Y Try.f8 tree_Leaves_T.ps tree_Leaves_T.res = tree_Leaves_T.fn := by kernel_rfl
theorem tree_Leaves_Fok : SoundP Try.prog G0 8 tree_Leaves_F := closeF_sound (runF_sound (P := Try.prog) (E := tree_Leaves_E) (h := tree_Leaves_H) (f := 8) (fn := Try.f8) ⟨same_ok, (envP_cons slices_Clone_Sl_string_string_Fok (envP_cons op_Leaf_Fok envP_nil)), (envS_cons slices_SortFunc_Sl_tree_Leaf_tree_Leaf__tree_compare_Sok (envS_cons slices_CompactFunc_Sl_tree_Leaf_tree_Leaf__tree_Leaves_1_Sok envS_nil)), envP_nil, envX_nil⟩ Try.func8 rfl (by kernel_rfl))
theorem tree_Leaves_ok : TOk tree_Leaves_F tree_Leaves_T := runY_ok (E := tree_Leaves_E) (ET := tree_Leaves_V) (EnvT.ofX (E := tree_Leaves_E) (ET := tree_Leaves_V) (pure_of (pairs_cons slices_Clone_Sl_string_string_ok (pairs_cons op_Leaf_ok pairs_nil))) looks_nil (raws_cons slices_SortFunc_Sl_tree_Leaf_tree_Leaf__tree_compare_ok rfl rfl (raws_cons slices_CompactFunc_Sl_tree_Leaf_tree_Leaf__tree_Leaves_1_ok rfl rfl raws_nil)) G0_ok news_nil) tree_Leaves_eq rfl
-- palinode/tree.Deep
noncomputable def tree_Deep_E : Env := { pure := [], raw := [], glob := G0, same := [], look := [], ext := [] }
def tree_Deep_H : Hints := { seqs := [], loops := [(3, [3, 6, 7, 8])], own := [] }
noncomputable def tree_Deep_F : PFn := closeF (runF Try.prog tree_Deep_E tree_Deep_H Try.f9)
def tree_Deep_Y : TH := { joins := [], loops := [(3, { keep := [(3, (.int .i64)), (8, (.int .i64))], mem := [] })], cuts := [], ro := [], news := [] }
noncomputable def tree_Deep_l3 (a0 : List (((Int × Int × Unit) × Int × Unit) × (Int × List (List UInt8) × (Int × Int × List UInt8 × Unit) × Int × List ((Int × Int × Unit) × Int × Unit) × Unit) × Int × Unit)) (y3 : (Int × Int × Unit)) : Option ((Int × Int × Unit) ⊕ Int) :=
 cond (decide (y3.2.1 < (a0.length : Int))) (
(atI a0 y3.2.1).bind fun x1 =>
 some (.inl ((max y3.1 (x1.2.1.2.1.length : Int)), (IntKind.wrap .i64 (y3.2.1 + 1)), ()))) (
 some (.inr y3.1))
noncomputable def tree_Deep (a0 : List (((Int × Int × Unit) × Int × Unit) × (Int × List (List UInt8) × (Int × Int × List UInt8 × Unit) × Int × List ((Int × Int × Unit) × Int × Unit) × Unit) × Int × Unit)) : Option Int :=
 loopT (tree_Deep_l3 a0) (0, 0, ())
noncomputable def tree_Deep_T : TFn := { ps := (.cons (.sl (.agg (.cons (.agg (.cons (.agg (.cons (.int .i64) (.cons (.int .i64) .unit))) (.cons (.int .i64) .unit))) (.cons (.agg (.cons (.int .i64) (.cons (.sl .str) (.cons (.agg (.cons (.int .i64) (.cons (.int .i64) (.cons .str .unit)))) (.cons (.int .i64) (.cons (.sl (.agg (.cons (.agg (.cons (.int .i64) (.cons (.int .i64) .unit))) (.cons (.int .i64) .unit)))) .unit)))))) (.cons (.int .i64) .unit))))) .unit), res := (.int .i64), fn := fun v => tree_Deep v.1 }
noncomputable def tree_Deep_V : TEnv := { pure := [], look := [], glob := G0T, ty := [], raw := [], fresh := [] }
theorem tree_Deep_eq : runY Try.prog tree_Deep_E tree_Deep_H tree_Deep_V tree_Deep_Y Try.f9 tree_Deep_T.ps tree_Deep_T.res = tree_Deep_T.fn := by kernel_rfl
theorem tree_Deep_Fok : SoundP Try.prog G0 9 tree_Deep_F := closeF_sound (runF_sound (P := Try.prog) (E := tree_Deep_E) (h := tree_Deep_H) (f := 9) (fn := Try.f9) ⟨same_ok, envP_nil, envS_nil, envP_nil, envX_nil⟩ Try.func9 rfl (by kernel_rfl))
theorem tree_Deep_ok : TOk tree_Deep_F tree_Deep_T := runY_ok (E := tree_Deep_E) (ET := tree_Deep_V) (EnvT.ofX (E := tree_Deep_E) (ET := tree_Deep_V) (pure_of pairs_nil) looks_nil raws_nil G0_ok news_nil) tree_Deep_eq rfl
-- slices.Compact[[]string,string]
noncomputable def slices_Compact_Sl_string_string_E : Env := { pure := [], raw := [], glob := G0, same := [], look := [], ext := [] }
def slices_Compact_Sl_string_string_H : Hints := { seqs := [], loops := [(4, [0, 3]), (9, [0, 3, 4, 5])], own := [] }
noncomputable def slices_Compact_Sl_string_string_S : SFn := giveS (runF Try.prog slices_Compact_Sl_string_string_E slices_Compact_Sl_string_string_H Try.f29)
def slices_Compact_Sl_string_string_Y : TH := { joins := [(14, { keep := [(0, (.own 0)), (3, (.int .i64))], mem := [.row false 9 .str] })], loops := [(4, { keep := [(0, (.own 0)), (3, (.int .i64))], mem := [.row false 9 .str] }), (9, { keep := [(0, (.own 0)), (3, (.int .i64)), (4, (.vw 0)), (5, (.int .i64))], mem := [.row false 9 .str] })], cuts := [], ro := [], news := [] }
noncomputable def slices_Compact_Sl_string_string_l9 (y9 : (Int × (Nat × Nat) × Int × List (List UInt8) × Unit)) : Option ((Int × (Nat × Nat) × Int × List (List UInt8) × Unit) ⊕ ((Int × List (List UInt8) × Unit) ⊕ ((Int × List (List UInt8) × Unit) ⊕ (List (List UInt8))))) :=
 cond (decide (y9.2.2.1 < (y9.2.1.2 : Int))) (
 cond y9.2.2.2.1.isEmpty (none) ((inI y9.2.1.2 y9.2.2.1).bind fun i6 =>
(y9.2.2.2.1[(y9.2.1.1 + i6)]?).bind fun x7 =>
 cond y9.2.2.2.1.isEmpty (none) ((inI y9.2.1.2 (IntKind.wrap .i64 (y9.2.2.1 - 1))).bind fun i8 =>
(y9.2.2.2.1[(y9.2.1.1 + i8)]?).bind fun x9 =>
 cond (!decide (x7 = x9)) (
 cond y9.2.2.2.1.isEmpty (none) ((inI y9.2.1.2 y9.2.2.1).bind fun i10 =>
(y9.2.2.2.1[(y9.2.1.1 + i10)]?).bind fun x11 =>
(inI y9.2.2.2.1.length y9.1).bind fun i12 =>
(y9.2.2.2.1[i12]?).bind fun x13 =>
 some (.inl ((IntKind.wrap .i64 (y9.1 + 1)), y9.2.1, (IntKind.wrap .i64 (y9.2.2.1 + 1)), (y9.2.2.2.1.set i12 x11), ())))) (
 some (.inl (y9.1, y9.2.1, (IntKind.wrap .i64 (y9.2.2.1 + 1)), y9.2.2.2.1, ())))))) (
 some (.inr (.inl (y9.1, y9.2.2.2.1, ()))))
noncomputable def slices_Compact_Sl_string_string_l4 (y4 : (Int × List (List UInt8) × Unit)) : Option ((Int × List (List UInt8) × Unit) ⊕ (List (List UInt8))) :=
 cond (decide (y4.1 < (y4.2.1.length : Int))) (
(inI y4.2.1.length y4.1).bind fun i1 =>
(y4.2.1[i1]?).bind fun x2 =>
(inI y4.2.1.length (IntKind.wrap .i64 (y4.1 - 1))).bind fun i3 =>
(y4.2.1[i3]?).bind fun x4 =>
 cond (decide (x2 = x4)) (
 cond y4.2.1.isEmpty (none) ((viewI (y4.2.1.length) y4.1 (y4.2.1.length : Int)).bind fun p5 =>
(loopT (slices_Compact_Sl_string_string_l9) (y4.1, p5, 1, y4.2.1, ()) : Option ((Int × List (List UInt8) × Unit) ⊕ ((Int × List (List UInt8) × Unit) ⊕ (List (List UInt8))))).bind (joinS fun v14 =>
 cond v14.2.1.isEmpty (none) ((viewI (v14.2.1.length) v14.1 (v14.2.1.length : Int)).bind fun p15 =>
 cond v14.2.1.isEmpty (none) ((if p15.1 + p15.2 ≤ v14.2.1.length then some () else none).bind fun u16 =>
 cond (v14.2.1.take p15.1 ++ List.replicate p15.2 [] ++ v14.2.1.drop (p15.1 + p15.2)).isEmpty (none) ((viewI ((v14.2.1.take p15.1 ++ List.replicate p15.2 [] ++ v14.2.1.drop (p15.1 + p15.2)).length) 0 v14.1).bind fun p17 =>
(cond (v14.2.1.take p15.1 ++ List.replicate p15.2 [] ++ v14.2.1.drop (p15.1 + p15.2)).isEmpty none (if p17.1 + p17.2 ≤ (v14.2.1.take p15.1 ++ List.replicate p15.2 [] ++ v14.2.1.drop (p15.1 + p15.2)).length then some (((v14.2.1.take p15.1 ++ List.replicate p15.2 [] ++ v14.2.1.drop (p15.1 + p15.2)).drop p17.1).take p17.2) else none)).map .inr)))))) (
 some (.inl ((IntKind.wrap .i64 (y4.1 + 1)), y4.2.1, ())))) (
 some (.inr y4.2.1))
noncomputable def slices_Compact_Sl_string_string_g (w0 : List (List UInt8)) : Option (List (List UInt8)) :=
 cond (decide ((w0.length : Int) < 2)) (
 some w0) (
 loopT (slices_Compact_Sl_string_string_l4) (1, w0, ()))
noncomputable def slices_Compact_Sl_string_string (w0 : List (List UInt8)) : Option (List (List UInt8) × Unit) := (slices_Compact_Sl_string_string_g w0).map fun l => (l, ())
noncomputable def slices_Compact_Sl_string_string_R : TRaw := { ps := (.cons (.own 0) .unit), ins := [.row false 9 .str], res := (.sl .str), outs := [.gone], fn := fun v w => slices_Compact_Sl_string_string w.1 }
noncomputable def slices_Compact_Sl_string_string_V : TEnv := { pure := [], look := [], glob := G0T, ty := [], raw := [], fresh := [] }
theorem slices_Compact_Sl_string_string_eq : giveY Try.prog slices_Compact_Sl_string_string_E slices_Compact_Sl_string_string_H slices_Compact_Sl_string_string_V slices_Compact_Sl_string_string_Y Try.f29 (.cons (.own 0) .unit) false 9 .str = fun _ w => slices_Compact_Sl_string_string_g w := by kernel_rfl
theorem slices_Compact_Sl_string_string_Sok : SoundS Try.prog G0 29 slices_Compact_Sl_string_string_S := giveS_sound (runF_sound (P := Try.prog) (E := slices_Compact_Sl_string_string_E) (h := slices_Compact_Sl_string_string_H) (f := 29) (fn := Try.f29) ⟨same_ok, envP_nil, envS_nil, envP_nil, envX_nil⟩ Try.func29 rfl (by kernel_rfl))
theorem slices_Compact_Sl_string_string_ok : TRawOk slices_Compact_Sl_string_string_S slices_Compact_Sl_string_string_R := giveY_ok (E := slices_Compact_Sl_string_string_E) (ET := slices_Compact_Sl_string_string_V) (EnvT.ofX (E := slices_Compact_Sl_string_string_E) (ET := slices_Compact_Sl_string_string_V) (pure_of pairs_nil) looks_nil raws_nil G0_ok news_nil) slices_Compact_Sl_string_string_eq
-- strings.Compare
noncomputable def strings_Compare_F : PFn := cmpF
noncomputable def strings_Compare (a0 : List UInt8) (a1 : List UInt8) : Option Int := cmpT a0 a1
noncomputable def strings_Compare_T : TFn := cmpT_T
theorem strings_Compare_ok : TOk strings_Compare_F strings_Compare_T := cmpT_ok
-- slices.SortFunc[[]string,string] by strings.Compare
theorem strings_Compare_FokD : @SoundP ⟨True⟩ Try.prog G0 28 strings_Compare_F := by
  letI : Drawn := ⟨True⟩
  exact cmp_sound ⟨Try.f28, Try.func28, rfl, by kernel_rfl⟩ Try.strings_Compare
def slices_SortFunc_Sl_string_string__strings_Compare_ren : Go.Shelf.Ren := ⟨fun | 6 => 27 | 14 => 42 | 15 => 38 | 20 => 64 | 21 => 65 | 22 => 66 | 23 => 67 | 24 => 68 | 25 => 69 | 26 => 70 | 27 => 71 | 28 => 60 | 29 => 61 | 46 => 85 | 47 => 80 | 48 => 81 | 49 => 86 | 50 => 87 | 57 => 94 | n => n, fun | 0 => 0 | 3 => 3 | 4 => 4 | 5 => 5 | 9 => 9 | 22 => 31 | 24 => 9 | 25 => 69 | 39 => 76 | 45 => 91 | 46 => 92 | 50 => 88 | 53 => 98 | 55 => 100 | 66 => 112 | 70 => 116 | 76 => 124 | 77 => 125 | n => n, fun | n => n⟩
theorem slices_SortFunc_Sl_string_string__strings_Compare_lays : Go.Proofs.SlLaysF.n6 Try.prog slices_SortFunc_Sl_string_string__strings_Compare_ren := {
  mixed := by kernel_rfl
  f6 := ⟨Try.f27.name, by decide, Try.func27.trans (congrArg some (by kernel_rfl))⟩
  f14 := ⟨Try.f42.name, by decide, Try.func42.trans (congrArg some (by kernel_rfl))⟩
  f15 := Try.func38.trans (congrArg some (by kernel_rfl))
  f20 := ⟨Try.f64.name, by decide, Try.func64.trans (congrArg some (by kernel_rfl))⟩
  f21 := ⟨Try.f65.name, by decide, Try.func65.trans (congrArg some (by kernel_rfl))⟩
  f22 := ⟨Try.f66.name, by decide, Try.func66.trans (congrArg some (by kernel_rfl))⟩
  f23 := ⟨Try.f67.name, by decide, Try.func67.trans (congrArg some (by kernel_rfl))⟩
  f24 := ⟨Try.f68.name, by decide, Try.func68.trans (congrArg some (by kernel_rfl))⟩
  f25 := ⟨Try.f69.name, by decide, Try.func69.trans (congrArg some (by kernel_rfl))⟩
  f26 := ⟨Try.f70.name, by decide, Try.func70.trans (congrArg some (by kernel_rfl))⟩
  f27 := ⟨Try.f71.name, by decide, Try.func71.trans (congrArg some (by kernel_rfl))⟩
  f28 := Try.func60.trans (congrArg some (by kernel_rfl))
  f29 := Try.func61.trans (congrArg some (by kernel_rfl))
  f46 := ⟨Try.f85.name, by decide, Try.func85.trans (congrArg some (by kernel_rfl))⟩
  f47 := Try.func80.trans (congrArg some (by kernel_rfl))
  f48 := Try.func81.trans (congrArg some (by kernel_rfl))
  f49 := ⟨Try.f86.name, by decide, Try.func86.trans (congrArg some (by kernel_rfl))⟩
  f50 := ⟨Try.f87.name, by decide, Try.func87.trans (congrArg some (by kernel_rfl))⟩
  f57 := ⟨Try.f94.name, by decide, Try.func94.trans (congrArg some (by kernel_rfl))⟩
  t0 := Try.underlying0
  a0 := Try.isAgg0
  z0 := Try.sizeOf0
  v0 := Try.zeroValue0
  t3 := Try.underlying3
  a3 := Try.isAgg3
  z3 := Try.sizeOf3
  v3 := Try.zeroValue3
  t4 := Try.underlying4
  a4 := Try.isAgg4
  z4 := Try.sizeOf4
  v4 := Try.zeroValue4
  t5 := Try.underlying5
  a5 := Try.isAgg5
  z5 := Try.sizeOf5
  v5 := Try.zeroValue5
  t9 := Try.underlying9
  a9 := Try.isAgg9
  z9 := Try.sizeOf9
  v9 := Try.zeroValue9
  t22 := Try.underlying31
  a22 := Try.isAgg31
  z22 := Try.sizeOf31
  v22 := Try.zeroValue31
  a24 := Try.isAgg9
  z24 := Try.sizeOf9
  t25 := Try.underlying69
  a25 := Try.isAgg69
  z25 := Try.sizeOf69
  v25 := Try.zeroValue69
  t39 := Try.underlying76
  a39 := Try.isAgg76
  z39 := Try.sizeOf76
  v39 := Try.zeroValue76
  t45 := Try.underlying91
  a45 := Try.isAgg91
  z45 := Try.sizeOf91
  v45 := Try.zeroValue91
  t46 := Try.underlying92
  a46 := Try.isAgg92
  z46 := Try.sizeOf92
  v46 := Try.zeroValue92
  t50 := Try.underlying88
  a50 := Try.isAgg88
  z50 := Try.sizeOf88
  v50 := Try.zeroValue88
  t53 := Try.underlying98
  a53 := Try.isAgg98
  z53 := Try.sizeOf98
  v53 := Try.zeroValue98
  t55 := Try.underlying100
  a55 := Try.isAgg100
  z55 := Try.sizeOf100
  v55 := Try.zeroValue100
  t66 := Try.underlying112
  a66 := Try.isAgg112
  z66 := Try.sizeOf112
  v66 := Try.zeroValue112
  t70 := Try.underlying116
  a70 := Try.isAgg116
  z70 := Try.sizeOf116
  v70 := Try.zeroValue116
  t76 := Try.underlying124
  a76 := Try.isAgg124
  z76 := Try.sizeOf124
  v76 := Try.zeroValue124
  t77 := Try.underlying125
  a77 := Try.isAgg125
  z77 := Try.sizeOf125
  v77 := Try.zeroValue125 }
noncomputable def slices_SortFunc_Sl_string_string__strings_Compare_S : SFn := sort1S strings_Compare_F 28 9
theorem slices_SortFunc_Sl_string_string__strings_Compare_Sok : SoundS Try.prog G0 27 slices_SortFunc_Sl_string_string__strings_Compare_S := sort1_sound (g := 28) slices_SortFunc_Sl_string_string__strings_Compare_lays strings_Compare_FokD ⟨Try.f27, Try.func27, rfl, by kernel_rfl⟩
noncomputable def slices_SortFunc_Sl_string_string__strings_Compare (w0 : List (List UInt8)) : Option (Unit × List (List UInt8) × Unit) := (sortT (fun x y => strings_Compare x y) w0).map fun l => ((), (l, ()))
noncomputable def slices_SortFunc_Sl_string_string__strings_Compare_R : TRaw := sortR false 28 9 .str (fun x y => strings_Compare x y)
theorem slices_SortFunc_Sl_string_string__strings_Compare_ok : TRawOk slices_SortFunc_Sl_string_string__strings_Compare_S slices_SortFunc_Sl_string_string__strings_Compare_R := sort1R_ok rfl rfl rfl rfl cell_str strings_Compare_ok
-- palinode/tree.Keys
noncomputable def tree_Keys_E : Env := { pure := [(14, live_Under_F)], raw := [(27, slices_SortFunc_Sl_string_string__strings_Compare_S), (29, slices_Compact_Sl_string_string_S)], glob := G0, same := [], look := [], ext := [] }
def tree_Keys_H : Hints := { seqs := [], loops := [(3, [1, 5, 10, 11, 12])], own := [] }
noncomputable def tree_Keys_F : PFn := closeF (runF Try.prog tree_Keys_E tree_Keys_H Try.f11)
def tree_Keys_Y : TH := { joins := [(8, { keep := [(5, (.own 1))], mem := [.gone, .row true 9 .str] })], loops := [(3, { keep := [(5, (.own 1)), (12, (.int .i64))], mem := [.gone, .row true 9 .str] })], cuts := [], ro := [], news := [] }
noncomputable def tree_Keys_l3 (a1 : List (List UInt8)) (r1 : List (((Int × Int × Unit) × Int × Unit) × (Int × List (List UInt8) × (Int × Int × List UInt8 × Unit) × Int × List ((Int × Int × Unit) × Int × Unit) × Unit) × Int × Unit)) (y3 : (Int × List (List UInt8) × Unit)) : Option ((Int × List (List UInt8) × Unit) ⊕ ((List (List UInt8) × Unit) ⊕ List (List UInt8))) :=
 cond (decide (y3.1 < (r1.length : Int))) (
(atI r1 y3.1).bind fun x2 =>
 cond (decide ((x2.2.1.2.1.length : Int) > (a1.length : Int))) (
(atI x2.2.1.2.1 (a1.length : Int)).bind fun x3 =>
(roomT (y3.2.1.length + ([x3] : List (List UInt8)).length)).bind fun u4 =>
 some (.inl ((IntKind.wrap .i64 (y3.1 + 1)), (y3.2.1 ++ ([x3] : List (List UInt8))), ()))) (
 some (.inl ((IntKind.wrap .i64 (y3.1 + 1)), y3.2.1, ())))) (
 some (.inr (.inl (y3.2.1, ()))))
noncomputable def tree_Keys (a0 : List (((Int × Int × Unit) × Int × Unit) × (Int × List (List UInt8) × (Int × Int × List UInt8 × Unit) × Int × List ((Int × Int × Unit) × Int × Unit) × Unit) × Int × Unit)) (a1 : List (List UInt8)) : Option (List (List UInt8)) :=
((live_Under a0 a1).bind fun r1 =>
 loopT (tree_Keys_l3 a1 r1) (0, [], ()) : Option ((List (List UInt8) × Unit) ⊕ List (List UInt8))).bind (joinS fun v5 =>
(slices_SortFunc_Sl_string_string__strings_Compare v5.1).bind fun q6 =>
(slices_Compact_Sl_string_string q6.2.1).bind fun q7 =>
 some q7.1)
noncomputable def tree_Keys_T : TFn := { ps := (.cons (.sl (.agg (.cons (.agg (.cons (.agg (.cons (.int .i64) (.cons (.int .i64) .unit))) (.cons (.int .i64) .unit))) (.cons (.agg (.cons (.int .i64) (.cons (.sl .str) (.cons (.agg (.cons (.int .i64) (.cons (.int .i64) (.cons .str .unit)))) (.cons (.int .i64) (.cons (.sl (.agg (.cons (.agg (.cons (.int .i64) (.cons (.int .i64) .unit))) (.cons (.int .i64) .unit)))) .unit)))))) (.cons (.int .i64) .unit))))) (.cons (.sl .str) .unit)), res := (.sl .str), fn := fun v => tree_Keys v.1 v.2.1 }
noncomputable def tree_Keys_V : TEnv := { pure := [(14, live_Under_T)], look := [], glob := G0T, ty := [(9, .str)], raw := [(27, slices_SortFunc_Sl_string_string__strings_Compare_R), (29, slices_Compact_Sl_string_string_R)], fresh := [] }
theorem tree_Keys_eq : runY Try.prog tree_Keys_E tree_Keys_H tree_Keys_V tree_Keys_Y Try.f11 tree_Keys_T.ps tree_Keys_T.res = tree_Keys_T.fn := by kernel_rfl
theorem tree_Keys_Fok : SoundP Try.prog G0 11 tree_Keys_F := closeF_sound (runF_sound (P := Try.prog) (E := tree_Keys_E) (h := tree_Keys_H) (f := 11) (fn := Try.f11) ⟨same_ok, (envP_cons live_Under_Fok envP_nil), (envS_cons slices_SortFunc_Sl_string_string__strings_Compare_Sok (envS_cons slices_Compact_Sl_string_string_Sok envS_nil)), envP_nil, envX_nil⟩ Try.func11 rfl (by kernel_rfl))
theorem tree_Keys_ok : TOk tree_Keys_F tree_Keys_T := runY_ok (E := tree_Keys_E) (ET := tree_Keys_V) (EnvT.ofX (E := tree_Keys_E) (ET := tree_Keys_V) (pure_of (pairs_cons live_Under_ok pairs_nil)) looks_nil (raws_cons slices_SortFunc_Sl_string_string__strings_Compare_ok rfl rfl (raws_cons slices_Compact_Sl_string_string_ok rfl rfl raws_nil)) G0_ok news_nil) tree_Keys_eq rfl
-- palinode/tree.Kinds
-- palinode/palinodelaw17.key
noncomputable def law17_key_E : Env := { pure := [], raw := [], glob := G0, same := [], look := [], ext := [] }
def law17_key_H : Hints := { seqs := [], loops := [(2, [0, 1, 5])], own := [] }
noncomputable def law17_key_F : PFn := closeF (runF Try.prog law17_key_E law17_key_H Try.f10)
def law17_key_Y : TH := { joins := [], loops := [(2, { keep := [(5, (.int .i64))], mem := [] })], cuts := [], ro := [], news := [] }
noncomputable def law17_key_l2 (a0 : List (List UInt8)) (a1 : List UInt8) (y2 : (Int × Unit)) : Option ((Int × Unit) ⊕ Bool) :=
 cond (decide (y2.1 < (a0.length : Int))) (
(atI a0 y2.1).bind fun x1 =>
 cond (decide (x1 = a1)) (
 some (.inr true)) (
 some (.inl ((IntKind.wrap .i64 (y2.1 + 1)), ())))) (
 some (.inr false))
noncomputable def law17_key (a0 : List (List UInt8)) (a1 : List UInt8) : Option Bool :=
 loopT (law17_key_l2 a0 a1) (0, ())
noncomputable def law17_key_T : TFn := { ps := (.cons (.sl .str) (.cons .str .unit)), res := .bool, fn := fun v => law17_key v.1 v.2.1 }
noncomputable def law17_key_V : TEnv := { pure := [], look := [], glob := G0T, ty := [], raw := [], fresh := [] }
theorem law17_key_eq : runY Try.prog law17_key_E law17_key_H law17_key_V law17_key_Y Try.f10 law17_key_T.ps law17_key_T.res = law17_key_T.fn := by kernel_rfl
theorem law17_key_Fok : SoundP Try.prog G0 10 law17_key_F := closeF_sound (runF_sound (P := Try.prog) (E := law17_key_E) (h := law17_key_H) (f := 10) (fn := Try.f10) ⟨same_ok, envP_nil, envS_nil, envP_nil, envX_nil⟩ Try.func10 rfl (by kernel_rfl))
theorem law17_key_ok : TOk law17_key_F law17_key_T := runY_ok (E := law17_key_E) (ET := law17_key_V) (EnvT.ofX (E := law17_key_E) (ET := law17_key_V) (pure_of pairs_nil) looks_nil raws_nil G0_ok news_nil) law17_key_eq rfl
-- palinode/palinoderef03.Same
noncomputable def ref03_Same_E : Env := { pure := [], raw := [], glob := G0, same := [], look := [], ext := [] }
def ref03_Same_H : Hints := { seqs := [], loops := [(4, [0, 1, 5])], own := [] }
noncomputable def ref03_Same_F : PFn := closeF (runF Try.prog ref03_Same_E ref03_Same_H Try.f18)
def ref03_Same_Y : TH := { joins := [], loops := [(4, { keep := [(5, (.int .i64))], mem := [] })], cuts := [], ro := [], news := [] }
noncomputable def ref03_Same_l4 (a0 : List (List UInt8)) (a1 : List (List UInt8)) (y4 : (Int × Unit)) : Option ((Int × Unit) ⊕ Bool) :=
 cond (decide (y4.1 < (a0.length : Int))) (
(atI a0 y4.1).bind fun x1 =>
(atI a1 y4.1).bind fun x2 =>
 cond (!decide (x1 = x2)) (
 some (.inr false)) (
 some (.inl ((IntKind.wrap .i64 (y4.1 + 1)), ())))) (
 some (.inr true))
noncomputable def ref03_Same (a0 : List (List UInt8)) (a1 : List (List UInt8)) : Option Bool :=
 cond (!decide ((a0.length : Int) = (a1.length : Int))) (
 some false) (
 loopT (ref03_Same_l4 a0 a1) (0, ()))
noncomputable def ref03_Same_T : TFn := { ps := (.cons (.sl .str) (.cons (.sl .str) .unit)), res := .bool, fn := fun v => ref03_Same v.1 v.2.1 }
noncomputable def ref03_Same_V : TEnv := { pure := [], look := [], glob := G0T, ty := [], raw := [], fresh := [] }
theorem ref03_Same_eq : runY Try.prog ref03_Same_E ref03_Same_H ref03_Same_V ref03_Same_Y Try.f18 ref03_Same_T.ps ref03_Same_T.res = ref03_Same_T.fn := by kernel_rfl
theorem ref03_Same_Fok : SoundP Try.prog G0 18 ref03_Same_F := closeF_sound (runF_sound (P := Try.prog) (E := ref03_Same_E) (h := ref03_Same_H) (f := 18) (fn := Try.f18) ⟨same_ok, envP_nil, envS_nil, envP_nil, envX_nil⟩ Try.func18 rfl (by kernel_rfl))
theorem ref03_Same_ok : TOk ref03_Same_F ref03_Same_T := runY_ok (E := ref03_Same_E) (ET := ref03_Same_V) (EnvT.ofX (E := ref03_Same_E) (ET := ref03_Same_V) (pure_of pairs_nil) looks_nil raws_nil G0_ok news_nil) ref03_Same_eq rfl
-- palinode/palinodelaw17.awake
noncomputable def law17_awake_E : Env := { pure := [(7, live_All_F), (8, tree_Leaves_F), (9, tree_Deep_F), (11, tree_Keys_F), (18, ref03_Same_F)], raw := [], glob := G0, same := [], look := [], ext := [] }
def law17_awake_H : Hints := { seqs := [], loops := [], own := [] }
noncomputable def law17_awake_F : PFn := closeF (runF Try.prog law17_awake_E law17_awake_H Try.f6)
def law17_awake_Y : TH := { joins := [], loops := [], cuts := [], ro := [], news := [] }
noncomputable def law17_awake : Option Bool :=
(live_All ([((0, 1, ()), 0, 1, false, ([(3, ([[97], [109]] : List (List UInt8)), (0, 0, [], ()), 1, [], ()), (3, ([[97], [107]] : List (List UInt8)), (0, 0, [], ()), 1, [], ())] : List (Int × List (List UInt8) × (Int × Int × List UInt8 × Unit) × Int × List ((Int × Int × Unit) × Int × Unit) × Unit)), ())] : List ((Int × Int × Unit) × Int × Int × Bool × List (Int × List (List UInt8) × (Int × Int × List UInt8 × Unit) × Int × List ((Int × Int × Unit) × Int × Unit) × Unit) × Unit)) []).bind fun r1 =>
(tree_Keys r1 []).bind fun r2 =>
(ref03_Same r2 ([[97]] : List (List UInt8))).bind fun r3 =>
 cond r3 ((tree_Keys r1 ([[97]] : List (List UInt8))).bind fun r4 =>
(ref03_Same r4 ([[107], [109]] : List (List UInt8))).bind fun r5 =>
 cond r5 ((tree_Leaves r1).bind fun r6 =>
 cond (decide ((r6.length : Int) = 2)) ((tree_Deep r1).bind fun r7 =>
 some (decide (r7 = 2))) (some false)) (some false)) (some false)
noncomputable def law17_awake_T : TFn := { ps := .unit, res := .bool, fn := fun v => law17_awake  }
noncomputable def law17_awake_V : TEnv := { pure := [(7, live_All_T), (8, tree_Leaves_T), (9, tree_Deep_T), (11, tree_Keys_T), (18, ref03_Same_T)], look := [], glob := G0T, ty := [(9, .str), (48, (.agg (.cons (.int .i64) (.cons (.sl .str) (.cons (.agg (.cons (.int .i64) (.cons (.int .i64) (.cons .str .unit)))) (.cons (.int .i64) (.cons (.sl (.agg (.cons (.agg (.cons (.int .i64) (.cons (.int .i64) .unit))) (.cons (.int .i64) .unit)))) .unit))))))), (53, (.agg (.cons (.agg (.cons (.int .i64) (.cons (.int .i64) .unit))) (.cons (.int .i64) (.cons (.int .i64) (.cons .bool (.cons (.sl (.agg (.cons (.int .i64) (.cons (.sl .str) (.cons (.agg (.cons (.int .i64) (.cons (.int .i64) (.cons .str .unit)))) (.cons (.int .i64) (.cons (.sl (.agg (.cons (.agg (.cons (.int .i64) (.cons (.int .i64) .unit))) (.cons (.int .i64) .unit)))) .unit))))))) .unit)))))))], raw := [], fresh := [] }
theorem law17_awake_eq : runY Try.prog law17_awake_E law17_awake_H law17_awake_V law17_awake_Y Try.f6 law17_awake_T.ps law17_awake_T.res = law17_awake_T.fn := by kernel_rfl
theorem law17_awake_Fok : SoundP Try.prog G0 6 law17_awake_F := closeF_sound (runF_sound (P := Try.prog) (E := law17_awake_E) (h := law17_awake_H) (f := 6) (fn := Try.f6) ⟨same_ok, (envP_cons live_All_Fok (envP_cons tree_Leaves_Fok (envP_cons tree_Deep_Fok (envP_cons tree_Keys_Fok (envP_cons ref03_Same_Fok envP_nil))))), envS_nil, envP_nil, envX_nil⟩ Try.func6 rfl (by kernel_rfl))
theorem law17_awake_ok : TOk law17_awake_F law17_awake_T := runY_ok (E := law17_awake_E) (ET := law17_awake_V) (EnvT.ofX (E := law17_awake_E) (ET := law17_awake_V) (pure_of (pairs_cons live_All_ok (pairs_cons tree_Leaves_ok (pairs_cons tree_Deep_ok (pairs_cons tree_Keys_ok (pairs_cons ref03_Same_ok pairs_nil)))))) looks_nil raws_nil G0_ok news_nil) law17_awake_eq rfl
-- palinode/palinodelaw17.TreeWalks
noncomputable def law17_TreeWalks_E : Env := { pure := [(5, law13_Good_F), (6, law17_awake_F), (7, live_All_F), (8, tree_Leaves_F), (9, tree_Deep_F), (10, law17_key_F), (11, tree_Keys_F), (12, live_At_F)], raw := [], glob := G0, same := [], look := [], ext := [] }
def law17_TreeWalks_H : Hints := { seqs := [], loops := [(7, [5, 6, 7, 8]), (11, [5, 6, 7, 8, 9, 10])], own := [] }
noncomputable def law17_TreeWalks_F : PFn := closeF (runF Try.prog law17_TreeWalks_E law17_TreeWalks_H Try.f3)
def law17_TreeWalks_Y : TH := { joins := [(17, { keep := [], mem := [] }), (15, { keep := [], mem := [] })], loops := [(7, { keep := [(8, (.int .i64))], mem := [] }), (11, { keep := [(10, (.int .i64))], mem := [] })], cuts := [], ro := [], news := [] }
noncomputable def law17_TreeWalks_l11 (r3 : List (((Int × Int × Unit) × Int × Unit) × (Int × List (List UInt8) × (Int × Int × List UInt8 × Unit) × Int × List ((Int × Int × Unit) × Int × Unit) × Unit) × Int × Unit)) (x6 : (List (List UInt8) × Int × Unit)) (y11 : (Int × Unit)) : Option ((Int × Unit) ⊕ (Unit ⊕ ((Int × Unit) ⊕ (Unit ⊕ Bool)))) :=
 cond (decide (y11.1 < (x6.1.length : Int))) (
(subI x6.1 0 y11.1).bind fun s7 =>
(tree_Keys r3 s7).bind fun r8 =>
(atI x6.1 y11.1).bind fun x9 =>
(law17_key r8 x9).bind fun r10 =>
 cond (!r10) (
 some (.inr (.inr (.inr (.inr false))))) (
 some (.inl ((IntKind.wrap .i64 (y11.1 + 1)), ())))) (
 some (.inr (.inl ())))
noncomputable def law17_TreeWalks_l7 (r3 : List (((Int × Int × Unit) × Int × Unit) × (Int × List (List UInt8) × (Int × Int × List UInt8 × Unit) × Int × List ((Int × Int × Unit) × Int × Unit) × Unit) × Int × Unit)) (r4 : List (List (List UInt8) × Int × Unit)) (r5 : Int) (y7 : (Int × Unit)) : Option ((Int × Unit) ⊕ (Unit ⊕ Bool)) :=
 cond (decide (y7.1 < (r4.length : Int))) (
(atI r4 y7.1).bind fun x6 =>
(loopT (law17_TreeWalks_l11 r3 x6) (0, ()) : Option (Unit ⊕ ((Int × Unit) ⊕ (Unit ⊕ Bool)))).bind (joinS fun v11 =>
 cond (decide ((x6.1.length : Int) > r5)) (some (.inr (.inr false))) (cond (decide ((x6.1.length : Int) > 8)) (some (.inr (.inr false))) ((atI r4 y7.1).bind fun x12 =>
(live_At r3 x6.1 x12.2.1).bind fun r13 =>
 cond (decide ((r13.length : Int) = 0)) (
 some (.inr (.inr false))) (
 some (.inl ((IntKind.wrap .i64 (y7.1 + 1)), ()))))))) (
 some (.inr (.inl ())))
noncomputable def law17_TreeWalks (a0 : List ((Int × Int × Unit) × Int × Int × Bool × List (Int × List (List UInt8) × (Int × Int × List UInt8 × Unit) × Int × List ((Int × Int × Unit) × Int × Unit) × Unit) × Unit)) (a1 : List ((Int × Int × Unit) × Int × Unit)) : Option Bool :=
(law13_Good a0 a1).bind fun r1 =>
 cond (!r1) (
(law17_awake).bind fun r2 =>
 some r2) (
(live_All a0 a1).bind fun r3 =>
(tree_Leaves r3).bind fun r4 =>
(tree_Deep r3).bind fun r5 =>
(loopT (law17_TreeWalks_l7 r3 r4 r5) (0, ()) : Option (Unit ⊕ Bool)).bind (joinS fun v14 =>
 cond ((decide (r5 > 0)) == (decide ((r4.length : Int) > 0))) ((law17_awake).bind fun r15 =>
 some r15) (some false)))
noncomputable def law17_TreeWalks_T : TFn := { ps := (.cons (.sl (.agg (.cons (.agg (.cons (.int .i64) (.cons (.int .i64) .unit))) (.cons (.int .i64) (.cons (.int .i64) (.cons .bool (.cons (.sl (.agg (.cons (.int .i64) (.cons (.sl .str) (.cons (.agg (.cons (.int .i64) (.cons (.int .i64) (.cons .str .unit)))) (.cons (.int .i64) (.cons (.sl (.agg (.cons (.agg (.cons (.int .i64) (.cons (.int .i64) .unit))) (.cons (.int .i64) .unit)))) .unit))))))) .unit))))))) (.cons (.sl (.agg (.cons (.agg (.cons (.int .i64) (.cons (.int .i64) .unit))) (.cons (.int .i64) .unit)))) .unit)), res := .bool, fn := fun v => law17_TreeWalks v.1 v.2.1 }
noncomputable def law17_TreeWalks_V : TEnv := { pure := [(5, law13_Good_T), (6, law17_awake_T), (7, live_All_T), (8, tree_Leaves_T), (9, tree_Deep_T), (10, law17_key_T), (11, tree_Keys_T), (12, live_At_T)], look := [], glob := G0T, ty := [], raw := [], fresh := [] }
theorem law17_TreeWalks_eq : runY Try.prog law17_TreeWalks_E law17_TreeWalks_H law17_TreeWalks_V law17_TreeWalks_Y Try.f3 law17_TreeWalks_T.ps law17_TreeWalks_T.res = law17_TreeWalks_T.fn := by kernel_rfl
theorem law17_TreeWalks_Fok : SoundP Try.prog G0 3 law17_TreeWalks_F := closeF_sound (runF_sound (P := Try.prog) (E := law17_TreeWalks_E) (h := law17_TreeWalks_H) (f := 3) (fn := Try.f3) ⟨same_ok, (envP_cons law13_Good_Fok (envP_cons law17_awake_Fok (envP_cons live_All_Fok (envP_cons tree_Leaves_Fok (envP_cons tree_Deep_Fok (envP_cons law17_key_Fok (envP_cons tree_Keys_Fok (envP_cons live_At_Fok envP_nil)))))))), envS_nil, envP_nil, envX_nil⟩ Try.func3 rfl (by kernel_rfl))
theorem law17_TreeWalks_ok : TOk law17_TreeWalks_F law17_TreeWalks_T := runY_ok (E := law17_TreeWalks_E) (ET := law17_TreeWalks_V) (EnvT.ofX (E := law17_TreeWalks_E) (ET := law17_TreeWalks_V) (pure_of (pairs_cons law13_Good_ok (pairs_cons law17_awake_ok (pairs_cons live_All_ok (pairs_cons tree_Leaves_ok (pairs_cons tree_Deep_ok (pairs_cons law17_key_ok (pairs_cons tree_Keys_ok (pairs_cons live_At_ok pairs_nil))))))))) looks_nil raws_nil G0_ok news_nil) law17_TreeWalks_eq rfl
-- palinode/palinodelaw17.TreeEmpty
end Go.Proofs.Ytgfpkhlabdcbmaa.Y
