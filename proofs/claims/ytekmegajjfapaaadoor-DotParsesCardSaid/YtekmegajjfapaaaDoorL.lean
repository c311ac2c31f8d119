import Derived.Test.YtekmegajjfapaaaDoorS
import Derived.Test.YtekmegajjfapaaaDoorT19
import Derived.Test.YtekmegajjfapaaaDoorE19
import Derived.Test.YtekmegajjfapaaaDoorT14
set_option linter.unusedVariables false
set_option maxRecDepth 100000
namespace Go.Proofs.YtekmegajjfapaaaDoor.Y
open Go.EM Go.TY Go.Proofs
noncomputable def G0 : List (Nat × AVal) := [(1, .rptr [.any]), (2, .rptr [.any]), (3, .rptr (Lib.pow10Tab.map (AVal.int .u64)))]
def G0T : List (Nat × TV) := []
theorem G0_ok : GlobsOk G0 G0T := globs_nil
theorem same_ok : ∀ f, memN f [63] = true → Same Tryd.prog f := by
  intro f h
  by_cases e63 : f = 63
  · subst e63; exact ⟨Tryd.f63, Tryd.func63, by kernel_rfl, by kernel_rfl, by kernel_rfl, by kernel_rfl⟩
  simp_all [memN]
-- cmp.isNaN[int]
noncomputable def cmp_isNaN_int_E : Env := { pure := [], raw := [], glob := G0, same := [63], look := [], ext := [] }
def cmp_isNaN_int_H : Hints := { seqs := [], loops := [], own := [] }
noncomputable def cmp_isNaN_int_F : PFn := closeF (runF Tryd.prog cmp_isNaN_int_E cmp_isNaN_int_H Tryd.f39)
def cmp_isNaN_int_Y : TH := { joins := [], loops := [], cuts := [], ro := [], news := [] }
noncomputable def cmp_isNaN_int (a0 : Int) : Option Bool :=
 some (!decide (a0 = a0))
noncomputable def cmp_isNaN_int_T : TFn := { ps := (.cons (.int .i64) .unit), res := .bool, fn := fun v => cmp_isNaN_int v.1 }
noncomputable def cmp_isNaN_int_V : TEnv := { pure := [], look := [], glob := G0T, ty := [], raw := [], fresh := [] }
theorem cmp_isNaN_int_eq : runY Tryd.prog cmp_isNaN_int_E cmp_isNaN_int_H cmp_isNaN_int_V cmp_isNaN_int_Y Tryd.f39 cmp_isNaN_int_T.ps cmp_isNaN_int_T.res = cmp_isNaN_int_T.fn := by kernel_rfl
theorem cmp_isNaN_int_Fok : SoundP Tryd.prog G0 39 cmp_isNaN_int_F := closeF_sound (runF_sound (P := Tryd.prog) (E := cmp_isNaN_int_E) (h := cmp_isNaN_int_H) (f := 39) (fn := Tryd.f39) ⟨same_ok, envP_nil, envS_nil, envP_nil, envX_nil⟩ Tryd.func39 rfl (by kernel_rfl))
theorem cmp_isNaN_int_ok : TOk cmp_isNaN_int_F cmp_isNaN_int_T := runY_ok (E := cmp_isNaN_int_E) (ET := cmp_isNaN_int_V) (EnvT.ofX (E := cmp_isNaN_int_E) (ET := cmp_isNaN_int_V) (pure_of pairs_nil) looks_nil raws_nil G0_ok news_nil) cmp_isNaN_int_eq rfl
-- cmp.Compare[int]
noncomputable def cmp_Compare_int_E : Env := { pure := [(39, cmp_isNaN_int_F)], raw := [], glob := G0, same := [63], look := [], ext := [] }
def cmp_Compare_int_H : Hints := { seqs := [], loops := [], own := [] }
noncomputable def cmp_Compare_int_F : PFn := closeF (runF Tryd.prog cmp_Compare_int_E cmp_Compare_int_H Tryd.f27)
def cmp_Compare_int_Y : TH := { joins := [], loops := [], cuts := [], ro := [], news := [] }
noncomputable def cmp_Compare_int (a0 : Int) (a1 : Int) : Option Int :=
(cmp_isNaN_int a0).bind fun r1 =>
(cmp_isNaN_int a1).bind fun r2 =>
 cond r1 (
 cond r2 (
 some 0) (
 some (-1))) (
 cond r2 (
 some 1) (
 cond (decide (a0 < a1)) (
 some (-1)) (
 cond (decide (a0 > a1)) (
 some 1) (
 some 0))))
noncomputable def cmp_Compare_int_T : TFn := { ps := (.cons (.int .i64) (.cons (.int .i64) .unit)), res := (.int .i64), fn := fun v => cmp_Compare_int v.1 v.2.1 }
noncomputable def cmp_Compare_int_V : TEnv := { pure := [(39, cmp_isNaN_int_T)], look := [], glob := G0T, ty := [], raw := [], fresh := [] }
theorem cmp_Compare_int_eq : runY Tryd.prog cmp_Compare_int_E cmp_Compare_int_H cmp_Compare_int_V cmp_Compare_int_Y Tryd.f27 cmp_Compare_int_T.ps cmp_Compare_int_T.res = cmp_Compare_int_T.fn := by kernel_rfl
theorem cmp_Compare_int_Fok : SoundP Tryd.prog G0 27 cmp_Compare_int_F := closeF_sound (runF_sound (P := Tryd.prog) (E := cmp_Compare_int_E) (h := cmp_Compare_int_H) (f := 27) (fn := Tryd.f27) ⟨same_ok, (envP_cons cmp_isNaN_int_Fok envP_nil), envS_nil, envP_nil, envX_nil⟩ Tryd.func27 rfl (by kernel_rfl))
theorem cmp_Compare_int_ok : TOk cmp_Compare_int_F cmp_Compare_int_T := runY_ok (E := cmp_Compare_int_E) (ET := cmp_Compare_int_V) (EnvT.ofX (E := cmp_Compare_int_E) (ET := cmp_Compare_int_V) (pure_of (pairs_cons cmp_isNaN_int_ok pairs_nil)) looks_nil raws_nil G0_ok news_nil) cmp_Compare_int_eq rfl
-- cmp.Or[int]
noncomputable def cmp_Or_int_E : Env := { pure := [], raw := [], glob := G0, same := [63], look := [], ext := [] }
def cmp_Or_int_H : Hints := { seqs := [], loops := [(3, [3, 6, 7, 8])], own := [] }
noncomputable def cmp_Or_int_F : PFn := closeF (runF Tryd.prog cmp_Or_int_E cmp_Or_int_H Tryd.f26)
def cmp_Or_int_Y : TH := { joins := [], loops := [(3, { keep := [(8, (.int .i64))], mem := [] })], cuts := [], ro := [], news := [] }
noncomputable def cmp_Or_int_l3 (a0 : List Int) (y3 : (Int × Unit)) : Option ((Int × Unit) ⊕ Int) :=
 cond (decide (y3.1 < (a0.length : Int))) (
(atI a0 y3.1).bind fun x1 =>
 cond (!decide (x1 = 0)) (
 some (.inr x1)) (
 some (.inl ((IntKind.wrap .i64 (y3.1 + 1)), ())))) (
 some (.inr 0))
noncomputable def cmp_Or_int (a0 : List Int) : Option Int :=
 loopT (cmp_Or_int_l3 a0) (0, ())
noncomputable def cmp_Or_int_T : TFn := { ps := (.cons (.sl (.int .i64)) .unit), res := (.int .i64), fn := fun v => cmp_Or_int v.1 }
noncomputable def cmp_Or_int_V : TEnv := { pure := [], look := [], glob := G0T, ty := [], raw := [], fresh := [] }
theorem cmp_Or_int_eq : runY Tryd.prog cmp_Or_int_E cmp_Or_int_H cmp_Or_int_V cmp_Or_int_Y Tryd.f26 cmp_Or_int_T.ps cmp_Or_int_T.res = cmp_Or_int_T.fn := by kernel_rfl
theorem cmp_Or_int_Fok : SoundP Tryd.prog G0 26 cmp_Or_int_F := closeF_sound (runF_sound (P := Tryd.prog) (E := cmp_Or_int_E) (h := cmp_Or_int_H) (f := 26) (fn := Tryd.f26) ⟨same_ok, envP_nil, envS_nil, envP_nil, envX_nil⟩ Tryd.func26 rfl (by kernel_rfl))
theorem cmp_Or_int_ok : TOk cmp_Or_int_F cmp_Or_int_T := runY_ok (E := cmp_Or_int_E) (ET := cmp_Or_int_V) (EnvT.ofX (E := cmp_Or_int_E) (ET := cmp_Or_int_V) (pure_of pairs_nil) looks_nil raws_nil G0_ok news_nil) cmp_Or_int_eq rfl
-- palinode/dot.Compare
noncomputable def dot_Compare_E : Env := { pure := [(26, cmp_Or_int_F), (27, cmp_Compare_int_F)], raw := [], glob := G0, same := [63], look := [], ext := [] }
def dot_Compare_H : Hints := { seqs := [], loops := [], own := [] }
noncomputable def dot_Compare_F : PFn := closeF (runF Tryd.prog dot_Compare_E dot_Compare_H Tryd.f10)
def dot_Compare_Y : TH := { joins := [], loops := [], cuts := [], ro := [2, 3], news := [] }
noncomputable def dot_Compare (a0 : (Int × Int × Unit)) (a1 : (Int × Int × Unit)) : Option Int :=
(cmp_Compare_int a0.1 a1.1).bind fun r1 =>
(cmp_Compare_int a0.2.1 a1.2.1).bind fun r2 =>
(cmp_Or_int ([r1, r2] : List Int)).bind fun r3 =>
 some r3
noncomputable def dot_Compare_T : TFn := { ps := (.cons (.agg (.cons (.int .i64) (.cons (.int .i64) .unit))) (.cons (.agg (.cons (.int .i64) (.cons (.int .i64) .unit))) .unit)), res := (.int .i64), fn := fun v => dot_Compare v.1 v.2.1 }
noncomputable def dot_Compare_V : TEnv := { pure := [(26, cmp_Or_int_T), (27, cmp_Compare_int_T)], look := [], glob := G0T, ty := [(3, (.int .i64))], raw := [], fresh := [] }
theorem dot_Compare_eq : runY Tryd.prog dot_Compare_E dot_Compare_H dot_Compare_V dot_Compare_Y Tryd.f10 dot_Compare_T.ps dot_Compare_T.res = dot_Compare_T.fn := by kernel_rfl
theorem dot_Compare_Fok : SoundP Tryd.prog G0 10 dot_Compare_F := closeF_sound (runF_sound (P := Tryd.prog) (E := dot_Compare_E) (h := dot_Compare_H) (f := 10) (fn := Tryd.f10) ⟨same_ok, (envP_cons cmp_Or_int_Fok (envP_cons cmp_Compare_int_Fok envP_nil)), envS_nil, envP_nil, envX_nil⟩ Tryd.func10 rfl (by kernel_rfl))
theorem dot_Compare_ok : TOk dot_Compare_F dot_Compare_T := runY_ok (E := dot_Compare_E) (ET := dot_Compare_V) (EnvT.ofX (E := dot_Compare_E) (ET := dot_Compare_V) (pure_of (pairs_cons cmp_Or_int_ok (pairs_cons cmp_Compare_int_ok pairs_nil))) looks_nil raws_nil G0_ok news_nil) dot_Compare_eq rfl
-- palinode/palinoderef04.Digits
noncomputable def ref04_Digits_E (F : PFn) : Env := { pure := [(25, F)], raw := [], glob := G0, same := [63], look := [], ext := [] }
def ref04_Digits_H : Hints := { seqs := [], loops := [], own := [] }
noncomputable def ref04_Digits_K (F : PFn) : PFn := closeF (runF Tryd.prog (ref04_Digits_E F) ref04_Digits_H Tryd.f25)
def ref04_Digits_Y : TH := { joins := [], loops := [], cuts := [], ro := [], news := [] }
noncomputable def ref04_Digits_step (rec : ((Int × Unit) → Option (List UInt8))) (a0 : Int) : Option (List UInt8) :=
 cond (decide (a0 < 0)) (
 cond (decide (a0 > (-10))) (
(rec ((IntKind.wrap .i64 (0 - a0)), ())).bind fun r1 =>
(catT [45] r1).bind fun s2 =>
 some s2) (
(quoT .i64 a0 10).bind fun t3 =>
(rec ((IntKind.wrap .i64 (0 - t3)), ())).bind fun r4 =>
(catT [45] r4).bind fun s5 =>
(remT a0 10).bind fun t6 =>
(rec ((IntKind.wrap .i64 (0 - t6)), ())).bind fun r7 =>
(catT s5 r7).bind fun s8 =>
 some s8)) (
 cond (decide (a0 < 10)) (
(subI [48, 49, 50, 51, 52, 53, 54, 55, 56, 57] a0 (IntKind.wrap .i64 (a0 + 1))).bind fun s9 =>
 some s9) (
(quoT .i64 a0 10).bind fun t10 =>
(rec (t10, ())).bind fun r11 =>
(remT a0 10).bind fun t12 =>
(remT a0 10).bind fun t13 =>
(subI [48, 49, 50, 51, 52, 53, 54, 55, 56, 57] t12 (IntKind.wrap .i64 (t13 + 1))).bind fun s14 =>
(catT r11 s14).bind fun s15 =>
 some s15))
noncomputable def ref04_Digits_fix : ((Int × Unit) → Option (List UInt8)) := fixT fun rec v => ref04_Digits_step rec v.1
noncomputable def ref04_Digits (a0 : Int) : Option (List UInt8) := ref04_Digits_fix (a0, ())
noncomputable def ref04_Digits_T : TFn := { ps := (.cons (.int .i64) .unit), res := .str, fn := fixT fun (rec : ((Int × Unit) → Option (List UInt8))) v => ref04_Digits_step rec v.1 }
noncomputable def ref04_Digits_F : PFn := fixF ref04_Digits_K ref04_Digits_T
noncomputable def ref04_Digits_V (rec : ((Int × Unit) → Option (List UInt8))) : TEnv := { pure := [(25, { ps := (.cons (.int .i64) .unit), res := .str, fn := rec })], look := [], glob := G0T, ty := [], raw := [], fresh := [] }
theorem ref04_Digits_eq (F : PFn) (rec : ((Int × Unit) → Option (List UInt8))) : runY Tryd.prog (ref04_Digits_E F) ref04_Digits_H (ref04_Digits_V rec) ref04_Digits_Y Tryd.f25 ref04_Digits_T.ps ref04_Digits_T.res = fun v => ref04_Digits_step rec v.1 := by kernel_rfl
theorem ref04_Digits_Fok : SoundP Tryd.prog G0 25 ref04_Digits_F := rec_sound ⟨Tryd.f25, Tryd.func25, rfl, by kernel_rfl⟩ fun F hF => closeF_sound (runF_sound (P := Tryd.prog) (E := ref04_Digits_E F) (h := ref04_Digits_H) (f := 25) (fn := Tryd.f25) ⟨same_ok, (envP_cons hF envP_nil), envS_nil, envP_nil, envX_nil⟩ Tryd.func25 rfl (by kernel_rfl))
theorem ref04_Digits_ok : TOk ref04_Digits_F ref04_Digits_T := rec_ok rfl fun F rec hF => runY_ok (E := ref04_Digits_E F) (ET := ref04_Digits_V rec) (EnvT.ofX (E := ref04_Digits_E F) (ET := ref04_Digits_V rec) (pure_of (pairs_cons hF pairs_nil)) looks_nil raws_nil G0_ok news_nil) (ref04_Digits_eq F rec) rfl
-- palinode/palinoderef04.Text
noncomputable def ref04_Text_E : Env := { pure := [(25, ref04_Digits_F)], raw := [], glob := G0, same := [63], look := [], ext := [] }
def ref04_Text_H : Hints := { seqs := [], loops := [], own := [] }
noncomputable def ref04_Text_F : PFn := closeF (runF Tryd.prog ref04_Text_E ref04_Text_H Tryd.f14)
def ref04_Text_Y : TH := { joins := [], loops := [], cuts := [], ro := [1], news := [] }
noncomputable def ref04_Text (a0 : (Int × Int × Unit)) : Option (List UInt8) :=
(ref04_Digits a0.1).bind fun r1 =>
(catT r1 [46]).bind fun s2 =>
(ref04_Digits a0.2.1).bind fun r3 =>
(catT s2 r3).bind fun s4 =>
 some s4
noncomputable def ref04_Text_T : TFn := { ps := (.cons (.agg (.cons (.int .i64) (.cons (.int .i64) .unit))) .unit), res := .str, fn := fun v => ref04_Text v.1 }
noncomputable def ref04_Text_V : TEnv := { pure := [(25, ref04_Digits_T)], look := [], glob := G0T, ty := [], raw := [], fresh := [] }
theorem ref04_Text_eq : runY Tryd.prog ref04_Text_E ref04_Text_H ref04_Text_V ref04_Text_Y Tryd.f14 ref04_Text_T.ps ref04_Text_T.res = ref04_Text_T.fn := by kernel_rfl
theorem ref04_Text_Fok : SoundP Tryd.prog G0 14 ref04_Text_F := closeF_sound (runF_sound (P := Tryd.prog) (E := ref04_Text_E) (h := ref04_Text_H) (f := 14) (fn := Tryd.f14) ⟨same_ok, (envP_cons ref04_Digits_Fok envP_nil), envS_nil, envP_nil, envX_nil⟩ Tryd.func14 rfl (by kernel_rfl))
theorem ref04_Text_ok : TOk ref04_Text_F ref04_Text_T := runY_ok (E := ref04_Text_E) (ET := ref04_Text_V) (EnvT.ofX (E := ref04_Text_E) (ET := ref04_Text_V) (pure_of (pairs_cons ref04_Digits_ok pairs_nil)) looks_nil raws_nil G0_ok news_nil) ref04_Text_eq rfl
-- palinode/palinoderef02.Int
noncomputable def ref02_Int_E (F : PFn) : Env := { pure := [(30, F)], raw := [], glob := G0, same := [63], look := [], ext := [] }
def ref02_Int_H : Hints := { seqs := [], loops := [], own := [10, 16] }
noncomputable def ref02_Int_K (F : PFn) : PFn := closeF (runF Tryd.prog (ref02_Int_E F) ref02_Int_H Tryd.f30)
def ref02_Int_Y : TH := { joins := [(4, { keep := [(0, (.int .i64))], mem := [] })], loops := [], cuts := [], ro := [], news := [] }
noncomputable def ref02_Int_step (rec : ((Int × Unit) → Option (List UInt8))) (a0 : Int) : Option (List UInt8) :=
 cond (decide (a0 < 128)) (
(cond (decide (a0 < 0)) (
 some (.inl (0, ()))) (
 some (.inl (a0, ()))) : Option ((Int × Unit) ⊕ List UInt8)).bind (joinS fun v1 =>
 some (([(IntKind.wrap .u8 v1.1)] : List Int).map fun n => UInt8.ofNat n.toNat))) (
(remT a0 128).bind fun t2 =>
(quoT .i64 a0 128).bind fun t3 =>
(rec (t3, ())).bind fun r4 =>
(catT (([(IntKind.wrap .u8 (IntKind.wrap .i64 (t2 + 128)))] : List Int).map fun n => UInt8.ofNat n.toNat) r4).bind fun s5 =>
 some s5)
noncomputable def ref02_Int_fix : ((Int × Unit) → Option (List UInt8)) := fixT fun rec v => ref02_Int_step rec v.1
noncomputable def ref02_Int (a0 : Int) : Option (List UInt8) := ref02_Int_fix (a0, ())
noncomputable def ref02_Int_T : TFn := { ps := (.cons (.int .i64) .unit), res := .str, fn := fixT fun (rec : ((Int × Unit) → Option (List UInt8))) v => ref02_Int_step rec v.1 }
noncomputable def ref02_Int_F : PFn := fixF ref02_Int_K ref02_Int_T
noncomputable def ref02_Int_V (rec : ((Int × Unit) → Option (List UInt8))) : TEnv := { pure := [(30, { ps := (.cons (.int .i64) .unit), res := .str, fn := rec })], look := [], glob := G0T, ty := [(5, (.int .u8))], raw := [], fresh := [] }
theorem ref02_Int_eq (F : PFn) (rec : ((Int × Unit) → Option (List UInt8))) : runY Tryd.prog (ref02_Int_E F) ref02_Int_H (ref02_Int_V rec) ref02_Int_Y Tryd.f30 ref02_Int_T.ps ref02_Int_T.res = fun v => ref02_Int_step rec v.1 := by kernel_rfl
theorem ref02_Int_Fok : SoundP Tryd.prog G0 30 ref02_Int_F := rec_sound ⟨Tryd.f30, Tryd.func30, rfl, by kernel_rfl⟩ fun F hF => closeF_sound (runF_sound (P := Tryd.prog) (E := ref02_Int_E F) (h := ref02_Int_H) (f := 30) (fn := Tryd.f30) ⟨same_ok, (envP_cons hF envP_nil), envS_nil, envP_nil, envX_nil⟩ Tryd.func30 rfl (by kernel_rfl))
theorem ref02_Int_ok : TOk ref02_Int_F ref02_Int_T := rec_ok rfl fun F rec hF => runY_ok (E := ref02_Int_E F) (ET := ref02_Int_V rec) (EnvT.ofX (E := ref02_Int_E F) (ET := ref02_Int_V rec) (pure_of (pairs_cons hF pairs_nil)) looks_nil raws_nil G0_ok news_nil) (ref02_Int_eq F rec) rfl
-- palinode/palinoderef04.Code
noncomputable def ref04_Code_E : Env := { pure := [(30, ref02_Int_F)], raw := [], glob := G0, same := [63], look := [], ext := [] }
def ref04_Code_H : Hints := { seqs := [], loops := [], own := [] }
noncomputable def ref04_Code_F : PFn := closeF (runF Tryd.prog ref04_Code_E ref04_Code_H Tryd.f16)
def ref04_Code_Y : TH := { joins := [], loops := [], cuts := [], ro := [1], news := [] }
noncomputable def ref04_Code (a0 : (Int × Int × Unit)) : Option (List UInt8) :=
(ref02_Int a0.1).bind fun r1 =>
(ref02_Int a0.2.1).bind fun r2 =>
(catT r1 r2).bind fun s3 =>
 some s3
noncomputable def ref04_Code_T : TFn := { ps := (.cons (.agg (.cons (.int .i64) (.cons (.int .i64) .unit))) .unit), res := .str, fn := fun v => ref04_Code v.1 }
noncomputable def ref04_Code_V : TEnv := { pure := [(30, ref02_Int_T)], look := [], glob := G0T, ty := [], raw := [], fresh := [] }
theorem ref04_Code_eq : runY Tryd.prog ref04_Code_E ref04_Code_H ref04_Code_V ref04_Code_Y Tryd.f16 ref04_Code_T.ps ref04_Code_T.res = ref04_Code_T.fn := by kernel_rfl
theorem ref04_Code_Fok : SoundP Tryd.prog G0 16 ref04_Code_F := closeF_sound (runF_sound (P := Tryd.prog) (E := ref04_Code_E) (h := ref04_Code_H) (f := 16) (fn := Tryd.f16) ⟨same_ok, (envP_cons ref02_Int_Fok envP_nil), envS_nil, envP_nil, envX_nil⟩ Tryd.func16 rfl (by kernel_rfl))
theorem ref04_Code_ok : TOk ref04_Code_F ref04_Code_T := runY_ok (E := ref04_Code_E) (ET := ref04_Code_V) (EnvT.ofX (E := ref04_Code_E) (ET := ref04_Code_V) (pure_of (pairs_cons ref02_Int_ok pairs_nil)) looks_nil raws_nil G0_ok news_nil) ref04_Code_eq rfl
-- palinode/palinoderef04.ints
noncomputable def ref04_ints_E : Env := { pure := [], raw := [], glob := G0, same := [63], look := [], ext := [] }
def ref04_ints_H : Hints := { seqs := [], loops := [], own := [] }
noncomputable def ref04_ints_F : PFn := closeF (runF Tryd.prog ref04_ints_E ref04_ints_H Tryd.f31)
def ref04_ints_Y : TH := { joins := [], loops := [], cuts := [], ro := [], news := [] }
noncomputable def ref04_ints (a0 : Int) (a1 : Int) : Option Int :=
 cond (decide (a0 < a1)) (
 some (-1)) (
 cond (decide (a0 > a1)) (
 some 1) (
 some 0))
noncomputable def ref04_ints_T : TFn := { ps := (.cons (.int .i64) (.cons (.int .i64) .unit)), res := (.int .i64), fn := fun v => ref04_ints v.1 v.2.1 }
noncomputable def ref04_ints_V : TEnv := { pure := [], look := [], glob := G0T, ty := [], raw := [], fresh := [] }
theorem ref04_ints_eq : runY Tryd.prog ref04_ints_E ref04_ints_H ref04_ints_V ref04_ints_Y Tryd.f31 ref04_ints_T.ps ref04_ints_T.res = ref04_ints_T.fn := by kernel_rfl
theorem ref04_ints_Fok : SoundP Tryd.prog G0 31 ref04_ints_F := closeF_sound (runF_sound (P := Tryd.prog) (E := ref04_ints_E) (h := ref04_ints_H) (f := 31) (fn := Tryd.f31) ⟨same_ok, envP_nil, envS_nil, envP_nil, envX_nil⟩ Tryd.func31 rfl (by kernel_rfl))
theorem ref04_ints_ok : TOk ref04_ints_F ref04_ints_T := runY_ok (E := ref04_ints_E) (ET := ref04_ints_V) (EnvT.ofX (E := ref04_ints_E) (ET := ref04_ints_V) (pure_of pairs_nil) looks_nil raws_nil G0_ok news_nil) ref04_ints_eq rfl
-- palinode/palinoderef04.Compare
noncomputable def ref04_Compare_E : Env := { pure := [(31, ref04_ints_F)], raw := [], glob := G0, same := [63], look := [], ext := [] }
def ref04_Compare_H : Hints := { seqs := [], loops := [], own := [] }
noncomputable def ref04_Compare_F : PFn := closeF (runF Tryd.prog ref04_Compare_E ref04_Compare_H Tryd.f17)
def ref04_Compare_Y : TH := { joins := [], loops := [], cuts := [], ro := [2, 3], news := [] }
noncomputable def ref04_Compare (a0 : (Int × Int × Unit)) (a1 : (Int × Int × Unit)) : Option Int :=
 cond (!decide (a0.1 = a1.1)) (
(ref04_ints a0.1 a1.1).bind fun r1 =>
 some r1) (
(ref04_ints a0.2.1 a1.2.1).bind fun r2 =>
 some r2)
noncomputable def ref04_Compare_T : TFn := { ps := (.cons (.agg (.cons (.int .i64) (.cons (.int .i64) .unit))) (.cons (.agg (.cons (.int .i64) (.cons (.int .i64) .unit))) .unit)), res := (.int .i64), fn := fun v => ref04_Compare v.1 v.2.1 }
noncomputable def ref04_Compare_V : TEnv := { pure := [(31, ref04_ints_T)], look := [], glob := G0T, ty := [], raw := [], fresh := [] }
theorem ref04_Compare_eq : runY Tryd.prog ref04_Compare_E ref04_Compare_H ref04_Compare_V ref04_Compare_Y Tryd.f17 ref04_Compare_T.ps ref04_Compare_T.res = ref04_Compare_T.fn := by kernel_rfl
theorem ref04_Compare_Fok : SoundP Tryd.prog G0 17 ref04_Compare_F := closeF_sound (runF_sound (P := Tryd.prog) (E := ref04_Compare_E) (h := ref04_Compare_H) (f := 17) (fn := Tryd.f17) ⟨same_ok, (envP_cons ref04_ints_Fok envP_nil), envS_nil, envP_nil, envX_nil⟩ Tryd.func17 rfl (by kernel_rfl))
theorem ref04_Compare_ok : TOk ref04_Compare_F ref04_Compare_T := runY_ok (E := ref04_Compare_E) (ET := ref04_Compare_V) (EnvT.ofX (E := ref04_Compare_E) (ET := ref04_Compare_V) (pure_of (pairs_cons ref04_ints_ok pairs_nil)) looks_nil raws_nil G0_ok news_nil) ref04_Compare_eq rfl
-- palinode/palinoderef04.Refs
noncomputable def ref04_Refs_E : Env := { pure := [(17, ref04_Compare_F), (31, ref04_ints_F)], raw := [], glob := G0, same := [63], look := [], ext := [] }
def ref04_Refs_H : Hints := { seqs := [], loops := [], own := [] }
noncomputable def ref04_Refs_F : PFn := closeF (runF Tryd.prog ref04_Refs_E ref04_Refs_H Tryd.f19)
def ref04_Refs_Y : TH := { joins := [], loops := [], cuts := [], ro := [2, 3], news := [] }
noncomputable def ref04_Refs (a0 : ((Int × Int × Unit) × Int × Unit)) (a1 : ((Int × Int × Unit) × Int × Unit)) : Option Int :=
(ref04_Compare a0.1 a1.1).bind fun r1 =>
 cond (!decide (r1 = 0)) (
(ref04_Compare a0.1 a1.1).bind fun r2 =>
 some r2) (
(ref04_ints a0.2.1 a1.2.1).bind fun r3 =>
 some r3)
noncomputable def ref04_Refs_T : TFn := { ps := (.cons (.agg (.cons (.agg (.cons (.int .i64) (.cons (.int .i64) .unit))) (.cons (.int .i64) .unit))) (.cons (.agg (.cons (.agg (.cons (.int .i64) (.cons (.int .i64) .unit))) (.cons (.int .i64) .unit))) .unit)), res := (.int .i64), fn := fun v => ref04_Refs v.1 v.2.1 }
noncomputable def ref04_Refs_V : TEnv := { pure := [(17, ref04_Compare_T), (31, ref04_ints_T)], look := [], glob := G0T, ty := [], raw := [], fresh := [] }
theorem ref04_Refs_eq : runY Tryd.prog ref04_Refs_E ref04_Refs_H ref04_Refs_V ref04_Refs_Y Tryd.f19 ref04_Refs_T.ps ref04_Refs_T.res = ref04_Refs_T.fn := by kernel_rfl
theorem ref04_Refs_Fok : SoundP Tryd.prog G0 19 ref04_Refs_F := closeF_sound (runF_sound (P := Tryd.prog) (E := ref04_Refs_E) (h := ref04_Refs_H) (f := 19) (fn := Tryd.f19) ⟨same_ok, (envP_cons ref04_Compare_Fok (envP_cons ref04_ints_Fok envP_nil)), envS_nil, envP_nil, envX_nil⟩ Tryd.func19 rfl (by kernel_rfl))
theorem ref04_Refs_ok : TOk ref04_Refs_F ref04_Refs_T := runY_ok (E := ref04_Refs_E) (ET := ref04_Refs_V) (EnvT.ofX (E := ref04_Refs_E) (ET := ref04_Refs_V) (pure_of (pairs_cons ref04_Compare_ok (pairs_cons ref04_ints_ok pairs_nil))) looks_nil raws_nil G0_ok news_nil) ref04_Refs_eq rfl
-- palinode/palinoderef04.Right
noncomputable def ref04_Right_E : Env := { pure := [], raw := [], glob := G0, same := [63], look := [], ext := [] }
def ref04_Right_H : Hints := { seqs := [], loops := [], own := [] }
noncomputable def ref04_Right_F : PFn := closeF (runF Tryd.prog ref04_Right_E ref04_Right_H Tryd.f12)
def ref04_Right_Y : TH := { joins := [], loops := [], cuts := [], ro := [1], news := [] }
noncomputable def ref04_Right (a0 : (Int × Int × Unit)) : Option Bool :=
 cond (decide (a0.1 ≥ 0)) (cond (decide (a0.1 ≤ 15)) (cond (decide (a0.2.1 ≥ 1)) (some (decide (a0.2.1 ≤ 1048576))) (some false)) (some false)) (some false)
noncomputable def ref04_Right_T : TFn := { ps := (.cons (.agg (.cons (.int .i64) (.cons (.int .i64) .unit))) .unit), res := .bool, fn := fun v => ref04_Right v.1 }
noncomputable def ref04_Right_V : TEnv := { pure := [], look := [], glob := G0T, ty := [], raw := [], fresh := [] }
theorem ref04_Right_eq : runY Tryd.prog ref04_Right_E ref04_Right_H ref04_Right_V ref04_Right_Y Tryd.f12 ref04_Right_T.ps ref04_Right_T.res = ref04_Right_T.fn := by kernel_rfl
theorem ref04_Right_Fok : SoundP Tryd.prog G0 12 ref04_Right_F := closeF_sound (runF_sound (P := Tryd.prog) (E := ref04_Right_E) (h := ref04_Right_H) (f := 12) (fn := Tryd.f12) ⟨same_ok, envP_nil, envS_nil, envP_nil, envX_nil⟩ Tryd.func12 rfl (by kernel_rfl))
theorem ref04_Right_ok : TOk ref04_Right_F ref04_Right_T := runY_ok (E := ref04_Right_E) (ET := ref04_Right_V) (EnvT.ofX (E := ref04_Right_E) (ET := ref04_Right_V) (pure_of pairs_nil) looks_nil raws_nil G0_ok news_nil) ref04_Right_eq rfl
-- palinode/dot.Right
noncomputable def dot_Right_E : Env := { pure := [], raw := [], glob := G0, same := [63], look := [], ext := [] }
def dot_Right_H : Hints := { seqs := [], loops := [], own := [] }
noncomputable def dot_Right_F : PFn := closeF (runF Tryd.prog dot_Right_E dot_Right_H Tryd.f11)
def dot_Right_Y : TH := { joins := [], loops := [], cuts := [], ro := [1], news := [] }
noncomputable def dot_Right (a0 : (Int × Int × Unit)) : Option Bool :=
 cond (decide (a0.1 ≥ 0)) (cond (decide (a0.1 < 16)) (cond (decide (a0.2.1 ≥ 1)) (some (decide (a0.2.1 ≤ 1048576))) (some false)) (some false)) (some false)
noncomputable def dot_Right_T : TFn := { ps := (.cons (.agg (.cons (.int .i64) (.cons (.int .i64) .unit))) .unit), res := .bool, fn := fun v => dot_Right v.1 }
noncomputable def dot_Right_V : TEnv := { pure := [], look := [], glob := G0T, ty := [], raw := [], fresh := [] }
theorem dot_Right_eq : runY Tryd.prog dot_Right_E dot_Right_H dot_Right_V dot_Right_Y Tryd.f11 dot_Right_T.ps dot_Right_T.res = dot_Right_T.fn := by kernel_rfl
theorem dot_Right_Fok : SoundP Tryd.prog G0 11 dot_Right_F := closeF_sound (runF_sound (P := Tryd.prog) (E := dot_Right_E) (h := dot_Right_H) (f := 11) (fn := Tryd.f11) ⟨same_ok, envP_nil, envS_nil, envP_nil, envX_nil⟩ Tryd.func11 rfl (by kernel_rfl))
theorem dot_Right_ok : TOk dot_Right_F dot_Right_T := runY_ok (E := dot_Right_E) (ET := dot_Right_V) (EnvT.ofX (E := dot_Right_E) (ET := dot_Right_V) (pure_of pairs_nil) looks_nil raws_nil G0_ok news_nil) dot_Right_eq rfl
-- strconv.Itoa
noncomputable def strconv_Itoa_F : PFn := itoaF
theorem strconv_Itoa_Fok : SoundP Tryd.prog G0 28 strconv_Itoa_F := itoa_sound (g := 3) ⟨Tryd.f28, Tryd.func28, rfl, by kernel_rfl⟩ (by kernel_rfl) (by kernel_rfl) Tryd.strconv_Itoa
noncomputable def strconv_Itoa (a0 : Int) : Option (List UInt8) := itoa a0
noncomputable def strconv_Itoa_T : TFn := itoa_T
theorem strconv_Itoa_ok : TOk strconv_Itoa_F strconv_Itoa_T := itoa_ok
-- palinode/dot.Text
noncomputable def dot_Text_E : Env := { pure := [(28, strconv_Itoa_F)], raw := [], glob := G0, same := [63], look := [], ext := [] }
def dot_Text_H : Hints := { seqs := [], loops := [], own := [] }
noncomputable def dot_Text_F : PFn := closeF (runF Tryd.prog dot_Text_E dot_Text_H Tryd.f13)
def dot_Text_Y : TH := { joins := [], loops := [], cuts := [], ro := [1], news := [] }
noncomputable def dot_Text (a0 : (Int × Int × Unit)) : Option (List UInt8) :=
(strconv_Itoa a0.1).bind fun r1 =>
(catT r1 [46]).bind fun s2 =>
(strconv_Itoa a0.2.1).bind fun r3 =>
(catT s2 r3).bind fun s4 =>
 some s4
noncomputable def dot_Text_T : TFn := { ps := (.cons (.agg (.cons (.int .i64) (.cons (.int .i64) .unit))) .unit), res := .str, fn := fun v => dot_Text v.1 }
noncomputable def dot_Text_V : TEnv := { pure := [(28, strconv_Itoa_T)], look := [], glob := G0T, ty := [], raw := [], fresh := [] }
theorem dot_Text_eq : runY Tryd.prog dot_Text_E dot_Text_H dot_Text_V dot_Text_Y Tryd.f13 dot_Text_T.ps dot_Text_T.res = dot_Text_T.fn := by kernel_rfl
theorem dot_Text_Fok : SoundP Tryd.prog G0 13 dot_Text_F := closeF_sound (runF_sound (P := Tryd.prog) (E := dot_Text_E) (h := dot_Text_H) (f := 13) (fn := Tryd.f13) ⟨same_ok, (envP_cons strconv_Itoa_Fok envP_nil), envS_nil, envP_nil, envX_nil⟩ Tryd.func13 rfl (by kernel_rfl))
theorem dot_Text_ok : TOk dot_Text_F dot_Text_T := runY_ok (E := dot_Text_E) (ET := dot_Text_V) (EnvT.ofX (E := dot_Text_E) (ET := dot_Text_V) (pure_of (pairs_cons strconv_Itoa_ok pairs_nil)) looks_nil raws_nil G0_ok news_nil) dot_Text_eq rfl
-- (*strings.Builder).copyCheck
noncomputable def strings_Builder_copyCheck_E : Env := { pure := [], raw := [], glob := G0, same := [63], look := [], ext := [] }
def strings_Builder_copyCheck_H : Hints := { seqs := [], loops := [], own := [6, 9, 11, 19] }
noncomputable def strings_Builder_copyCheck_S : SFn := runF Tryd.prog strings_Builder_copyCheck_E strings_Builder_copyCheck_H Tryd.f51
def strings_Builder_copyCheck_Y : TH := { joins := [], loops := [], cuts := [], ro := [], news := [] }
noncomputable def strings_Builder_copyCheck (w0 : (Bool × Unit × Unit)) (w1 : List Int) : Option (Unit × (Bool × Unit × Unit) × List Int × Unit) :=
 cond (!w0.1) (
 some ((), (true, w0.2.1, ()), w1, ())) (
 cond (!w0.1) (
 none) (
 some ((), w0, w1, ())))
noncomputable def strings_Builder_copyCheck_R : TRaw := { ps := (.cons (.bx 0 0) .unit), ins := [.box 62 (.agg (.cons (.op 0) (.cons (.own 1) .unit))), .row true 5 (.int .u8)], res := (.tup .unit), outs := [.box 62 (.agg (.cons (.op 0) (.cons (.own 1) .unit))), .row true 5 (.int .u8)], fn := fun v w => strings_Builder_copyCheck w.1 w.2.1 }
noncomputable def strings_Builder_copyCheck_V : TEnv := { pure := [], look := [], glob := G0T, ty := [], raw := [], fresh := [] }
theorem strings_Builder_copyCheck_eq : rawY Tryd.prog strings_Builder_copyCheck_E strings_Builder_copyCheck_H strings_Builder_copyCheck_V strings_Builder_copyCheck_Y [(0, 0)] Tryd.f51 strings_Builder_copyCheck_R.ps strings_Builder_copyCheck_R.ins strings_Builder_copyCheck_R.res strings_Builder_copyCheck_R.outs = strings_Builder_copyCheck_R.fn := by kernel_rfl
theorem strings_Builder_copyCheck_Sok : SoundS Tryd.prog G0 51 strings_Builder_copyCheck_S := runF_sound (P := Tryd.prog) (E := strings_Builder_copyCheck_E) (h := strings_Builder_copyCheck_H) (f := 51) (fn := Tryd.f51) ⟨same_ok, envP_nil, envS_nil, envP_nil, envX_nil⟩ Tryd.func51 rfl (by kernel_rfl)
theorem strings_Builder_copyCheck_ok : TRawOk strings_Builder_copyCheck_S strings_Builder_copyCheck_R := rawY_ok (E := strings_Builder_copyCheck_E) (ET := strings_Builder_copyCheck_V) (EnvT.ofX (E := strings_Builder_copyCheck_E) (ET := strings_Builder_copyCheck_V) (pure_of pairs_nil) looks_nil raws_nil G0_ok news_nil) strings_Builder_copyCheck_eq
-- (*strings.Builder).WriteByte
noncomputable def strings_Builder_WriteByte_E : Env := { pure := [], raw := [(51, strings_Builder_copyCheck_S)], glob := G0, same := [63], look := [], ext := [] }
def strings_Builder_WriteByte_H : Hints := { seqs := [], loops := [], own := [] }
noncomputable def strings_Builder_WriteByte_S : SFn := runF Tryd.prog strings_Builder_WriteByte_E strings_Builder_WriteByte_H Tryd.f41
def strings_Builder_WriteByte_Y : TH := { joins := [], loops := [], cuts := [], ro := [], news := [] }
noncomputable def strings_Builder_WriteByte (a1 : Int) (w0 : (Bool × Unit × Unit)) (w1 : List Int) : Option (Bool × (Bool × Unit × Unit) × List Int × Unit) :=
(strings_Builder_copyCheck w0 w1).bind fun q1 =>
(roomT (q1.2.2.1.length + ([a1] : List Int).length)).bind fun u2 =>
 some (false, (q1.2.1.1, (), ()), (q1.2.2.1 ++ ([a1] : List Int)), ())
noncomputable def strings_Builder_WriteByte_R : TRaw := { ps := (.cons (.bx 0 0) (.cons (.int .u8) .unit)), ins := [.box 62 (.agg (.cons (.op 0) (.cons (.own 1) .unit))), .row true 5 (.int .u8)], res := .err, outs := [.box 62 (.agg (.cons (.op 0) (.cons (.own 1) .unit))), .row true 5 (.int .u8)], fn := fun v w => strings_Builder_WriteByte v.2.1 w.1 w.2.1 }
noncomputable def strings_Builder_WriteByte_V : TEnv := { pure := [], look := [], glob := G0T, ty := [(5, (.int .u8))], raw := [(51, strings_Builder_copyCheck_R)], fresh := [] }
theorem strings_Builder_WriteByte_eq : rawY Tryd.prog strings_Builder_WriteByte_E strings_Builder_WriteByte_H strings_Builder_WriteByte_V strings_Builder_WriteByte_Y [(0, 0)] Tryd.f41 strings_Builder_WriteByte_R.ps strings_Builder_WriteByte_R.ins strings_Builder_WriteByte_R.res strings_Builder_WriteByte_R.outs = strings_Builder_WriteByte_R.fn := by kernel_rfl
theorem strings_Builder_WriteByte_Sok : SoundS Tryd.prog G0 41 strings_Builder_WriteByte_S := runF_sound (P := Tryd.prog) (E := strings_Builder_WriteByte_E) (h := strings_Builder_WriteByte_H) (f := 41) (fn := Tryd.f41) ⟨same_ok, envP_nil, (envS_cons strings_Builder_copyCheck_Sok envS_nil), envP_nil, envX_nil⟩ Tryd.func41 rfl (by kernel_rfl)
theorem strings_Builder_WriteByte_ok : TRawOk strings_Builder_WriteByte_S strings_Builder_WriteByte_R := rawY_ok (E := strings_Builder_WriteByte_E) (ET := strings_Builder_WriteByte_V) (EnvT.ofX (E := strings_Builder_WriteByte_E) (ET := strings_Builder_WriteByte_V) (pure_of pairs_nil) looks_nil (raws_cons strings_Builder_copyCheck_ok rfl rfl raws_nil) G0_ok news_nil) strings_Builder_WriteByte_eq
-- (*strings.Builder).String
noncomputable def strings_Builder_String_E : Env := { pure := [], raw := [], glob := G0, same := [63], look := [], ext := [] }
def strings_Builder_String_H : Hints := { seqs := [], loops := [], own := [] }
noncomputable def strings_Builder_String_S : SFn := runF Tryd.prog strings_Builder_String_E strings_Builder_String_H Tryd.f42
def strings_Builder_String_Y : TH := { joins := [], loops := [], cuts := [], ro := [], news := [] }
noncomputable def strings_Builder_String (w0 : (Bool × Unit × Unit)) (w1 : List Int) : Option (List UInt8 × (Bool × Unit × Unit) × Unit) :=
 cond w1.isEmpty ((zeroN (w1.length : Int)).bind fun u1 =>
 some ([], w0, ())) ((wholeN 0 w1.length (w1.length : Int)).bind fun u2 =>
 some ((w1.map fun n => UInt8.ofNat n.toNat), w0, ()))
noncomputable def strings_Builder_String_R : TRaw := { ps := (.cons (.bx 0 0) .unit), ins := [.box 62 (.agg (.cons (.op 0) (.cons (.own 1) .unit))), .row true 5 (.int .u8)], res := .str, outs := [.box 62 (.agg (.cons (.op 0) (.cons (.own 1) .unit))), .gone], fn := fun v w => strings_Builder_String w.1 w.2.1 }
noncomputable def strings_Builder_String_V : TEnv := { pure := [], look := [], glob := G0T, ty := [], raw := [], fresh := [] }
theorem strings_Builder_String_eq : rawY Tryd.prog strings_Builder_String_E strings_Builder_String_H strings_Builder_String_V strings_Builder_String_Y [(0, 0)] Tryd.f42 strings_Builder_String_R.ps strings_Builder_String_R.ins strings_Builder_String_R.res strings_Builder_String_R.outs = strings_Builder_String_R.fn := by kernel_rfl
theorem strings_Builder_String_Sok : SoundS Tryd.prog G0 42 strings_Builder_String_S := runF_sound (P := Tryd.prog) (E := strings_Builder_String_E) (h := strings_Builder_String_H) (f := 42) (fn := Tryd.f42) ⟨same_ok, envP_nil, envS_nil, envP_nil, envX_nil⟩ Tryd.func42 rfl (by kernel_rfl)
theorem strings_Builder_String_ok : TRawOk strings_Builder_String_S strings_Builder_String_R := rawY_ok (E := strings_Builder_String_E) (ET := strings_Builder_String_V) (EnvT.ofX (E := strings_Builder_String_E) (ET := strings_Builder_String_V) (pure_of pairs_nil) looks_nil raws_nil G0_ok news_nil) strings_Builder_String_eq
-- palinode/pack.Int
noncomputable def pack_Int_E : Env := { pure := [], raw := [(41, strings_Builder_WriteByte_S), (42, strings_Builder_String_S)], glob := G0, same := [63], look := [], ext := [] }
def pack_Int_H : Hints := { seqs := [], loops := [(2, [0, 3])], own := [] }
noncomputable def pack_Int_F : PFn := closeF (runF Tryd.prog pack_Int_E pack_Int_H Tryd.f29)
def pack_Int_Y : TH := { joins := [(5, { keep := [(0, (.int .i64)), (3, (.bx 1 0))], mem := [.row true 5 (.int .u8), .box 62 (.agg (.cons (.op 1) (.cons (.own 0) .unit)))] })], loops := [(2, { keep := [(0, (.int .i64)), (3, (.bx 1 0))], mem := [.row true 5 (.int .u8), .box 62 (.agg (.cons (.op 1) (.cons (.own 0) .unit)))] })], cuts := [], ro := [], news := [(3, ((.agg (.cons (.op 1) (.cons (.own 0) .unit))), [(5, (.int .u8))]))] }
noncomputable def pack_Int_l2 (y2 : (Int × List Int × (Bool × Unit × Unit) × Unit)) : Option ((Int × List Int × (Bool × Unit × Unit) × Unit) ⊕ ((Int × List Int × (Bool × Unit × Unit) × Unit) ⊕ List UInt8)) :=
 cond (decide (y2.1 ≥ 128)) (
(strings_Builder_WriteByte (IntKind.wrap .u8 (IntKind.wrap .i64 ((BitVec.ofInt (IntKind.bits .i64) (IntKind.wrap .i64 ((BitVec.ofInt (IntKind.bits .i64) y2.1 &&& BitVec.ofInt (IntKind.bits .i64) 127).toNat)) ||| BitVec.ofInt (IntKind.bits .i64) 128).toNat))) (y2.2.2.1.1, (), ()) y2.2.1).bind fun q1 =>
(shrT .i64 y2.1 7).bind fun t2 =>
 some (.inl (t2, q1.2.2.1, q1.2.1, ()))) (
 some (.inr (.inl (y2.1, y2.2.1, y2.2.2.1, ()))))
noncomputable def pack_Int (a0 : Int) : Option (List UInt8) :=
(loopT (pack_Int_l2) (a0, [], (false, (), ()), ()) : Option ((Int × List Int × (Bool × Unit × Unit) × Unit) ⊕ List UInt8)).bind (joinS fun v3 =>
(strings_Builder_WriteByte (IntKind.wrap .u8 (max v3.1 0)) (v3.2.2.1.1, (), ()) v3.2.1).bind fun q4 =>
(strings_Builder_String (q4.2.1.1, (), ()) q4.2.2.1).bind fun q5 =>
 some q5.1)
noncomputable def pack_Int_T : TFn := { ps := (.cons (.int .i64) .unit), res := .str, fn := fun v => pack_Int v.1 }
noncomputable def pack_Int_V : TEnv := { pure := [], look := [], glob := G0T, ty := [], raw := [(41, strings_Builder_WriteByte_R), (42, strings_Builder_String_R)], fresh := [] }
theorem pack_Int_eq : runY Tryd.prog pack_Int_E pack_Int_H pack_Int_V pack_Int_Y Tryd.f29 pack_Int_T.ps pack_Int_T.res = pack_Int_T.fn := by kernel_rfl
theorem pack_Int_Fok : SoundP Tryd.prog G0 29 pack_Int_F := closeF_sound (runF_sound (P := Tryd.prog) (E := pack_Int_E) (h := pack_Int_H) (f := 29) (fn := Tryd.f29) ⟨same_ok, envP_nil, (envS_cons strings_Builder_WriteByte_Sok (envS_cons strings_Builder_String_Sok envS_nil)), envP_nil, envX_nil⟩ Tryd.func29 rfl (by kernel_rfl))
theorem pack_Int_ok : TOk pack_Int_F pack_Int_T := runY_ok (E := pack_Int_E) (ET := pack_Int_V) (EnvT.ofX (E := pack_Int_E) (ET := pack_Int_V) (pure_of pairs_nil) looks_nil (raws_cons strings_Builder_WriteByte_ok rfl rfl (raws_cons strings_Builder_String_ok rfl rfl raws_nil)) G0_ok news_nil) pack_Int_eq rfl
-- palinode/dot.Code
noncomputable def dot_Code_E : Env := { pure := [(29, pack_Int_F)], raw := [], glob := G0, same := [63], look := [], ext := [] }
def dot_Code_H : Hints := { seqs := [], loops := [], own := [] }
noncomputable def dot_Code_F : PFn := closeF (runF Tryd.prog dot_Code_E dot_Code_H Tryd.f15)
def dot_Code_Y : TH := { joins := [], loops := [], cuts := [], ro := [1], news := [] }
noncomputable def dot_Code (a0 : (Int × Int × Unit)) : Option (List UInt8) :=
(pack_Int a0.1).bind fun r1 =>
(pack_Int a0.2.1).bind fun r2 =>
(catT r1 r2).bind fun s3 =>
 some s3
noncomputable def dot_Code_T : TFn := { ps := (.cons (.agg (.cons (.int .i64) (.cons (.int .i64) .unit))) .unit), res := .str, fn := fun v => dot_Code v.1 }
noncomputable def dot_Code_V : TEnv := { pure := [(29, pack_Int_T)], look := [], glob := G0T, ty := [], raw := [], fresh := [] }
theorem dot_Code_eq : runY Tryd.prog dot_Code_E dot_Code_H dot_Code_V dot_Code_Y Tryd.f15 dot_Code_T.ps dot_Code_T.res = dot_Code_T.fn := by kernel_rfl
theorem dot_Code_Fok : SoundP Tryd.prog G0 15 dot_Code_F := closeF_sound (runF_sound (P := Tryd.prog) (E := dot_Code_E) (h := dot_Code_H) (f := 15) (fn := Tryd.f15) ⟨same_ok, (envP_cons pack_Int_Fok envP_nil), envS_nil, envP_nil, envX_nil⟩ Tryd.func15 rfl (by kernel_rfl))
theorem dot_Code_ok : TOk dot_Code_F dot_Code_T := runY_ok (E := dot_Code_E) (ET := dot_Code_V) (EnvT.ofX (E := dot_Code_E) (ET := dot_Code_V) (pure_of (pairs_cons pack_Int_ok pairs_nil)) looks_nil raws_nil G0_ok news_nil) dot_Code_eq rfl
-- palinode/dot.Refs
noncomputable def dot_Refs_E : Env := { pure := [(10, dot_Compare_F), (26, cmp_Or_int_F), (27, cmp_Compare_int_F)], raw := [], glob := G0, same := [63], look := [], ext := [] }
def dot_Refs_H : Hints := { seqs := [], loops := [], own := [] }
noncomputable def dot_Refs_F : PFn := closeF (runF Tryd.prog dot_Refs_E dot_Refs_H Tryd.f18)
def dot_Refs_Y : TH := { joins := [], loops := [], cuts := [], ro := [2, 3], news := [] }
noncomputable def dot_Refs (a0 : ((Int × Int × Unit) × Int × Unit)) (a1 : ((Int × Int × Unit) × Int × Unit)) : Option Int :=
(dot_Compare a0.1 a1.1).bind fun r1 =>
(cmp_Compare_int a0.2.1 a1.2.1).bind fun r2 =>
(cmp_Or_int ([r1, r2] : List Int)).bind fun r3 =>
 some r3
noncomputable def dot_Refs_T : TFn := { ps := (.cons (.agg (.cons (.agg (.cons (.int .i64) (.cons (.int .i64) .unit))) (.cons (.int .i64) .unit))) (.cons (.agg (.cons (.agg (.cons (.int .i64) (.cons (.int .i64) .unit))) (.cons (.int .i64) .unit))) .unit)), res := (.int .i64), fn := fun v => dot_Refs v.1 v.2.1 }
noncomputable def dot_Refs_V : TEnv := { pure := [(10, dot_Compare_T), (26, cmp_Or_int_T), (27, cmp_Compare_int_T)], look := [], glob := G0T, ty := [(3, (.int .i64))], raw := [], fresh := [] }
theorem dot_Refs_eq : runY Tryd.prog dot_Refs_E dot_Refs_H dot_Refs_V dot_Refs_Y Tryd.f18 dot_Refs_T.ps dot_Refs_T.res = dot_Refs_T.fn := by kernel_rfl
theorem dot_Refs_Fok : SoundP Tryd.prog G0 18 dot_Refs_F := closeF_sound (runF_sound (P := Tryd.prog) (E := dot_Refs_E) (h := dot_Refs_H) (f := 18) (fn := Tryd.f18) ⟨same_ok, (envP_cons dot_Compare_Fok (envP_cons cmp_Or_int_Fok (envP_cons cmp_Compare_int_Fok envP_nil))), envS_nil, envP_nil, envX_nil⟩ Tryd.func18 rfl (by kernel_rfl))
theorem dot_Refs_ok : TOk dot_Refs_F dot_Refs_T := runY_ok (E := dot_Refs_E) (ET := dot_Refs_V) (EnvT.ofX (E := dot_Refs_E) (ET := dot_Refs_V) (pure_of (pairs_cons dot_Compare_ok (pairs_cons cmp_Or_int_ok (pairs_cons cmp_Compare_int_ok pairs_nil)))) looks_nil raws_nil G0_ok news_nil) dot_Refs_eq rfl
-- internal/stringslite.IndexByte
noncomputable def stringslite_IndexByte_E : Env := { pure := [], raw := [], glob := G0, same := [63], look := [], ext := [(64, indexByteF)] }
def stringslite_IndexByte_H : Hints := { seqs := [], loops := [], own := [] }
noncomputable def stringslite_IndexByte_F : PFn := closeF (runF Tryd.prog stringslite_IndexByte_E stringslite_IndexByte_H Tryd.f52)
def stringslite_IndexByte_Y : TH := { joins := [], loops := [], cuts := [], ro := [], news := [] }
noncomputable def stringslite_IndexByte (a0 : List UInt8) (a1 : Int) : Option Int :=
(indexByte a0 a1).bind fun r1 =>
 some r1
noncomputable def stringslite_IndexByte_T : TFn := { ps := (.cons .str (.cons (.int .u8) .unit)), res := (.int .i64), fn := fun v => stringslite_IndexByte v.1 v.2.1 }
noncomputable def stringslite_IndexByte_V : TEnv := { pure := [(64, indexByte_T)], look := [], glob := G0T, ty := [], raw := [], fresh := [] }
theorem stringslite_IndexByte_eq : runY Tryd.prog stringslite_IndexByte_E stringslite_IndexByte_H stringslite_IndexByte_V stringslite_IndexByte_Y Tryd.f52 stringslite_IndexByte_T.ps stringslite_IndexByte_T.res = stringslite_IndexByte_T.fn := by kernel_rfl
theorem stringslite_IndexByte_Fok : SoundP Tryd.prog G0 52 stringslite_IndexByte_F := closeF_sound (runF_sound (P := Tryd.prog) (E := stringslite_IndexByte_E) (h := stringslite_IndexByte_H) (f := 52) (fn := Tryd.f52) ⟨same_ok, envP_nil, envS_nil, envP_nil, (envX_cons (indexByte_ext (fn := Tryd.f64) Tryd.func64 (by kernel_rfl) (by kernel_rfl) (by kernel_rfl) (by kernel_rfl)) envX_nil)⟩ Tryd.func52 rfl (by kernel_rfl))
theorem stringslite_IndexByte_ok : TOk stringslite_IndexByte_F stringslite_IndexByte_T := runY_ok (E := stringslite_IndexByte_E) (ET := stringslite_IndexByte_V) (EnvT.ofX (E := stringslite_IndexByte_E) (ET := stringslite_IndexByte_V) (pure_ext indexByte_ok rfl rfl rfl (pure_of pairs_nil)) looks_nil raws_nil G0_ok news_nil) stringslite_IndexByte_eq rfl
-- internal/bytealg.Cutover
noncomputable def bytealg_Cutover_E : Env := { pure := [], raw := [], glob := G0, same := [63], look := [], ext := [] }
def bytealg_Cutover_H : Hints := { seqs := [], loops := [], own := [] }
noncomputable def bytealg_Cutover_F : PFn := closeF (runF Tryd.prog bytealg_Cutover_E bytealg_Cutover_H Tryd.f54)
def bytealg_Cutover_Y : TH := { joins := [], loops := [], cuts := [], ro := [], news := [] }
noncomputable def bytealg_Cutover (a0 : Int) : Option Int :=
(quoT .i64 (IntKind.wrap .i64 (a0 + 16)) 8).bind fun t1 =>
 some t1
noncomputable def bytealg_Cutover_T : TFn := { ps := (.cons (.int .i64) .unit), res := (.int .i64), fn := fun v => bytealg_Cutover v.1 }
noncomputable def bytealg_Cutover_V : TEnv := { pure := [], look := [], glob := G0T, ty := [], raw := [], fresh := [] }
theorem bytealg_Cutover_eq : runY Tryd.prog bytealg_Cutover_E bytealg_Cutover_H bytealg_Cutover_V bytealg_Cutover_Y Tryd.f54 bytealg_Cutover_T.ps bytealg_Cutover_T.res = bytealg_Cutover_T.fn := by kernel_rfl
theorem bytealg_Cutover_Fok : SoundP Tryd.prog G0 54 bytealg_Cutover_F := closeF_sound (runF_sound (P := Tryd.prog) (E := bytealg_Cutover_E) (h := bytealg_Cutover_H) (f := 54) (fn := Tryd.f54) ⟨same_ok, envP_nil, envS_nil, envP_nil, envX_nil⟩ Tryd.func54 rfl (by kernel_rfl))
theorem bytealg_Cutover_ok : TOk bytealg_Cutover_F bytealg_Cutover_T := runY_ok (E := bytealg_Cutover_E) (ET := bytealg_Cutover_V) (EnvT.ofX (E := bytealg_Cutover_E) (ET := bytealg_Cutover_V) (pure_of pairs_nil) looks_nil raws_nil G0_ok news_nil) bytealg_Cutover_eq rfl
-- internal/bytealg.hashStr[string]
noncomputable def bytealg_hashStr_string_E : Env := { pure := [], raw := [], glob := G0, same := [63], look := [], ext := [] }
def bytealg_hashStr_string_H : Hints := { seqs := [], loops := [(3, [0, 4, 5]), (8, [4, 6, 7, 8])], own := [] }
noncomputable def bytealg_hashStr_string_F : PFn := closeF (runF Tryd.prog bytealg_hashStr_string_E bytealg_hashStr_string_H Tryd.f65)
def bytealg_hashStr_string_Y : TH := { joins := [(6, { keep := [(4, (.int .u32))], mem := [] }), (13, { keep := [(6, (.int .u32))], mem := [] }), (12, { keep := [(6, (.int .u32))], mem := [] })], loops := [(3, { keep := [(4, (.int .u32)), (5, (.int .i64))], mem := [] }), (8, { keep := [(6, (.int .u32)), (7, (.int .u32)), (8, (.int .i64))], mem := [] })], cuts := [], ro := [], news := [] }
noncomputable def bytealg_hashStr_string_l3 (a0 : List UInt8) (y3 : (Int × Int × Unit)) : Option ((Int × Int × Unit) ⊕ ((Int × Unit) ⊕ (Int × Int × Unit))) :=
 cond (decide (y3.2.1 < (a0.length : Int))) (
(atI a0 y3.2.1).bind fun b1 =>
 some (.inl ((IntKind.wrap .u32 ((IntKind.wrap .u32 (y3.1 * 16777619)) + (IntKind.wrap .u32 (b1.toNat : Int)))), (IntKind.wrap .i64 (y3.2.1 + 1)), ()))) (
 some (.inr (.inl (y3.1, ()))))
noncomputable def bytealg_hashStr_string_l8 (y8 : (Int × Int × Int × Unit)) : Option ((Int × Int × Int × Unit) ⊕ ((Int × Unit) ⊕ (Int × Int × Unit))) :=
 cond (decide (y8.2.2.1 > 0)) (
(cond (!decide ((IntKind.wrap .i64 ((BitVec.ofInt (IntKind.bits .i64) y8.2.2.1 &&& BitVec.ofInt (IntKind.bits .i64) 1).toNat)) = 0)) (
 some (.inl ((IntKind.wrap .u32 (y8.1 * y8.2.1)), ()))) (
 some (.inl (y8.1, ()))) : Option ((Int × Unit) ⊕ ((Int × Int × Int × Unit) ⊕ ((Int × Unit) ⊕ (Int × Int × Unit))))).bind (joinS fun v3 =>
(shrT .i64 y8.2.2.1 1).bind fun t4 =>
 some (.inl (v3.1, (IntKind.wrap .u32 (y8.2.1 * y8.2.1)), t4, ())))) (
 some (.inr (.inl (y8.1, ()))))
noncomputable def bytealg_hashStr_string (a0 : List UInt8) : Option (Int × Int × Unit) :=
(loopT (bytealg_hashStr_string_l3 a0) (0, 0, ()) : Option ((Int × Unit) ⊕ (Int × Int × Unit))).bind (joinS fun v2 =>
(loopT (bytealg_hashStr_string_l8) (1, 16777619, (a0.length : Int), ()) : Option ((Int × Unit) ⊕ (Int × Int × Unit))).bind (joinS fun v5 =>
 some (v2.1, v5.1, ())))
noncomputable def bytealg_hashStr_string_T : TFn := { ps := (.cons .str .unit), res := (.tup (.cons (.int .u32) (.cons (.int .u32) .unit))), fn := fun v => bytealg_hashStr_string v.1 }
noncomputable def bytealg_hashStr_string_V : TEnv := { pure := [], look := [], glob := G0T, ty := [], raw := [], fresh := [] }
theorem bytealg_hashStr_string_eq : runY Tryd.prog bytealg_hashStr_string_E bytealg_hashStr_string_H bytealg_hashStr_string_V bytealg_hashStr_string_Y Tryd.f65 bytealg_hashStr_string_T.ps bytealg_hashStr_string_T.res = bytealg_hashStr_string_T.fn := by kernel_rfl
theorem bytealg_hashStr_string_Fok : SoundP Tryd.prog G0 65 bytealg_hashStr_string_F := closeF_sound (runF_sound (P := Tryd.prog) (E := bytealg_hashStr_string_E) (h := bytealg_hashStr_string_H) (f := 65) (fn := Tryd.f65) ⟨same_ok, envP_nil, envS_nil, envP_nil, envX_nil⟩ Tryd.func65 rfl (by kernel_rfl))
theorem bytealg_hashStr_string_ok : TOk bytealg_hashStr_string_F bytealg_hashStr_string_T := runY_ok (E := bytealg_hashStr_string_E) (ET := bytealg_hashStr_string_V) (EnvT.ofX (E := bytealg_hashStr_string_E) (ET := bytealg_hashStr_string_V) (pure_of pairs_nil) looks_nil raws_nil G0_ok news_nil) bytealg_hashStr_string_eq rfl
-- internal/bytealg.IndexRabinKarp[string]
noncomputable def bytealg_IndexRabinKarp_string_E : Env := { pure := [(65, bytealg_hashStr_string_F)], raw := [], glob := G0, same := [63], look := [], ext := [] }
def bytealg_IndexRabinKarp_string_H : Hints := { seqs := [], loops := [(5, [0, 1, 5, 6, 7, 8, 9]), (11, [0, 1, 5, 6, 7, 8, 10])], own := [] }
noncomputable def bytealg_IndexRabinKarp_string_F : PFn := closeF (runF Tryd.prog bytealg_IndexRabinKarp_string_E bytealg_IndexRabinKarp_string_H Tryd.f55)
def bytealg_IndexRabinKarp_string_Y : TH := { joins := [(8, { keep := [(8, (.int .u32))], mem := [] }), (10, { keep := [], mem := [] })], loops := [(5, { keep := [(8, (.int .u32)), (9, (.int .i64))], mem := [] }), (11, { keep := [(8, (.int .u32)), (10, (.int .i64))], mem := [] })], cuts := [], ro := [], news := [] }
noncomputable def bytealg_IndexRabinKarp_string_l5 (a0 : List UInt8) (a1 : List UInt8) (y5 : (Int × Int × Unit)) : Option ((Int × Int × Unit) ⊕ ((Int × Unit) ⊕ Int)) :=
 cond (decide (y5.2.1 < (a1.length : Int))) (
(atI a0 y5.2.1).bind fun b2 =>
 some (.inl ((IntKind.wrap .u32 ((IntKind.wrap .u32 (y5.1 * 16777619)) + (IntKind.wrap .u32 (b2.toNat : Int)))), (IntKind.wrap .i64 (y5.2.1 + 1)), ()))) (
 some (.inr (.inl (y5.1, ()))))
noncomputable def bytealg_IndexRabinKarp_string_l11 (a0 : List UInt8) (a1 : List UInt8) (r1 : (Int × Int × Unit)) (y11 : (Int × Int × Unit)) : Option ((Int × Int × Unit) ⊕ Int) :=
 cond (decide (y11.2.1 < (a0.length : Int))) (
(atI a0 y11.2.1).bind fun b6 =>
(atI a0 (IntKind.wrap .i64 (y11.2.1 - (a1.length : Int)))).bind fun b7 =>
 cond (decide ((IntKind.wrap .u32 ((IntKind.wrap .u32 ((IntKind.wrap .u32 (y11.1 * 16777619)) + (IntKind.wrap .u32 (b6.toNat : Int)))) - (IntKind.wrap .u32 (r1.2.1 * (IntKind.wrap .u32 (b7.toNat : Int)))))) = r1.1)) ((subI a0 (IntKind.wrap .i64 ((IntKind.wrap .i64 (y11.2.1 + 1)) - (a1.length : Int))) (IntKind.wrap .i64 (y11.2.1 + 1))).bind fun s8 =>
 cond (decide (s8 = a1)) (
 some (.inr (IntKind.wrap .i64 ((IntKind.wrap .i64 (y11.2.1 + 1)) - (a1.length : Int))))) (
 some (.inl ((IntKind.wrap .u32 ((IntKind.wrap .u32 ((IntKind.wrap .u32 (y11.1 * 16777619)) + (IntKind.wrap .u32 (b6.toNat : Int)))) - (IntKind.wrap .u32 (r1.2.1 * (IntKind.wrap .u32 (b7.toNat : Int)))))), (IntKind.wrap .i64 (y11.2.1 + 1)), ())))) (some (.inl ((IntKind.wrap .u32 ((IntKind.wrap .u32 ((IntKind.wrap .u32 (y11.1 * 16777619)) + (IntKind.wrap .u32 (b6.toNat : Int)))) - (IntKind.wrap .u32 (r1.2.1 * (IntKind.wrap .u32 (b7.toNat : Int)))))), (IntKind.wrap .i64 (y11.2.1 + 1)), ())))) (
 some (.inr (-1)))
noncomputable def bytealg_IndexRabinKarp_string (a0 : List UInt8) (a1 : List UInt8) : Option Int :=
(bytealg_hashStr_string a1).bind fun r1 =>
(loopT (bytealg_IndexRabinKarp_string_l5 a0 a1) (0, 0, ()) : Option ((Int × Unit) ⊕ Int)).bind (joinS fun v3 =>
(cond (decide (v3.1 = r1.1)) ((subI a0 0 (a1.length : Int)).bind fun s4 =>
 cond (decide (s4 = a1)) (
 some (.inr 0)) (
 some (.inl ()))) (some (.inl ())) : Option (Unit ⊕ Int)).bind (joinS fun v5 =>
 loopT (bytealg_IndexRabinKarp_string_l11 a0 a1 r1) (v3.1, (a1.length : Int), ())))
noncomputable def bytealg_IndexRabinKarp_string_T : TFn := { ps := (.cons .str (.cons .str .unit)), res := (.int .i64), fn := fun v => bytealg_IndexRabinKarp_string v.1 v.2.1 }
noncomputable def bytealg_IndexRabinKarp_string_V : TEnv := { pure := [(65, bytealg_hashStr_string_T)], look := [], glob := G0T, ty := [], raw := [], fresh := [] }
theorem bytealg_IndexRabinKarp_string_eq : runY Tryd.prog bytealg_IndexRabinKarp_string_E bytealg_IndexRabinKarp_string_H bytealg_IndexRabinKarp_string_V bytealg_IndexRabinKarp_string_Y Tryd.f55 bytealg_IndexRabinKarp_string_T.ps bytealg_IndexRabinKarp_string_T.res = bytealg_IndexRabinKarp_string_T.fn := by kernel_rfl
theorem bytealg_IndexRabinKarp_string_Fok : SoundP Tryd.prog G0 55 bytealg_IndexRabinKarp_string_F := closeF_sound (runF_sound (P := Tryd.prog) (E := bytealg_IndexRabinKarp_string_E) (h := bytealg_IndexRabinKarp_string_H) (f := 55) (fn := Tryd.f55) ⟨same_ok, (envP_cons bytealg_hashStr_string_Fok envP_nil), envS_nil, envP_nil, envX_nil⟩ Tryd.func55 rfl (by kernel_rfl))
theorem bytealg_IndexRabinKarp_string_ok : TOk bytealg_IndexRabinKarp_string_F bytealg_IndexRabinKarp_string_T := runY_ok (E := bytealg_IndexRabinKarp_string_E) (ET := bytealg_IndexRabinKarp_string_V) (EnvT.ofX (E := bytealg_IndexRabinKarp_string_E) (ET := bytealg_IndexRabinKarp_string_V) (pure_of (pairs_cons bytealg_hashStr_string_ok pairs_nil)) looks_nil raws_nil G0_ok news_nil) bytealg_IndexRabinKarp_string_eq rfl
-- internal/stringslite.Index
noncomputable def stringslite_Index_E : Env := { pure := [(52, stringslite_IndexByte_F)], raw := [], glob := G0, same := [63], look := [], ext := [] }
def stringslite_Index_H : Hints := { seqs := [], loops := [(15, [0, 1, 5, 6, 7, 8, 9, 10])], own := [] }
noncomputable def stringslite_Index_F : PFn := closeF (runF Tryd.prog stringslite_Index_E stringslite_Index_H Tryd.f44)
def stringslite_Index_Y : TH := { joins := [], loops := [], cuts := [], ro := [], news := [] }
noncomputable def stringslite_Index (a0 : List UInt8) (a1 : List UInt8) : Option Int :=
 cond (decide ((a1.length : Int) = 0)) (some 0) (cond (decide (a1 = a0)) (
 some 0) (
 cond (decide ((a1.length : Int) = 1)) (
(atI a1 0).bind fun b1 =>
(stringslite_IndexByte a0 (b1.toNat : Int)).bind fun r2 =>
 some r2) (
 cond (decide ((a1.length : Int) ≥ (a0.length : Int))) (
 some (-1)) (
 none))))
noncomputable def stringslite_Index_T : TFn := { ps := (.cons .str (.cons .str .unit)), res := (.int .i64), fn := fun v => stringslite_Index v.1 v.2.1 }
noncomputable def stringslite_Index_V : TEnv := { pure := [(52, stringslite_IndexByte_T)], look := [], glob := G0T, ty := [], raw := [], fresh := [] }
theorem stringslite_Index_eq : runY Tryd.prog stringslite_Index_E stringslite_Index_H stringslite_Index_V stringslite_Index_Y Tryd.f44 stringslite_Index_T.ps stringslite_Index_T.res = stringslite_Index_T.fn := by kernel_rfl
theorem stringslite_Index_Fok : SoundP Tryd.prog G0 44 stringslite_Index_F := closeF_sound (runF_sound (P := Tryd.prog) (E := stringslite_Index_E) (h := stringslite_Index_H) (f := 44) (fn := Tryd.f44) ⟨same_ok, (envP_cons stringslite_IndexByte_Fok envP_nil), envS_nil, envP_nil, envX_nil⟩ Tryd.func44 rfl (by kernel_rfl))
theorem stringslite_Index_ok : TOk stringslite_Index_F stringslite_Index_T := runY_ok (E := stringslite_Index_E) (ET := stringslite_Index_V) (EnvT.ofX (E := stringslite_Index_E) (ET := stringslite_Index_V) (pure_of (pairs_cons stringslite_IndexByte_ok pairs_nil)) looks_nil raws_nil G0_ok news_nil) stringslite_Index_eq rfl
-- internal/stringslite.Cut
noncomputable def stringslite_Cut_E : Env := { pure := [(44, stringslite_Index_F)], raw := [], glob := G0, same := [63], look := [], ext := [] }
def stringslite_Cut_H : Hints := { seqs := [], loops := [], own := [] }
noncomputable def stringslite_Cut_F : PFn := closeF (runF Tryd.prog stringslite_Cut_E stringslite_Cut_H Tryd.f36)
def stringslite_Cut_Y : TH := { joins := [], loops := [], cuts := [], ro := [], news := [] }
noncomputable def stringslite_Cut (a0 : List UInt8) (a1 : List UInt8) : Option (List UInt8 × List UInt8 × Bool × Unit) :=
(stringslite_Index a0 a1).bind fun r1 =>
 cond (decide (r1 ≥ 0)) (
(subI a0 0 r1).bind fun s2 =>
(subI a0 (IntKind.wrap .i64 (r1 + (a1.length : Int))) (a0.length : Int)).bind fun s3 =>
 some (s2, s3, true, ())) (
 some (a0, [], false, ()))
noncomputable def stringslite_Cut_T : TFn := { ps := (.cons .str (.cons .str .unit)), res := (.tup (.cons .str (.cons .str (.cons .bool .unit)))), fn := fun v => stringslite_Cut v.1 v.2.1 }
noncomputable def stringslite_Cut_V : TEnv := { pure := [(44, stringslite_Index_T)], look := [], glob := G0T, ty := [], raw := [], fresh := [] }
theorem stringslite_Cut_eq : runY Tryd.prog stringslite_Cut_E stringslite_Cut_H stringslite_Cut_V stringslite_Cut_Y Tryd.f36 stringslite_Cut_T.ps stringslite_Cut_T.res = stringslite_Cut_T.fn := by kernel_rfl
theorem stringslite_Cut_Fok : SoundP Tryd.prog G0 36 stringslite_Cut_F := closeF_sound (runF_sound (P := Tryd.prog) (E := stringslite_Cut_E) (h := stringslite_Cut_H) (f := 36) (fn := Tryd.f36) ⟨same_ok, (envP_cons stringslite_Index_Fok envP_nil), envS_nil, envP_nil, envX_nil⟩ Tryd.func36 rfl (by kernel_rfl))
theorem stringslite_Cut_ok : TOk stringslite_Cut_F stringslite_Cut_T := runY_ok (E := stringslite_Cut_E) (ET := stringslite_Cut_V) (EnvT.ofX (E := stringslite_Cut_E) (ET := stringslite_Cut_V) (pure_of (pairs_cons stringslite_Index_ok pairs_nil)) looks_nil raws_nil G0_ok news_nil) stringslite_Cut_eq rfl
-- strings.Cut
noncomputable def strings_Cut_E : Env := { pure := [(36, stringslite_Cut_F)], raw := [], glob := G0, same := [63], look := [], ext := [] }
def strings_Cut_H : Hints := { seqs := [], loops := [], own := [] }
noncomputable def strings_Cut_F : PFn := closeF (runF Tryd.prog strings_Cut_E strings_Cut_H Tryd.f23)
def strings_Cut_Y : TH := { joins := [], loops := [], cuts := [], ro := [], news := [] }
noncomputable def strings_Cut (a0 : List UInt8) (a1 : List UInt8) : Option (List UInt8 × List UInt8 × Bool × Unit) :=
(stringslite_Cut a0 a1).bind fun r1 =>
 some (r1.1, r1.2.1, r1.2.2.1, ())
noncomputable def strings_Cut_T : TFn := { ps := (.cons .str (.cons .str .unit)), res := (.tup (.cons .str (.cons .str (.cons .bool .unit)))), fn := fun v => strings_Cut v.1 v.2.1 }
noncomputable def strings_Cut_V : TEnv := { pure := [(36, stringslite_Cut_T)], look := [], glob := G0T, ty := [], raw := [], fresh := [] }
theorem strings_Cut_eq : runY Tryd.prog strings_Cut_E strings_Cut_H strings_Cut_V strings_Cut_Y Tryd.f23 strings_Cut_T.ps strings_Cut_T.res = strings_Cut_T.fn := by kernel_rfl
theorem strings_Cut_Fok : SoundP Tryd.prog G0 23 strings_Cut_F := closeF_sound (runF_sound (P := Tryd.prog) (E := strings_Cut_E) (h := strings_Cut_H) (f := 23) (fn := Tryd.f23) ⟨same_ok, (envP_cons stringslite_Cut_Fok envP_nil), envS_nil, envP_nil, envX_nil⟩ Tryd.func23 rfl (by kernel_rfl))
theorem strings_Cut_ok : TOk strings_Cut_F strings_Cut_T := runY_ok (E := strings_Cut_E) (ET := strings_Cut_V) (EnvT.ofX (E := strings_Cut_E) (ET := strings_Cut_V) (pure_of (pairs_cons stringslite_Cut_ok pairs_nil)) looks_nil raws_nil G0_ok news_nil) strings_Cut_eq rfl
-- strconv.Atoi
noncomputable def strconv_Atoi_F : PFn := (atoiF 70)
theorem strconv_Atoi_Fok : SoundP Tryd.prog G0 24 strconv_Atoi_F := atoi_sound (gs := 1) (gr := 2) ⟨Tryd.f24, Tryd.func24, rfl, by kernel_rfl⟩ (by kernel_rfl) (by kernel_rfl) (fun s hm v h w => Tryd.strconv_Atoi_ok s hm v h w) (fun s hl h ev w hv hev => (Tryd.strconv_Atoi_syntax s hl h ev w hv hev).mono fun e w' ⟨N, h1, _, _, h4⟩ => ⟨N, h1, h4⟩) (fun s hl h ev w hv hev => (Tryd.strconv_Atoi_range s hl h ev w hv hev).mono fun e w' ⟨N, h1, _, _, h4⟩ => ⟨N, h1, h4⟩)
noncomputable def strconv_Atoi (a0 : List UInt8) : Option (Int × Bool × Unit) := atoi a0
noncomputable def strconv_Atoi_T : TFn := atoi_T
theorem strconv_Atoi_ok : TOk strconv_Atoi_F strconv_Atoi_T := atoi_ok
-- palinode/dot.Parse
noncomputable def dot_Parse_E : Env := { pure := [(11, dot_Right_F), (13, dot_Text_F), (23, strings_Cut_F), (24, strconv_Atoi_F)], raw := [], glob := G0, same := [63], look := [], ext := [] }
def dot_Parse_H : Hints := { seqs := [], loops := [], own := [] }
noncomputable def dot_Parse_F : PFn := closeF (runF Tryd.prog dot_Parse_E dot_Parse_H Tryd.f7)
def dot_Parse_Y : TH := { joins := [], loops := [], cuts := [(5, [(6, { keep := [(2, (.bx 0 0)), (11, (.bx 1 0)), (36, .bool)], mem := [.box 23 (.agg (.cons (.int .i64) (.cons (.int .i64) .unit))), .box 23 (.agg (.cons (.int .i64) (.cons (.int .i64) .unit)))] })])], ro := [], news := [] }
noncomputable def dot_Parse (a0 : List UInt8) : Option ((Int × Int × Unit) × Int × Unit) :=
(strings_Cut a0 [46]).bind fun r1 =>
(strconv_Atoi r1.1).bind fun r2 =>
(strconv_Atoi r1.2.1).bind fun r3 =>
(cond (!r1.2.2.1) (some (true, (0, 0, ()), (r2.1, r3.1, ()), ())) (some (r2.2.1, (0, 0, ()), (r2.1, r3.1, ()), ())) : Option (Bool × (Int × Int × Unit) × (Int × Int × Unit) × Unit)).bind fun v4 =>
 cond v4.1 (some ((0, 0, ()), 19, ())) (cond r3.2.1 (some ((0, 0, ()), 19, ())) ((dot_Right v4.2.2.1).bind fun r5 =>
 cond (!r5) (some ((0, 0, ()), 19, ())) ((dot_Text v4.2.2.1).bind fun r6 =>
 cond (!decide (r6 = a0)) (
 some ((0, 0, ()), 19, ())) (
 some (v4.2.2.1, 0, ())))))
noncomputable def dot_Parse_T : TFn := { ps := (.cons .str .unit), res := (.tup (.cons (.agg (.cons (.int .i64) (.cons (.int .i64) .unit))) (.cons (.int .i64) .unit))), fn := fun v => dot_Parse v.1 }
noncomputable def dot_Parse_V : TEnv := { pure := [(11, dot_Right_T), (13, dot_Text_T), (23, strings_Cut_T), (24, strconv_Atoi_T)], look := [], glob := G0T, ty := [], raw := [], fresh := [] }
theorem dot_Parse_eq : runY Tryd.prog dot_Parse_E dot_Parse_H dot_Parse_V dot_Parse_Y Tryd.f7 dot_Parse_T.ps dot_Parse_T.res = dot_Parse_T.fn := by kernel_rfl
theorem dot_Parse_Fok : SoundP Tryd.prog G0 7 dot_Parse_F := closeF_sound (runF_sound (P := Tryd.prog) (E := dot_Parse_E) (h := dot_Parse_H) (f := 7) (fn := Tryd.f7) ⟨same_ok, (envP_cons dot_Right_Fok (envP_cons dot_Text_Fok (envP_cons strings_Cut_Fok (envP_cons strconv_Atoi_Fok envP_nil)))), envS_nil, envP_nil, envX_nil⟩ Tryd.func7 rfl (by kernel_rfl))
theorem dot_Parse_ok : TOk dot_Parse_F dot_Parse_T := runY_ok (E := dot_Parse_E) (ET := dot_Parse_V) (EnvT.ofX (E := dot_Parse_E) (ET := dot_Parse_V) (pure_of (pairs_cons dot_Right_ok (pairs_cons dot_Text_ok (pairs_cons strings_Cut_ok (pairs_cons strconv_Atoi_ok pairs_nil))))) looks_nil raws_nil G0_ok news_nil) dot_Parse_eq rfl
-- palinode/palinoderef04.Parse
noncomputable def ref04_Parse_E : Env := { pure := [(12, ref04_Right_F), (14, ref04_Text_F), (25, ref04_Digits_F)], raw := [], glob := G0, same := [63], look := [], ext := [] }
def ref04_Parse_H : Hints := { seqs := [], loops := [(2, [0, 2, 4]), (8, [0, 2, 4, 6, 7])], own := [] }
noncomputable def ref04_Parse_F : PFn := closeF (runF Tryd.prog ref04_Parse_E ref04_Parse_H Tryd.f8)
def ref04_Parse_Y : TH := { joins := [(13, { keep := [(2, (.bx 0 0)), (6, (.int .i64))], mem := [.box 23 (.agg (.cons (.int .i64) (.cons (.int .i64) .unit)))] })], loops := [(2, { keep := [(2, (.bx 0 0)), (4, (.int .i64))], mem := [.box 23 (.agg (.cons (.int .i64) (.cons (.int .i64) .unit)))] }), (8, { keep := [(2, (.bx 0 0)), (6, (.int .i64)), (7, (.int .i64))], mem := [.box 23 (.agg (.cons (.int .i64) (.cons (.int .i64) .unit)))] })], cuts := [], ro := [], news := [] }
noncomputable def ref04_Parse_l8 (a0 : List UInt8) (y8 : (Int × Int × (Int × Int × Unit) × Unit)) : Option ((Int × Int × (Int × Int × Unit) × Unit) ⊕ ((Int × (Int × Int × Unit) × Unit) ⊕ ((Int × (Int × Int × Unit) × Unit) ⊕ ((Int × Int × Unit) × Bool × Unit)))) :=
 cond (decide (y8.2.1 < (a0.length : Int))) (
(atI a0 y8.2.1).bind fun b4 =>
(atI a0 y8.2.1).bind fun b5 =>
 cond (decide ((b5.toNat : Int) < 48)) (some (.inr (.inr (.inr ((0, 0, ()), false, ()))))) ((atI a0 y8.2.1).bind fun b6 =>
 cond (decide ((b6.toNat : Int) > 57)) (
 some (.inr (.inr (.inr ((0, 0, ()), false, ()))))) (
 some (.inl ((IntKind.wrap .i64 ((IntKind.wrap .i64 ((IntKind.wrap .i64 (10 * y8.1)) + (IntKind.wrap .i64 (b4.toNat : Int)))) - 48)), (IntKind.wrap .i64 (y8.2.1 + 1)), y8.2.2.1, ()))))) (
 some (.inr (.inl (y8.1, y8.2.2.1, ()))))
noncomputable def ref04_Parse_l2 (a0 : List UInt8) (y2 : (Int × (Int × Int × Unit) × Unit)) : Option ((Int × (Int × Int × Unit) × Unit) ⊕ ((Int × Int × Unit) × Bool × Unit)) :=
 cond (decide (y2.1 < 16)) (
(ref04_Digits y2.1).bind fun r1 =>
(catT r1 [46]).bind fun s2 =>
 cond (decide ((a0.length : Int) ≤ (s2.length : Int))) (some (.inl ((IntKind.wrap .i64 (y2.1 + 1)), y2.2.1, ()))) (cond (decide ((a0.length : Int) > (IntKind.wrap .i64 ((s2.length : Int) + 7)))) (some (.inl ((IntKind.wrap .i64 (y2.1 + 1)), y2.2.1, ()))) ((subI a0 0 (s2.length : Int)).bind fun s3 =>
 cond (!decide (s3 = s2)) (
 some (.inl ((IntKind.wrap .i64 (y2.1 + 1)), y2.2.1, ()))) (
(loopT (ref04_Parse_l8 a0) (0, (s2.length : Int), y2.2.1, ()) : Option ((Int × (Int × Int × Unit) × Unit) ⊕ ((Int × (Int × Int × Unit) × Unit) ⊕ ((Int × Int × Unit) × Bool × Unit)))).bind (joinS fun v7 =>
(ref04_Right (y2.1, v7.1, ())).bind fun r8 =>
 cond r8 ((ref04_Text (y2.1, v7.1, ())).bind fun r9 =>
 some (.inr ((y2.1, v7.1, ()), (decide (r9 = a0)), ()))) (some (.inr ((y2.1, v7.1, ()), false, ())))))))) (
 some (.inr ((0, 0, ()), false, ())))
noncomputable def ref04_Parse (a0 : List UInt8) : Option ((Int × Int × Unit) × Bool × Unit) :=
 loopT (ref04_Parse_l2 a0) (0, (0, 0, ()), ())
noncomputable def ref04_Parse_T : TFn := { ps := (.cons .str .unit), res := (.tup (.cons (.agg (.cons (.int .i64) (.cons (.int .i64) .unit))) (.cons .bool .unit))), fn := fun v => ref04_Parse v.1 }
noncomputable def ref04_Parse_V : TEnv := { pure := [(12, ref04_Right_T), (14, ref04_Text_T), (25, ref04_Digits_T)], look := [], glob := G0T, ty := [], raw := [], fresh := [] }
theorem ref04_Parse_eq : runY Tryd.prog ref04_Parse_E ref04_Parse_H ref04_Parse_V ref04_Parse_Y Tryd.f8 ref04_Parse_T.ps ref04_Parse_T.res = ref04_Parse_T.fn := by kernel_rfl
theorem ref04_Parse_Fok : SoundP Tryd.prog G0 8 ref04_Parse_F := closeF_sound (runF_sound (P := Tryd.prog) (E := ref04_Parse_E) (h := ref04_Parse_H) (f := 8) (fn := Tryd.f8) ⟨same_ok, (envP_cons ref04_Right_Fok (envP_cons ref04_Text_Fok (envP_cons ref04_Digits_Fok envP_nil))), envS_nil, envP_nil, envX_nil⟩ Tryd.func8 rfl (by kernel_rfl))
theorem ref04_Parse_ok : TOk ref04_Parse_F ref04_Parse_T := runY_ok (E := ref04_Parse_E) (ET := ref04_Parse_V) (EnvT.ofX (E := ref04_Parse_E) (ET := ref04_Parse_V) (pure_of (pairs_cons ref04_Right_ok (pairs_cons ref04_Text_ok (pairs_cons ref04_Digits_ok pairs_nil)))) looks_nil raws_nil G0_ok news_nil) ref04_Parse_eq rfl
-- palinode/pack.Open
noncomputable def pack_Open_E : Env := { pure := [], raw := [], glob := G0, same := [63], look := [], ext := [] }
def pack_Open_H : Hints := { seqs := [], loops := [], own := [] }
noncomputable def pack_Open_S : SFn := runF Tryd.prog pack_Open_E pack_Open_H Tryd.f20
def pack_Open_Y : TH := { joins := [], loops := [], cuts := [], ro := [], news := [] }
noncomputable def pack_Open (a0 : List UInt8) : Option (List UInt8 × Int × Unit) :=
 some (a0, 0, ())
noncomputable def pack_Open_N : TNew := { ps := (.cons .str .unit), e := 53, t := (.agg (.cons .str (.cons (.int .i64) .unit))), fn := fun v => pack_Open v.1 }
noncomputable def pack_Open_V : TEnv := { pure := [], look := [], glob := G0T, ty := [], raw := [], fresh := [] }
theorem pack_Open_eq : newY Tryd.prog pack_Open_E pack_Open_H pack_Open_V pack_Open_Y Tryd.f20 pack_Open_N.ps pack_Open_N.e pack_Open_N.t = pack_Open_N.fn := by kernel_rfl
theorem pack_Open_Sok : SoundS Tryd.prog G0 20 pack_Open_S := runF_sound (P := Tryd.prog) (E := pack_Open_E) (h := pack_Open_H) (f := 20) (fn := Tryd.f20) ⟨same_ok, envP_nil, envS_nil, envP_nil, envX_nil⟩ Tryd.func20 rfl (by kernel_rfl)
theorem pack_Open_ok : TNewOk pack_Open_S pack_Open_N := newY_ok (E := pack_Open_E) (ET := pack_Open_V) (EnvT.ofX (E := pack_Open_E) (ET := pack_Open_V) (pure_of pairs_nil) looks_nil raws_nil G0_ok news_nil) pack_Open_eq
-- (*palinode/pack.Reader).fine
noncomputable def pack_Reader_fine_E : Env := { pure := [], raw := [], glob := G0, same := [63], look := [], ext := [] }
def pack_Reader_fine_H : Hints := { seqs := [], loops := [], own := [4] }
noncomputable def pack_Reader_fine_S : SFn := runF Tryd.prog pack_Reader_fine_E pack_Reader_fine_H Tryd.f43
def pack_Reader_fine_Y : TH := { joins := [], loops := [], cuts := [], ro := [], news := [] }
noncomputable def pack_Reader_fine (w0 : (List UInt8 × Int × Unit)) : Option (Bool × (List UInt8 × Int × Unit) × Unit) :=
 some ((decide (w0.2.1 = 0)), w0, ())
noncomputable def pack_Reader_fine_R : TRaw := { ps := (.cons (.bx 0 0) .unit), ins := [.box 53 (.agg (.cons .str (.cons (.int .i64) .unit)))], res := .bool, outs := [.box 53 (.agg (.cons .str (.cons (.int .i64) .unit)))], fn := fun v w => pack_Reader_fine w.1 }
noncomputable def pack_Reader_fine_V : TEnv := { pure := [], look := [], glob := G0T, ty := [], raw := [], fresh := [] }
theorem pack_Reader_fine_eq : rawY Tryd.prog pack_Reader_fine_E pack_Reader_fine_H pack_Reader_fine_V pack_Reader_fine_Y [(0, 0)] Tryd.f43 pack_Reader_fine_R.ps pack_Reader_fine_R.ins pack_Reader_fine_R.res pack_Reader_fine_R.outs = pack_Reader_fine_R.fn := by kernel_rfl
theorem pack_Reader_fine_Sok : SoundS Tryd.prog G0 43 pack_Reader_fine_S := runF_sound (P := Tryd.prog) (E := pack_Reader_fine_E) (h := pack_Reader_fine_H) (f := 43) (fn := Tryd.f43) ⟨same_ok, envP_nil, envS_nil, envP_nil, envX_nil⟩ Tryd.func43 rfl (by kernel_rfl)
theorem pack_Reader_fine_ok : TRawOk pack_Reader_fine_S pack_Reader_fine_R := rawY_ok (E := pack_Reader_fine_E) (ET := pack_Reader_fine_V) (EnvT.ofX (E := pack_Reader_fine_E) (ET := pack_Reader_fine_V) (pure_of pairs_nil) looks_nil raws_nil G0_ok news_nil) pack_Reader_fine_eq
-- (*palinode/pack.Reader).Fail
noncomputable def pack_Reader_Fail_E : Env := { pure := [], raw := [(43, pack_Reader_fine_S)], glob := G0, same := [63], look := [], ext := [] }
def pack_Reader_Fail_H : Hints := { seqs := [], loops := [], own := [] }
noncomputable def pack_Reader_Fail_S : SFn := runF Tryd.prog pack_Reader_Fail_E pack_Reader_Fail_H Tryd.f34
def pack_Reader_Fail_Y : TH := { joins := [], loops := [], cuts := [], ro := [], news := [] }
noncomputable def pack_Reader_Fail (a1 : Int) (w0 : (List UInt8 × Int × Unit)) : Option (Unit × (List UInt8 × Int × Unit) × Unit) :=
(pack_Reader_fine w0).bind fun q1 =>
 cond q1.1 (
 some ((), (q1.2.1.1, a1, ()), ())) (
 some ((), q1.2.1, ()))
noncomputable def pack_Reader_Fail_R : TRaw := { ps := (.cons (.bx 0 0) (.cons (.int .i64) .unit)), ins := [.box 53 (.agg (.cons .str (.cons (.int .i64) .unit)))], res := (.tup .unit), outs := [.box 53 (.agg (.cons .str (.cons (.int .i64) .unit)))], fn := fun v w => pack_Reader_Fail v.2.1 w.1 }
noncomputable def pack_Reader_Fail_V : TEnv := { pure := [], look := [], glob := G0T, ty := [], raw := [(43, pack_Reader_fine_R)], fresh := [] }
theorem pack_Reader_Fail_eq : rawY Tryd.prog pack_Reader_Fail_E pack_Reader_Fail_H pack_Reader_Fail_V pack_Reader_Fail_Y [(0, 0)] Tryd.f34 pack_Reader_Fail_R.ps pack_Reader_Fail_R.ins pack_Reader_Fail_R.res pack_Reader_Fail_R.outs = pack_Reader_Fail_R.fn := by kernel_rfl
theorem pack_Reader_Fail_Sok : SoundS Tryd.prog G0 34 pack_Reader_Fail_S := runF_sound (P := Tryd.prog) (E := pack_Reader_Fail_E) (h := pack_Reader_Fail_H) (f := 34) (fn := Tryd.f34) ⟨same_ok, envP_nil, (envS_cons pack_Reader_fine_Sok envS_nil), envP_nil, envX_nil⟩ Tryd.func34 rfl (by kernel_rfl)
theorem pack_Reader_Fail_ok : TRawOk pack_Reader_Fail_S pack_Reader_Fail_R := rawY_ok (E := pack_Reader_Fail_E) (ET := pack_Reader_Fail_V) (EnvT.ofX (E := pack_Reader_Fail_E) (ET := pack_Reader_Fail_V) (pure_of pairs_nil) looks_nil (raws_cons pack_Reader_fine_ok rfl rfl raws_nil) G0_ok news_nil) pack_Reader_Fail_eq
-- (*palinode/pack.Reader).Int
noncomputable def pack_Reader_Int_E : Env := { pure := [], raw := [(34, pack_Reader_Fail_S), (43, pack_Reader_fine_S)], glob := G0, same := [63], look := [], ext := [] }
def pack_Reader_Int_H : Hints := { seqs := [], loops := [(3, [0, 3, 4])], own := [] }
noncomputable def pack_Reader_Int_S : SFn := runF Tryd.prog pack_Reader_Int_E pack_Reader_Int_H Tryd.f32
def pack_Reader_Int_Y : TH := { joins := [(14, { keep := [(0, (.bx 0 0))], mem := [.box 53 (.agg (.cons .str (.cons (.int .i64) .unit)))] })], loops := [(3, { keep := [(0, (.bx 0 0)), (3, (.int .i64)), (4, (.int .i64))], mem := [.box 53 (.agg (.cons .str (.cons (.int .i64) .unit)))] })], cuts := [], ro := [], news := [] }
noncomputable def pack_Reader_Int_l3 (y3 : (Int × Int × (List UInt8 × Int × Unit) × Unit)) : Option ((Int × Int × (List UInt8 × Int × Unit) × Unit) ⊕ (Int × (List UInt8 × Int × Unit) × Unit)) :=
(pack_Reader_fine y3.2.2.1).bind fun q1 =>
 cond q1.1 (
 cond (decide (y3.2.1 = 8)) (
(pack_Reader_Fail 6 q1.2.1).bind fun q2 =>
 some (.inl (y3.1, (IntKind.wrap .i64 (y3.2.1 + 1)), q2.2.1, ()))) (
 cond (decide (y3.2.1 ≥ (q1.2.1.1.length : Int))) (
(pack_Reader_Fail 4 q1.2.1).bind fun q3 =>
 some (.inl (y3.1, (IntKind.wrap .i64 (y3.2.1 + 1)), q3.2.1, ()))) (
(atI q1.2.1.1 y3.2.1).bind fun b4 =>
(shlT .i64 (IntKind.wrap .i64 ((BitVec.ofInt (IntKind.bits .i64) (IntKind.wrap .i64 (b4.toNat : Int)) &&& BitVec.ofInt (IntKind.bits .i64) 127).toNat)) (IntKind.wrap .i64 (7 * y3.2.1))).bind fun t5 =>
(cond (decide ((IntKind.wrap .i64 (b4.toNat : Int)) ≥ 128)) (
 some (.inr (.inl ((IntKind.wrap .i64 ((BitVec.ofInt (IntKind.bits .i64) y3.1 ||| BitVec.ofInt (IntKind.bits .i64) t5).toNat)), (IntKind.wrap .i64 (y3.2.1 + 1)), q1.2.1, ())))) (
 cond (decide ((IntKind.wrap .i64 (b4.toNat : Int)) = 0)) (cond (decide (y3.2.1 > 0)) (
(pack_Reader_Fail 3 q1.2.1).bind fun q6 =>
 some (.inr (.inl ((IntKind.wrap .i64 ((BitVec.ofInt (IntKind.bits .i64) y3.1 ||| BitVec.ofInt (IntKind.bits .i64) t5).toNat)), (IntKind.wrap .i64 (y3.2.1 + 1)), q6.2.1, ())))) (
 some (.inl (q1.2.1, ())))) (some (.inl (q1.2.1, ())))) : Option (((List UInt8 × Int × Unit) × Unit) ⊕ ((Int × Int × (List UInt8 × Int × Unit) × Unit) ⊕ (Int × (List UInt8 × Int × Unit) × Unit)))).bind (joinS fun v7 =>
(subI v7.1.1 (IntKind.wrap .i64 (y3.2.1 + 1)) (v7.1.1.length : Int)).bind fun s8 =>
 some (.inr ((IntKind.wrap .i64 ((BitVec.ofInt (IntKind.bits .i64) y3.1 ||| BitVec.ofInt (IntKind.bits .i64) t5).toNat)), (s8, v7.1.2.1, ()), ())))))) (
 some (.inr (0, q1.2.1, ())))
noncomputable def pack_Reader_Int (w0 : (List UInt8 × Int × Unit)) : Option (Int × (List UInt8 × Int × Unit) × Unit) :=
 loopT (pack_Reader_Int_l3) (0, 0, w0, ())
noncomputable def pack_Reader_Int_R : TRaw := { ps := (.cons (.bx 0 0) .unit), ins := [.box 53 (.agg (.cons .str (.cons (.int .i64) .unit)))], res := (.int .i64), outs := [.box 53 (.agg (.cons .str (.cons (.int .i64) .unit)))], fn := fun v w => pack_Reader_Int w.1 }
noncomputable def pack_Reader_Int_V : TEnv := { pure := [], look := [], glob := G0T, ty := [], raw := [(34, pack_Reader_Fail_R), (43, pack_Reader_fine_R)], fresh := [] }
theorem pack_Reader_Int_eq : rawY Tryd.prog pack_Reader_Int_E pack_Reader_Int_H pack_Reader_Int_V pack_Reader_Int_Y [(0, 0)] Tryd.f32 pack_Reader_Int_R.ps pack_Reader_Int_R.ins pack_Reader_Int_R.res pack_Reader_Int_R.outs = pack_Reader_Int_R.fn := by kernel_rfl
theorem pack_Reader_Int_Sok : SoundS Tryd.prog G0 32 pack_Reader_Int_S := runF_sound (P := Tryd.prog) (E := pack_Reader_Int_E) (h := pack_Reader_Int_H) (f := 32) (fn := Tryd.f32) ⟨same_ok, envP_nil, (envS_cons pack_Reader_Fail_Sok (envS_cons pack_Reader_fine_Sok envS_nil)), envP_nil, envX_nil⟩ Tryd.func32 rfl (by kernel_rfl)
theorem pack_Reader_Int_ok : TRawOk pack_Reader_Int_S pack_Reader_Int_R := rawY_ok (E := pack_Reader_Int_E) (ET := pack_Reader_Int_V) (EnvT.ofX (E := pack_Reader_Int_E) (ET := pack_Reader_Int_V) (pure_of pairs_nil) looks_nil (raws_cons pack_Reader_Fail_ok rfl rfl (raws_cons pack_Reader_fine_ok rfl rfl raws_nil)) G0_ok news_nil) pack_Reader_Int_eq
-- (*palinode/pack.Reader).Fault
noncomputable def pack_Reader_Fault_E : Env := { pure := [], raw := [], glob := G0, same := [63], look := [], ext := [] }
def pack_Reader_Fault_H : Hints := { seqs := [], loops := [], own := [4] }
noncomputable def pack_Reader_Fault_S : SFn := runF Tryd.prog pack_Reader_Fault_E pack_Reader_Fault_H Tryd.f33
def pack_Reader_Fault_Y : TH := { joins := [], loops := [], cuts := [], ro := [], news := [] }
noncomputable def pack_Reader_Fault (w0 : (List UInt8 × Int × Unit)) : Option (Int × (List UInt8 × Int × Unit) × Unit) :=
 some (w0.2.1, w0, ())
noncomputable def pack_Reader_Fault_R : TRaw := { ps := (.cons (.bx 0 0) .unit), ins := [.box 53 (.agg (.cons .str (.cons (.int .i64) .unit)))], res := (.int .i64), outs := [.box 53 (.agg (.cons .str (.cons (.int .i64) .unit)))], fn := fun v w => pack_Reader_Fault w.1 }
noncomputable def pack_Reader_Fault_V : TEnv := { pure := [], look := [], glob := G0T, ty := [], raw := [], fresh := [] }
theorem pack_Reader_Fault_eq : rawY Tryd.prog pack_Reader_Fault_E pack_Reader_Fault_H pack_Reader_Fault_V pack_Reader_Fault_Y [(0, 0)] Tryd.f33 pack_Reader_Fault_R.ps pack_Reader_Fault_R.ins pack_Reader_Fault_R.res pack_Reader_Fault_R.outs = pack_Reader_Fault_R.fn := by kernel_rfl
theorem pack_Reader_Fault_Sok : SoundS Tryd.prog G0 33 pack_Reader_Fault_S := runF_sound (P := Tryd.prog) (E := pack_Reader_Fault_E) (h := pack_Reader_Fault_H) (f := 33) (fn := Tryd.f33) ⟨same_ok, envP_nil, envS_nil, envP_nil, envX_nil⟩ Tryd.func33 rfl (by kernel_rfl)
theorem pack_Reader_Fault_ok : TRawOk pack_Reader_Fault_S pack_Reader_Fault_R := rawY_ok (E := pack_Reader_Fault_E) (ET := pack_Reader_Fault_V) (EnvT.ofX (E := pack_Reader_Fault_E) (ET := pack_Reader_Fault_V) (pure_of pairs_nil) looks_nil raws_nil G0_ok news_nil) pack_Reader_Fault_eq
-- palinode/dot.Read
noncomputable def dot_Read_E : Env := { pure := [(11, dot_Right_F)], raw := [(32, pack_Reader_Int_S), (33, pack_Reader_Fault_S), (34, pack_Reader_Fail_S)], glob := G0, same := [63], look := [], ext := [] }
def dot_Read_H : Hints := { seqs := [], loops := [], own := [] }
noncomputable def dot_Read_S : SFn := runF Tryd.prog dot_Read_E dot_Read_H Tryd.f21
def dot_Read_Y : TH := { joins := [(4, { keep := [(0, (.bx 0 0)), (2, (.bx 1 0)), (3, (.bx 2 0))], mem := [.box 53 (.agg (.cons .str (.cons (.int .i64) .unit))), .box 23 (.agg (.cons (.int .i64) (.cons (.int .i64) .unit))), .box 23 (.agg (.cons (.int .i64) (.cons (.int .i64) .unit)))] })], loops := [], cuts := [], ro := [], news := [] }
noncomputable def dot_Read (w0 : (List UInt8 × Int × Unit)) : Option ((Int × Int × Unit) × (List UInt8 × Int × Unit) × Unit) :=
(pack_Reader_Int w0).bind fun q1 =>
(pack_Reader_Int q1.2.1).bind fun q2 =>
((pack_Reader_Fault q2.2.1).bind fun q3 =>
 cond (decide (q3.1 = 0)) ((dot_Right (q1.1, q2.1, ())).bind fun r4 =>
 cond (!r4) (
(pack_Reader_Fail 2 q3.2.1).bind fun q5 =>
 some (.inl (q5.2.1, (0, 0, ()), (q1.1, q2.1, ()), ()))) (
 some (.inl (q3.2.1, (0, 0, ()), (q1.1, q2.1, ()), ())))) (some (.inl (q3.2.1, (0, 0, ()), (q1.1, q2.1, ()), ()))) : Option (((List UInt8 × Int × Unit) × (Int × Int × Unit) × (Int × Int × Unit) × Unit) ⊕ ((Int × Int × Unit) × (List UInt8 × Int × Unit) × Unit))).bind (joinS fun v6 =>
(pack_Reader_Fault v6.1).bind fun q7 =>
 cond (!decide (q7.1 = 0)) (
 some ((0, 0, ()), q7.2.1, ())) (
 some (v6.2.2.1, q7.2.1, ())))
noncomputable def dot_Read_R : TRaw := { ps := (.cons (.bx 0 0) .unit), ins := [.box 53 (.agg (.cons .str (.cons (.int .i64) .unit)))], res := (.agg (.cons (.int .i64) (.cons (.int .i64) .unit))), outs := [.box 53 (.agg (.cons .str (.cons (.int .i64) .unit)))], fn := fun v w => dot_Read w.1 }
noncomputable def dot_Read_V : TEnv := { pure := [(11, dot_Right_T)], look := [], glob := G0T, ty := [], raw := [(32, pack_Reader_Int_R), (33, pack_Reader_Fault_R), (34, pack_Reader_Fail_R)], fresh := [] }
theorem dot_Read_eq : rawY Tryd.prog dot_Read_E dot_Read_H dot_Read_V dot_Read_Y [(0, 0)] Tryd.f21 dot_Read_R.ps dot_Read_R.ins dot_Read_R.res dot_Read_R.outs = dot_Read_R.fn := by kernel_rfl
theorem dot_Read_Sok : SoundS Tryd.prog G0 21 dot_Read_S := runF_sound (P := Tryd.prog) (E := dot_Read_E) (h := dot_Read_H) (f := 21) (fn := Tryd.f21) ⟨same_ok, (envP_cons dot_Right_Fok envP_nil), (envS_cons pack_Reader_Int_Sok (envS_cons pack_Reader_Fault_Sok (envS_cons pack_Reader_Fail_Sok envS_nil))), envP_nil, envX_nil⟩ Tryd.func21 rfl (by kernel_rfl)
theorem dot_Read_ok : TRawOk dot_Read_S dot_Read_R := rawY_ok (E := dot_Read_E) (ET := dot_Read_V) (EnvT.ofX (E := dot_Read_E) (ET := dot_Read_V) (pure_of (pairs_cons dot_Right_ok pairs_nil)) looks_nil (raws_cons pack_Reader_Int_ok rfl rfl (raws_cons pack_Reader_Fault_ok rfl rfl (raws_cons pack_Reader_Fail_ok rfl rfl raws_nil))) G0_ok news_nil) dot_Read_eq
-- (*palinode/pack.Reader).Left
noncomputable def pack_Reader_Left_E : Env := { pure := [], raw := [(43, pack_Reader_fine_S)], glob := G0, same := [63], look := [], ext := [] }
def pack_Reader_Left_H : Hints := { seqs := [], loops := [], own := [] }
noncomputable def pack_Reader_Left_S : SFn := runF Tryd.prog pack_Reader_Left_E pack_Reader_Left_H Tryd.f35
def pack_Reader_Left_Y : TH := { joins := [], loops := [], cuts := [], ro := [], news := [] }
noncomputable def pack_Reader_Left (w0 : (List UInt8 × Int × Unit)) : Option (Int × (List UInt8 × Int × Unit) × Unit) :=
(pack_Reader_fine w0).bind fun q1 =>
 cond (!q1.1) (
 some (0, q1.2.1, ())) (
 some ((q1.2.1.1.length : Int), q1.2.1, ()))
noncomputable def pack_Reader_Left_R : TRaw := { ps := (.cons (.bx 0 0) .unit), ins := [.box 53 (.agg (.cons .str (.cons (.int .i64) .unit)))], res := (.int .i64), outs := [.box 53 (.agg (.cons .str (.cons (.int .i64) .unit)))], fn := fun v w => pack_Reader_Left w.1 }
noncomputable def pack_Reader_Left_V : TEnv := { pure := [], look := [], glob := G0T, ty := [], raw := [(43, pack_Reader_fine_R)], fresh := [] }
theorem pack_Reader_Left_eq : rawY Tryd.prog pack_Reader_Left_E pack_Reader_Left_H pack_Reader_Left_V pack_Reader_Left_Y [(0, 0)] Tryd.f35 pack_Reader_Left_R.ps pack_Reader_Left_R.ins pack_Reader_Left_R.res pack_Reader_Left_R.outs = pack_Reader_Left_R.fn := by kernel_rfl
theorem pack_Reader_Left_Sok : SoundS Tryd.prog G0 35 pack_Reader_Left_S := runF_sound (P := Tryd.prog) (E := pack_Reader_Left_E) (h := pack_Reader_Left_H) (f := 35) (fn := Tryd.f35) ⟨same_ok, envP_nil, (envS_cons pack_Reader_fine_Sok envS_nil), envP_nil, envX_nil⟩ Tryd.func35 rfl (by kernel_rfl)
theorem pack_Reader_Left_ok : TRawOk pack_Reader_Left_S pack_Reader_Left_R := rawY_ok (E := pack_Reader_Left_E) (ET := pack_Reader_Left_V) (EnvT.ofX (E := pack_Reader_Left_E) (ET := pack_Reader_Left_V) (pure_of pairs_nil) looks_nil (raws_cons pack_Reader_fine_ok rfl rfl raws_nil) G0_ok news_nil) pack_Reader_Left_eq
-- (*palinode/pack.Reader).End
noncomputable def pack_Reader_End_E : Env := { pure := [], raw := [(33, pack_Reader_Fault_S), (34, pack_Reader_Fail_S), (35, pack_Reader_Left_S)], glob := G0, same := [63], look := [], ext := [] }
def pack_Reader_End_H : Hints := { seqs := [], loops := [], own := [] }
noncomputable def pack_Reader_End_S : SFn := runF Tryd.prog pack_Reader_End_E pack_Reader_End_H Tryd.f22
def pack_Reader_End_Y : TH := { joins := [], loops := [], cuts := [], ro := [], news := [] }
noncomputable def pack_Reader_End (w0 : (List UInt8 × Int × Unit)) : Option (Int × (List UInt8 × Int × Unit) × Unit) :=
(pack_Reader_Left w0).bind fun q1 =>
 cond (decide (q1.1 > 0)) (
(pack_Reader_Fail 3 q1.2.1).bind fun q2 =>
(pack_Reader_Fault q2.2.1).bind fun q3 =>
 some (q3.1, q3.2.1, ())) (
(pack_Reader_Fault q1.2.1).bind fun q4 =>
 some (q4.1, q4.2.1, ()))
noncomputable def pack_Reader_End_R : TRaw := { ps := (.cons (.bx 0 0) .unit), ins := [.box 53 (.agg (.cons .str (.cons (.int .i64) .unit)))], res := (.int .i64), outs := [.box 53 (.agg (.cons .str (.cons (.int .i64) .unit)))], fn := fun v w => pack_Reader_End w.1 }
noncomputable def pack_Reader_End_V : TEnv := { pure := [], look := [], glob := G0T, ty := [], raw := [(33, pack_Reader_Fault_R), (34, pack_Reader_Fail_R), (35, pack_Reader_Left_R)], fresh := [] }
theorem pack_Reader_End_eq : rawY Tryd.prog pack_Reader_End_E pack_Reader_End_H pack_Reader_End_V pack_Reader_End_Y [(0, 0)] Tryd.f22 pack_Reader_End_R.ps pack_Reader_End_R.ins pack_Reader_End_R.res pack_Reader_End_R.outs = pack_Reader_End_R.fn := by kernel_rfl
theorem pack_Reader_End_Sok : SoundS Tryd.prog G0 22 pack_Reader_End_S := runF_sound (P := Tryd.prog) (E := pack_Reader_End_E) (h := pack_Reader_End_H) (f := 22) (fn := Tryd.f22) ⟨same_ok, envP_nil, (envS_cons pack_Reader_Fault_Sok (envS_cons pack_Reader_Fail_Sok (envS_cons pack_Reader_Left_Sok envS_nil))), envP_nil, envX_nil⟩ Tryd.func22 rfl (by kernel_rfl)
theorem pack_Reader_End_ok : TRawOk pack_Reader_End_S pack_Reader_End_R := rawY_ok (E := pack_Reader_End_E) (ET := pack_Reader_End_V) (EnvT.ofX (E := pack_Reader_End_E) (ET := pack_Reader_End_V) (pure_of pairs_nil) looks_nil (raws_cons pack_Reader_Fault_ok rfl rfl (raws_cons pack_Reader_Fail_ok rfl rfl (raws_cons pack_Reader_Left_ok rfl rfl raws_nil))) G0_ok news_nil) pack_Reader_End_eq
end Go.Proofs.YtekmegajjfapaaaDoor.Y
set_option linter.unusedVariables false
set_option maxRecDepth 100000
namespace Go.Proofs.YtekmegajjfapaaaDoor.K
open Go.EM Go.TY Go.Proofs Go.Proofs.YtekmegajjfapaaaDoor.Y
def stringslite_IndexByte_kH : Hints := { seqs := [], loops := [], own := [] }
noncomputable def stringslite_IndexByte_kE : Env := { pure := [], raw := [], glob := G0, same := [63], look := [], ext := [(64, indexByteF)] }
noncomputable def stringslite_IndexByte_ks : SFn := runK 60 Tryd.prog stringslite_IndexByte_kE stringslite_IndexByte_kH Tryd.f52
theorem stringslite_IndexByte_kok : SoundS Tryd.prog G0 52 stringslite_IndexByte_ks := soundS_sub (runF_sound (P := Tryd.prog) (E := stringslite_IndexByte_kE) (h := stringslite_IndexByte_kH) (f := 52) (fn := Tryd.f52) ⟨same_ok, envP_nil, envS_nil, envP_nil, (envX_cons (indexByte_ext (fn := Tryd.f64) Tryd.func64 (by kernel_rfl) (by kernel_rfl) (by kernel_rfl) (by kernel_rfl)) envX_nil)⟩ Tryd.func52 rfl (by kernel_rfl)) runK_sub
noncomputable def stringslite_IndexByte_kp : PFn := closeF stringslite_IndexByte_ks
theorem stringslite_IndexByte_kpok : SoundP Tryd.prog G0 52 stringslite_IndexByte_kp := closeF_sound stringslite_IndexByte_kok
def bytealg_Cutover_kH : Hints := { seqs := [], loops := [], own := [] }
noncomputable def bytealg_Cutover_kE : Env := { pure := [], raw := [], glob := G0, same := [63], look := [], ext := [] }
noncomputable def bytealg_Cutover_ks : SFn := runK 60 Tryd.prog bytealg_Cutover_kE bytealg_Cutover_kH Tryd.f54
theorem bytealg_Cutover_kok : SoundS Tryd.prog G0 54 bytealg_Cutover_ks := soundS_sub (runF_sound (P := Tryd.prog) (E := bytealg_Cutover_kE) (h := bytealg_Cutover_kH) (f := 54) (fn := Tryd.f54) ⟨same_ok, envP_nil, envS_nil, envP_nil, envX_nil⟩ Tryd.func54 rfl (by kernel_rfl)) runK_sub
noncomputable def bytealg_Cutover_kp : PFn := closeF bytealg_Cutover_ks
theorem bytealg_Cutover_kpok : SoundP Tryd.prog G0 54 bytealg_Cutover_kp := closeF_sound bytealg_Cutover_kok
def bytealg_hashStr_string_kH : Hints := { seqs := [(6, [0, 4]), (13, [4, 6]), (9, [4, 6, 7, 8]), (12, [4, 6, 7, 8])], loops := [(3, [0, 4, 5]), (8, [4, 6, 7, 8])], own := [] }
noncomputable def bytealg_hashStr_string_kE : Env := { pure := [], raw := [], glob := G0, same := [63], look := [], ext := [] }
noncomputable def bytealg_hashStr_string_ks : SFn := runK 60 Tryd.prog bytealg_hashStr_string_kE bytealg_hashStr_string_kH Tryd.f65
theorem bytealg_hashStr_string_kok : SoundS Tryd.prog G0 65 bytealg_hashStr_string_ks := soundS_sub (runF_sound (P := Tryd.prog) (E := bytealg_hashStr_string_kE) (h := bytealg_hashStr_string_kH) (f := 65) (fn := Tryd.f65) ⟨same_ok, envP_nil, envS_nil, envP_nil, envX_nil⟩ Tryd.func65 rfl (by kernel_rfl)) runK_sub
noncomputable def bytealg_hashStr_string_kp : PFn := closeF bytealg_hashStr_string_ks
theorem bytealg_hashStr_string_kpok : SoundP Tryd.prog G0 65 bytealg_hashStr_string_kp := closeF_sound bytealg_hashStr_string_kok
def bytealg_IndexRabinKarp_string_kH : Hints := { seqs := [(8, [0, 1, 5, 6, 7, 8])], loops := [(5, [0, 1, 5, 6, 7, 8, 9]), (11, [0, 1, 5, 6, 7, 8, 10])], own := [] }
noncomputable def bytealg_IndexRabinKarp_string_kE : Env := { pure := [(65, bytealg_hashStr_string_kp)], raw := [], glob := G0, same := [63], look := [], ext := [] }
noncomputable def bytealg_IndexRabinKarp_string_ks : SFn := runK 60 Tryd.prog bytealg_IndexRabinKarp_string_kE bytealg_IndexRabinKarp_string_kH Tryd.f55
theorem bytealg_IndexRabinKarp_string_kok : SoundS Tryd.prog G0 55 bytealg_IndexRabinKarp_string_ks := soundS_sub (runF_sound (P := Tryd.prog) (E := bytealg_IndexRabinKarp_string_kE) (h := bytealg_IndexRabinKarp_string_kH) (f := 55) (fn := Tryd.f55) ⟨same_ok, (envP_cons bytealg_hashStr_string_kpok envP_nil), envS_nil, envP_nil, envX_nil⟩ Tryd.func55 rfl (by kernel_rfl)) runK_sub
noncomputable def bytealg_IndexRabinKarp_string_kp : PFn := closeF bytealg_IndexRabinKarp_string_ks
theorem bytealg_IndexRabinKarp_string_kpok : SoundP Tryd.prog G0 55 bytealg_IndexRabinKarp_string_kp := closeF_sound bytealg_IndexRabinKarp_string_kok
def stringslite_Index_kH : Hints := { seqs := [(21, [0, 1, 5, 6, 7, 8, 9, 10])], loops := [(15, [0, 1, 5, 6, 7, 8, 9, 10])], own := [] }
noncomputable def stringslite_Index_kE : Env := { pure := [(52, stringslite_IndexByte_kp), (54, bytealg_Cutover_kp), (55, bytealg_IndexRabinKarp_string_kp)], raw := [], glob := G0, same := [63], look := [], ext := [] }
noncomputable def stringslite_Index_ks : SFn := runK 60 Tryd.prog stringslite_Index_kE stringslite_Index_kH Tryd.f44
theorem stringslite_Index_kok : SoundS Tryd.prog G0 44 stringslite_Index_ks := soundS_sub (runF_sound (P := Tryd.prog) (E := stringslite_Index_kE) (h := stringslite_Index_kH) (f := 44) (fn := Tryd.f44) ⟨same_ok, (envP_cons stringslite_IndexByte_kpok (envP_cons bytealg_Cutover_kpok (envP_cons bytealg_IndexRabinKarp_string_kpok envP_nil))), envS_nil, envP_nil, envX_nil⟩ Tryd.func44 rfl (by kernel_rfl)) runK_sub
noncomputable def stringslite_Index_kp : PFn := closeF stringslite_Index_ks
theorem stringslite_Index_kpok : SoundP Tryd.prog G0 44 stringslite_Index_kp := closeF_sound stringslite_Index_kok
def stringslite_Cut_kH : Hints := { seqs := [], loops := [], own := [] }
noncomputable def stringslite_Cut_kE : Env := { pure := [(44, stringslite_Index_kp)], raw := [], glob := G0, same := [63], look := [], ext := [] }
noncomputable def stringslite_Cut_ks : SFn := runK 60 Tryd.prog stringslite_Cut_kE stringslite_Cut_kH Tryd.f36
theorem stringslite_Cut_kok : SoundS Tryd.prog G0 36 stringslite_Cut_ks := soundS_sub (runF_sound (P := Tryd.prog) (E := stringslite_Cut_kE) (h := stringslite_Cut_kH) (f := 36) (fn := Tryd.f36) ⟨same_ok, (envP_cons stringslite_Index_kpok envP_nil), envS_nil, envP_nil, envX_nil⟩ Tryd.func36 rfl (by kernel_rfl)) runK_sub
noncomputable def stringslite_Cut_kp : PFn := closeF stringslite_Cut_ks
theorem stringslite_Cut_kpok : SoundP Tryd.prog G0 36 stringslite_Cut_kp := closeF_sound stringslite_Cut_kok
def strings_Cut_kH : Hints := { seqs := [], loops := [], own := [] }
noncomputable def strings_Cut_kE : Env := { pure := [(36, stringslite_Cut_kp)], raw := [], glob := G0, same := [63], look := [], ext := [] }
noncomputable def strings_Cut_ks : SFn := runK 60 Tryd.prog strings_Cut_kE strings_Cut_kH Tryd.f23
theorem strings_Cut_kok : SoundS Tryd.prog G0 23 strings_Cut_ks := soundS_sub (runF_sound (P := Tryd.prog) (E := strings_Cut_kE) (h := strings_Cut_kH) (f := 23) (fn := Tryd.f23) ⟨same_ok, (envP_cons stringslite_Cut_kpok envP_nil), envS_nil, envP_nil, envX_nil⟩ Tryd.func23 rfl (by kernel_rfl)) runK_sub
noncomputable def strings_Cut_kp : PFn := closeF strings_Cut_ks
theorem strings_Cut_kpok : SoundP Tryd.prog G0 23 strings_Cut_kp := closeF_sound strings_Cut_kok
def strconv_lower_kH : Hints := { seqs := [], loops := [], own := [] }
noncomputable def strconv_lower_kE : Env := { pure := [], raw := [], glob := G0, same := [63], look := [], ext := [] }
noncomputable def strconv_lower_ks : SFn := runK 60 Tryd.prog strconv_lower_kE strconv_lower_kH Tryd.f66
theorem strconv_lower_kok : SoundS Tryd.prog G0 66 strconv_lower_ks := soundS_sub (runF_sound (P := Tryd.prog) (E := strconv_lower_kE) (h := strconv_lower_kH) (f := 66) (fn := Tryd.f66) ⟨same_ok, envP_nil, envS_nil, envP_nil, envX_nil⟩ Tryd.func66 rfl (by kernel_rfl)) runK_sub
noncomputable def strconv_lower_kp : PFn := closeF strconv_lower_ks
theorem strconv_lower_kpok : SoundP Tryd.prog G0 66 strconv_lower_kp := closeF_sound strconv_lower_kok
def strconv_underscoreOK_kH : Hints := { seqs := [(5, [0, 3, 4]), (10, [0, 3, 4, 5]), (21, [3]), (11, [0, 3, 4, 5])], loops := [(10, [0, 3, 4, 5])], own := [] }
noncomputable def strconv_underscoreOK_kE : Env := { pure := [(66, strconv_lower_kp)], raw := [], glob := G0, same := [63], look := [], ext := [] }
noncomputable def strconv_underscoreOK_ks : SFn := runK 60 Tryd.prog strconv_underscoreOK_kE strconv_underscoreOK_kH Tryd.f67
theorem strconv_underscoreOK_kok : SoundS Tryd.prog G0 67 strconv_underscoreOK_ks := soundS_sub (runF_sound (P := Tryd.prog) (E := strconv_underscoreOK_kE) (h := strconv_underscoreOK_kH) (f := 67) (fn := Tryd.f67) ⟨same_ok, (envP_cons strconv_lower_kpok envP_nil), envS_nil, envP_nil, envX_nil⟩ Tryd.func67 rfl (by kernel_rfl)) runK_sub
noncomputable def strconv_underscoreOK_kp : PFn := closeF strconv_underscoreOK_ks
theorem strconv_underscoreOK_kpok : SoundP Tryd.prog G0 67 strconv_underscoreOK_kp := closeF_sound strconv_underscoreOK_kok
def strconv_ParseUint_kH : Hints := { seqs := [(21, [0, 1, 2, 8, 9]), (25, [0, 1, 2, 8, 9]), (32, [0, 1, 2, 8, 9, 10]), (56, [9, 12, 13]), (46, [1, 8, 9, 10, 11, 12, 13, 16, 99, 100, 101])], loops := [(36, [1, 8, 9, 10, 11, 12, 13, 99, 100, 101])], own := [99] }
noncomputable def strconv_ParseUint_kE : Env := { pure := [(66, strconv_lower_kp), (67, strconv_underscoreOK_kp)], raw := [], glob := G0, same := [63], look := [], ext := [] }
noncomputable def strconv_ParseUint_ks : SFn := runK 60 Tryd.prog strconv_ParseUint_kE strconv_ParseUint_kH Tryd.f56
theorem strconv_ParseUint_kok : SoundS Tryd.prog G0 56 strconv_ParseUint_ks := soundS_sub (runF_sound (P := Tryd.prog) (E := strconv_ParseUint_kE) (h := strconv_ParseUint_kH) (f := 56) (fn := Tryd.f56) ⟨same_ok, (envP_cons strconv_lower_kpok (envP_cons strconv_underscoreOK_kpok envP_nil)), envS_nil, envP_nil, envX_nil⟩ Tryd.func56 rfl (by kernel_rfl)) runK_sub
noncomputable def strconv_ParseUint_kp : PFn := closeF strconv_ParseUint_ks
theorem strconv_ParseUint_kpok : SoundP Tryd.prog G0 56 strconv_ParseUint_kp := closeF_sound strconv_ParseUint_kok
def strconv_ParseInt_kH : Hints := { seqs := [(10, [0, 1, 2, 8]), (16, [2, 8, 9]), (24, [11])], loops := [], own := [] }
noncomputable def strconv_ParseInt_kE : Env := { pure := [(56, strconv_ParseUint_kp)], raw := [], glob := G0, same := [63], look := [], ext := [] }
noncomputable def strconv_ParseInt_ks : SFn := runK 60 Tryd.prog strconv_ParseInt_kE strconv_ParseInt_kH Tryd.f45
theorem strconv_ParseInt_kok : SoundS Tryd.prog G0 45 strconv_ParseInt_ks := soundS_sub (runF_sound (P := Tryd.prog) (E := strconv_ParseInt_kE) (h := strconv_ParseInt_kH) (f := 45) (fn := Tryd.f45) ⟨same_ok, (envP_cons strconv_ParseUint_kpok envP_nil), envS_nil, envP_nil, envX_nil⟩ Tryd.func45 rfl (by kernel_rfl)) runK_sub
noncomputable def strconv_ParseInt_kp : PFn := closeF strconv_ParseInt_ks
theorem strconv_ParseInt_kpok : SoundP Tryd.prog G0 45 strconv_ParseInt_kp := closeF_sound strconv_ParseInt_kok
def int_strconv_Atoi_kH : Hints := { seqs := [(20, [0]), (8, [0, 5]), (17, [5, 6]), (19, [6])], loops := [(10, [5, 6, 47, 48, 49])], own := [47] }
noncomputable def int_strconv_Atoi_kE : Env := { pure := [(45, strconv_ParseInt_kp)], raw := [], glob := G0, same := [63], look := [], ext := [] }
noncomputable def int_strconv_Atoi_ks : SFn := runK 60 Tryd.prog int_strconv_Atoi_kE int_strconv_Atoi_kH Tryd.f37
theorem int_strconv_Atoi_kok : SoundS Tryd.prog G0 37 int_strconv_Atoi_ks := soundS_sub (runF_sound (P := Tryd.prog) (E := int_strconv_Atoi_kE) (h := int_strconv_Atoi_kH) (f := 37) (fn := Tryd.f37) ⟨same_ok, (envP_cons strconv_ParseInt_kpok envP_nil), envS_nil, envP_nil, envX_nil⟩ Tryd.func37 rfl (by kernel_rfl)) runK_sub
noncomputable def int_strconv_Atoi_kp : PFn := closeF int_strconv_Atoi_ks
theorem int_strconv_Atoi_kpok : SoundP Tryd.prog G0 37 int_strconv_Atoi_kp := closeF_sound int_strconv_Atoi_kok
def stringslite_Clone_kH : Hints := { seqs := [], loops := [], own := [] }
noncomputable def stringslite_Clone_kE : Env := { pure := [], raw := [], glob := G0, same := [63], look := [], ext := [] }
noncomputable def stringslite_Clone_ks : SFn := runK 60 Tryd.prog stringslite_Clone_kE stringslite_Clone_kH Tryd.f57
theorem stringslite_Clone_kok : SoundS Tryd.prog G0 57 stringslite_Clone_ks := soundS_sub (runF_sound (P := Tryd.prog) (E := stringslite_Clone_kE) (h := stringslite_Clone_kH) (f := 57) (fn := Tryd.f57) ⟨same_ok, envP_nil, envS_nil, envP_nil, envX_nil⟩ Tryd.func57 rfl (by kernel_rfl)) runK_sub
noncomputable def stringslite_Clone_kp : PFn := closeF stringslite_Clone_ks
theorem stringslite_Clone_kpok : SoundP Tryd.prog G0 57 stringslite_Clone_kp := closeF_sound stringslite_Clone_kok
def strconv_syntaxError_kH : Hints := { seqs := [], loops := [], own := [] }
noncomputable def strconv_syntaxError_kE : Env := { pure := [(57, stringslite_Clone_kp)], raw := [], glob := G0, same := [63], look := [], ext := [] }
noncomputable def strconv_syntaxError_ks : SFn := runK 60 Tryd.prog strconv_syntaxError_kE strconv_syntaxError_kH Tryd.f46
theorem strconv_syntaxError_kok : SoundS Tryd.prog G0 46 strconv_syntaxError_ks := soundS_sub (runF_sound (P := Tryd.prog) (E := strconv_syntaxError_kE) (h := strconv_syntaxError_kH) (f := 46) (fn := Tryd.f46) ⟨same_ok, (envP_cons stringslite_Clone_kpok envP_nil), envS_nil, envP_nil, envX_nil⟩ Tryd.func46 rfl (by kernel_rfl)) runK_sub
noncomputable def strconv_syntaxError_kp : PFn := closeF strconv_syntaxError_ks
theorem strconv_syntaxError_kpok : SoundP Tryd.prog G0 46 strconv_syntaxError_kp := closeF_sound strconv_syntaxError_kok
def strconv_rangeError_kH : Hints := { seqs := [], loops := [], own := [] }
noncomputable def strconv_rangeError_kE : Env := { pure := [(57, stringslite_Clone_kp)], raw := [], glob := G0, same := [63], look := [], ext := [] }
noncomputable def strconv_rangeError_ks : SFn := runK 60 Tryd.prog strconv_rangeError_kE strconv_rangeError_kH Tryd.f47
theorem strconv_rangeError_kok : SoundS Tryd.prog G0 47 strconv_rangeError_ks := soundS_sub (runF_sound (P := Tryd.prog) (E := strconv_rangeError_kE) (h := strconv_rangeError_kH) (f := 47) (fn := Tryd.f47) ⟨same_ok, (envP_cons stringslite_Clone_kpok envP_nil), envS_nil, envP_nil, envX_nil⟩ Tryd.func47 rfl (by kernel_rfl)) runK_sub
noncomputable def strconv_rangeError_kp : PFn := closeF strconv_rangeError_ks
theorem strconv_rangeError_kpok : SoundP Tryd.prog G0 47 strconv_rangeError_kp := closeF_sound strconv_rangeError_kok
def strconv_small_kH : Hints := { seqs := [], loops := [], own := [] }
noncomputable def strconv_small_kE : Env := { pure := [], raw := [], glob := G0, same := [63], look := [], ext := [] }
noncomputable def strconv_small_ks : SFn := runK 60 Tryd.prog strconv_small_kE strconv_small_kH Tryd.f59
theorem strconv_small_kok : SoundS Tryd.prog G0 59 strconv_small_ks := soundS_sub (runF_sound (P := Tryd.prog) (E := strconv_small_kE) (h := strconv_small_kH) (f := 59) (fn := Tryd.f59) ⟨same_ok, envP_nil, envS_nil, envP_nil, envX_nil⟩ Tryd.func59 rfl (by kernel_rfl)) runK_sub
noncomputable def strconv_small_kp : PFn := closeF strconv_small_ks
theorem strconv_small_kpok : SoundP Tryd.prog G0 59 strconv_small_kp := closeF_sound strconv_small_kok
def bits_Len64_kH : Hints := { seqs := [(4, [0, 2]), (7, [0, 2]), (10, [0, 2])], loops := [], own := [] }
noncomputable def bits_Len64_kE : Env := { pure := [], raw := [], glob := G0, same := [63], look := [], ext := [] }
noncomputable def bits_Len64_ks : SFn := runK 60 Tryd.prog bits_Len64_kE bits_Len64_kH Tryd.f69
theorem bits_Len64_kok : SoundS Tryd.prog G0 69 bits_Len64_ks := soundS_sub (runF_sound (P := Tryd.prog) (E := bits_Len64_kE) (h := bits_Len64_kH) (f := 69) (fn := Tryd.f69) ⟨same_ok, envP_nil, envS_nil, envP_nil, envX_nil⟩ Tryd.func69 rfl (by kernel_rfl)) runK_sub
noncomputable def bits_Len64_kp : PFn := closeF bits_Len64_ks
theorem bits_Len64_kpok : SoundP Tryd.prog G0 69 bits_Len64_kp := closeF_sound bits_Len64_kok
def strconv_log10Pow2_kH : Hints := { seqs := [], loops := [], own := [] }
noncomputable def strconv_log10Pow2_kE : Env := { pure := [], raw := [], glob := G0, same := [63], look := [], ext := [] }
noncomputable def strconv_log10Pow2_ks : SFn := runK 60 Tryd.prog strconv_log10Pow2_kE strconv_log10Pow2_kH Tryd.f68
theorem strconv_log10Pow2_kok : SoundS Tryd.prog G0 68 strconv_log10Pow2_ks := soundS_sub (runF_sound (P := Tryd.prog) (E := strconv_log10Pow2_kE) (h := strconv_log10Pow2_kH) (f := 68) (fn := Tryd.f68) ⟨same_ok, envP_nil, envS_nil, envP_nil, envX_nil⟩ Tryd.func68 rfl (by kernel_rfl)) runK_sub
noncomputable def strconv_log10Pow2_kp : PFn := closeF strconv_log10Pow2_ks
theorem strconv_log10Pow2_kpok : SoundP Tryd.prog G0 68 strconv_log10Pow2_kp := closeF_sound strconv_log10Pow2_kok
def strconv_bool2_int_kH : Hints := { seqs := [], loops := [], own := [] }
noncomputable def strconv_bool2_int_kE : Env := { pure := [], raw := [], glob := G0, same := [63], look := [], ext := [] }
noncomputable def strconv_bool2_int_ks : SFn := runK 60 Tryd.prog strconv_bool2_int_kE strconv_bool2_int_kH Tryd.f70
theorem strconv_bool2_int_kok : SoundS Tryd.prog G0 70 strconv_bool2_int_ks := soundS_sub (runF_sound (P := Tryd.prog) (E := strconv_bool2_int_kE) (h := strconv_bool2_int_kH) (f := 70) (fn := Tryd.f70) ⟨same_ok, envP_nil, envS_nil, envP_nil, envX_nil⟩ Tryd.func70 rfl (by kernel_rfl)) runK_sub
noncomputable def strconv_bool2_int_kp : PFn := closeF strconv_bool2_int_ks
theorem strconv_bool2_int_kpok : SoundP Tryd.prog G0 70 strconv_bool2_int_kp := closeF_sound strconv_bool2_int_kok
def strconv_numDigits_kH : Hints := { seqs := [], loops := [], own := [] }
noncomputable def strconv_numDigits_kE : Env := { pure := [(68, strconv_log10Pow2_kp), (69, bits_Len64_kp), (70, strconv_bool2_int_kp)], raw := [], glob := G0, same := [63], look := [], ext := [] }
noncomputable def strconv_numDigits_ks : SFn := runK 60 Tryd.prog strconv_numDigits_kE strconv_numDigits_kH Tryd.f60
theorem strconv_numDigits_kok : SoundS Tryd.prog G0 60 strconv_numDigits_ks := soundS_sub (runF_sound (P := Tryd.prog) (E := strconv_numDigits_kE) (h := strconv_numDigits_kH) (f := 60) (fn := Tryd.f60) ⟨same_ok, (envP_cons strconv_log10Pow2_kpok (envP_cons bits_Len64_kpok (envP_cons strconv_bool2_int_kpok envP_nil))), envS_nil, envP_nil, envX_nil⟩ Tryd.func60 rfl (by kernel_rfl)) runK_sub
noncomputable def strconv_numDigits_kp : PFn := closeF strconv_numDigits_ks
theorem strconv_numDigits_kpok : SoundP Tryd.prog G0 60 strconv_numDigits_kp := closeF_sound strconv_numDigits_kok
def strconv_formatBase10_kH : Hints := { seqs := [(12, [0, 1, 4]), (20, [0, 4, 12]), (25, [0, 4, 12])], loops := [(1, [0, 1, 4])], own := [] }
noncomputable def strconv_formatBase10_kE : Env := { pure := [], raw := [], glob := G0, same := [63], look := [], ext := [] }
noncomputable def strconv_formatBase10_ks : SFn := runK 60 Tryd.prog strconv_formatBase10_kE strconv_formatBase10_kH Tryd.f61
theorem strconv_formatBase10_kok : SoundS Tryd.prog G0 61 strconv_formatBase10_ks := soundS_sub (runF_sound (P := Tryd.prog) (E := strconv_formatBase10_kE) (h := strconv_formatBase10_kH) (f := 61) (fn := Tryd.f61) ⟨same_ok, envP_nil, envS_nil, envP_nil, envX_nil⟩ Tryd.func61 rfl (by kernel_rfl)) runK_sub
noncomputable def strconv_formatBase10_kp : PFn := closeF strconv_formatBase10_ks
theorem strconv_formatBase10_kpok : SoundP Tryd.prog G0 61 strconv_formatBase10_kp := closeF_sound strconv_formatBase10_kok
def strconv_isPowerOfTwo_kH : Hints := { seqs := [], loops := [], own := [] }
noncomputable def strconv_isPowerOfTwo_kE : Env := { pure := [], raw := [], glob := G0, same := [63], look := [], ext := [] }
noncomputable def strconv_isPowerOfTwo_ks : SFn := runK 60 Tryd.prog strconv_isPowerOfTwo_kE strconv_isPowerOfTwo_kH Tryd.f71
theorem strconv_isPowerOfTwo_kok : SoundS Tryd.prog G0 71 strconv_isPowerOfTwo_ks := soundS_sub (runF_sound (P := Tryd.prog) (E := strconv_isPowerOfTwo_kE) (h := strconv_isPowerOfTwo_kH) (f := 71) (fn := Tryd.f71) ⟨same_ok, envP_nil, envS_nil, envP_nil, envX_nil⟩ Tryd.func71 rfl (by kernel_rfl)) runK_sub
noncomputable def strconv_isPowerOfTwo_kp : PFn := closeF strconv_isPowerOfTwo_ks
theorem strconv_isPowerOfTwo_kpok : SoundP Tryd.prog G0 71 strconv_isPowerOfTwo_kp := closeF_sound strconv_isPowerOfTwo_kok
def bits_TrailingZeros32_kH : Hints := { seqs := [], loops := [], own := [] }
noncomputable def bits_TrailingZeros32_kE : Env := { pure := [], raw := [], glob := G0, same := [63], look := [], ext := [] }
noncomputable def bits_TrailingZeros32_ks : SFn := runK 60 Tryd.prog bits_TrailingZeros32_kE bits_TrailingZeros32_kH Tryd.f73
theorem bits_TrailingZeros32_kok : SoundS Tryd.prog G0 73 bits_TrailingZeros32_ks := soundS_sub (runF_sound (P := Tryd.prog) (E := bits_TrailingZeros32_kE) (h := bits_TrailingZeros32_kH) (f := 73) (fn := Tryd.f73) ⟨same_ok, envP_nil, envS_nil, envP_nil, envX_nil⟩ Tryd.func73 rfl (by kernel_rfl)) runK_sub
noncomputable def bits_TrailingZeros32_kp : PFn := closeF bits_TrailingZeros32_ks
theorem bits_TrailingZeros32_kpok : SoundP Tryd.prog G0 73 bits_TrailingZeros32_kp := closeF_sound bits_TrailingZeros32_kok
def bits_TrailingZeros64_kH : Hints := { seqs := [], loops := [], own := [] }
noncomputable def bits_TrailingZeros64_kE : Env := { pure := [], raw := [], glob := G0, same := [63], look := [], ext := [] }
noncomputable def bits_TrailingZeros64_ks : SFn := runK 60 Tryd.prog bits_TrailingZeros64_kE bits_TrailingZeros64_kH Tryd.f74
theorem bits_TrailingZeros64_kok : SoundS Tryd.prog G0 74 bits_TrailingZeros64_ks := soundS_sub (runF_sound (P := Tryd.prog) (E := bits_TrailingZeros64_kE) (h := bits_TrailingZeros64_kH) (f := 74) (fn := Tryd.f74) ⟨same_ok, envP_nil, envS_nil, envP_nil, envX_nil⟩ Tryd.func74 rfl (by kernel_rfl)) runK_sub
noncomputable def bits_TrailingZeros64_kp : PFn := closeF bits_TrailingZeros64_ks
theorem bits_TrailingZeros64_kpok : SoundP Tryd.prog G0 74 bits_TrailingZeros64_kp := closeF_sound bits_TrailingZeros64_kok
def bits_TrailingZeros_kH : Hints := { seqs := [], loops := [], own := [] }
noncomputable def bits_TrailingZeros_kE : Env := { pure := [(73, bits_TrailingZeros32_kp), (74, bits_TrailingZeros64_kp)], raw := [], glob := G0, same := [63], look := [], ext := [] }
noncomputable def bits_TrailingZeros_ks : SFn := runK 60 Tryd.prog bits_TrailingZeros_kE bits_TrailingZeros_kH Tryd.f72
theorem bits_TrailingZeros_kok : SoundS Tryd.prog G0 72 bits_TrailingZeros_ks := soundS_sub (runF_sound (P := Tryd.prog) (E := bits_TrailingZeros_kE) (h := bits_TrailingZeros_kH) (f := 72) (fn := Tryd.f72) ⟨same_ok, (envP_cons bits_TrailingZeros32_kpok (envP_cons bits_TrailingZeros64_kpok envP_nil)), envS_nil, envP_nil, envX_nil⟩ Tryd.func72 rfl (by kernel_rfl)) runK_sub
noncomputable def bits_TrailingZeros_kp : PFn := closeF bits_TrailingZeros_ks
theorem bits_TrailingZeros_kpok : SoundP Tryd.prog G0 72 bits_TrailingZeros_kp := closeF_sound bits_TrailingZeros_kok
def strconv_FormatInt_kH : Hints := { seqs := [(8, [0, 5, 6])], loops := [], own := [39, 43] }
noncomputable def strconv_FormatInt_kE : Env := { pure := [(59, strconv_small_kp), (60, strconv_numDigits_kp), (61, strconv_formatBase10_kp)], raw := [], glob := G0, same := [63], look := [], ext := [] }
noncomputable def strconv_FormatInt_ks : SFn := runK 60 Tryd.prog strconv_FormatInt_kE strconv_FormatInt_kH Tryd.f50
theorem strconv_FormatInt_kok : SoundS Tryd.prog G0 50 strconv_FormatInt_ks := soundS_sub (runF_sound (P := Tryd.prog) (E := strconv_FormatInt_kE) (h := strconv_FormatInt_kH) (f := 50) (fn := Tryd.f50) ⟨same_ok, (envP_cons strconv_small_kpok (envP_cons strconv_numDigits_kpok (envP_cons strconv_formatBase10_kpok envP_nil))), envS_nil, envP_nil, envX_nil⟩ Tryd.func50 rfl (by kernel_rfl)) runK_sub
noncomputable def strconv_FormatInt_kp : PFn := closeF strconv_FormatInt_ks
theorem strconv_FormatInt_kpok : SoundP Tryd.prog G0 50 strconv_FormatInt_kp := closeF_sound strconv_FormatInt_kok
def int_strconv_Itoa_kH : Hints := { seqs := [], loops := [], own := [] }
noncomputable def int_strconv_Itoa_kE : Env := { pure := [(50, strconv_FormatInt_kp)], raw := [], glob := G0, same := [63], look := [], ext := [] }
noncomputable def int_strconv_Itoa_ks : SFn := runK 60 Tryd.prog int_strconv_Itoa_kE int_strconv_Itoa_kH Tryd.f40
theorem int_strconv_Itoa_kok : SoundS Tryd.prog G0 40 int_strconv_Itoa_ks := soundS_sub (runF_sound (P := Tryd.prog) (E := int_strconv_Itoa_kE) (h := int_strconv_Itoa_kH) (f := 40) (fn := Tryd.f40) ⟨same_ok, (envP_cons strconv_FormatInt_kpok envP_nil), envS_nil, envP_nil, envX_nil⟩ Tryd.func40 rfl (by kernel_rfl)) runK_sub
noncomputable def int_strconv_Itoa_kp : PFn := closeF int_strconv_Itoa_ks
theorem int_strconv_Itoa_kpok : SoundP Tryd.prog G0 40 int_strconv_Itoa_kp := closeF_sound int_strconv_Itoa_kok
def strconv_Itoa_kH : Hints := { seqs := [], loops := [], own := [] }
noncomputable def strconv_Itoa_kE : Env := { pure := [(40, int_strconv_Itoa_kp)], raw := [], glob := G0, same := [63], look := [], ext := [] }
noncomputable def strconv_Itoa_ks : SFn := runK 60 Tryd.prog strconv_Itoa_kE strconv_Itoa_kH Tryd.f28
theorem strconv_Itoa_kok : SoundS Tryd.prog G0 28 strconv_Itoa_ks := soundS_sub (runF_sound (P := Tryd.prog) (E := strconv_Itoa_kE) (h := strconv_Itoa_kH) (f := 28) (fn := Tryd.f28) ⟨same_ok, (envP_cons int_strconv_Itoa_kpok envP_nil), envS_nil, envP_nil, envX_nil⟩ Tryd.func28 rfl (by kernel_rfl)) runK_sub
noncomputable def strconv_Itoa_kp : PFn := closeF strconv_Itoa_ks
theorem strconv_Itoa_kpok : SoundP Tryd.prog G0 28 strconv_Itoa_kp := closeF_sound strconv_Itoa_kok
def errors_New_kH : Hints := { seqs := [], loops := [], own := [] }
noncomputable def errors_New_kE : Env := { pure := [], raw := [], glob := G0, same := [63], look := [], ext := [] }
noncomputable def errors_New_ks : SFn := runK 60 Tryd.prog errors_New_kE errors_New_kH Tryd.f58
theorem errors_New_kok : SoundS Tryd.prog G0 58 errors_New_ks := soundS_sub (runF_sound (P := Tryd.prog) (E := errors_New_kE) (h := errors_New_kH) (f := 58) (fn := Tryd.f58) ⟨same_ok, envP_nil, envS_nil, envP_nil, envX_nil⟩ Tryd.func58 rfl (by kernel_rfl)) runK_sub
noncomputable def errors_New_kp : PFn := closeF errors_New_ks
theorem errors_New_kpok : SoundP Tryd.prog G0 58 errors_New_kp := closeF_sound errors_New_kok
def strconv_baseError_kH : Hints := { seqs := [], loops := [], own := [] }
noncomputable def strconv_baseError_kE : Env := { pure := [(28, strconv_Itoa_kp), (57, stringslite_Clone_kp), (58, errors_New_kp)], raw := [], glob := G0, same := [63], look := [], ext := [] }
noncomputable def strconv_baseError_ks : SFn := runK 60 Tryd.prog strconv_baseError_kE strconv_baseError_kH Tryd.f48
theorem strconv_baseError_kok : SoundS Tryd.prog G0 48 strconv_baseError_ks := soundS_sub (runF_sound (P := Tryd.prog) (E := strconv_baseError_kE) (h := strconv_baseError_kH) (f := 48) (fn := Tryd.f48) ⟨same_ok, (envP_cons strconv_Itoa_kpok (envP_cons stringslite_Clone_kpok (envP_cons errors_New_kpok envP_nil))), envS_nil, envP_nil, envX_nil⟩ Tryd.func48 rfl (by kernel_rfl)) runK_sub
noncomputable def strconv_baseError_kp : PFn := closeF strconv_baseError_ks
theorem strconv_baseError_kpok : SoundP Tryd.prog G0 48 strconv_baseError_kp := closeF_sound strconv_baseError_kok
def strconv_bitSizeError_kH : Hints := { seqs := [], loops := [], own := [] }
noncomputable def strconv_bitSizeError_kE : Env := { pure := [(28, strconv_Itoa_kp), (57, stringslite_Clone_kp), (58, errors_New_kp)], raw := [], glob := G0, same := [63], look := [], ext := [] }
noncomputable def strconv_bitSizeError_ks : SFn := runK 60 Tryd.prog strconv_bitSizeError_kE strconv_bitSizeError_kH Tryd.f49
theorem strconv_bitSizeError_kok : SoundS Tryd.prog G0 49 strconv_bitSizeError_ks := soundS_sub (runF_sound (P := Tryd.prog) (E := strconv_bitSizeError_kE) (h := strconv_bitSizeError_kH) (f := 49) (fn := Tryd.f49) ⟨same_ok, (envP_cons strconv_Itoa_kpok (envP_cons stringslite_Clone_kpok (envP_cons errors_New_kpok envP_nil))), envS_nil, envP_nil, envX_nil⟩ Tryd.func49 rfl (by kernel_rfl)) runK_sub
noncomputable def strconv_bitSizeError_kp : PFn := closeF strconv_bitSizeError_ks
theorem strconv_bitSizeError_kpok : SoundP Tryd.prog G0 49 strconv_bitSizeError_kp := closeF_sound strconv_bitSizeError_kok
def strconv_toError_kH : Hints := { seqs := [], loops := [], own := [] }
noncomputable def strconv_toError_kE : Env := { pure := [(46, strconv_syntaxError_kp), (47, strconv_rangeError_kp), (48, strconv_baseError_kp), (49, strconv_bitSizeError_kp)], raw := [], glob := G0, same := [63], look := [], ext := [] }
noncomputable def strconv_toError_ks : SFn := runK 60 Tryd.prog strconv_toError_kE strconv_toError_kH Tryd.f38
theorem strconv_toError_kok : SoundS Tryd.prog G0 38 strconv_toError_ks := soundS_sub (runF_sound (P := Tryd.prog) (E := strconv_toError_kE) (h := strconv_toError_kH) (f := 38) (fn := Tryd.f38) ⟨same_ok, (envP_cons strconv_syntaxError_kpok (envP_cons strconv_rangeError_kpok (envP_cons strconv_baseError_kpok (envP_cons strconv_bitSizeError_kpok envP_nil)))), envS_nil, envP_nil, envX_nil⟩ Tryd.func38 rfl (by kernel_rfl)) runK_sub
noncomputable def strconv_toError_kp : PFn := closeF strconv_toError_ks
theorem strconv_toError_kpok : SoundP Tryd.prog G0 38 strconv_toError_kp := closeF_sound strconv_toError_kok
def strconv_Atoi_kH : Hints := { seqs := [], loops := [], own := [] }
noncomputable def strconv_Atoi_kE : Env := { pure := [(37, int_strconv_Atoi_kp), (38, strconv_toError_kp)], raw := [], glob := G0, same := [63], look := [], ext := [] }
noncomputable def strconv_Atoi_ks : SFn := runK 60 Tryd.prog strconv_Atoi_kE strconv_Atoi_kH Tryd.f24
theorem strconv_Atoi_kok : SoundS Tryd.prog G0 24 strconv_Atoi_ks := soundS_sub (runF_sound (P := Tryd.prog) (E := strconv_Atoi_kE) (h := strconv_Atoi_kH) (f := 24) (fn := Tryd.f24) ⟨same_ok, (envP_cons int_strconv_Atoi_kpok (envP_cons strconv_toError_kpok envP_nil)), envS_nil, envP_nil, envX_nil⟩ Tryd.func24 rfl (by kernel_rfl)) runK_sub
noncomputable def strconv_Atoi_kp : PFn := closeF strconv_Atoi_ks
theorem strconv_Atoi_kpok : SoundP Tryd.prog G0 24 strconv_Atoi_kp := closeF_sound strconv_Atoi_kok
def dot_Right_kH : Hints := { seqs := [], loops := [], own := [] }
noncomputable def dot_Right_kE : Env := { pure := [], raw := [], glob := G0, same := [63], look := [], ext := [] }
noncomputable def dot_Right_ks : SFn := runK 60 Tryd.prog dot_Right_kE dot_Right_kH Tryd.f11
theorem dot_Right_kok : SoundS Tryd.prog G0 11 dot_Right_ks := soundS_sub (runF_sound (P := Tryd.prog) (E := dot_Right_kE) (h := dot_Right_kH) (f := 11) (fn := Tryd.f11) ⟨same_ok, envP_nil, envS_nil, envP_nil, envX_nil⟩ Tryd.func11 rfl (by kernel_rfl)) runK_sub
noncomputable def dot_Right_kp : PFn := closeF dot_Right_ks
theorem dot_Right_kpok : SoundP Tryd.prog G0 11 dot_Right_kp := closeF_sound dot_Right_kok
def dot_Text_kH : Hints := { seqs := [], loops := [], own := [] }
noncomputable def dot_Text_kE : Env := { pure := [(28, strconv_Itoa_kp)], raw := [], glob := G0, same := [63], look := [], ext := [] }
noncomputable def dot_Text_ks : SFn := runK 60 Tryd.prog dot_Text_kE dot_Text_kH Tryd.f13
theorem dot_Text_kok : SoundS Tryd.prog G0 13 dot_Text_ks := soundS_sub (runF_sound (P := Tryd.prog) (E := dot_Text_kE) (h := dot_Text_kH) (f := 13) (fn := Tryd.f13) ⟨same_ok, (envP_cons strconv_Itoa_kpok envP_nil), envS_nil, envP_nil, envX_nil⟩ Tryd.func13 rfl (by kernel_rfl)) runK_sub
noncomputable def dot_Text_kp : PFn := closeF dot_Text_ks
theorem dot_Text_kpok : SoundP Tryd.prog G0 13 dot_Text_kp := closeF_sound dot_Text_kok
def dot_Parse_kH : Hints := { seqs := [], loops := [], own := [] }
noncomputable def dot_Parse_kE : Env := { pure := [(11, dot_Right_kp), (13, dot_Text_kp), (23, strings_Cut_kp), (24, strconv_Atoi_kp)], raw := [], glob := G0, same := [63], look := [], ext := [] }
noncomputable def dot_Parse_ks : SFn := runK 60 Tryd.prog dot_Parse_kE dot_Parse_kH Tryd.f7
theorem dot_Parse_kok : SoundS Tryd.prog G0 7 dot_Parse_ks := soundS_sub (runF_sound (P := Tryd.prog) (E := dot_Parse_kE) (h := dot_Parse_kH) (f := 7) (fn := Tryd.f7) ⟨same_ok, (envP_cons dot_Right_kpok (envP_cons dot_Text_kpok (envP_cons strings_Cut_kpok (envP_cons strconv_Atoi_kpok envP_nil)))), envS_nil, envP_nil, envX_nil⟩ Tryd.func7 rfl (by kernel_rfl)) runK_sub
noncomputable def dot_Parse_kp : PFn := closeF dot_Parse_ks
theorem dot_Parse_kpok : SoundP Tryd.prog G0 7 dot_Parse_kp := closeF_sound dot_Parse_kok
def cmp_isNaN_int_kH : Hints := { seqs := [], loops := [], own := [] }
noncomputable def cmp_isNaN_int_kE : Env := { pure := [], raw := [], glob := G0, same := [63], look := [], ext := [] }
noncomputable def cmp_isNaN_int_ks : SFn := runK 60 Tryd.prog cmp_isNaN_int_kE cmp_isNaN_int_kH Tryd.f39
theorem cmp_isNaN_int_kok : SoundS Tryd.prog G0 39 cmp_isNaN_int_ks := soundS_sub (runF_sound (P := Tryd.prog) (E := cmp_isNaN_int_kE) (h := cmp_isNaN_int_kH) (f := 39) (fn := Tryd.f39) ⟨same_ok, envP_nil, envS_nil, envP_nil, envX_nil⟩ Tryd.func39 rfl (by kernel_rfl)) runK_sub
noncomputable def cmp_isNaN_int_kp : PFn := closeF cmp_isNaN_int_ks
theorem cmp_isNaN_int_kpok : SoundP Tryd.prog G0 39 cmp_isNaN_int_kp := closeF_sound cmp_isNaN_int_kok
def cmp_Compare_int_kH : Hints := { seqs := [], loops := [], own := [] }
noncomputable def cmp_Compare_int_kE : Env := { pure := [(39, cmp_isNaN_int_kp)], raw := [], glob := G0, same := [63], look := [], ext := [] }
noncomputable def cmp_Compare_int_ks : SFn := runK 60 Tryd.prog cmp_Compare_int_kE cmp_Compare_int_kH Tryd.f27
theorem cmp_Compare_int_kok : SoundS Tryd.prog G0 27 cmp_Compare_int_ks := soundS_sub (runF_sound (P := Tryd.prog) (E := cmp_Compare_int_kE) (h := cmp_Compare_int_kH) (f := 27) (fn := Tryd.f27) ⟨same_ok, (envP_cons cmp_isNaN_int_kpok envP_nil), envS_nil, envP_nil, envX_nil⟩ Tryd.func27 rfl (by kernel_rfl)) runK_sub
noncomputable def cmp_Compare_int_kp : PFn := closeF cmp_Compare_int_ks
theorem cmp_Compare_int_kpok : SoundP Tryd.prog G0 27 cmp_Compare_int_kp := closeF_sound cmp_Compare_int_kok
def cmp_Or_int_kH : Hints := { seqs := [], loops := [(3, [3, 6, 7, 8])], own := [] }
noncomputable def cmp_Or_int_kE : Env := { pure := [], raw := [], glob := G0, same := [63], look := [], ext := [] }
noncomputable def cmp_Or_int_ks : SFn := runK 60 Tryd.prog cmp_Or_int_kE cmp_Or_int_kH Tryd.f26
theorem cmp_Or_int_kok : SoundS Tryd.prog G0 26 cmp_Or_int_ks := soundS_sub (runF_sound (P := Tryd.prog) (E := cmp_Or_int_kE) (h := cmp_Or_int_kH) (f := 26) (fn := Tryd.f26) ⟨same_ok, envP_nil, envS_nil, envP_nil, envX_nil⟩ Tryd.func26 rfl (by kernel_rfl)) runK_sub
noncomputable def cmp_Or_int_kp : PFn := closeF cmp_Or_int_ks
theorem cmp_Or_int_kpok : SoundP Tryd.prog G0 26 cmp_Or_int_kp := closeF_sound cmp_Or_int_kok
def dot_Compare_kH : Hints := { seqs := [], loops := [], own := [] }
noncomputable def dot_Compare_kE : Env := { pure := [(26, cmp_Or_int_kp), (27, cmp_Compare_int_kp)], raw := [], glob := G0, same := [63], look := [], ext := [] }
noncomputable def dot_Compare_ks : SFn := runK 60 Tryd.prog dot_Compare_kE dot_Compare_kH Tryd.f10
theorem dot_Compare_kok : SoundS Tryd.prog G0 10 dot_Compare_ks := soundS_sub (runF_sound (P := Tryd.prog) (E := dot_Compare_kE) (h := dot_Compare_kH) (f := 10) (fn := Tryd.f10) ⟨same_ok, (envP_cons cmp_Or_int_kpok (envP_cons cmp_Compare_int_kpok envP_nil)), envS_nil, envP_nil, envX_nil⟩ Tryd.func10 rfl (by kernel_rfl)) runK_sub
noncomputable def dot_Compare_kp : PFn := closeF dot_Compare_ks
theorem dot_Compare_kpok : SoundP Tryd.prog G0 10 dot_Compare_kp := closeF_sound dot_Compare_kok
def law04_awake_kH : Hints := { seqs := [], loops := [], own := [] }
noncomputable def law04_awake_kE : Env := { pure := [(7, dot_Parse_kp), (10, dot_Compare_kp), (11, dot_Right_kp)], raw := [], glob := G0, same := [63], look := [], ext := [] }
noncomputable def law04_awake_ks : SFn := runK 60 Tryd.prog law04_awake_kE law04_awake_kH Tryd.f9
theorem law04_awake_kok : SoundS Tryd.prog G0 9 law04_awake_ks := soundS_sub (runF_sound (P := Tryd.prog) (E := law04_awake_kE) (h := law04_awake_kH) (f := 9) (fn := Tryd.f9) ⟨same_ok, (envP_cons dot_Parse_kpok (envP_cons dot_Compare_kpok (envP_cons dot_Right_kpok envP_nil))), envS_nil, envP_nil, envX_nil⟩ Tryd.func9 rfl (by kernel_rfl)) runK_sub
noncomputable def law04_awake_kp : PFn := closeF law04_awake_ks
theorem law04_awake_kpok : SoundP Tryd.prog G0 9 law04_awake_kp := closeF_sound law04_awake_kok
theorem law04_awake_kt : law04_awake_kp [] = some (.bool true) := by kernel_rfl
noncomputable def law04_awake_F : PFn := fun xs => match xs with | [] => some (.bool true) | _ => none
theorem law04_awake_Fok : SoundP Tryd.prog G0 9 law04_awake_F := soundP_at law04_awake_kpok law04_awake_kt
def law04_awake : Option Bool := some true
noncomputable def law04_awake_T : TFn := { ps := .unit, res := .bool, fn := fun _ => law04_awake }
theorem law04_awake_ok : TOk law04_awake_F law04_awake_T := given_bool rfl
end Go.Proofs.YtekmegajjfapaaaDoor.K
set_option linter.unusedVariables false
set_option maxRecDepth 100000
namespace Go.Proofs.YtekmegajjfapaaaDoor.L
open Go.EM Go.TY Go.Proofs Go.Proofs.YtekmegajjfapaaaDoor.Y Go.Proofs.YtekmegajjfapaaaDoor.K
-- palinode/palinodelaw04.DotParses
noncomputable def law04_DotParses_E : Env := { pure := [(7, dot_Parse_F), (8, ref04_Parse_F), (9, law04_awake_F)], raw := [], glob := G0, same := [63], look := [], ext := [] }
def law04_DotParses_H : Hints := { seqs := [], loops := [], own := [] }
noncomputable def law04_DotParses_F : PFn := closeF (runF Tryd.prog law04_DotParses_E law04_DotParses_H Tryd.f3)
def law04_DotParses_Y : TH := { joins := [(3, { keep := [(0, .str)], mem := [] })], loops := [], cuts := [], ro := [], news := [] }
noncomputable def law04_DotParses (a0 : List UInt8) : Option Bool :=
(cond (decide ((a0.length : Int) > 60)) (
(subI a0 0 60).bind fun s1 =>
 some (.inl (s1, ()))) (
 some (.inl (a0, ()))) : Option ((List UInt8 × Unit) ⊕ Bool)).bind (joinS fun v2 =>
(dot_Parse v2.1).bind fun r3 =>
(ref04_Parse v2.1).bind fun r4 =>
 cond (!r4.2.1) (
 cond (decide (r3.2.1 = 19)) (cond (eqV (.agg (.cons (.int .i64) (.cons (.int .i64) .unit))) r3.1 (0, 0, ())) ((law04_awake).bind fun r5 =>
 some r5) (some false)) (some false)) (
 cond (decide (r3.2.1 = 0)) (cond (eqV (.agg (.cons (.int .i64) (.cons (.int .i64) .unit))) r3.1 r4.1) ((law04_awake).bind fun r6 =>
 some r6) (some false)) (some false)))
noncomputable def law04_DotParses_T : TFn := { ps := (.cons .str .unit), res := .bool, fn := fun v => law04_DotParses v.1 }
noncomputable def law04_DotParses_V : TEnv := { pure := [(7, dot_Parse_T), (8, ref04_Parse_T), (9, law04_awake_T)], look := [], glob := G0T, ty := [], raw := [], fresh := [] }
theorem law04_DotParses_eq : runY Tryd.prog law04_DotParses_E law04_DotParses_H law04_DotParses_V law04_DotParses_Y Tryd.f3 law04_DotParses_T.ps law04_DotParses_T.res = law04_DotParses_T.fn := by kernel_rfl
theorem law04_DotParses_Fok : SoundP Tryd.prog G0 3 law04_DotParses_F := closeF_sound (runF_sound (P := Tryd.prog) (E := law04_DotParses_E) (h := law04_DotParses_H) (f := 3) (fn := Tryd.f3) ⟨same_ok, (envP_cons dot_Parse_Fok (envP_cons ref04_Parse_Fok (envP_cons law04_awake_Fok envP_nil))), envS_nil, envP_nil, envX_nil⟩ Tryd.func3 rfl (by kernel_rfl))
theorem law04_DotParses_ok : TOk law04_DotParses_F law04_DotParses_T := runY_ok (E := law04_DotParses_E) (ET := law04_DotParses_V) (EnvT.ofX (E := law04_DotParses_E) (ET := law04_DotParses_V) (pure_of (pairs_cons dot_Parse_ok (pairs_cons ref04_Parse_ok (pairs_cons law04_awake_ok pairs_nil)))) looks_nil raws_nil G0_ok news_nil) law04_DotParses_eq rfl
-- palinode/palinodelaw04.DotRow
noncomputable def law04_DotRow_E : Env := { pure := [(9, law04_awake_F), (10, dot_Compare_F)], raw := [], glob := G0, same := [63], look := [], ext := [] }
def law04_DotRow_H : Hints := { seqs := [], loops := [], own := [] }
noncomputable def law04_DotRow_F : PFn := closeF (runF Tryd.prog law04_DotRow_E law04_DotRow_H Tryd.f4)
def law04_DotRow_Y : TH := { joins := [], loops := [], cuts := [(2, [(14, { keep := [(32, .bool)], mem := [.same, .same, .same] })])], ro := [3, 4, 5], news := [] }
noncomputable def law04_DotRow (a0 : (Int × Int × Unit)) (a1 : (Int × Int × Unit)) (a2 : (Int × Int × Unit)) : Option Bool :=
(dot_Compare a0 a1).bind fun r1 =>
(dot_Compare a1 a2).bind fun r2 =>
(dot_Compare a0 a2).bind fun r3 =>
((dot_Compare a1 a0).bind fun r4 =>
 cond (decide (r4 = (IntKind.wrap .i64 (0 - r1)))) (some (((decide (r1 = 0)) == (eqV (.agg (.cons (.int .i64) (.cons (.int .i64) .unit))) a0 a1)), ())) (some (false, ())) : Option (Bool × Unit)).bind fun v5 =>
 cond v5.1 (cond (decide (r1 > 0)) ((law04_awake).bind fun r6 =>
 some r6) (cond (decide (r2 > 0)) ((law04_awake).bind fun r7 =>
 some r7) (cond (decide (r3 ≤ 0)) ((law04_awake).bind fun r8 =>
 some r8) (some false)))) (some false)
noncomputable def law04_DotRow_T : TFn := { ps := (.cons (.agg (.cons (.int .i64) (.cons (.int .i64) .unit))) (.cons (.agg (.cons (.int .i64) (.cons (.int .i64) .unit))) (.cons (.agg (.cons (.int .i64) (.cons (.int .i64) .unit))) .unit))), res := .bool, fn := fun v => law04_DotRow v.1 v.2.1 v.2.2.1 }
noncomputable def law04_DotRow_V : TEnv := { pure := [(9, law04_awake_T), (10, dot_Compare_T)], look := [], glob := G0T, ty := [], raw := [], fresh := [] }
theorem law04_DotRow_eq : runY Tryd.prog law04_DotRow_E law04_DotRow_H law04_DotRow_V law04_DotRow_Y Tryd.f4 law04_DotRow_T.ps law04_DotRow_T.res = law04_DotRow_T.fn := by kernel_rfl
theorem law04_DotRow_Fok : SoundP Tryd.prog G0 4 law04_DotRow_F := closeF_sound (runF_sound (P := Tryd.prog) (E := law04_DotRow_E) (h := law04_DotRow_H) (f := 4) (fn := Tryd.f4) ⟨same_ok, (envP_cons law04_awake_Fok (envP_cons dot_Compare_Fok envP_nil)), envS_nil, envP_nil, envX_nil⟩ Tryd.func4 rfl (by kernel_rfl))
theorem law04_DotRow_ok : TOk law04_DotRow_F law04_DotRow_T := runY_ok (E := law04_DotRow_E) (ET := law04_DotRow_V) (EnvT.ofX (E := law04_DotRow_E) (ET := law04_DotRow_V) (pure_of (pairs_cons law04_awake_ok (pairs_cons dot_Compare_ok pairs_nil))) looks_nil raws_nil G0_ok news_nil) law04_DotRow_eq rfl
-- palinode/palinodelaw04.DotTells
noncomputable def law04_DotTells_E : Env := { pure := [(9, law04_awake_F), (10, dot_Compare_F), (11, dot_Right_F), (12, ref04_Right_F), (13, dot_Text_F), (14, ref04_Text_F), (15, dot_Code_F), (16, ref04_Code_F), (17, ref04_Compare_F), (18, dot_Refs_F), (19, ref04_Refs_F)], raw := [], glob := G0, same := [63], look := [], ext := [] }
def law04_DotTells_H : Hints := { seqs := [], loops := [], own := [] }
noncomputable def law04_DotTells_F : PFn := closeF (runF Tryd.prog law04_DotTells_E law04_DotTells_H Tryd.f5)
def law04_DotTells_Y : TH := { joins := [], loops := [], cuts := [(1, [(12, { keep := [(4, (.bx 0 0)), (5, (.bx 1 0)), (6, (.bx 2 0)), (7, (.bx 3 0)), (20, .bool)], mem := [.same, .same, .same, .same] }), (7, { keep := [(4, (.bx 0 0)), (5, (.bx 1 0)), (6, (.bx 2 0)), (7, (.bx 3 0)), (27, .bool)], mem := [.same, .same, .same, .same] }), (9, { keep := [(6, (.bx 2 0)), (7, (.bx 3 0)), (36, .bool)], mem := [.same, .same, .same, .same] })])], ro := [4, 5, 6, 7], news := [] }
noncomputable def law04_DotTells (a0 : (Int × Int × Unit)) (a1 : (Int × Int × Unit)) (a2 : ((Int × Int × Unit) × Int × Unit)) (a3 : ((Int × Int × Unit) × Int × Unit)) : Option Bool :=
((dot_Right a0).bind fun r1 =>
(ref04_Right a0).bind fun r2 =>
 cond (r1 == r2) ((dot_Text a0).bind fun r3 =>
(ref04_Text a0).bind fun r4 =>
 some ((decide (r3 = r4)), ())) (some (false, ())) : Option (Bool × Unit)).bind fun v5 =>
(cond v5.1 ((dot_Code a0).bind fun r6 =>
(ref04_Code a0).bind fun r7 =>
 some ((decide (r6 = r7)), ())) (some (false, ())) : Option (Bool × Unit)).bind fun v8 =>
(cond v8.1 ((dot_Compare a0 a1).bind fun r9 =>
(ref04_Compare a0 a1).bind fun r10 =>
 some ((decide (r9 = r10)), ())) (some (false, ())) : Option (Bool × Unit)).bind fun v11 =>
 cond v11.1 ((dot_Refs a2 a3).bind fun r12 =>
(ref04_Refs a2 a3).bind fun r13 =>
 cond (decide (r12 = r13)) ((law04_awake).bind fun r14 =>
 some r14) (some false)) (some false)
noncomputable def law04_DotTells_T : TFn := { ps := (.cons (.agg (.cons (.int .i64) (.cons (.int .i64) .unit))) (.cons (.agg (.cons (.int .i64) (.cons (.int .i64) .unit))) (.cons (.agg (.cons (.agg (.cons (.int .i64) (.cons (.int .i64) .unit))) (.cons (.int .i64) .unit))) (.cons (.agg (.cons (.agg (.cons (.int .i64) (.cons (.int .i64) .unit))) (.cons (.int .i64) .unit))) .unit)))), res := .bool, fn := fun v => law04_DotTells v.1 v.2.1 v.2.2.1 v.2.2.2.1 }
noncomputable def law04_DotTells_V : TEnv := { pure := [(9, law04_awake_T), (10, dot_Compare_T), (11, dot_Right_T), (12, ref04_Right_T), (13, dot_Text_T), (14, ref04_Text_T), (15, dot_Code_T), (16, ref04_Code_T), (17, ref04_Compare_T), (18, dot_Refs_T), (19, ref04_Refs_T)], look := [], glob := G0T, ty := [], raw := [], fresh := [] }
theorem law04_DotTells_eq : runY Tryd.prog law04_DotTells_E law04_DotTells_H law04_DotTells_V law04_DotTells_Y Tryd.f5 law04_DotTells_T.ps law04_DotTells_T.res = law04_DotTells_T.fn := by kernel_rfl
theorem law04_DotTells_Fok : SoundP Tryd.prog G0 5 law04_DotTells_F := closeF_sound (runF_sound (P := Tryd.prog) (E := law04_DotTells_E) (h := law04_DotTells_H) (f := 5) (fn := Tryd.f5) ⟨same_ok, (envP_cons law04_awake_Fok (envP_cons dot_Compare_Fok (envP_cons dot_Right_Fok (envP_cons ref04_Right_Fok (envP_cons dot_Text_Fok (envP_cons ref04_Text_Fok (envP_cons dot_Code_Fok (envP_cons ref04_Code_Fok (envP_cons ref04_Compare_Fok (envP_cons dot_Refs_Fok (envP_cons ref04_Refs_Fok envP_nil))))))))))), envS_nil, envP_nil, envX_nil⟩ Tryd.func5 rfl (by kernel_rfl))
theorem law04_DotTells_ok : TOk law04_DotTells_F law04_DotTells_T := runY_ok (E := law04_DotTells_E) (ET := law04_DotTells_V) (EnvT.ofX (E := law04_DotTells_E) (ET := law04_DotTells_V) (pure_of (pairs_cons law04_awake_ok (pairs_cons dot_Compare_ok (pairs_cons dot_Right_ok (pairs_cons ref04_Right_ok (pairs_cons dot_Text_ok (pairs_cons ref04_Text_ok (pairs_cons dot_Code_ok (pairs_cons ref04_Code_ok (pairs_cons ref04_Compare_ok (pairs_cons dot_Refs_ok (pairs_cons ref04_Refs_ok pairs_nil)))))))))))) looks_nil raws_nil G0_ok news_nil) law04_DotTells_eq rfl
-- palinode/palinodelaw04.DotBack
noncomputable def law04_DotBack_E : Env := { pure := [(7, dot_Parse_F), (9, law04_awake_F), (11, dot_Right_F), (13, dot_Text_F), (15, dot_Code_F)], raw := [(20, pack_Open_S), (21, dot_Read_S), (22, pack_Reader_End_S)], glob := G0, same := [63], look := [], ext := [] }
def law04_DotBack_H : Hints := { seqs := [], loops := [], own := [] }
noncomputable def law04_DotBack_F : PFn := closeF (runF Tryd.prog law04_DotBack_E law04_DotBack_H Tryd.f6)
def law04_DotBack_Y : TH := { joins := [], loops := [], cuts := [(6, [(7, { keep := [(1, (.bx 0 0)), (5, (.bx 2 0)), (6, (.bx 3 0)), (28, .bool)], mem := [.same, .gone, .box 53 (.agg (.cons .str (.cons (.int .i64) .unit))), .box 23 (.agg (.cons (.int .i64) (.cons (.int .i64) .unit)))] })])], ro := [1], news := [] }
noncomputable def law04_DotBack (a0 : (Int × Int × Unit)) : Option Bool :=
(dot_Right a0).bind fun r1 =>
 cond (!r1) (
(law04_awake).bind fun r2 =>
 some r2) (
(dot_Text a0).bind fun r3 =>
(dot_Parse r3).bind fun r4 =>
(dot_Code a0).bind fun r5 =>
(pack_Open r5).bind fun n6 =>
(dot_Read n6).bind fun q7 =>
(cond (decide (r4.2.1 = 0)) (some ((eqV (.agg (.cons (.int .i64) (.cons (.int .i64) .unit))) r4.1 a0), q7.2.1, q7.1, ())) (some (false, q7.2.1, q7.1, ())) : Option (Bool × (List UInt8 × Int × Unit) × (Int × Int × Unit) × Unit)).bind fun v8 =>
 cond v8.1 (cond (eqV (.agg (.cons (.int .i64) (.cons (.int .i64) .unit))) v8.2.2.1 a0) ((pack_Reader_End v8.2.1).bind fun q9 =>
 cond (decide (q9.1 = 0)) ((law04_awake).bind fun r10 =>
 some r10) (some false)) (some false)) (some false))
noncomputable def law04_DotBack_T : TFn := { ps := (.cons (.agg (.cons (.int .i64) (.cons (.int .i64) .unit))) .unit), res := .bool, fn := fun v => law04_DotBack v.1 }
noncomputable def law04_DotBack_V : TEnv := { pure := [(7, dot_Parse_T), (9, law04_awake_T), (11, dot_Right_T), (13, dot_Text_T), (15, dot_Code_T)], look := [], glob := G0T, ty := [], raw := [(21, dot_Read_R), (22, pack_Reader_End_R)], fresh := [(20, pack_Open_N)] }
theorem law04_DotBack_eq : runY Tryd.prog law04_DotBack_E law04_DotBack_H law04_DotBack_V law04_DotBack_Y Tryd.f6 law04_DotBack_T.ps law04_DotBack_T.res = law04_DotBack_T.fn := by kernel_rfl
theorem law04_DotBack_Fok : SoundP Tryd.prog G0 6 law04_DotBack_F := closeF_sound (runF_sound (P := Tryd.prog) (E := law04_DotBack_E) (h := law04_DotBack_H) (f := 6) (fn := Tryd.f6) ⟨same_ok, (envP_cons dot_Parse_Fok (envP_cons law04_awake_Fok (envP_cons dot_Right_Fok (envP_cons dot_Text_Fok (envP_cons dot_Code_Fok envP_nil))))), (envS_cons pack_Open_Sok (envS_cons dot_Read_Sok (envS_cons pack_Reader_End_Sok envS_nil))), envP_nil, envX_nil⟩ Tryd.func6 rfl (by kernel_rfl))
theorem law04_DotBack_ok : TOk law04_DotBack_F law04_DotBack_T := runY_ok (E := law04_DotBack_E) (ET := law04_DotBack_V) (EnvT.ofX (E := law04_DotBack_E) (ET := law04_DotBack_V) (pure_of (pairs_cons dot_Parse_ok (pairs_cons law04_awake_ok (pairs_cons dot_Right_ok (pairs_cons dot_Text_ok (pairs_cons dot_Code_ok pairs_nil)))))) looks_nil (raws_more (raws_cons dot_Read_ok rfl rfl (raws_cons pack_Reader_End_ok rfl rfl raws_nil)) rfl) G0_ok (news_cons pack_Open_ok rfl rfl rfl news_nil)) law04_DotBack_eq rfl
end Go.Proofs.YtekmegajjfapaaaDoor.L
