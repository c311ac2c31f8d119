import Derived.Test.YtekmegajjfapaaaDoorProg
import Derived.Test.YtekmegajjfapaaaDoorT14
import Derived.Test.YtekmegajjfapaaaDoorE19
set_option linter.unusedVariables false
set_option maxRecDepth 100000
namespace Go.Proofs.YtekmegajjfapaaaDoor.Y
open Go.EM Go.TY Go.Proofs
def G0 : List (Nat × AVal) := []
def G0T : List (Nat × TV) := []
theorem G0_ok : GlobsOk G0 G0T := globs_nil
theorem same_ok : ∀ f, memN f [63] = true → Same Tryd.prog f := by
  intro f h
  by_cases e63 : f = 63
  · subst e63; exact ⟨Tryd.f63, Tryd.func63, by kernel_rfl, by kernel_rfl, by kernel_rfl, by kernel_rfl⟩
  simp_all [memN]
-- cmp.isNaN[int]
noncomputable def cmp_isNaN_int_E : Env := { pure := [], raw := [], glob := G0, same := [63], look := [], ext := [] }
def cmp_isNaN_int_H : Hints := { seqs := [], loops := [], own := [] }
noncomputable def cmp_isNaN_int_F : PFn := closeF (runF Tryd.prog cmp_isNaN_int_E cmp_isNaN_int_H Tryd.f39)
def cmp_isNaN_int_Y : TH := { joins := [], loops := [], cuts := [], ro := [], news := [] }
noncomputable def cmp_isNaN_int (a0 : Int) : Option Bool :=
 some (!decide (a0 = a0))
noncomputable def cmp_isNaN_int_T : TFn := { ps := (.cons (.int .i64) .unit), res := .bool, fn := fun v => cmp_isNaN_int v.1 }
noncomputable def cmp_isNaN_int_V : TEnv := { pure := [], look := [], glob := G0T, ty := [], raw := [] }
theorem cmp_isNaN_int_eq : runY Tryd.prog cmp_isNaN_int_E cmp_isNaN_int_H cmp_isNaN_int_V cmp_isNaN_int_Y Tryd.f39 cmp_isNaN_int_T.ps cmp_isNaN_int_T.res = cmp_isNaN_int_T.fn := by kernel_rfl
theorem cmp_isNaN_int_Fok : SoundP Tryd.prog G0 39 cmp_isNaN_int_F := closeF_sound (runF_sound (P := Tryd.prog) (E := cmp_isNaN_int_E) (h := cmp_isNaN_int_H) (f := 39) (fn := Tryd.f39) ⟨same_ok, envP_nil, envS_nil, envP_nil, envX_nil⟩ Tryd.func39 rfl (by kernel_rfl))
theorem cmp_isNaN_int_ok : TOk cmp_isNaN_int_F cmp_isNaN_int_T := runY_ok (E := cmp_isNaN_int_E) (ET := cmp_isNaN_int_V) (EnvT.ofX (E := cmp_isNaN_int_E) (ET := cmp_isNaN_int_V) (pure_of pairs_nil) looks_nil raws_nil G0_ok) cmp_isNaN_int_eq rfl
-- cmp.Compare[int]
noncomputable def cmp_Compare_int_E : Env := { pure := [(39, cmp_isNaN_int_F)], raw := [], glob := G0, same := [63], look := [], ext := [] }
def cmp_Compare_int_H : Hints := { seqs := [], loops := [], own := [] }
noncomputable def cmp_Compare_int_F : PFn := closeF (runF Tryd.prog cmp_Compare_int_E cmp_Compare_int_H Tryd.f27)
def cmp_Compare_int_Y : TH := { joins := [], loops := [], cuts := [], ro := [], news := [] }
noncomputable def cmp_Compare_int (a0 : Int) (a1 : Int) : Option Int :=
(cmp_isNaN_int a0).bind fun r1 =>
(cmp_isNaN_int a1).bind fun r2 =>
 cond r1 (
 cond r2 (
 some 0) (
 some (-1))) (
 cond r2 (
 some 1) (
 cond (decide (a0 < a1)) (
 some (-1)) (
 cond (decide (a0 > a1)) (
 some 1) (
 some 0))))
noncomputable def cmp_Compare_int_T : TFn := { ps := (.cons (.int .i64) (.cons (.int .i64) .unit)), res := (.int .i64), fn := fun v => cmp_Compare_int v.1 v.2.1 }
noncomputable def cmp_Compare_int_V : TEnv := { pure := [(39, cmp_isNaN_int_T)], look := [], glob := G0T, ty := [], raw := [] }
theorem cmp_Compare_int_eq : runY Tryd.prog cmp_Compare_int_E cmp_Compare_int_H cmp_Compare_int_V cmp_Compare_int_Y Tryd.f27 cmp_Compare_int_T.ps cmp_Compare_int_T.res = cmp_Compare_int_T.fn := by kernel_rfl
theorem cmp_Compare_int_Fok : SoundP Tryd.prog G0 27 cmp_Compare_int_F := closeF_sound (runF_sound (P := Tryd.prog) (E := cmp_Compare_int_E) (h := cmp_Compare_int_H) (f := 27) (fn := Tryd.f27) ⟨same_ok, (envP_cons cmp_isNaN_int_Fok envP_nil), envS_nil, envP_nil, envX_nil⟩ Tryd.func27 rfl (by kernel_rfl))
theorem cmp_Compare_int_ok : TOk cmp_Compare_int_F cmp_Compare_int_T := runY_ok (E := cmp_Compare_int_E) (ET := cmp_Compare_int_V) (EnvT.ofX (E := cmp_Compare_int_E) (ET := cmp_Compare_int_V) (pure_of (pairs_cons cmp_isNaN_int_ok pairs_nil)) looks_nil raws_nil G0_ok) cmp_Compare_int_eq rfl
-- cmp.Or[int]
noncomputable def cmp_Or_int_E : Env := { pure := [], raw := [], glob := G0, same := [63], look := [], ext := [] }
def cmp_Or_int_H : Hints := { seqs := [], loops := [(3, [3, 6, 7, 8])], own := [] }
noncomputable def cmp_Or_int_F : PFn := closeF (runF Tryd.prog cmp_Or_int_E cmp_Or_int_H Tryd.f26)
def cmp_Or_int_Y : TH := { joins := [], loops := [(3, { keep := [(8, (.int .i64))], mem := [] })], cuts := [], ro := [], news := [] }
noncomputable def cmp_Or_int_l3 (a0 : List Int) (y3 : (Int × Unit)) : Option ((Int × Unit) ⊕ Int) :=
 cond (decide (y3.1 < (a0.length : Int))) (
(atI a0 y3.1).bind fun x1 =>
 cond (!decide (x1 = 0)) (
 some (.inr x1)) (
 some (.inl ((IntKind.wrap .i64 (y3.1 + 1)), ())))) (
 some (.inr 0))
noncomputable def cmp_Or_int (a0 : List Int) : Option Int :=
 loopT (cmp_Or_int_l3 a0) (0, ())
noncomputable def cmp_Or_int_T : TFn := { ps := (.cons (.sl (.int .i64)) .unit), res := (.int .i64), fn := fun v => cmp_Or_int v.1 }
noncomputable def cmp_Or_int_V : TEnv := { pure := [], look := [], glob := G0T, ty := [], raw := [] }
theorem cmp_Or_int_eq : runY Tryd.prog cmp_Or_int_E cmp_Or_int_H cmp_Or_int_V cmp_Or_int_Y Tryd.f26 cmp_Or_int_T.ps cmp_Or_int_T.res = cmp_Or_int_T.fn := by kernel_rfl
theorem cmp_Or_int_Fok : SoundP Tryd.prog G0 26 cmp_Or_int_F := closeF_sound (runF_sound (P := Tryd.prog) (E := cmp_Or_int_E) (h := cmp_Or_int_H) (f := 26) (fn := Tryd.f26) ⟨same_ok, envP_nil, envS_nil, envP_nil, envX_nil⟩ Tryd.func26 rfl (by kernel_rfl))
theorem cmp_Or_int_ok : TOk cmp_Or_int_F cmp_Or_int_T := runY_ok (E := cmp_Or_int_E) (ET := cmp_Or_int_V) (EnvT.ofX (E := cmp_Or_int_E) (ET := cmp_Or_int_V) (pure_of pairs_nil) looks_nil raws_nil G0_ok) cmp_Or_int_eq rfl
-- palinode/dot.Compare
noncomputable def dot_Compare_E : Env := { pure := [(26, cmp_Or_int_F), (27, cmp_Compare_int_F)], raw := [], glob := G0, same := [63], look := [], ext := [] }
def dot_Compare_H : Hints := { seqs := [], loops := [], own := [] }
noncomputable def dot_Compare_F : PFn := closeF (runF Tryd.prog dot_Compare_E dot_Compare_H Tryd.f10)
def dot_Compare_Y : TH := { joins := [], loops := [], cuts := [], ro := [2, 3], news := [] }
noncomputable def dot_Compare (a0 : (Int × Int × Unit)) (a1 : (Int × Int × Unit)) : Option Int :=
(cmp_Compare_int a0.1 a1.1).bind fun r1 =>
(cmp_Compare_int a0.2.1 a1.2.1).bind fun r2 =>
(cmp_Or_int ([r1, r2] : List Int)).bind fun r3 =>
 some r3
noncomputable def dot_Compare_T : TFn := { ps := (.cons (.agg (.cons (.int .i64) (.cons (.int .i64) .unit))) (.cons (.agg (.cons (.int .i64) (.cons (.int .i64) .unit))) .unit)), res := (.int .i64), fn := fun v => dot_Compare v.1 v.2.1 }
noncomputable def dot_Compare_V : TEnv := { pure := [(26, cmp_Or_int_T), (27, cmp_Compare_int_T)], look := [], glob := G0T, ty := [(3, (.int .i64))], raw := [] }
theorem dot_Compare_eq : runY Tryd.prog dot_Compare_E dot_Compare_H dot_Compare_V dot_Compare_Y Tryd.f10 dot_Compare_T.ps dot_Compare_T.res = dot_Compare_T.fn := by kernel_rfl
theorem dot_Compare_Fok : SoundP Tryd.prog G0 10 dot_Compare_F := closeF_sound (runF_sound (P := Tryd.prog) (E := dot_Compare_E) (h := dot_Compare_H) (f := 10) (fn := Tryd.f10) ⟨same_ok, (envP_cons cmp_Or_int_Fok (envP_cons cmp_Compare_int_Fok envP_nil)), envS_nil, envP_nil, envX_nil⟩ Tryd.func10 rfl (by kernel_rfl))
theorem dot_Compare_ok : TOk dot_Compare_F dot_Compare_T := runY_ok (E := dot_Compare_E) (ET := dot_Compare_V) (EnvT.ofX (E := dot_Compare_E) (ET := dot_Compare_V) (pure_of (pairs_cons cmp_Or_int_ok (pairs_cons cmp_Compare_int_ok pairs_nil))) looks_nil raws_nil G0_ok) dot_Compare_eq rfl
end Go.Proofs.YtekmegajjfapaaaDoor.Y
set_option linter.unusedVariables false
set_option maxRecDepth 100000
namespace Go.Proofs.YtekmegajjfapaaaDoor.K
open Go.EM Go.TY Go.Proofs Go.Proofs.YtekmegajjfapaaaDoor.Y
def stringslite_IndexByte_kH : Hints := { seqs := [], loops := [], own := [] }
noncomputable def stringslite_IndexByte_kE : Env := { pure := [], raw := [], glob := G0, same := [63], look := [], ext := [(64, indexByteF)] }
noncomputable def stringslite_IndexByte_ks : SFn := runK 60 Tryd.prog stringslite_IndexByte_kE stringslite_IndexByte_kH Tryd.f52
theorem stringslite_IndexByte_kok : SoundS Tryd.prog G0 52 stringslite_IndexByte_ks := soundS_sub (runF_sound (P := Tryd.prog) (E := stringslite_IndexByte_kE) (h := stringslite_IndexByte_kH) (f := 52) (fn := Tryd.f52) ⟨same_ok, envP_nil, envS_nil, envP_nil, (envX_cons (indexByte_ext (fn := Tryd.f64) Tryd.func64 (by kernel_rfl) (by kernel_rfl) (by kernel_rfl) (by kernel_rfl)) envX_nil)⟩ Tryd.func52 rfl (by kernel_rfl)) runK_sub
noncomputable def stringslite_IndexByte_kp : PFn := closeF stringslite_IndexByte_ks
theorem stringslite_IndexByte_kpok : SoundP Tryd.prog G0 52 stringslite_IndexByte_kp := closeF_sound stringslite_IndexByte_kok
def bytealg_Cutover_kH : Hints := { seqs := [], loops := [], own := [] }
noncomputable def bytealg_Cutover_kE : Env := { pure := [], raw := [], glob := G0, same := [63], look := [], ext := [] }
noncomputable def bytealg_Cutover_ks : SFn := runK 60 Tryd.prog bytealg_Cutover_kE bytealg_Cutover_kH Tryd.f54
theorem bytealg_Cutover_kok : SoundS Tryd.prog G0 54 bytealg_Cutover_ks := soundS_sub (runF_sound (P := Tryd.prog) (E := bytealg_Cutover_kE) (h := bytealg_Cutover_kH) (f := 54) (fn := Tryd.f54) ⟨same_ok, envP_nil, envS_nil, envP_nil, envX_nil⟩ Tryd.func54 rfl (by kernel_rfl)) runK_sub
noncomputable def bytealg_Cutover_kp : PFn := closeF bytealg_Cutover_ks
theorem bytealg_Cutover_kpok : SoundP Tryd.prog G0 54 bytealg_Cutover_kp := closeF_sound bytealg_Cutover_kok
def bytealg_hashStr_string_kH : Hints := { seqs := [(6, [0, 4]), (13, [4, 6]), (9, [4, 6, 7, 8]), (12, [4, 6, 7, 8])], loops := [(3, [0, 4, 5]), (8, [4, 6, 7, 8])], own := [] }
noncomputable def bytealg_hashStr_string_kE : Env := { pure := [], raw := [], glob := G0, same := [63], look := [], ext := [] }
noncomputable def bytealg_hashStr_string_ks : SFn := runK 60 Tryd.prog bytealg_hashStr_string_kE bytealg_hashStr_string_kH Tryd.f65
theorem bytealg_hashStr_string_kok : SoundS Tryd.prog G0 65 bytealg_hashStr_string_ks := soundS_sub (runF_sound (P := Tryd.prog) (E := bytealg_hashStr_string_kE) (h := bytealg_hashStr_string_kH) (f := 65) (fn := Tryd.f65) ⟨same_ok, envP_nil, envS_nil, envP_nil, envX_nil⟩ Tryd.func65 rfl (by kernel_rfl)) runK_sub
noncomputable def bytealg_hashStr_string_kp : PFn := closeF bytealg_hashStr_string_ks
theorem bytealg_hashStr_string_kpok : SoundP Tryd.prog G0 65 bytealg_hashStr_string_kp := closeF_sound bytealg_hashStr_string_kok
def bytealg_IndexRabinKarp_string_kH : Hints := { seqs := [(8, [0, 1, 5, 6, 7, 8])], loops := [(5, [0, 1, 5, 6, 7, 8, 9]), (11, [0, 1, 5, 6, 7, 8, 10])], own := [] }
noncomputable def bytealg_IndexRabinKarp_string_kE : Env := { pure := [(65, bytealg_hashStr_string_kp)], raw := [], glob := G0, same := [63], look := [], ext := [] }
noncomputable def bytealg_IndexRabinKarp_string_ks : SFn := runK 60 Tryd.prog bytealg_IndexRabinKarp_string_kE bytealg_IndexRabinKarp_string_kH Tryd.f55
theorem bytealg_IndexRabinKarp_string_kok : SoundS Tryd.prog G0 55 bytealg_IndexRabinKarp_string_ks := soundS_sub (runF_sound (P := Tryd.prog) (E := bytealg_IndexRabinKarp_string_kE) (h := bytealg_IndexRabinKarp_string_kH) (f := 55) (fn := Tryd.f55) ⟨same_ok, (envP_cons bytealg_hashStr_string_kpok envP_nil), envS_nil, envP_nil, envX_nil⟩ Tryd.func55 rfl (by kernel_rfl)) runK_sub
noncomputable def bytealg_IndexRabinKarp_string_kp : PFn := closeF bytealg_IndexRabinKarp_string_ks
theorem bytealg_IndexRabinKarp_string_kpok : SoundP Tryd.prog G0 55 bytealg_IndexRabinKarp_string_kp := closeF_sound bytealg_IndexRabinKarp_string_kok
def stringslite_Index_kH : Hints := { seqs := [(21, [0, 1, 5, 6, 7, 8, 9, 10])], loops := [(15, [0, 1, 5, 6, 7, 8, 9, 10])], own := [] }
noncomputable def stringslite_Index_kE : Env := { pure := [(52, stringslite_IndexByte_kp), (54, bytealg_Cutover_kp), (55, bytealg_IndexRabinKarp_string_kp)], raw := [], glob := G0, same := [63], look := [], ext := [] }
noncomputable def stringslite_Index_ks : SFn := runK 60 Tryd.prog stringslite_Index_kE stringslite_Index_kH Tryd.f44
theorem stringslite_Index_kok : SoundS Tryd.prog G0 44 stringslite_Index_ks := soundS_sub (runF_sound (P := Tryd.prog) (E := stringslite_Index_kE) (h := stringslite_Index_kH) (f := 44) (fn := Tryd.f44) ⟨same_ok, (envP_cons stringslite_IndexByte_kpok (envP_cons bytealg_Cutover_kpok (envP_cons bytealg_IndexRabinKarp_string_kpok envP_nil))), envS_nil, envP_nil, envX_nil⟩ Tryd.func44 rfl (by kernel_rfl)) runK_sub
noncomputable def stringslite_Index_kp : PFn := closeF stringslite_Index_ks
theorem stringslite_Index_kpok : SoundP Tryd.prog G0 44 stringslite_Index_kp := closeF_sound stringslite_Index_kok
def stringslite_Cut_kH : Hints := { seqs := [], loops := [], own := [] }
noncomputable def stringslite_Cut_kE : Env := { pure := [(44, stringslite_Index_kp)], raw := [], glob := G0, same := [63], look := [], ext := [] }
noncomputable def stringslite_Cut_ks : SFn := runK 60 Tryd.prog stringslite_Cut_kE stringslite_Cut_kH Tryd.f36
theorem stringslite_Cut_kok : SoundS Tryd.prog G0 36 stringslite_Cut_ks := soundS_sub (runF_sound (P := Tryd.prog) (E := stringslite_Cut_kE) (h := stringslite_Cut_kH) (f := 36) (fn := Tryd.f36) ⟨same_ok, (envP_cons stringslite_Index_kpok envP_nil), envS_nil, envP_nil, envX_nil⟩ Tryd.func36 rfl (by kernel_rfl)) runK_sub
noncomputable def stringslite_Cut_kp : PFn := closeF stringslite_Cut_ks
theorem stringslite_Cut_kpok : SoundP Tryd.prog G0 36 stringslite_Cut_kp := closeF_sound stringslite_Cut_kok
def strings_Cut_kH : Hints := { seqs := [], loops := [], own := [] }
noncomputable def strings_Cut_kE : Env := { pure := [(36, stringslite_Cut_kp)], raw := [], glob := G0, same := [63], look := [], ext := [] }
noncomputable def strings_Cut_ks : SFn := runK 60 Tryd.prog strings_Cut_kE strings_Cut_kH Tryd.f23
theorem strings_Cut_kok : SoundS Tryd.prog G0 23 strings_Cut_ks := soundS_sub (runF_sound (P := Tryd.prog) (E := strings_Cut_kE) (h := strings_Cut_kH) (f := 23) (fn := Tryd.f23) ⟨same_ok, (envP_cons stringslite_Cut_kpok envP_nil), envS_nil, envP_nil, envX_nil⟩ Tryd.func23 rfl (by kernel_rfl)) runK_sub
noncomputable def strings_Cut_kp : PFn := closeF strings_Cut_ks
theorem strings_Cut_kpok : SoundP Tryd.prog G0 23 strings_Cut_kp := closeF_sound strings_Cut_kok
def strconv_lower_kH : Hints := { seqs := [], loops := [], own := [] }
noncomputable def strconv_lower_kE : Env := { pure := [], raw := [], glob := G0, same := [63], look := [], ext := [] }
noncomputable def strconv_lower_ks : SFn := runK 60 Tryd.prog strconv_lower_kE strconv_lower_kH Tryd.f66
theorem strconv_lower_kok : SoundS Tryd.prog G0 66 strconv_lower_ks := soundS_sub (runF_sound (P := Tryd.prog) (E := strconv_lower_kE) (h := strconv_lower_kH) (f := 66) (fn := Tryd.f66) ⟨same_ok, envP_nil, envS_nil, envP_nil, envX_nil⟩ Tryd.func66 rfl (by kernel_rfl)) runK_sub
noncomputable def strconv_lower_kp : PFn := closeF strconv_lower_ks
theorem strconv_lower_kpok : SoundP Tryd.prog G0 66 strconv_lower_kp := closeF_sound strconv_lower_kok
def strconv_underscoreOK_kH : Hints := { seqs := [(5, [0, 3, 4]), (10, [0, 3, 4, 5]), (21, [3]), (11, [0, 3, 4, 5])], loops := [(10, [0, 3, 4, 5])], own := [] }
noncomputable def strconv_underscoreOK_kE : Env := { pure := [(66, strconv_lower_kp)], raw := [], glob := G0, same := [63], look := [], ext := [] }
noncomputable def strconv_underscoreOK_ks : SFn := runK 60 Tryd.prog strconv_underscoreOK_kE strconv_underscoreOK_kH Tryd.f67
theorem strconv_underscoreOK_kok : SoundS Tryd.prog G0 67 strconv_underscoreOK_ks := soundS_sub (runF_sound (P := Tryd.prog) (E := strconv_underscoreOK_kE) (h := strconv_underscoreOK_kH) (f := 67) (fn := Tryd.f67) ⟨same_ok, (envP_cons strconv_lower_kpok envP_nil), envS_nil, envP_nil, envX_nil⟩ Tryd.func67 rfl (by kernel_rfl)) runK_sub
noncomputable def strconv_underscoreOK_kp : PFn := closeF strconv_underscoreOK_ks
theorem strconv_underscoreOK_kpok : SoundP Tryd.prog G0 67 strconv_underscoreOK_kp := closeF_sound strconv_underscoreOK_kok
def strconv_ParseUint_kH : Hints := { seqs := [(21, [0, 1, 2, 8, 9]), (25, [0, 1, 2, 8, 9]), (32, [0, 1, 2, 8, 9, 10]), (56, [9, 12, 13]), (46, [1, 8, 9, 10, 11, 12, 13, 16, 99, 100, 101])], loops := [(36, [1, 8, 9, 10, 11, 12, 13, 99, 100, 101])], own := [99] }
noncomputable def strconv_ParseUint_kE : Env := { pure := [(66, strconv_lower_kp), (67, strconv_underscoreOK_kp)], raw := [], glob := G0, same := [63], look := [], ext := [] }
noncomputable def strconv_ParseUint_ks : SFn := runK 60 Tryd.prog strconv_ParseUint_kE strconv_ParseUint_kH Tryd.f56
theorem strconv_ParseUint_kok : SoundS Tryd.prog G0 56 strconv_ParseUint_ks := soundS_sub (runF_sound (P := Tryd.prog) (E := strconv_ParseUint_kE) (h := strconv_ParseUint_kH) (f := 56) (fn := Tryd.f56) ⟨same_ok, (envP_cons strconv_lower_kpok (envP_cons strconv_underscoreOK_kpok envP_nil)), envS_nil, envP_nil, envX_nil⟩ Tryd.func56 rfl (by kernel_rfl)) runK_sub
noncomputable def strconv_ParseUint_kp : PFn := closeF strconv_ParseUint_ks
theorem strconv_ParseUint_kpok : SoundP Tryd.prog G0 56 strconv_ParseUint_kp := closeF_sound strconv_ParseUint_kok
def strconv_ParseInt_kH : Hints := { seqs := [(10, [0, 1, 2, 8]), (16, [2, 8, 9]), (24, [11])], loops := [], own := [] }
noncomputable def strconv_ParseInt_kE : Env := { pure := [(56, strconv_ParseUint_kp)], raw := [], glob := G0, same := [63], look := [], ext := [] }
noncomputable def strconv_ParseInt_ks : SFn := runK 60 Tryd.prog strconv_ParseInt_kE strconv_ParseInt_kH Tryd.f45
theorem strconv_ParseInt_kok : SoundS Tryd.prog G0 45 strconv_ParseInt_ks := soundS_sub (runF_sound (P := Tryd.prog) (E := strconv_ParseInt_kE) (h := strconv_ParseInt_kH) (f := 45) (fn := Tryd.f45) ⟨same_ok, (envP_cons strconv_ParseUint_kpok envP_nil), envS_nil, envP_nil, envX_nil⟩ Tryd.func45 rfl (by kernel_rfl)) runK_sub
noncomputable def strconv_ParseInt_kp : PFn := closeF strconv_ParseInt_ks
theorem strconv_ParseInt_kpok : SoundP Tryd.prog G0 45 strconv_ParseInt_kp := closeF_sound strconv_ParseInt_kok
def int_strconv_Atoi_kH : Hints := { seqs := [(20, [0]), (8, [0, 5]), (17, [5, 6]), (19, [6])], loops := [(10, [5, 6, 47, 48, 49])], own := [47] }
noncomputable def int_strconv_Atoi_kE : Env := { pure := [(45, strconv_ParseInt_kp)], raw := [], glob := G0, same := [63], look := [], ext := [] }
noncomputable def int_strconv_Atoi_ks : SFn := runK 60 Tryd.prog int_strconv_Atoi_kE int_strconv_Atoi_kH Tryd.f37
theorem int_strconv_Atoi_kok : SoundS Tryd.prog G0 37 int_strconv_Atoi_ks := soundS_sub (runF_sound (P := Tryd.prog) (E := int_strconv_Atoi_kE) (h := int_strconv_Atoi_kH) (f := 37) (fn := Tryd.f37) ⟨same_ok, (envP_cons strconv_ParseInt_kpok envP_nil), envS_nil, envP_nil, envX_nil⟩ Tryd.func37 rfl (by kernel_rfl)) runK_sub
noncomputable def int_strconv_Atoi_kp : PFn := closeF int_strconv_Atoi_ks
theorem int_strconv_Atoi_kpok : SoundP Tryd.prog G0 37 int_strconv_Atoi_kp := closeF_sound int_strconv_Atoi_kok
def stringslite_Clone_kH : Hints := { seqs := [], loops := [], own := [] }
noncomputable def stringslite_Clone_kE : Env := { pure := [], raw := [], glob := G0, same := [63], look := [], ext := [] }
noncomputable def stringslite_Clone_ks : SFn := runK 60 Tryd.prog stringslite_Clone_kE stringslite_Clone_kH Tryd.f57
theorem stringslite_Clone_kok : SoundS Tryd.prog G0 57 stringslite_Clone_ks := soundS_sub (runF_sound (P := Tryd.prog) (E := stringslite_Clone_kE) (h := stringslite_Clone_kH) (f := 57) (fn := Tryd.f57) ⟨same_ok, envP_nil, envS_nil, envP_nil, envX_nil⟩ Tryd.func57 rfl (by kernel_rfl)) runK_sub
noncomputable def stringslite_Clone_kp : PFn := closeF stringslite_Clone_ks
theorem stringslite_Clone_kpok : SoundP Tryd.prog G0 57 stringslite_Clone_kp := closeF_sound stringslite_Clone_kok
def strconv_syntaxError_kH : Hints := { seqs := [], loops := [], own := [] }
noncomputable def strconv_syntaxError_kE : Env := { pure := [(57, stringslite_Clone_kp)], raw := [], glob := G0, same := [63], look := [], ext := [] }
noncomputable def strconv_syntaxError_ks : SFn := runK 60 Tryd.prog strconv_syntaxError_kE strconv_syntaxError_kH Tryd.f46
theorem strconv_syntaxError_kok : SoundS Tryd.prog G0 46 strconv_syntaxError_ks := soundS_sub (runF_sound (P := Tryd.prog) (E := strconv_syntaxError_kE) (h := strconv_syntaxError_kH) (f := 46) (fn := Tryd.f46) ⟨same_ok, (envP_cons stringslite_Clone_kpok envP_nil), envS_nil, envP_nil, envX_nil⟩ Tryd.func46 rfl (by kernel_rfl)) runK_sub
noncomputable def strconv_syntaxError_kp : PFn := closeF strconv_syntaxError_ks
theorem strconv_syntaxError_kpok : SoundP Tryd.prog G0 46 strconv_syntaxError_kp := closeF_sound strconv_syntaxError_kok
def strconv_rangeError_kH : Hints := { seqs := [], loops := [], own := [] }
noncomputable def strconv_rangeError_kE : Env := { pure := [(57, stringslite_Clone_kp)], raw := [], glob := G0, same := [63], look := [], ext := [] }
noncomputable def strconv_rangeError_ks : SFn := runK 60 Tryd.prog strconv_rangeError_kE strconv_rangeError_kH Tryd.f47
theorem strconv_rangeError_kok : SoundS Tryd.prog G0 47 strconv_rangeError_ks := soundS_sub (runF_sound (P := Tryd.prog) (E := strconv_rangeError_kE) (h := strconv_rangeError_kH) (f := 47) (fn := Tryd.f47) ⟨same_ok, (envP_cons stringslite_Clone_kpok envP_nil), envS_nil, envP_nil, envX_nil⟩ Tryd.func47 rfl (by kernel_rfl)) runK_sub
noncomputable def strconv_rangeError_kp : PFn := closeF strconv_rangeError_ks
theorem strconv_rangeError_kpok : SoundP Tryd.prog G0 47 strconv_rangeError_kp := closeF_sound strconv_rangeError_kok
def strconv_small_kH : Hints := { seqs := [], loops := [], own := [] }
noncomputable def strconv_small_kE : Env := { pure := [], raw := [], glob := G0, same := [63], look := [], ext := [] }
noncomputable def strconv_small_ks : SFn := runK 60 Tryd.prog strconv_small_kE strconv_small_kH Tryd.f59
theorem strconv_small_kok : SoundS Tryd.prog G0 59 strconv_small_ks := soundS_sub (runF_sound (P := Tryd.prog) (E := strconv_small_kE) (h := strconv_small_kH) (f := 59) (fn := Tryd.f59) ⟨same_ok, envP_nil, envS_nil, envP_nil, envX_nil⟩ Tryd.func59 rfl (by kernel_rfl)) runK_sub
noncomputable def strconv_small_kp : PFn := closeF strconv_small_ks
theorem strconv_small_kpok : SoundP Tryd.prog G0 59 strconv_small_kp := closeF_sound strconv_small_kok
def bits_Len64_kH : Hints := { seqs := [(4, [0, 2]), (7, [0, 2]), (10, [0, 2])], loops := [], own := [] }
noncomputable def bits_Len64_kE : Env := { pure := [], raw := [], glob := G0, same := [63], look := [], ext := [] }
noncomputable def bits_Len64_ks : SFn := runK 60 Tryd.prog bits_Len64_kE bits_Len64_kH Tryd.f69
theorem bits_Len64_kok : SoundS Tryd.prog G0 69 bits_Len64_ks := soundS_sub (runF_sound (P := Tryd.prog) (E := bits_Len64_kE) (h := bits_Len64_kH) (f := 69) (fn := Tryd.f69) ⟨same_ok, envP_nil, envS_nil, envP_nil, envX_nil⟩ Tryd.func69 rfl (by kernel_rfl)) runK_sub
noncomputable def bits_Len64_kp : PFn := closeF bits_Len64_ks
theorem bits_Len64_kpok : SoundP Tryd.prog G0 69 bits_Len64_kp := closeF_sound bits_Len64_kok
def strconv_log10Pow2_kH : Hints := { seqs := [], loops := [], own := [] }
noncomputable def strconv_log10Pow2_kE : Env := { pure := [], raw := [], glob := G0, same := [63], look := [], ext := [] }
noncomputable def strconv_log10Pow2_ks : SFn := runK 60 Tryd.prog strconv_log10Pow2_kE strconv_log10Pow2_kH Tryd.f68
theorem strconv_log10Pow2_kok : SoundS Tryd.prog G0 68 strconv_log10Pow2_ks := soundS_sub (runF_sound (P := Tryd.prog) (E := strconv_log10Pow2_kE) (h := strconv_log10Pow2_kH) (f := 68) (fn := Tryd.f68) ⟨same_ok, envP_nil, envS_nil, envP_nil, envX_nil⟩ Tryd.func68 rfl (by kernel_rfl)) runK_sub
noncomputable def strconv_log10Pow2_kp : PFn := closeF strconv_log10Pow2_ks
theorem strconv_log10Pow2_kpok : SoundP Tryd.prog G0 68 strconv_log10Pow2_kp := closeF_sound strconv_log10Pow2_kok
def strconv_bool2_int_kH : Hints := { seqs := [], loops := [], own := [] }
noncomputable def strconv_bool2_int_kE : Env := { pure := [], raw := [], glob := G0, same := [63], look := [], ext := [] }
noncomputable def strconv_bool2_int_ks : SFn := runK 60 Tryd.prog strconv_bool2_int_kE strconv_bool2_int_kH Tryd.f70
theorem strconv_bool2_int_kok : SoundS Tryd.prog G0 70 strconv_bool2_int_ks := soundS_sub (runF_sound (P := Tryd.prog) (E := strconv_bool2_int_kE) (h := strconv_bool2_int_kH) (f := 70) (fn := Tryd.f70) ⟨same_ok, envP_nil, envS_nil, envP_nil, envX_nil⟩ Tryd.func70 rfl (by kernel_rfl)) runK_sub
noncomputable def strconv_bool2_int_kp : PFn := closeF strconv_bool2_int_ks
theorem strconv_bool2_int_kpok : SoundP Tryd.prog G0 70 strconv_bool2_int_kp := closeF_sound strconv_bool2_int_kok
def strconv_numDigits_kH : Hints := { seqs := [], loops := [], own := [] }
noncomputable def strconv_numDigits_kE : Env := { pure := [(68, strconv_log10Pow2_kp), (69, bits_Len64_kp), (70, strconv_bool2_int_kp)], raw := [], glob := G0, same := [63], look := [], ext := [] }
noncomputable def strconv_numDigits_ks : SFn := runK 60 Tryd.prog strconv_numDigits_kE strconv_numDigits_kH Tryd.f60
theorem strconv_numDigits_kok : SoundS Tryd.prog G0 60 strconv_numDigits_ks := soundS_sub (runF_sound (P := Tryd.prog) (E := strconv_numDigits_kE) (h := strconv_numDigits_kH) (f := 60) (fn := Tryd.f60) ⟨same_ok, (envP_cons strconv_log10Pow2_kpok (envP_cons bits_Len64_kpok (envP_cons strconv_bool2_int_kpok envP_nil))), envS_nil, envP_nil, envX_nil⟩ Tryd.func60 rfl (by kernel_rfl)) runK_sub
noncomputable def strconv_numDigits_kp : PFn := closeF strconv_numDigits_ks
theorem strconv_numDigits_kpok : SoundP Tryd.prog G0 60 strconv_numDigits_kp := closeF_sound strconv_numDigits_kok
def strconv_formatBase10_kH : Hints := { seqs := [(12, [0, 1, 4]), (20, [0, 4, 12]), (25, [0, 4, 12])], loops := [(1, [0, 1, 4])], own := [] }
noncomputable def strconv_formatBase10_kE : Env := { pure := [], raw := [], glob := G0, same := [63], look := [], ext := [] }
noncomputable def strconv_formatBase10_ks : SFn := runK 60 Tryd.prog strconv_formatBase10_kE strconv_formatBase10_kH Tryd.f61
theorem strconv_formatBase10_kok : SoundS Tryd.prog G0 61 strconv_formatBase10_ks := soundS_sub (runF_sound (P := Tryd.prog) (E := strconv_formatBase10_kE) (h := strconv_formatBase10_kH) (f := 61) (fn := Tryd.f61) ⟨same_ok, envP_nil, envS_nil, envP_nil, envX_nil⟩ Tryd.func61 rfl (by kernel_rfl)) runK_sub
noncomputable def strconv_formatBase10_kp : PFn := closeF strconv_formatBase10_ks
theorem strconv_formatBase10_kpok : SoundP Tryd.prog G0 61 strconv_formatBase10_kp := closeF_sound strconv_formatBase10_kok
def strconv_isPowerOfTwo_kH : Hints := { seqs := [], loops := [], own := [] }
noncomputable def strconv_isPowerOfTwo_kE : Env := { pure := [], raw := [], glob := G0, same := [63], look := [], ext := [] }
noncomputable def strconv_isPowerOfTwo_ks : SFn := runK 60 Tryd.prog strconv_isPowerOfTwo_kE strconv_isPowerOfTwo_kH Tryd.f71
theorem strconv_isPowerOfTwo_kok : SoundS Tryd.prog G0 71 strconv_isPowerOfTwo_ks := soundS_sub (runF_sound (P := Tryd.prog) (E := strconv_isPowerOfTwo_kE) (h := strconv_isPowerOfTwo_kH) (f := 71) (fn := Tryd.f71) ⟨same_ok, envP_nil, envS_nil, envP_nil, envX_nil⟩ Tryd.func71 rfl (by kernel_rfl)) runK_sub
noncomputable def strconv_isPowerOfTwo_kp : PFn := closeF strconv_isPowerOfTwo_ks
theorem strconv_isPowerOfTwo_kpok : SoundP Tryd.prog G0 71 strconv_isPowerOfTwo_kp := closeF_sound strconv_isPowerOfTwo_kok
def bits_TrailingZeros32_kH : Hints := { seqs := [], loops := [], own := [] }
noncomputable def bits_TrailingZeros32_kE : Env := { pure := [], raw := [], glob := G0, same := [63], look := [], ext := [] }
noncomputable def bits_TrailingZeros32_ks : SFn := runK 60 Tryd.prog bits_TrailingZeros32_kE bits_TrailingZeros32_kH Tryd.f73
theorem bits_TrailingZeros32_kok : SoundS Tryd.prog G0 73 bits_TrailingZeros32_ks := soundS_sub (runF_sound (P := Tryd.prog) (E := bits_TrailingZeros32_kE) (h := bits_TrailingZeros32_kH) (f := 73) (fn := Tryd.f73) ⟨same_ok, envP_nil, envS_nil, envP_nil, envX_nil⟩ Tryd.func73 rfl (by kernel_rfl)) runK_sub
noncomputable def bits_TrailingZeros32_kp : PFn := closeF bits_TrailingZeros32_ks
theorem bits_TrailingZeros32_kpok : SoundP Tryd.prog G0 73 bits_TrailingZeros32_kp := closeF_sound bits_TrailingZeros32_kok
def bits_TrailingZeros64_kH : Hints := { seqs := [], loops := [], own := [] }
noncomputable def bits_TrailingZeros64_kE : Env := { pure := [], raw := [], glob := G0, same := [63], look := [], ext := [] }
noncomputable def bits_TrailingZeros64_ks : SFn := runK 60 Tryd.prog bits_TrailingZeros64_kE bits_TrailingZeros64_kH Tryd.f74
theorem bits_TrailingZeros64_kok : SoundS Tryd.prog G0 74 bits_TrailingZeros64_ks := soundS_sub (runF_sound (P := Tryd.prog) (E := bits_TrailingZeros64_kE) (h := bits_TrailingZeros64_kH) (f := 74) (fn := Tryd.f74) ⟨same_ok, envP_nil, envS_nil, envP_nil, envX_nil⟩ Tryd.func74 rfl (by kernel_rfl)) runK_sub
noncomputable def bits_TrailingZeros64_kp : PFn := closeF bits_TrailingZeros64_ks
theorem bits_TrailingZeros64_kpok : SoundP Tryd.prog G0 74 bits_TrailingZeros64_kp := closeF_sound bits_TrailingZeros64_kok
def bits_TrailingZeros_kH : Hints := { seqs := [], loops := [], own := [] }
noncomputable def bits_TrailingZeros_kE : Env := { pure := [(73, bits_TrailingZeros32_kp), (74, bits_TrailingZeros64_kp)], raw := [], glob := G0, same := [63], look := [], ext := [] }
noncomputable def bits_TrailingZeros_ks : SFn := runK 60 Tryd.prog bits_TrailingZeros_kE bits_TrailingZeros_kH Tryd.f72
theorem bits_TrailingZeros_kok : SoundS Tryd.prog G0 72 bits_TrailingZeros_ks := soundS_sub (runF_sound (P := Tryd.prog) (E := bits_TrailingZeros_kE) (h := bits_TrailingZeros_kH) (f := 72) (fn := Tryd.f72) ⟨same_ok, (envP_cons bits_TrailingZeros32_kpok (envP_cons bits_TrailingZeros64_kpok envP_nil)), envS_nil, envP_nil, envX_nil⟩ Tryd.func72 rfl (by kernel_rfl)) runK_sub
noncomputable def bits_TrailingZeros_kp : PFn := closeF bits_TrailingZeros_ks
theorem bits_TrailingZeros_kpok : SoundP Tryd.prog G0 72 bits_TrailingZeros_kp := closeF_sound bits_TrailingZeros_kok
def strconv_FormatInt_kH : Hints := { seqs := [(8, [0, 5, 6])], loops := [], own := [39, 43] }
noncomputable def strconv_FormatInt_kE : Env := { pure := [(59, strconv_small_kp), (60, strconv_numDigits_kp), (61, strconv_formatBase10_kp)], raw := [], glob := G0, same := [63], look := [], ext := [] }
noncomputable def strconv_FormatInt_ks : SFn := runK 60 Tryd.prog strconv_FormatInt_kE strconv_FormatInt_kH Tryd.f50
theorem strconv_FormatInt_kok : SoundS Tryd.prog G0 50 strconv_FormatInt_ks := soundS_sub (runF_sound (P := Tryd.prog) (E := strconv_FormatInt_kE) (h := strconv_FormatInt_kH) (f := 50) (fn := Tryd.f50) ⟨same_ok, (envP_cons strconv_small_kpok (envP_cons strconv_numDigits_kpok (envP_cons strconv_formatBase10_kpok envP_nil))), envS_nil, envP_nil, envX_nil⟩ Tryd.func50 rfl (by kernel_rfl)) runK_sub
noncomputable def strconv_FormatInt_kp : PFn := closeF strconv_FormatInt_ks
theorem strconv_FormatInt_kpok : SoundP Tryd.prog G0 50 strconv_FormatInt_kp := closeF_sound strconv_FormatInt_kok
def int_strconv_Itoa_kH : Hints := { seqs := [], loops := [], own := [] }
noncomputable def int_strconv_Itoa_kE : Env := { pure := [(50, strconv_FormatInt_kp)], raw := [], glob := G0, same := [63], look := [], ext := [] }
noncomputable def int_strconv_Itoa_ks : SFn := runK 60 Tryd.prog int_strconv_Itoa_kE int_strconv_Itoa_kH Tryd.f40
theorem int_strconv_Itoa_kok : SoundS Tryd.prog G0 40 int_strconv_Itoa_ks := soundS_sub (runF_sound (P := Tryd.prog) (E := int_strconv_Itoa_kE) (h := int_strconv_Itoa_kH) (f := 40) (fn := Tryd.f40) ⟨same_ok, (envP_cons strconv_FormatInt_kpok envP_nil), envS_nil, envP_nil, envX_nil⟩ Tryd.func40 rfl (by kernel_rfl)) runK_sub
noncomputable def int_strconv_Itoa_kp : PFn := closeF int_strconv_Itoa_ks
theorem int_strconv_Itoa_kpok : SoundP Tryd.prog G0 40 int_strconv_Itoa_kp := closeF_sound int_strconv_Itoa_kok
def strconv_Itoa_kH : Hints := { seqs := [], loops := [], own := [] }
noncomputable def strconv_Itoa_kE : Env := { pure := [(40, int_strconv_Itoa_kp)], raw := [], glob := G0, same := [63], look := [], ext := [] }
noncomputable def strconv_Itoa_ks : SFn := runK 60 Tryd.prog strconv_Itoa_kE strconv_Itoa_kH Tryd.f28
theorem strconv_Itoa_kok : SoundS Tryd.prog G0 28 strconv_Itoa_ks := soundS_sub (runF_sound (P := Tryd.prog) (E := strconv_Itoa_kE) (h := strconv_Itoa_kH) (f := 28) (fn := Tryd.f28) ⟨same_ok, (envP_cons int_strconv_Itoa_kpok envP_nil), envS_nil, envP_nil, envX_nil⟩ Tryd.func28 rfl (by kernel_rfl)) runK_sub
noncomputable def strconv_Itoa_kp : PFn := closeF strconv_Itoa_ks
theorem strconv_Itoa_kpok : SoundP Tryd.prog G0 28 strconv_Itoa_kp := closeF_sound strconv_Itoa_kok
def errors_New_kH : Hints := { seqs := [], loops := [], own := [] }
noncomputable def errors_New_kE : Env := { pure := [], raw := [], glob := G0, same := [63], look := [], ext := [] }
noncomputable def errors_New_ks : SFn := runK 60 Tryd.prog errors_New_kE errors_New_kH Tryd.f58
theorem errors_New_kok : SoundS Tryd.prog G0 58 errors_New_ks := soundS_sub (runF_sound (P := Tryd.prog) (E := errors_New_kE) (h := errors_New_kH) (f := 58) (fn := Tryd.f58) ⟨same_ok, envP_nil, envS_nil, envP_nil, envX_nil⟩ Tryd.func58 rfl (by kernel_rfl)) runK_sub
noncomputable def errors_New_kp : PFn := closeF errors_New_ks
theorem errors_New_kpok : SoundP Tryd.prog G0 58 errors_New_kp := closeF_sound errors_New_kok
def strconv_baseError_kH : Hints := { seqs := [], loops := [], own := [] }
noncomputable def strconv_baseError_kE : Env := { pure := [(28, strconv_Itoa_kp), (57, stringslite_Clone_kp), (58, errors_New_kp)], raw := [], glob := G0, same := [63], look := [], ext := [] }
noncomputable def strconv_baseError_ks : SFn := runK 60 Tryd.prog strconv_baseError_kE strconv_baseError_kH Tryd.f48
theorem strconv_baseError_kok : SoundS Tryd.prog G0 48 strconv_baseError_ks := soundS_sub (runF_sound (P := Tryd.prog) (E := strconv_baseError_kE) (h := strconv_baseError_kH) (f := 48) (fn := Tryd.f48) ⟨same_ok, (envP_cons strconv_Itoa_kpok (envP_cons stringslite_Clone_kpok (envP_cons errors_New_kpok envP_nil))), envS_nil, envP_nil, envX_nil⟩ Tryd.func48 rfl (by kernel_rfl)) runK_sub
noncomputable def strconv_baseError_kp : PFn := closeF strconv_baseError_ks
theorem strconv_baseError_kpok : SoundP Tryd.prog G0 48 strconv_baseError_kp := closeF_sound strconv_baseError_kok
def strconv_bitSizeError_kH : Hints := { seqs := [], loops := [], own := [] }
noncomputable def strconv_bitSizeError_kE : Env := { pure := [(28, strconv_Itoa_kp), (57, stringslite_Clone_kp), (58, errors_New_kp)], raw := [], glob := G0, same := [63], look := [], ext := [] }
noncomputable def strconv_bitSizeError_ks : SFn := runK 60 Tryd.prog strconv_bitSizeError_kE strconv_bitSizeError_kH Tryd.f49
theorem strconv_bitSizeError_kok : SoundS Tryd.prog G0 49 strconv_bitSizeError_ks := soundS_sub (runF_sound (P := Tryd.prog) (E := strconv_bitSizeError_kE) (h := strconv_bitSizeError_kH) (f := 49) (fn := Tryd.f49) ⟨same_ok, (envP_cons strconv_Itoa_kpok (envP_cons stringslite_Clone_kpok (envP_cons errors_New_kpok envP_nil))), envS_nil, envP_nil, envX_nil⟩ Tryd.func49 rfl (by kernel_rfl)) runK_sub
noncomputable def strconv_bitSizeError_kp : PFn := closeF strconv_bitSizeError_ks
theorem strconv_bitSizeError_kpok : SoundP Tryd.prog G0 49 strconv_bitSizeError_kp := closeF_sound strconv_bitSizeError_kok
def strconv_toError_kH : Hints := { seqs := [], loops := [], own := [] }
noncomputable def strconv_toError_kE : Env := { pure := [(46, strconv_syntaxError_kp), (47, strconv_rangeError_kp), (48, strconv_baseError_kp), (49, strconv_bitSizeError_kp)], raw := [], glob := G0, same := [63], look := [], ext := [] }
noncomputable def strconv_toError_ks : SFn := runK 60 Tryd.prog strconv_toError_kE strconv_toError_kH Tryd.f38
theorem strconv_toError_kok : SoundS Tryd.prog G0 38 strconv_toError_ks := soundS_sub (runF_sound (P := Tryd.prog) (E := strconv_toError_kE) (h := strconv_toError_kH) (f := 38) (fn := Tryd.f38) ⟨same_ok, (envP_cons strconv_syntaxError_kpok (envP_cons strconv_rangeError_kpok (envP_cons strconv_baseError_kpok (envP_cons strconv_bitSizeError_kpok envP_nil)))), envS_nil, envP_nil, envX_nil⟩ Tryd.func38 rfl (by kernel_rfl)) runK_sub
noncomputable def strconv_toError_kp : PFn := closeF strconv_toError_ks
theorem strconv_toError_kpok : SoundP Tryd.prog G0 38 strconv_toError_kp := closeF_sound strconv_toError_kok
def strconv_Atoi_kH : Hints := { seqs := [], loops := [], own := [] }
noncomputable def strconv_Atoi_kE : Env := { pure := [(37, int_strconv_Atoi_kp), (38, strconv_toError_kp)], raw := [], glob := G0, same := [63], look := [], ext := [] }
noncomputable def strconv_Atoi_ks : SFn := runK 60 Tryd.prog strconv_Atoi_kE strconv_Atoi_kH Tryd.f24
theorem strconv_Atoi_kok : SoundS Tryd.prog G0 24 strconv_Atoi_ks := soundS_sub (runF_sound (P := Tryd.prog) (E := strconv_Atoi_kE) (h := strconv_Atoi_kH) (f := 24) (fn := Tryd.f24) ⟨same_ok, (envP_cons int_strconv_Atoi_kpok (envP_cons strconv_toError_kpok envP_nil)), envS_nil, envP_nil, envX_nil⟩ Tryd.func24 rfl (by kernel_rfl)) runK_sub
noncomputable def strconv_Atoi_kp : PFn := closeF strconv_Atoi_ks
theorem strconv_Atoi_kpok : SoundP Tryd.prog G0 24 strconv_Atoi_kp := closeF_sound strconv_Atoi_kok
def dot_Right_kH : Hints := { seqs := [], loops := [], own := [] }
noncomputable def dot_Right_kE : Env := { pure := [], raw := [], glob := G0, same := [63], look := [], ext := [] }
noncomputable def dot_Right_ks : SFn := runK 60 Tryd.prog dot_Right_kE dot_Right_kH Tryd.f11
theorem dot_Right_kok : SoundS Tryd.prog G0 11 dot_Right_ks := soundS_sub (runF_sound (P := Tryd.prog) (E := dot_Right_kE) (h := dot_Right_kH) (f := 11) (fn := Tryd.f11) ⟨same_ok, envP_nil, envS_nil, envP_nil, envX_nil⟩ Tryd.func11 rfl (by kernel_rfl)) runK_sub
noncomputable def dot_Right_kp : PFn := closeF dot_Right_ks
theorem dot_Right_kpok : SoundP Tryd.prog G0 11 dot_Right_kp := closeF_sound dot_Right_kok
def dot_Text_kH : Hints := { seqs := [], loops := [], own := [] }
noncomputable def dot_Text_kE : Env := { pure := [(28, strconv_Itoa_kp)], raw := [], glob := G0, same := [63], look := [], ext := [] }
noncomputable def dot_Text_ks : SFn := runK 60 Tryd.prog dot_Text_kE dot_Text_kH Tryd.f13
theorem dot_Text_kok : SoundS Tryd.prog G0 13 dot_Text_ks := soundS_sub (runF_sound (P := Tryd.prog) (E := dot_Text_kE) (h := dot_Text_kH) (f := 13) (fn := Tryd.f13) ⟨same_ok, (envP_cons strconv_Itoa_kpok envP_nil), envS_nil, envP_nil, envX_nil⟩ Tryd.func13 rfl (by kernel_rfl)) runK_sub
noncomputable def dot_Text_kp : PFn := closeF dot_Text_ks
theorem dot_Text_kpok : SoundP Tryd.prog G0 13 dot_Text_kp := closeF_sound dot_Text_kok
def dot_Parse_kH : Hints := { seqs := [], loops := [], own := [] }
noncomputable def dot_Parse_kE : Env := { pure := [(11, dot_Right_kp), (13, dot_Text_kp), (23, strings_Cut_kp), (24, strconv_Atoi_kp)], raw := [], glob := G0, same := [63], look := [], ext := [] }
noncomputable def dot_Parse_ks : SFn := runK 60 Tryd.prog dot_Parse_kE dot_Parse_kH Tryd.f7
theorem dot_Parse_kok : SoundS Tryd.prog G0 7 dot_Parse_ks := soundS_sub (runF_sound (P := Tryd.prog) (E := dot_Parse_kE) (h := dot_Parse_kH) (f := 7) (fn := Tryd.f7) ⟨same_ok, (envP_cons dot_Right_kpok (envP_cons dot_Text_kpok (envP_cons strings_Cut_kpok (envP_cons strconv_Atoi_kpok envP_nil)))), envS_nil, envP_nil, envX_nil⟩ Tryd.func7 rfl (by kernel_rfl)) runK_sub
noncomputable def dot_Parse_kp : PFn := closeF dot_Parse_ks
theorem dot_Parse_kpok : SoundP Tryd.prog G0 7 dot_Parse_kp := closeF_sound dot_Parse_kok
def cmp_isNaN_int_kH : Hints := { seqs := [], loops := [], own := [] }
noncomputable def cmp_isNaN_int_kE : Env := { pure := [], raw := [], glob := G0, same := [63], look := [], ext := [] }
noncomputable def cmp_isNaN_int_ks : SFn := runK 60 Tryd.prog cmp_isNaN_int_kE cmp_isNaN_int_kH Tryd.f39
theorem cmp_isNaN_int_kok : SoundS Tryd.prog G0 39 cmp_isNaN_int_ks := soundS_sub (runF_sound (P := Tryd.prog) (E := cmp_isNaN_int_kE) (h := cmp_isNaN_int_kH) (f := 39) (fn := Tryd.f39) ⟨same_ok, envP_nil, envS_nil, envP_nil, envX_nil⟩ Tryd.func39 rfl (by kernel_rfl)) runK_sub
noncomputable def cmp_isNaN_int_kp : PFn := closeF cmp_isNaN_int_ks
theorem cmp_isNaN_int_kpok : SoundP Tryd.prog G0 39 cmp_isNaN_int_kp := closeF_sound cmp_isNaN_int_kok
def cmp_Compare_int_kH : Hints := { seqs := [], loops := [], own := [] }
noncomputable def cmp_Compare_int_kE : Env := { pure := [(39, cmp_isNaN_int_kp)], raw := [], glob := G0, same := [63], look := [], ext := [] }
noncomputable def cmp_Compare_int_ks : SFn := runK 60 Tryd.prog cmp_Compare_int_kE cmp_Compare_int_kH Tryd.f27
theorem cmp_Compare_int_kok : SoundS Tryd.prog G0 27 cmp_Compare_int_ks := soundS_sub (runF_sound (P := Tryd.prog) (E := cmp_Compare_int_kE) (h := cmp_Compare_int_kH) (f := 27) (fn := Tryd.f27) ⟨same_ok, (envP_cons cmp_isNaN_int_kpok envP_nil), envS_nil, envP_nil, envX_nil⟩ Tryd.func27 rfl (by kernel_rfl)) runK_sub
noncomputable def cmp_Compare_int_kp : PFn := closeF cmp_Compare_int_ks
theorem cmp_Compare_int_kpok : SoundP Tryd.prog G0 27 cmp_Compare_int_kp := closeF_sound cmp_Compare_int_kok
def cmp_Or_int_kH : Hints := { seqs := [], loops := [(3, [3, 6, 7, 8])], own := [] }
noncomputable def cmp_Or_int_kE : Env := { pure := [], raw := [], glob := G0, same := [63], look := [], ext := [] }
noncomputable def cmp_Or_int_ks : SFn := runK 60 Tryd.prog cmp_Or_int_kE cmp_Or_int_kH Tryd.f26
theorem cmp_Or_int_kok : SoundS Tryd.prog G0 26 cmp_Or_int_ks := soundS_sub (runF_sound (P := Tryd.prog) (E := cmp_Or_int_kE) (h := cmp_Or_int_kH) (f := 26) (fn := Tryd.f26) ⟨same_ok, envP_nil, envS_nil, envP_nil, envX_nil⟩ Tryd.func26 rfl (by kernel_rfl)) runK_sub
noncomputable def cmp_Or_int_kp : PFn := closeF cmp_Or_int_ks
theorem cmp_Or_int_kpok : SoundP Tryd.prog G0 26 cmp_Or_int_kp := closeF_sound cmp_Or_int_kok
def dot_Compare_kH : Hints := { seqs := [], loops := [], own := [] }
noncomputable def dot_Compare_kE : Env := { pure := [(26, cmp_Or_int_kp), (27, cmp_Compare_int_kp)], raw := [], glob := G0, same := [63], look := [], ext := [] }
noncomputable def dot_Compare_ks : SFn := runK 60 Tryd.prog dot_Compare_kE dot_Compare_kH Tryd.f10
theorem dot_Compare_kok : SoundS Tryd.prog G0 10 dot_Compare_ks := soundS_sub (runF_sound (P := Tryd.prog) (E := dot_Compare_kE) (h := dot_Compare_kH) (f := 10) (fn := Tryd.f10) ⟨same_ok, (envP_cons cmp_Or_int_kpok (envP_cons cmp_Compare_int_kpok envP_nil)), envS_nil, envP_nil, envX_nil⟩ Tryd.func10 rfl (by kernel_rfl)) runK_sub
noncomputable def dot_Compare_kp : PFn := closeF dot_Compare_ks
theorem dot_Compare_kpok : SoundP Tryd.prog G0 10 dot_Compare_kp := closeF_sound dot_Compare_kok
def law04_awake_kH : Hints := { seqs := [], loops := [], own := [] }
noncomputable def law04_awake_kE : Env := { pure := [(7, dot_Parse_kp), (10, dot_Compare_kp), (11, dot_Right_kp)], raw := [], glob := G0, same := [63], look := [], ext := [] }
noncomputable def law04_awake_ks : SFn := runK 60 Tryd.prog law04_awake_kE law04_awake_kH Tryd.f9
theorem law04_awake_kok : SoundS Tryd.prog G0 9 law04_awake_ks := soundS_sub (runF_sound (P := Tryd.prog) (E := law04_awake_kE) (h := law04_awake_kH) (f := 9) (fn := Tryd.f9) ⟨same_ok, (envP_cons dot_Parse_kpok (envP_cons dot_Compare_kpok (envP_cons dot_Right_kpok envP_nil))), envS_nil, envP_nil, envX_nil⟩ Tryd.func9 rfl (by kernel_rfl)) runK_sub
noncomputable def law04_awake_kp : PFn := closeF law04_awake_ks
theorem law04_awake_kpok : SoundP Tryd.prog G0 9 law04_awake_kp := closeF_sound law04_awake_kok
theorem law04_awake_kt : law04_awake_kp [] = some (.bool true) := by kernel_rfl
noncomputable def law04_awake_F : PFn := fun xs => match xs with | [] => some (.bool true) | _ => none
theorem law04_awake_Fok : SoundP Tryd.prog G0 9 law04_awake_F := soundP_at law04_awake_kpok law04_awake_kt
def law04_awake : Option Bool := some true
noncomputable def law04_awake_T : TFn := { ps := .unit, res := .bool, fn := fun _ => law04_awake }
theorem law04_awake_ok : TOk law04_awake_F law04_awake_T := given_bool rfl
end Go.Proofs.YtekmegajjfapaaaDoor.K
set_option linter.unusedVariables false
set_option maxRecDepth 100000
namespace Go.Proofs.YtekmegajjfapaaaDoor.L
open Go.EM Go.TY Go.Proofs Go.Proofs.YtekmegajjfapaaaDoor.Y Go.Proofs.YtekmegajjfapaaaDoor.K
-- palinode/palinodelaw04.DotRow
noncomputable def law04_DotRow_E : Env := { pure := [(9, law04_awake_F), (10, dot_Compare_F)], raw := [], glob := G0, same := [63], look := [], ext := [] }
def law04_DotRow_H : Hints := { seqs := [], loops := [], own := [] }
noncomputable def law04_DotRow_F : PFn := closeF (runF Tryd.prog law04_DotRow_E law04_DotRow_H Tryd.f4)
def law04_DotRow_Y : TH := { joins := [], loops := [], cuts := [(2, [(14, { keep := [(32, .bool)], mem := [.same, .same, .same] })])], ro := [3, 4, 5], news := [] }
noncomputable def law04_DotRow (a0 : (Int × Int × Unit)) (a1 : (Int × Int × Unit)) (a2 : (Int × Int × Unit)) : Option Bool :=
(dot_Compare a0 a1).bind fun r1 =>
(dot_Compare a1 a2).bind fun r2 =>
(dot_Compare a0 a2).bind fun r3 =>
((dot_Compare a1 a0).bind fun r4 =>
 cond (decide (r4 = (IntKind.wrap .i64 (0 - r1)))) (some (((decide (r1 = 0)) == (eqV (.agg (.cons (.int .i64) (.cons (.int .i64) .unit))) a0 a1)), ())) (some (false, ()))).bind fun v5 =>
 cond v5.1 (cond (decide (r1 > 0)) ((law04_awake).bind fun r6 =>
 some r6) (cond (decide (r2 > 0)) ((law04_awake).bind fun r7 =>
 some r7) (cond (decide (r3 ≤ 0)) ((law04_awake).bind fun r8 =>
 some r8) (some false)))) (some false)
noncomputable def law04_DotRow_T : TFn := { ps := (.cons (.agg (.cons (.int .i64) (.cons (.int .i64) .unit))) (.cons (.agg (.cons (.int .i64) (.cons (.int .i64) .unit))) (.cons (.agg (.cons (.int .i64) (.cons (.int .i64) .unit))) .unit))), res := .bool, fn := fun v => law04_DotRow v.1 v.2.1 v.2.2.1 }
noncomputable def law04_DotRow_V : TEnv := { pure := [(9, law04_awake_T), (10, dot_Compare_T)], look := [], glob := G0T, ty := [], raw := [] }
theorem law04_DotRow_eq : runY Tryd.prog law04_DotRow_E law04_DotRow_H law04_DotRow_V law04_DotRow_Y Tryd.f4 law04_DotRow_T.ps law04_DotRow_T.res = law04_DotRow_T.fn := by kernel_rfl
theorem law04_DotRow_Fok : SoundP Tryd.prog G0 4 law04_DotRow_F := closeF_sound (runF_sound (P := Tryd.prog) (E := law04_DotRow_E) (h := law04_DotRow_H) (f := 4) (fn := Tryd.f4) ⟨same_ok, (envP_cons law04_awake_Fok (envP_cons dot_Compare_Fok envP_nil)), envS_nil, envP_nil, envX_nil⟩ Tryd.func4 rfl (by kernel_rfl))
theorem law04_DotRow_ok : TOk law04_DotRow_F law04_DotRow_T := runY_ok (E := law04_DotRow_E) (ET := law04_DotRow_V) (EnvT.ofX (E := law04_DotRow_E) (ET := law04_DotRow_V) (pure_of (pairs_cons law04_awake_ok (pairs_cons dot_Compare_ok pairs_nil))) looks_nil raws_nil G0_ok) law04_DotRow_eq rfl
end Go.Proofs.YtekmegajjfapaaaDoor.L
