import Derived.Test.YtnafmjbakholcaaDoorW
import Derived.Test.YtnafmjbakholcaaDoorE15
import Derived.Test.YtnafmjbakholcaaDoorE16
import Derived.Test.YtnafmjbakholcaaDoorE17
import Derived.Test.YtnafmjbakholcaaDoorT12
set_option linter.unusedVariables false
set_option maxRecDepth 100000
namespace Go.Proofs.YtnafmjbakholcaaDoor.K
open Go.EM Go.TY Go.Proofs Go.Proofs.YtnafmjbakholcaaDoor.Y
def utf8_word_string_kH : Hints := { seqs := [], loops := [], own := [] }
noncomputable def utf8_word_string_kE : Env := { pure := [], raw := [], glob := G0, same := [28], look := [] }
noncomputable def utf8_word_string_ks : SFn := runK 60 Tryd.prog utf8_word_string_kE utf8_word_string_kH Tryd.f25
theorem utf8_word_string_kok : SoundS Tryd.prog G0 25 utf8_word_string_ks := soundS_sub (runF_sound (P := Tryd.prog) (E := utf8_word_string_kE) (h := utf8_word_string_kH) (f := 25) (fn := Tryd.f25) ⟨same_ok, envP_nil, envS_nil, envP_nil⟩ Tryd.func25 rfl (by kernel_rfl)) runK_sub
noncomputable def utf8_word_string_kp : PFn := closeF utf8_word_string_ks
theorem utf8_word_string_kpok : SoundP Tryd.prog G0 25 utf8_word_string_kp := closeF_sound utf8_word_string_kok
def utf8_ValidString_kH : Hints := { seqs := [(11, [0, 3])], loops := [(1, [0]), (9, [0])], own := [] }
noncomputable def utf8_ValidString_kE : Env := { pure := [(25, utf8_word_string_kp)], raw := [], glob := G0, same := [28], look := [] }
noncomputable def utf8_ValidString_ks : SFn := runK 60 Tryd.prog utf8_ValidString_kE utf8_ValidString_kH Tryd.f18
theorem utf8_ValidString_kok : SoundS Tryd.prog G0 18 utf8_ValidString_ks := soundS_sub (runF_sound (P := Tryd.prog) (E := utf8_ValidString_kE) (h := utf8_ValidString_kH) (f := 18) (fn := Tryd.f18) ⟨same_ok, (envP_cons utf8_word_string_kpok envP_nil), envS_nil, envP_nil⟩ Tryd.func18 rfl (by kernel_rfl)) runK_sub
noncomputable def utf8_ValidString_kp : PFn := closeF utf8_ValidString_ks
theorem utf8_ValidString_kpok : SoundP Tryd.prog G0 18 utf8_ValidString_kp := closeF_sound utf8_ValidString_kok
def utf8_RuneCountInString_kH : Hints := { seqs := [], loops := [(2, [2, 4])], own := [] }
noncomputable def utf8_RuneCountInString_kE : Env := { pure := [], raw := [], glob := G0, same := [28], look := [] }
noncomputable def utf8_RuneCountInString_ks : SFn := runK 60 Tryd.prog utf8_RuneCountInString_kE utf8_RuneCountInString_kH Tryd.f24
theorem utf8_RuneCountInString_kok : SoundS Tryd.prog G0 24 utf8_RuneCountInString_ks := soundS_sub (runF_sound (P := Tryd.prog) (E := utf8_RuneCountInString_kE) (h := utf8_RuneCountInString_kH) (f := 24) (fn := Tryd.f24) ⟨same_ok, envP_nil, envS_nil, envP_nil⟩ Tryd.func24 rfl (by kernel_rfl)) runK_sub
noncomputable def utf8_RuneCountInString_kp : PFn := closeF utf8_RuneCountInString_ks
theorem utf8_RuneCountInString_kpok : SoundP Tryd.prog G0 24 utf8_RuneCountInString_kp := closeF_sound utf8_RuneCountInString_kok
def glob_special_kH : Hints := { seqs := [], loops := [], own := [] }
noncomputable def glob_special_kE : Env := { pure := [], raw := [], glob := G0, same := [28], look := [] }
noncomputable def glob_special_ks : SFn := runK 60 Tryd.prog glob_special_kE glob_special_kH Tryd.f20
theorem glob_special_kok : SoundS Tryd.prog G0 20 glob_special_ks := soundS_sub (runF_sound (P := Tryd.prog) (E := glob_special_kE) (h := glob_special_kH) (f := 20) (fn := Tryd.f20) ⟨same_ok, envP_nil, envS_nil, envP_nil⟩ Tryd.func20 rfl (by kernel_rfl)) runK_sub
noncomputable def glob_special_kp : PFn := closeF glob_special_ks
theorem glob_special_kpok : SoundP Tryd.prog G0 20 glob_special_kp := closeF_sound glob_special_kok
def glob_parts_kH : Hints := { seqs := [(18, [4, 5])], loops := [(6, [4, 5, 17])], own := [] }
noncomputable def glob_parts_kE : Env := { pure := [(18, utf8_ValidString_kp), (20, glob_special_kp), (24, utf8_RuneCountInString_kp)], raw := [], glob := G0, same := [28], look := [] }
noncomputable def glob_parts_ks : SFn := runK 60 Tryd.prog glob_parts_kE glob_parts_kH Tryd.f17
theorem glob_parts_kok : SoundS Tryd.prog G0 17 glob_parts_ks := soundS_sub (runF_sound (P := Tryd.prog) (E := glob_parts_kE) (h := glob_parts_kH) (f := 17) (fn := Tryd.f17) ⟨same_ok, (envP_cons utf8_ValidString_kpok (envP_cons glob_special_kpok (envP_cons utf8_RuneCountInString_kpok envP_nil))), envS_nil, envP_nil⟩ Tryd.func17 rfl (by kernel_rfl)) runK_sub
noncomputable def glob_parts_kp : PFn := closeF glob_parts_ks
theorem glob_parts_kpok : SoundP Tryd.prog G0 17 glob_parts_kp := closeF_sound glob_parts_kok
def glob_fits_kH : Hints := { seqs := [(14, [0, 5]), (16, [0, 5])], loops := [(3, [0, 1, 5, 6, 7, 8]), (14, [0, 5])], own := [] }
noncomputable def glob_fits_kE : Env := { pure := [], raw := [], glob := G0, same := [28], look := [] }
noncomputable def glob_fits_ks : SFn := runK 60 Tryd.prog glob_fits_kE glob_fits_kH Tryd.f19
theorem glob_fits_kok : SoundS Tryd.prog G0 19 glob_fits_ks := soundS_sub (runF_sound (P := Tryd.prog) (E := glob_fits_kE) (h := glob_fits_kH) (f := 19) (fn := Tryd.f19) ⟨same_ok, envP_nil, envS_nil, envP_nil⟩ Tryd.func19 rfl (by kernel_rfl)) runK_sub
noncomputable def glob_fits_kp : PFn := closeF glob_fits_ks
theorem glob_fits_kpok : SoundP Tryd.prog G0 19 glob_fits_kp := closeF_sound glob_fits_kok
def glob_Match_kH : Hints := { seqs := [], loops := [], own := [20] }
noncomputable def glob_Match_kE : Env := { pure := [(17, glob_parts_kp), (18, utf8_ValidString_kp)], raw := [], glob := G0, same := [28], look := [(19, glob_fits_kp)] }
noncomputable def glob_Match_ks : SFn := runK 60 Tryd.prog glob_Match_kE glob_Match_kH Tryd.f10
theorem glob_Match_kok : SoundS Tryd.prog G0 10 glob_Match_ks := soundS_sub (runF_sound (P := Tryd.prog) (E := glob_Match_kE) (h := glob_Match_kH) (f := 10) (fn := Tryd.f10) ⟨same_ok, (envP_cons glob_parts_kpok (envP_cons utf8_ValidString_kpok envP_nil)), envS_nil, (envP_cons glob_fits_kpok envP_nil)⟩ Tryd.func10 rfl (by kernel_rfl)) runK_sub
noncomputable def glob_Match_kp : PFn := closeF glob_Match_ks
theorem glob_Match_kpok : SoundP Tryd.prog G0 10 glob_Match_kp := closeF_sound glob_Match_kok
def strings_Builder_copyCheck_kH : Hints := { seqs := [], loops := [], own := [6, 9, 11, 19] }
noncomputable def strings_Builder_copyCheck_kE : Env := { pure := [], raw := [], glob := G0, same := [28], look := [] }
noncomputable def strings_Builder_copyCheck_ks : SFn := runK 60 Tryd.prog strings_Builder_copyCheck_kE strings_Builder_copyCheck_kH Tryd.f26
theorem strings_Builder_copyCheck_kok : SoundS Tryd.prog G0 26 strings_Builder_copyCheck_ks := soundS_sub (runF_sound (P := Tryd.prog) (E := strings_Builder_copyCheck_kE) (h := strings_Builder_copyCheck_kH) (f := 26) (fn := Tryd.f26) ⟨same_ok, envP_nil, envS_nil, envP_nil⟩ Tryd.func26 rfl (by kernel_rfl)) runK_sub
def utf8_appendRuneNonASCII_kH : Hints := { seqs := [(7, [0, 1, 5, 25])], loops := [], own := [] }
noncomputable def utf8_appendRuneNonASCII_kE : Env := { pure := [], raw := [], glob := G0, same := [28], look := [] }
noncomputable def utf8_appendRuneNonASCII_ks : SFn := runK 60 Tryd.prog utf8_appendRuneNonASCII_kE utf8_appendRuneNonASCII_kH Tryd.f29
theorem utf8_appendRuneNonASCII_kok : SoundS Tryd.prog G0 29 utf8_appendRuneNonASCII_ks := soundS_sub (runF_sound (P := Tryd.prog) (E := utf8_appendRuneNonASCII_kE) (h := utf8_appendRuneNonASCII_kH) (f := 29) (fn := Tryd.f29) ⟨same_ok, envP_nil, envS_nil, envP_nil⟩ Tryd.func29 rfl (by kernel_rfl)) runK_sub
def utf8_AppendRune_kH : Hints := { seqs := [], loops := [], own := [] }
noncomputable def utf8_AppendRune_kE : Env := { pure := [], raw := [(29, utf8_appendRuneNonASCII_ks)], glob := G0, same := [28], look := [] }
noncomputable def utf8_AppendRune_ks : SFn := runK 60 Tryd.prog utf8_AppendRune_kE utf8_AppendRune_kH Tryd.f27
theorem utf8_AppendRune_kok : SoundS Tryd.prog G0 27 utf8_AppendRune_ks := soundS_sub (runF_sound (P := Tryd.prog) (E := utf8_AppendRune_kE) (h := utf8_AppendRune_kH) (f := 27) (fn := Tryd.f27) ⟨same_ok, envP_nil, (envS_cons utf8_appendRuneNonASCII_kok envS_nil), envP_nil⟩ Tryd.func27 rfl (by kernel_rfl)) runK_sub
def strings_Builder_WriteRune_kH : Hints := { seqs := [], loops := [], own := [] }
noncomputable def strings_Builder_WriteRune_kE : Env := { pure := [], raw := [(26, strings_Builder_copyCheck_ks), (27, utf8_AppendRune_ks)], glob := G0, same := [28], look := [] }
noncomputable def strings_Builder_WriteRune_ks : SFn := runK 60 Tryd.prog strings_Builder_WriteRune_kE strings_Builder_WriteRune_kH Tryd.f21
theorem strings_Builder_WriteRune_kok : SoundS Tryd.prog G0 21 strings_Builder_WriteRune_ks := soundS_sub (runF_sound (P := Tryd.prog) (E := strings_Builder_WriteRune_kE) (h := strings_Builder_WriteRune_kH) (f := 21) (fn := Tryd.f21) ⟨same_ok, envP_nil, (envS_cons strings_Builder_copyCheck_kok (envS_cons utf8_AppendRune_kok envS_nil)), envP_nil⟩ Tryd.func21 rfl (by kernel_rfl)) runK_sub
def strings_Builder_String_kH : Hints := { seqs := [], loops := [], own := [] }
noncomputable def strings_Builder_String_kE : Env := { pure := [], raw := [], glob := G0, same := [28], look := [] }
noncomputable def strings_Builder_String_ks : SFn := runK 60 Tryd.prog strings_Builder_String_kE strings_Builder_String_kH Tryd.f22
theorem strings_Builder_String_kok : SoundS Tryd.prog G0 22 strings_Builder_String_ks := soundS_sub (runF_sound (P := Tryd.prog) (E := strings_Builder_String_kE) (h := strings_Builder_String_kH) (f := 22) (fn := Tryd.f22) ⟨same_ok, envP_nil, envS_nil, envP_nil⟩ Tryd.func22 rfl (by kernel_rfl)) runK_sub
def glob_Quote_kH : Hints := { seqs := [], loops := [(3, [3, 7])], own := [] }
noncomputable def glob_Quote_kE : Env := { pure := [(20, glob_special_kp)], raw := [(21, strings_Builder_WriteRune_ks), (22, strings_Builder_String_ks)], glob := G0, same := [28], look := [] }
noncomputable def glob_Quote_ks : SFn := runK 60 Tryd.prog glob_Quote_kE glob_Quote_kH Tryd.f13
theorem glob_Quote_kok : SoundS Tryd.prog G0 13 glob_Quote_ks := soundS_sub (runF_sound (P := Tryd.prog) (E := glob_Quote_kE) (h := glob_Quote_kH) (f := 13) (fn := Tryd.f13) ⟨same_ok, (envP_cons glob_special_kpok envP_nil), (envS_cons strings_Builder_WriteRune_kok (envS_cons strings_Builder_String_kok envS_nil)), envP_nil⟩ Tryd.func13 rfl (by kernel_rfl)) runK_sub
noncomputable def glob_Quote_kp : PFn := closeF glob_Quote_ks
theorem glob_Quote_kpok : SoundP Tryd.prog G0 13 glob_Quote_kp := closeF_sound glob_Quote_kok
def glob_Right_kH : Hints := { seqs := [], loops := [], own := [] }
noncomputable def glob_Right_kE : Env := { pure := [(17, glob_parts_kp)], raw := [], glob := G0, same := [28], look := [] }
noncomputable def glob_Right_ks : SFn := runK 60 Tryd.prog glob_Right_kE glob_Right_kH Tryd.f9
theorem glob_Right_kok : SoundS Tryd.prog G0 9 glob_Right_ks := soundS_sub (runF_sound (P := Tryd.prog) (E := glob_Right_kE) (h := glob_Right_kH) (f := 9) (fn := Tryd.f9) ⟨same_ok, (envP_cons glob_parts_kpok envP_nil), envS_nil, envP_nil⟩ Tryd.func9 rfl (by kernel_rfl)) runK_sub
noncomputable def glob_Right_kp : PFn := closeF glob_Right_ks
theorem glob_Right_kpok : SoundP Tryd.prog G0 9 glob_Right_kp := closeF_sound glob_Right_kok
def law37_awake_kH : Hints := { seqs := [], loops := [], own := [] }
noncomputable def law37_awake_kE : Env := { pure := [(9, glob_Right_kp), (10, glob_Match_kp), (13, glob_Quote_kp)], raw := [], glob := G0, same := [28], look := [] }
noncomputable def law37_awake_ks : SFn := runK 60 Tryd.prog law37_awake_kE law37_awake_kH Tryd.f7
theorem law37_awake_kok : SoundS Tryd.prog G0 7 law37_awake_ks := soundS_sub (runF_sound (P := Tryd.prog) (E := law37_awake_kE) (h := law37_awake_kH) (f := 7) (fn := Tryd.f7) ⟨same_ok, (envP_cons glob_Right_kpok (envP_cons glob_Match_kpok (envP_cons glob_Quote_kpok envP_nil))), envS_nil, envP_nil⟩ Tryd.func7 rfl (by kernel_rfl)) runK_sub
noncomputable def law37_awake_kp : PFn := closeF law37_awake_ks
theorem law37_awake_kpok : SoundP Tryd.prog G0 7 law37_awake_kp := closeF_sound law37_awake_kok
theorem law37_awake_kt : law37_awake_kp [] = some (.bool true) := by kernel_rfl
noncomputable def law37_awake_F : PFn := fun xs => match xs with | [] => some (.bool true) | _ => none
theorem law37_awake_Fok : SoundP Tryd.prog G0 7 law37_awake_F := soundP_at law37_awake_kpok law37_awake_kt
def law37_awake : Option Bool := some true
noncomputable def law37_awake_T : TFn := { ps := .unit, res := .bool, fn := fun _ => law37_awake }
theorem law37_awake_ok : TOk law37_awake_F law37_awake_T := given_bool rfl
end Go.Proofs.YtnafmjbakholcaaDoor.K
