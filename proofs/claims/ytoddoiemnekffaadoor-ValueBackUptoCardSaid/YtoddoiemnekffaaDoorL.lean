import Derived.Test.YtoddoiemnekffaaDoorS
import Derived.Test.YtoddoiemnekffaaDoorT19
import Derived.Test.YtoddoiemnekffaaDoorE19
import Derived.Test.YtoddoiemnekffaaDoorT14
set_option linter.unusedVariables false
set_option maxRecDepth 100000
namespace Go.Proofs.YtoddoiemnekffaaDoor.Y
open Go.EM Go.TY Go.Proofs
noncomputable def G0 : List (Nat × AVal) := [(1, .rptr [.any]), (2, .rptr [.any]), (3, .rptr tabFirst8), (4, .rptr tabAccept8), (5, .rptr (Lib.pow10Tab.map (AVal.int .u64)))]
def G0T : List (Nat × TV) := []
theorem G0_ok : GlobsOk G0 G0T := globs_nil
theorem same_ok : ∀ f, memN f [72] = true → Same Tryd.prog f := by
  intro f h
  by_cases e72 : f = 72
  · subst e72; exact ⟨Tryd.f72, Tryd.func72, by kernel_rfl, by kernel_rfl, by kernel_rfl, by kernel_rfl⟩
  simp_all [memN]
-- internal/stringslite.HasPrefix
noncomputable def stringslite_HasPrefix_E : Env := { pure := [], raw := [], glob := G0, same := [72], look := [], ext := [] }
def stringslite_HasPrefix_H : Hints := { seqs := [], loops := [], own := [] }
noncomputable def stringslite_HasPrefix_F : PFn := closeF (runF Tryd.prog stringslite_HasPrefix_E stringslite_HasPrefix_H Tryd.f49)
def stringslite_HasPrefix_Y : TH := { joins := [], loops := [], cuts := [], ro := [], news := [] }
noncomputable def stringslite_HasPrefix (a0 : List UInt8) (a1 : List UInt8) : Option Bool :=
 cond (decide ((a0.length : Int) ≥ (a1.length : Int))) ((subI a0 0 (a1.length : Int)).bind fun s1 =>
 some (decide (s1 = a1))) (some false)
noncomputable def stringslite_HasPrefix_T : TFn := { ps := (.cons .str (.cons .str .unit)), res := .bool, fn := fun v => stringslite_HasPrefix v.1 v.2.1 }
noncomputable def stringslite_HasPrefix_V : TEnv := { pure := [], look := [], glob := G0T, ty := [], raw := [], fresh := [] }
theorem stringslite_HasPrefix_eq : runY Tryd.prog stringslite_HasPrefix_E stringslite_HasPrefix_H stringslite_HasPrefix_V stringslite_HasPrefix_Y Tryd.f49 stringslite_HasPrefix_T.ps stringslite_HasPrefix_T.res = stringslite_HasPrefix_T.fn := by kernel_rfl
theorem stringslite_HasPrefix_Fok : SoundP Tryd.prog G0 49 stringslite_HasPrefix_F := closeF_sound (runF_sound (P := Tryd.prog) (E := stringslite_HasPrefix_E) (h := stringslite_HasPrefix_H) (f := 49) (fn := Tryd.f49) ⟨same_ok, envP_nil, envS_nil, envP_nil, envX_nil⟩ Tryd.func49 rfl (by kernel_rfl))
theorem stringslite_HasPrefix_ok : TOk stringslite_HasPrefix_F stringslite_HasPrefix_T := runY_ok (E := stringslite_HasPrefix_E) (ET := stringslite_HasPrefix_V) (EnvT.ofX (E := stringslite_HasPrefix_E) (ET := stringslite_HasPrefix_V) (pure_of pairs_nil) looks_nil raws_nil G0_ok news_nil) stringslite_HasPrefix_eq rfl
-- strings.HasPrefix
noncomputable def strings_HasPrefix_E : Env := { pure := [(49, stringslite_HasPrefix_F)], raw := [], glob := G0, same := [72], look := [], ext := [] }
def strings_HasPrefix_H : Hints := { seqs := [], loops := [], own := [] }
noncomputable def strings_HasPrefix_F : PFn := closeF (runF Tryd.prog strings_HasPrefix_E strings_HasPrefix_H Tryd.f23)
def strings_HasPrefix_Y : TH := { joins := [], loops := [], cuts := [], ro := [], news := [] }
noncomputable def strings_HasPrefix (a0 : List UInt8) (a1 : List UInt8) : Option Bool :=
(stringslite_HasPrefix a0 a1).bind fun r1 =>
 some r1
noncomputable def strings_HasPrefix_T : TFn := { ps := (.cons .str (.cons .str .unit)), res := .bool, fn := fun v => strings_HasPrefix v.1 v.2.1 }
noncomputable def strings_HasPrefix_V : TEnv := { pure := [(49, stringslite_HasPrefix_T)], look := [], glob := G0T, ty := [], raw := [], fresh := [] }
theorem strings_HasPrefix_eq : runY Tryd.prog strings_HasPrefix_E strings_HasPrefix_H strings_HasPrefix_V strings_HasPrefix_Y Tryd.f23 strings_HasPrefix_T.ps strings_HasPrefix_T.res = strings_HasPrefix_T.fn := by kernel_rfl
theorem strings_HasPrefix_Fok : SoundP Tryd.prog G0 23 strings_HasPrefix_F := closeF_sound (runF_sound (P := Tryd.prog) (E := strings_HasPrefix_E) (h := strings_HasPrefix_H) (f := 23) (fn := Tryd.f23) ⟨same_ok, (envP_cons stringslite_HasPrefix_Fok envP_nil), envS_nil, envP_nil, envX_nil⟩ Tryd.func23 rfl (by kernel_rfl))
theorem strings_HasPrefix_ok : TOk strings_HasPrefix_F strings_HasPrefix_T := runY_ok (E := strings_HasPrefix_E) (ET := strings_HasPrefix_V) (EnvT.ofX (E := strings_HasPrefix_E) (ET := strings_HasPrefix_V) (pure_of (pairs_cons stringslite_HasPrefix_ok pairs_nil)) looks_nil raws_nil G0_ok news_nil) strings_HasPrefix_eq rfl
-- (*strings.Builder).copyCheck
noncomputable def strings_Builder_copyCheck_E : Env := { pure := [], raw := [], glob := G0, same := [72], look := [], ext := [] }
def strings_Builder_copyCheck_H : Hints := { seqs := [], loops := [], own := [6, 9, 11, 19] }
noncomputable def strings_Builder_copyCheck_S : SFn := runF Tryd.prog strings_Builder_copyCheck_E strings_Builder_copyCheck_H Tryd.f62
def strings_Builder_copyCheck_Y : TH := { joins := [], loops := [], cuts := [], ro := [], news := [] }
noncomputable def strings_Builder_copyCheck (w0 : (Bool × Unit × Unit)) (w1 : List Int) : Option (Unit × (Bool × Unit × Unit) × List Int × Unit) :=
 cond (!w0.1) (
 some ((), (true, w0.2.1, ()), w1, ())) (
 cond (!w0.1) (
 none) (
 some ((), w0, w1, ())))
noncomputable def strings_Builder_copyCheck_R : TRaw := { ps := (.cons (.bx 0 0) .unit), ins := [.box 72 (.agg (.cons (.op 0) (.cons (.own 1) .unit))), .row true 5 (.int .u8)], res := (.tup .unit), outs := [.box 72 (.agg (.cons (.op 0) (.cons (.own 1) .unit))), .row true 5 (.int .u8)], fn := fun v w => strings_Builder_copyCheck w.1 w.2.1 }
noncomputable def strings_Builder_copyCheck_V : TEnv := { pure := [], look := [], glob := G0T, ty := [], raw := [], fresh := [] }
theorem strings_Builder_copyCheck_eq : rawY Tryd.prog strings_Builder_copyCheck_E strings_Builder_copyCheck_H strings_Builder_copyCheck_V strings_Builder_copyCheck_Y [(0, 0)] Tryd.f62 strings_Builder_copyCheck_R.ps strings_Builder_copyCheck_R.ins strings_Builder_copyCheck_R.res strings_Builder_copyCheck_R.outs = strings_Builder_copyCheck_R.fn := by kernel_rfl
theorem strings_Builder_copyCheck_Sok : SoundS Tryd.prog G0 62 strings_Builder_copyCheck_S := runF_sound (P := Tryd.prog) (E := strings_Builder_copyCheck_E) (h := strings_Builder_copyCheck_H) (f := 62) (fn := Tryd.f62) ⟨same_ok, envP_nil, envS_nil, envP_nil, envX_nil⟩ Tryd.func62 rfl (by kernel_rfl)
theorem strings_Builder_copyCheck_ok : TRawOk strings_Builder_copyCheck_S strings_Builder_copyCheck_R := rawY_ok (E := strings_Builder_copyCheck_E) (ET := strings_Builder_copyCheck_V) (EnvT.ofX (E := strings_Builder_copyCheck_E) (ET := strings_Builder_copyCheck_V) (pure_of pairs_nil) looks_nil raws_nil G0_ok news_nil) strings_Builder_copyCheck_eq
-- (*strings.Builder).WriteByte
noncomputable def strings_Builder_WriteByte_E : Env := { pure := [], raw := [(62, strings_Builder_copyCheck_S)], glob := G0, same := [72], look := [], ext := [] }
def strings_Builder_WriteByte_H : Hints := { seqs := [], loops := [], own := [] }
noncomputable def strings_Builder_WriteByte_S : SFn := runF Tryd.prog strings_Builder_WriteByte_E strings_Builder_WriteByte_H Tryd.f50
def strings_Builder_WriteByte_Y : TH := { joins := [], loops := [], cuts := [], ro := [], news := [] }
noncomputable def strings_Builder_WriteByte (a1 : Int) (w0 : (Bool × Unit × Unit)) (w1 : List Int) : Option (Bool × (Bool × Unit × Unit) × List Int × Unit) :=
(strings_Builder_copyCheck w0 w1).bind fun q1 =>
(roomT (q1.2.2.1.length + ([a1] : List Int).length)).bind fun u2 =>
 some (false, (q1.2.1.1, (), ()), (q1.2.2.1 ++ ([a1] : List Int)), ())
noncomputable def strings_Builder_WriteByte_R : TRaw := { ps := (.cons (.bx 0 0) (.cons (.int .u8) .unit)), ins := [.box 72 (.agg (.cons (.op 0) (.cons (.own 1) .unit))), .row true 5 (.int .u8)], res := .err, outs := [.box 72 (.agg (.cons (.op 0) (.cons (.own 1) .unit))), .row true 5 (.int .u8)], fn := fun v w => strings_Builder_WriteByte v.2.1 w.1 w.2.1 }
noncomputable def strings_Builder_WriteByte_V : TEnv := { pure := [], look := [], glob := G0T, ty := [(5, (.int .u8))], raw := [(62, strings_Builder_copyCheck_R)], fresh := [] }
theorem strings_Builder_WriteByte_eq : rawY Tryd.prog strings_Builder_WriteByte_E strings_Builder_WriteByte_H strings_Builder_WriteByte_V strings_Builder_WriteByte_Y [(0, 0)] Tryd.f50 strings_Builder_WriteByte_R.ps strings_Builder_WriteByte_R.ins strings_Builder_WriteByte_R.res strings_Builder_WriteByte_R.outs = strings_Builder_WriteByte_R.fn := by kernel_rfl
theorem strings_Builder_WriteByte_Sok : SoundS Tryd.prog G0 50 strings_Builder_WriteByte_S := runF_sound (P := Tryd.prog) (E := strings_Builder_WriteByte_E) (h := strings_Builder_WriteByte_H) (f := 50) (fn := Tryd.f50) ⟨same_ok, envP_nil, (envS_cons strings_Builder_copyCheck_Sok envS_nil), envP_nil, envX_nil⟩ Tryd.func50 rfl (by kernel_rfl)
theorem strings_Builder_WriteByte_ok : TRawOk strings_Builder_WriteByte_S strings_Builder_WriteByte_R := rawY_ok (E := strings_Builder_WriteByte_E) (ET := strings_Builder_WriteByte_V) (EnvT.ofX (E := strings_Builder_WriteByte_E) (ET := strings_Builder_WriteByte_V) (pure_of pairs_nil) looks_nil (raws_cons strings_Builder_copyCheck_ok rfl rfl raws_nil) G0_ok news_nil) strings_Builder_WriteByte_eq
-- (*strings.Builder).String
noncomputable def strings_Builder_String_E : Env := { pure := [], raw := [], glob := G0, same := [72], look := [], ext := [] }
def strings_Builder_String_H : Hints := { seqs := [], loops := [], own := [] }
noncomputable def strings_Builder_String_S : SFn := runF Tryd.prog strings_Builder_String_E strings_Builder_String_H Tryd.f51
def strings_Builder_String_Y : TH := { joins := [], loops := [], cuts := [], ro := [], news := [] }
noncomputable def strings_Builder_String (w0 : (Bool × Unit × Unit)) (w1 : List Int) : Option (List UInt8 × (Bool × Unit × Unit) × Unit) :=
 cond w1.isEmpty ((zeroN (w1.length : Int)).bind fun u1 =>
 some ([], w0, ())) ((wholeN 0 w1.length (w1.length : Int)).bind fun u2 =>
 some ((w1.map fun n => UInt8.ofNat n.toNat), w0, ()))
noncomputable def strings_Builder_String_R : TRaw := { ps := (.cons (.bx 0 0) .unit), ins := [.box 72 (.agg (.cons (.op 0) (.cons (.own 1) .unit))), .row true 5 (.int .u8)], res := .str, outs := [.box 72 (.agg (.cons (.op 0) (.cons (.own 1) .unit))), .gone], fn := fun v w => strings_Builder_String w.1 w.2.1 }
noncomputable def strings_Builder_String_V : TEnv := { pure := [], look := [], glob := G0T, ty := [], raw := [], fresh := [] }
theorem strings_Builder_String_eq : rawY Tryd.prog strings_Builder_String_E strings_Builder_String_H strings_Builder_String_V strings_Builder_String_Y [(0, 0)] Tryd.f51 strings_Builder_String_R.ps strings_Builder_String_R.ins strings_Builder_String_R.res strings_Builder_String_R.outs = strings_Builder_String_R.fn := by kernel_rfl
theorem strings_Builder_String_Sok : SoundS Tryd.prog G0 51 strings_Builder_String_S := runF_sound (P := Tryd.prog) (E := strings_Builder_String_E) (h := strings_Builder_String_H) (f := 51) (fn := Tryd.f51) ⟨same_ok, envP_nil, envS_nil, envP_nil, envX_nil⟩ Tryd.func51 rfl (by kernel_rfl)
theorem strings_Builder_String_ok : TRawOk strings_Builder_String_S strings_Builder_String_R := rawY_ok (E := strings_Builder_String_E) (ET := strings_Builder_String_V) (EnvT.ofX (E := strings_Builder_String_E) (ET := strings_Builder_String_V) (pure_of pairs_nil) looks_nil raws_nil G0_ok news_nil) strings_Builder_String_eq
-- palinode/value.unquote
noncomputable def value_unquote_E : Env := { pure := [], raw := [(50, strings_Builder_WriteByte_S), (51, strings_Builder_String_S)], glob := G0, same := [72], look := [], ext := [] }
def value_unquote_H : Hints := { seqs := [], loops := [(6, [0, 4, 5, 6])], own := [] }
noncomputable def value_unquote_F : PFn := closeF (runF Tryd.prog value_unquote_E value_unquote_H Tryd.f24)
def value_unquote_Y : TH := { joins := [(12, { keep := [(4, (.bx 1 0)), (5, .bool)], mem := [.row true 5 (.int .u8), .box 72 (.agg (.cons (.op 1) (.cons (.own 0) .unit)))] }), (10, { keep := [(4, (.bx 1 0))], mem := [.row true 5 (.int .u8), .box 72 (.agg (.cons (.op 1) (.cons (.own 0) .unit)))] })], loops := [(6, { keep := [(4, (.bx 1 0)), (5, .bool), (6, (.int .i64))], mem := [.row true 5 (.int .u8), .box 72 (.agg (.cons (.op 1) (.cons (.own 0) .unit)))] })], cuts := [], ro := [], news := [(4, ((.agg (.cons (.op 1) (.cons (.own 0) .unit))), [(5, (.int .u8))]))] }
noncomputable def value_unquote_l6 (a0 : List UInt8) (y6 : (Bool × Int × List Int × (Bool × Unit × Unit) × Unit)) : Option ((Bool × Int × List Int × (Bool × Unit × Unit) × Unit) ⊕ ((Bool × List Int × (Bool × Unit × Unit) × Unit) ⊕ (List UInt8 × Bool × Unit))) :=
 cond (decide (y6.2.1 < (IntKind.wrap .i64 ((a0.length : Int) - 1)))) (
(cond (!y6.1) ((atI a0 y6.2.1).bind fun b3 =>
 cond (decide ((b3.toNat : Int) = 92)) (
 some (.inr (.inl (true, (IntKind.wrap .i64 (y6.2.1 + 1)), y6.2.2.1, y6.2.2.2.1, ())))) (
 some (.inl (y6.2.2.1, y6.2.2.2.1, ())))) (some (.inl (y6.2.2.1, y6.2.2.2.1, ()))) : Option ((List Int × (Bool × Unit × Unit) × Unit) ⊕ ((Bool × Int × List Int × (Bool × Unit × Unit) × Unit) ⊕ ((Bool × List Int × (Bool × Unit × Unit) × Unit) ⊕ (List UInt8 × Bool × Unit))))).bind (joinS fun v4 =>
(atI a0 y6.2.1).bind fun b5 =>
(strings_Builder_WriteByte (b5.toNat : Int) (v4.2.1.1, (), ()) v4.1).bind fun q6 =>
 some (.inl (false, (IntKind.wrap .i64 (y6.2.1 + 1)), q6.2.2.1, q6.2.1, ())))) (
 some (.inr (.inl (y6.1, y6.2.2.1, y6.2.2.2.1, ()))))
noncomputable def value_unquote (a0 : List UInt8) : Option (List UInt8 × Bool × Unit) :=
 cond (decide ((a0.length : Int) < 2)) (some ([], false, ())) ((atI a0 0).bind fun b1 =>
 cond (!decide ((b1.toNat : Int) = 34)) (some ([], false, ())) ((atI a0 (IntKind.wrap .i64 ((a0.length : Int) - 1))).bind fun b2 =>
 cond (!decide ((b2.toNat : Int) = 34)) (
 some ([], false, ())) (
(loopT (value_unquote_l6 a0) (false, 1, [], (false, (), ()), ()) : Option ((Bool × List Int × (Bool × Unit × Unit) × Unit) ⊕ (List UInt8 × Bool × Unit))).bind (joinS fun v7 =>
(strings_Builder_String (v7.2.2.1.1, (), ()) v7.2.1).bind fun q8 =>
 some (q8.1, (!v7.1), ())))))
noncomputable def value_unquote_T : TFn := { ps := (.cons .str .unit), res := (.tup (.cons .str (.cons .bool .unit))), fn := fun v => value_unquote v.1 }
noncomputable def value_unquote_V : TEnv := { pure := [], look := [], glob := G0T, ty := [], raw := [(50, strings_Builder_WriteByte_R), (51, strings_Builder_String_R)], fresh := [] }
theorem value_unquote_eq : runY Tryd.prog value_unquote_E value_unquote_H value_unquote_V value_unquote_Y Tryd.f24 value_unquote_T.ps value_unquote_T.res = value_unquote_T.fn := by kernel_rfl
theorem value_unquote_Fok : SoundP Tryd.prog G0 24 value_unquote_F := closeF_sound (runF_sound (P := Tryd.prog) (E := value_unquote_E) (h := value_unquote_H) (f := 24) (fn := Tryd.f24) ⟨same_ok, envP_nil, (envS_cons strings_Builder_WriteByte_Sok (envS_cons strings_Builder_String_Sok envS_nil)), envP_nil, envX_nil⟩ Tryd.func24 rfl (by kernel_rfl))
theorem value_unquote_ok : TOk value_unquote_F value_unquote_T := runY_ok (E := value_unquote_E) (ET := value_unquote_V) (EnvT.ofX (E := value_unquote_E) (ET := value_unquote_V) (pure_of pairs_nil) looks_nil (raws_cons strings_Builder_WriteByte_ok rfl rfl (raws_cons strings_Builder_String_ok rfl rfl raws_nil)) G0_ok news_nil) value_unquote_eq rfl
-- strconv.Atoi
noncomputable def strconv_Atoi_F : PFn := (atoiF 86)
theorem strconv_Atoi_Fok : SoundP Tryd.prog G0 25 strconv_Atoi_F := atoi_sound (gs := 1) (gr := 2) ⟨Tryd.f25, Tryd.func25, rfl, by kernel_rfl⟩ (by kernel_rfl) (by kernel_rfl) (fun s hm v h w => Tryd.strconv_Atoi_ok s hm v h w) (fun s hl h ev w hv hev => (Tryd.strconv_Atoi_syntax s hl h ev w hv hev).mono fun e w' ⟨N, h1, _, _, h4⟩ => ⟨N, h1, h4⟩) (fun s hl h ev w hv hev => (Tryd.strconv_Atoi_range s hl h ev w hv hev).mono fun e w' ⟨N, h1, _, _, h4⟩ => ⟨N, h1, h4⟩)
noncomputable def strconv_Atoi (a0 : List UInt8) : Option (Int × Bool × Unit) := atoi a0
noncomputable def strconv_Atoi_T : TFn := atoi_T
theorem strconv_Atoi_ok : TOk strconv_Atoi_F strconv_Atoi_T := atoi_ok
-- unicode/utf8.DecodeRuneInString
noncomputable def utf8_DecodeRuneInString_F : PFn := decodeF
theorem utf8_DecodeRuneInString_Fok : SoundP Tryd.prog G0 56 utf8_DecodeRuneInString_F := decode_sound (g3 := 3) (g4 := 4) ⟨Tryd.f56, Tryd.func56, rfl, by kernel_rfl⟩ (by kernel_rfl) (by kernel_rfl) (fun s w hT => Tryd.utf8_DecodeRuneInString s w hT)
noncomputable def utf8_DecodeRuneInString (a0 : List UInt8) : Option (Int × Int × Unit) := decodeT a0
noncomputable def utf8_DecodeRuneInString_T : TFn := decodeT_T
theorem utf8_DecodeRuneInString_ok : TOk utf8_DecodeRuneInString_F utf8_DecodeRuneInString_T := decodeT_ok
-- palinode/name.Runes
noncomputable def name_Runes_E : Env := { pure := [(56, utf8_DecodeRuneInString_F)], raw := [], glob := G0, same := [72], look := [], ext := [] }
def name_Runes_H : Hints := { seqs := [], loops := [(3, [0, 4, 10])], own := [] }
noncomputable def name_Runes_F : PFn := closeF (runF Tryd.prog name_Runes_E name_Runes_H Tryd.f30)
def name_Runes_Y : TH := { joins := [(9, { keep := [(4, (.own 1)), (10, (.it 0))], mem := [.iter, .row true 21 (.int .i32)] })], loops := [(3, { keep := [(4, (.own 1)), (10, (.it 0))], mem := [.iter, .row true 21 (.int .i32)] })], cuts := [], ro := [], news := [] }
noncomputable def name_Runes_l3 (a0 : List UInt8) (y3 : (Nat × List Int × Unit)) : Option ((Nat × List Int × Unit) ⊕ (List Int × Bool × Unit)) :=
 cond (decide (y3.1 < a0.length)) ((cond (decide (((Utf8.decode ⟨a0.toArray⟩ y3.1).1 : Int) = 65533)) (
(subI a0 (y3.1 : Int) (a0.length : Int)).bind fun s1 =>
(utf8_DecodeRuneInString s1).bind fun r2 =>
 cond (decide (r2.2.1 ≤ 1)) (
 some (.inr (.inr ([], false, ())))) (
 some (.inl ((y3.1 + (Utf8.decode ⟨a0.toArray⟩ y3.1).2), y3.2.1, ())))) (
 some (.inl ((y3.1 + (Utf8.decode ⟨a0.toArray⟩ y3.1).2), y3.2.1, ()))) : Option ((Nat × List Int × Unit) ⊕ ((Nat × List Int × Unit) ⊕ (List Int × Bool × Unit)))).bind (joinS fun v3 =>
(roomT (v3.2.1.length + ([((Utf8.decode ⟨a0.toArray⟩ y3.1).1 : Int)] : List Int).length)).bind fun u4 =>
 some (.inl (v3.1, (v3.2.1 ++ ([((Utf8.decode ⟨a0.toArray⟩ y3.1).1 : Int)] : List Int)), ())))) (some (.inr (y3.2.1, true, ())))
noncomputable def name_Runes (a0 : List UInt8) : Option (List Int × Bool × Unit) :=
 loopT (name_Runes_l3 a0) (0, [], ())
noncomputable def name_Runes_T : TFn := { ps := (.cons .str .unit), res := (.tup (.cons (.sl (.int .i32)) (.cons .bool .unit))), fn := fun v => name_Runes v.1 }
noncomputable def name_Runes_V : TEnv := { pure := [(56, utf8_DecodeRuneInString_T)], look := [], glob := G0T, ty := [(21, (.int .i32))], raw := [], fresh := [] }
theorem name_Runes_eq : runY Tryd.prog name_Runes_E name_Runes_H name_Runes_V name_Runes_Y Tryd.f30 name_Runes_T.ps name_Runes_T.res = name_Runes_T.fn := by kernel_rfl
theorem name_Runes_Fok : SoundP Tryd.prog G0 30 name_Runes_F := closeF_sound (runF_sound (P := Tryd.prog) (E := name_Runes_E) (h := name_Runes_H) (f := 30) (fn := Tryd.f30) ⟨same_ok, (envP_cons utf8_DecodeRuneInString_Fok envP_nil), envS_nil, envP_nil, envX_nil⟩ Tryd.func30 rfl (by kernel_rfl))
theorem name_Runes_ok : TOk name_Runes_F name_Runes_T := runY_ok (E := name_Runes_E) (ET := name_Runes_V) (EnvT.ofX (E := name_Runes_E) (ET := name_Runes_V) (pure_of (pairs_cons utf8_DecodeRuneInString_ok pairs_nil)) looks_nil raws_nil G0_ok news_nil) name_Runes_eq rfl
-- palinode/value.Right
noncomputable def value_Right_E : Env := { pure := [(30, name_Runes_F)], raw := [], glob := G0, same := [72], look := [], ext := [] }
def value_Right_H : Hints := { seqs := [], loops := [], own := [] }
noncomputable def value_Right_F : PFn := closeF (runF Tryd.prog value_Right_E value_Right_H Tryd.f11)
def value_Right_Y : TH := { joins := [], loops := [], cuts := [], ro := [1], news := [] }
noncomputable def value_Right (a0 : (Int × Int × List UInt8 × Unit)) : Option Bool :=
 cond (decide (a0.1 = 1)) (
 cond (decide (a0.2.2.1 = [])) (cond (decide (a0.2.1 ≥ (-2147483647))) (some (decide (a0.2.1 ≤ 2147483647))) (some false)) (some false)) (
 cond (decide (a0.1 = 2)) (
(name_Runes a0.2.2.1).bind fun r1 =>
 cond r1.2.1 (cond (decide (a0.2.1 = 0)) (some (decide ((a0.2.2.1.length : Int) ≤ 64))) (some false)) (some false)) (
 cond (decide (a0.1 = 3)) (
 cond (decide (a0.2.2.1 = [])) (cond (decide (a0.2.1 = 0)) (some true) (some (decide (a0.2.1 = 1)))) (some false)) (
 some false)))
noncomputable def value_Right_T : TFn := { ps := (.cons (.agg (.cons (.int .i64) (.cons (.int .i64) (.cons .str .unit)))) .unit), res := .bool, fn := fun v => value_Right v.1 }
noncomputable def value_Right_V : TEnv := { pure := [(30, name_Runes_T)], look := [], glob := G0T, ty := [], raw := [], fresh := [] }
theorem value_Right_eq : runY Tryd.prog value_Right_E value_Right_H value_Right_V value_Right_Y Tryd.f11 value_Right_T.ps value_Right_T.res = value_Right_T.fn := by kernel_rfl
theorem value_Right_Fok : SoundP Tryd.prog G0 11 value_Right_F := closeF_sound (runF_sound (P := Tryd.prog) (E := value_Right_E) (h := value_Right_H) (f := 11) (fn := Tryd.f11) ⟨same_ok, (envP_cons name_Runes_Fok envP_nil), envS_nil, envP_nil, envX_nil⟩ Tryd.func11 rfl (by kernel_rfl))
theorem value_Right_ok : TOk value_Right_F value_Right_T := runY_ok (E := value_Right_E) (ET := value_Right_V) (EnvT.ofX (E := value_Right_E) (ET := value_Right_V) (pure_of (pairs_cons name_Runes_ok pairs_nil)) looks_nil raws_nil G0_ok news_nil) value_Right_eq rfl
-- palinode/value.inner
noncomputable def value_inner_E : Env := { pure := [], raw := [], glob := G0, same := [72], look := [], ext := [] }
def value_inner_H : Hints := { seqs := [], loops := [], own := [] }
noncomputable def value_inner_F : PFn := closeF (runF Tryd.prog value_inner_E value_inner_H Tryd.f34)
theorem value_inner_Fok : SoundP Tryd.prog G0 34 value_inner_F := closeF_sound (runF_sound (P := Tryd.prog) (E := value_inner_E) (h := value_inner_H) (f := 34) (fn := Tryd.f34) ⟨same_ok, envP_nil, envS_nil, envP_nil, envX_nil⟩ Tryd.func34 rfl (by kernel_rfl))
-- unicode/utf8.appendRuneNonASCII
noncomputable def utf8_appendRuneNonASCII_E : Env := { pure := [], raw := [], glob := G0, same := [72], look := [], ext := [] }
def utf8_appendRuneNonASCII_H : Hints := { seqs := [], loops := [], own := [] }
noncomputable def utf8_appendRuneNonASCII_S : SFn := runF Tryd.prog utf8_appendRuneNonASCII_E utf8_appendRuneNonASCII_H Tryd.f76
def utf8_appendRuneNonASCII_Y : TH := { joins := [(7, { keep := [(0, (.own 0)), (25, .bool)], mem := [.row true 5 (.int .u8)] })], loops := [], cuts := [(6, [(6, { keep := [(0, (.own 0)), (33, .bool)], mem := [.row true 5 (.int .u8)] })])], ro := [], news := [] }
noncomputable def utf8_appendRuneNonASCII (a1 : Int) (w0 : List Int) : Option (Unit × List Int × Unit) :=
 cond (decide ((IntKind.wrap .u32 a1) ≤ 2047)) (
(shrT .i32 a1 6).bind fun t1 =>
(roomT (w0.length + ([(IntKind.wrap .u8 ((BitVec.ofInt (IntKind.bits .u8) 192 ||| BitVec.ofInt (IntKind.bits .u8) (IntKind.wrap .u8 t1)).toNat)), (IntKind.wrap .u8 ((BitVec.ofInt (IntKind.bits .u8) 128 ||| BitVec.ofInt (IntKind.bits .u8) (IntKind.wrap .u8 ((BitVec.ofInt (IntKind.bits .u8) (IntKind.wrap .u8 a1) &&& BitVec.ofInt (IntKind.bits .u8) 63).toNat))).toNat))] : List Int).length)).bind fun u2 =>
 some ((), (w0 ++ ([(IntKind.wrap .u8 ((BitVec.ofInt (IntKind.bits .u8) 192 ||| BitVec.ofInt (IntKind.bits .u8) (IntKind.wrap .u8 t1)).toNat)), (IntKind.wrap .u8 ((BitVec.ofInt (IntKind.bits .u8) 128 ||| BitVec.ofInt (IntKind.bits .u8) (IntKind.wrap .u8 ((BitVec.ofInt (IntKind.bits .u8) (IntKind.wrap .u8 a1) &&& BitVec.ofInt (IntKind.bits .u8) 63).toNat))).toNat))] : List Int)), ())) (
(cond (decide ((IntKind.wrap .u32 a1) < 55296)) (
 some (.inl ((decide ((IntKind.wrap .u32 a1) < 55296)), w0, ()))) (
(cond (decide (57343 < (IntKind.wrap .u32 a1))) (some ((decide ((IntKind.wrap .u32 a1) ≤ 65535)), w0, ())) (some (false, w0, ())) : Option (Bool × List Int × Unit)).bind fun v3 =>
 some (.inl (v3.1, v3.2.1, ()))) : Option ((Bool × List Int × Unit) ⊕ (Unit × List Int × Unit))).bind (joinS fun v4 =>
 cond v4.1 (
(shrT .i32 a1 12).bind fun t5 =>
(shrT .i32 a1 6).bind fun t6 =>
(roomT (v4.2.1.length + ([(IntKind.wrap .u8 ((BitVec.ofInt (IntKind.bits .u8) 224 ||| BitVec.ofInt (IntKind.bits .u8) (IntKind.wrap .u8 t5)).toNat)), (IntKind.wrap .u8 ((BitVec.ofInt (IntKind.bits .u8) 128 ||| BitVec.ofInt (IntKind.bits .u8) (IntKind.wrap .u8 ((BitVec.ofInt (IntKind.bits .u8) (IntKind.wrap .u8 t6) &&& BitVec.ofInt (IntKind.bits .u8) 63).toNat))).toNat)), (IntKind.wrap .u8 ((BitVec.ofInt (IntKind.bits .u8) 128 ||| BitVec.ofInt (IntKind.bits .u8) (IntKind.wrap .u8 ((BitVec.ofInt (IntKind.bits .u8) (IntKind.wrap .u8 a1) &&& BitVec.ofInt (IntKind.bits .u8) 63).toNat))).toNat))] : List Int).length)).bind fun u7 =>
 some ((), (v4.2.1 ++ ([(IntKind.wrap .u8 ((BitVec.ofInt (IntKind.bits .u8) 224 ||| BitVec.ofInt (IntKind.bits .u8) (IntKind.wrap .u8 t5)).toNat)), (IntKind.wrap .u8 ((BitVec.ofInt (IntKind.bits .u8) 128 ||| BitVec.ofInt (IntKind.bits .u8) (IntKind.wrap .u8 ((BitVec.ofInt (IntKind.bits .u8) (IntKind.wrap .u8 t6) &&& BitVec.ofInt (IntKind.bits .u8) 63).toNat))).toNat)), (IntKind.wrap .u8 ((BitVec.ofInt (IntKind.bits .u8) 128 ||| BitVec.ofInt (IntKind.bits .u8) (IntKind.wrap .u8 ((BitVec.ofInt (IntKind.bits .u8) (IntKind.wrap .u8 a1) &&& BitVec.ofInt (IntKind.bits .u8) 63).toNat))).toNat))] : List Int)), ())) (
 cond (decide ((IntKind.wrap .u32 a1) > 65535)) (cond (decide ((IntKind.wrap .u32 a1) ≤ 1114111)) (
(shrT .i32 a1 18).bind fun t8 =>
(shrT .i32 a1 12).bind fun t9 =>
(shrT .i32 a1 6).bind fun t10 =>
(roomT (v4.2.1.length + ([(IntKind.wrap .u8 ((BitVec.ofInt (IntKind.bits .u8) 240 ||| BitVec.ofInt (IntKind.bits .u8) (IntKind.wrap .u8 t8)).toNat)), (IntKind.wrap .u8 ((BitVec.ofInt (IntKind.bits .u8) 128 ||| BitVec.ofInt (IntKind.bits .u8) (IntKind.wrap .u8 ((BitVec.ofInt (IntKind.bits .u8) (IntKind.wrap .u8 t9) &&& BitVec.ofInt (IntKind.bits .u8) 63).toNat))).toNat)), (IntKind.wrap .u8 ((BitVec.ofInt (IntKind.bits .u8) 128 ||| BitVec.ofInt (IntKind.bits .u8) (IntKind.wrap .u8 ((BitVec.ofInt (IntKind.bits .u8) (IntKind.wrap .u8 t10) &&& BitVec.ofInt (IntKind.bits .u8) 63).toNat))).toNat)), (IntKind.wrap .u8 ((BitVec.ofInt (IntKind.bits .u8) 128 ||| BitVec.ofInt (IntKind.bits .u8) (IntKind.wrap .u8 ((BitVec.ofInt (IntKind.bits .u8) (IntKind.wrap .u8 a1) &&& BitVec.ofInt (IntKind.bits .u8) 63).toNat))).toNat))] : List Int).length)).bind fun u11 =>
 some ((), (v4.2.1 ++ ([(IntKind.wrap .u8 ((BitVec.ofInt (IntKind.bits .u8) 240 ||| BitVec.ofInt (IntKind.bits .u8) (IntKind.wrap .u8 t8)).toNat)), (IntKind.wrap .u8 ((BitVec.ofInt (IntKind.bits .u8) 128 ||| BitVec.ofInt (IntKind.bits .u8) (IntKind.wrap .u8 ((BitVec.ofInt (IntKind.bits .u8) (IntKind.wrap .u8 t9) &&& BitVec.ofInt (IntKind.bits .u8) 63).toNat))).toNat)), (IntKind.wrap .u8 ((BitVec.ofInt (IntKind.bits .u8) 128 ||| BitVec.ofInt (IntKind.bits .u8) (IntKind.wrap .u8 ((BitVec.ofInt (IntKind.bits .u8) (IntKind.wrap .u8 t10) &&& BitVec.ofInt (IntKind.bits .u8) 63).toNat))).toNat)), (IntKind.wrap .u8 ((BitVec.ofInt (IntKind.bits .u8) 128 ||| BitVec.ofInt (IntKind.bits .u8) (IntKind.wrap .u8 ((BitVec.ofInt (IntKind.bits .u8) (IntKind.wrap .u8 a1) &&& BitVec.ofInt (IntKind.bits .u8) 63).toNat))).toNat))] : List Int)), ())) (
(roomT (v4.2.1.length + ([239, 191, 189] : List Int).length)).bind fun u12 =>
 some ((), (v4.2.1 ++ ([239, 191, 189] : List Int)), ()))) ((roomT (v4.2.1.length + ([239, 191, 189] : List Int).length)).bind fun u13 =>
 some ((), (v4.2.1 ++ ([239, 191, 189] : List Int)), ())))))
noncomputable def utf8_appendRuneNonASCII_R : TRaw := { ps := (.cons (.own 0) (.cons (.int .i32) .unit)), ins := [.row true 5 (.int .u8)], res := (.own 0), outs := [.row true 5 (.int .u8)], fn := fun v w => utf8_appendRuneNonASCII v.2.1 w.1 }
noncomputable def utf8_appendRuneNonASCII_V : TEnv := { pure := [], look := [], glob := G0T, ty := [(5, (.int .u8))], raw := [], fresh := [] }
theorem utf8_appendRuneNonASCII_eq : rawY Tryd.prog utf8_appendRuneNonASCII_E utf8_appendRuneNonASCII_H utf8_appendRuneNonASCII_V utf8_appendRuneNonASCII_Y [] Tryd.f76 utf8_appendRuneNonASCII_R.ps utf8_appendRuneNonASCII_R.ins utf8_appendRuneNonASCII_R.res utf8_appendRuneNonASCII_R.outs = utf8_appendRuneNonASCII_R.fn := by kernel_rfl
theorem utf8_appendRuneNonASCII_Sok : SoundS Tryd.prog G0 76 utf8_appendRuneNonASCII_S := runF_sound (P := Tryd.prog) (E := utf8_appendRuneNonASCII_E) (h := utf8_appendRuneNonASCII_H) (f := 76) (fn := Tryd.f76) ⟨same_ok, envP_nil, envS_nil, envP_nil, envX_nil⟩ Tryd.func76 rfl (by kernel_rfl)
theorem utf8_appendRuneNonASCII_ok : TRawOk utf8_appendRuneNonASCII_S utf8_appendRuneNonASCII_R := rawY_ok (E := utf8_appendRuneNonASCII_E) (ET := utf8_appendRuneNonASCII_V) (EnvT.ofX (E := utf8_appendRuneNonASCII_E) (ET := utf8_appendRuneNonASCII_V) (pure_of pairs_nil) looks_nil raws_nil G0_ok news_nil) utf8_appendRuneNonASCII_eq
-- unicode/utf8.AppendRune
noncomputable def utf8_AppendRune_E : Env := { pure := [], raw := [(76, utf8_appendRuneNonASCII_S)], glob := G0, same := [72], look := [], ext := [] }
def utf8_AppendRune_H : Hints := { seqs := [], loops := [], own := [] }
noncomputable def utf8_AppendRune_S : SFn := runF Tryd.prog utf8_AppendRune_E utf8_AppendRune_H Tryd.f70
def utf8_AppendRune_Y : TH := { joins := [], loops := [], cuts := [], ro := [], news := [] }
noncomputable def utf8_AppendRune (a1 : Int) (w0 : List Int) : Option (Unit × List Int × Unit) :=
 cond (decide ((IntKind.wrap .u32 a1) ≤ 127)) (
(roomT (w0.length + ([(IntKind.wrap .u8 a1)] : List Int).length)).bind fun u1 =>
 some ((), (w0 ++ ([(IntKind.wrap .u8 a1)] : List Int)), ())) (
(utf8_appendRuneNonASCII a1 w0).bind fun q2 =>
 some (q2.1, q2.2.1, ()))
noncomputable def utf8_AppendRune_R : TRaw := { ps := (.cons (.own 0) (.cons (.int .i32) .unit)), ins := [.row true 5 (.int .u8)], res := (.own 0), outs := [.row true 5 (.int .u8)], fn := fun v w => utf8_AppendRune v.2.1 w.1 }
noncomputable def utf8_AppendRune_V : TEnv := { pure := [], look := [], glob := G0T, ty := [(5, (.int .u8))], raw := [(76, utf8_appendRuneNonASCII_R)], fresh := [] }
theorem utf8_AppendRune_eq : rawY Tryd.prog utf8_AppendRune_E utf8_AppendRune_H utf8_AppendRune_V utf8_AppendRune_Y [] Tryd.f70 utf8_AppendRune_R.ps utf8_AppendRune_R.ins utf8_AppendRune_R.res utf8_AppendRune_R.outs = utf8_AppendRune_R.fn := by kernel_rfl
theorem utf8_AppendRune_Sok : SoundS Tryd.prog G0 70 utf8_AppendRune_S := runF_sound (P := Tryd.prog) (E := utf8_AppendRune_E) (h := utf8_AppendRune_H) (f := 70) (fn := Tryd.f70) ⟨same_ok, envP_nil, (envS_cons utf8_appendRuneNonASCII_Sok envS_nil), envP_nil, envX_nil⟩ Tryd.func70 rfl (by kernel_rfl)
theorem utf8_AppendRune_ok : TRawOk utf8_AppendRune_S utf8_AppendRune_R := rawY_ok (E := utf8_AppendRune_E) (ET := utf8_AppendRune_V) (EnvT.ofX (E := utf8_AppendRune_E) (ET := utf8_AppendRune_V) (pure_of pairs_nil) looks_nil (raws_cons utf8_appendRuneNonASCII_ok rfl rfl raws_nil) G0_ok news_nil) utf8_AppendRune_eq
-- (*strings.Builder).WriteRune
noncomputable def strings_Builder_WriteRune_E : Env := { pure := [], raw := [(62, strings_Builder_copyCheck_S), (70, utf8_AppendRune_S)], glob := G0, same := [72], look := [], ext := [] }
def strings_Builder_WriteRune_H : Hints := { seqs := [], loops := [], own := [] }
noncomputable def strings_Builder_WriteRune_S : SFn := runF Tryd.prog strings_Builder_WriteRune_E strings_Builder_WriteRune_H Tryd.f58
def strings_Builder_WriteRune_Y : TH := { joins := [], loops := [], cuts := [], ro := [], news := [] }
noncomputable def strings_Builder_WriteRune (a1 : Int) (w0 : (Bool × Unit × Unit)) (w1 : List Int) : Option ((Int × Bool × Unit) × (Bool × Unit × Unit) × List Int × Unit) :=
(strings_Builder_copyCheck w0 w1).bind fun q1 =>
(utf8_AppendRune a1 q1.2.2.1).bind fun q2 =>
 some (((IntKind.wrap .i64 ((q2.2.1.length : Int) - (q1.2.2.1.length : Int))), false, ()), (q1.2.1.1, q2.1, ()), q2.2.1, ())
noncomputable def strings_Builder_WriteRune_R : TRaw := { ps := (.cons (.bx 0 0) (.cons (.int .i32) .unit)), ins := [.box 72 (.agg (.cons (.op 0) (.cons (.own 1) .unit))), .row true 5 (.int .u8)], res := (.tup (.cons (.int .i64) (.cons .err .unit))), outs := [.box 72 (.agg (.cons (.op 0) (.cons (.own 1) .unit))), .row true 5 (.int .u8)], fn := fun v w => strings_Builder_WriteRune v.2.1 w.1 w.2.1 }
noncomputable def strings_Builder_WriteRune_V : TEnv := { pure := [], look := [], glob := G0T, ty := [], raw := [(62, strings_Builder_copyCheck_R), (70, utf8_AppendRune_R)], fresh := [] }
theorem strings_Builder_WriteRune_eq : rawY Tryd.prog strings_Builder_WriteRune_E strings_Builder_WriteRune_H strings_Builder_WriteRune_V strings_Builder_WriteRune_Y [(0, 0)] Tryd.f58 strings_Builder_WriteRune_R.ps strings_Builder_WriteRune_R.ins strings_Builder_WriteRune_R.res strings_Builder_WriteRune_R.outs = strings_Builder_WriteRune_R.fn := by kernel_rfl
theorem strings_Builder_WriteRune_Sok : SoundS Tryd.prog G0 58 strings_Builder_WriteRune_S := runF_sound (P := Tryd.prog) (E := strings_Builder_WriteRune_E) (h := strings_Builder_WriteRune_H) (f := 58) (fn := Tryd.f58) ⟨same_ok, envP_nil, (envS_cons strings_Builder_copyCheck_Sok (envS_cons utf8_AppendRune_Sok envS_nil)), envP_nil, envX_nil⟩ Tryd.func58 rfl (by kernel_rfl)
theorem strings_Builder_WriteRune_ok : TRawOk strings_Builder_WriteRune_S strings_Builder_WriteRune_R := rawY_ok (E := strings_Builder_WriteRune_E) (ET := strings_Builder_WriteRune_V) (EnvT.ofX (E := strings_Builder_WriteRune_E) (ET := strings_Builder_WriteRune_V) (pure_of pairs_nil) looks_nil (raws_cons strings_Builder_copyCheck_ok rfl rfl (raws_cons utf8_AppendRune_ok rfl rfl raws_nil)) G0_ok news_nil) strings_Builder_WriteRune_eq
-- palinode/value.quote
noncomputable def value_quote_E : Env := { pure := [], raw := [(50, strings_Builder_WriteByte_S), (51, strings_Builder_String_S), (58, strings_Builder_WriteRune_S)], glob := G0, same := [72], look := [], ext := [] }
def value_quote_H : Hints := { seqs := [], loops := [(4, [3, 8])], own := [] }
noncomputable def value_quote_F : PFn := closeF (runF Tryd.prog value_quote_E value_quote_H Tryd.f35)
def value_quote_Y : TH := { joins := [], loops := [(4, { keep := [(3, (.bx 1 0)), (8, (.it 2))], mem := [.row true 5 (.int .u8), .box 72 (.agg (.cons (.op 1) (.cons (.own 0) .unit))), .iter] })], cuts := [], ro := [], news := [(3, ((.agg (.cons (.op 1) (.cons (.own 0) .unit))), [(5, (.int .u8))]))] }
noncomputable def value_quote_l4 (a0 : List UInt8) (y4 : (List Int × (Bool × Unit × Unit) × Nat × Unit)) : Option ((List Int × (Bool × Unit × Unit) × Nat × Unit) ⊕ List UInt8) :=
 cond (decide (y4.2.2.1 < a0.length)) (cond (decide (((Utf8.decode ⟨a0.toArray⟩ y4.2.2.1).1 : Int) = 34)) ((strings_Builder_WriteByte 92 (y4.2.1.1, (), ()) y4.1).bind fun q2 =>
(strings_Builder_WriteRune ((Utf8.decode ⟨a0.toArray⟩ y4.2.2.1).1 : Int) (q2.2.1.1, (), ()) q2.2.2.1).bind fun q3 =>
 some (.inl (q3.2.2.1, q3.2.1, (y4.2.2.1 + (Utf8.decode ⟨a0.toArray⟩ y4.2.2.1).2), ()))) (cond (decide (((Utf8.decode ⟨a0.toArray⟩ y4.2.2.1).1 : Int) = 92)) (
(strings_Builder_WriteByte 92 (y4.2.1.1, (), ()) y4.1).bind fun q4 =>
(strings_Builder_WriteRune ((Utf8.decode ⟨a0.toArray⟩ y4.2.2.1).1 : Int) (q4.2.1.1, (), ()) q4.2.2.1).bind fun q5 =>
 some (.inl (q5.2.2.1, q5.2.1, (y4.2.2.1 + (Utf8.decode ⟨a0.toArray⟩ y4.2.2.1).2), ()))) (
(strings_Builder_WriteRune ((Utf8.decode ⟨a0.toArray⟩ y4.2.2.1).1 : Int) (y4.2.1.1, (), ()) y4.1).bind fun q6 =>
 some (.inl (q6.2.2.1, q6.2.1, (y4.2.2.1 + (Utf8.decode ⟨a0.toArray⟩ y4.2.2.1).2), ()))))) (((strings_Builder_WriteByte 34 (y4.2.1.1, (), ()) y4.1).bind fun q7 =>
(strings_Builder_String (q7.2.1.1, (), ()) q7.2.2.1).bind fun q8 =>
 some q8.1).map .inr)
noncomputable def value_quote (a0 : List UInt8) : Option (List UInt8) :=
(strings_Builder_WriteByte 34 (false, (), ()) []).bind fun q1 =>
 loopT (value_quote_l4 a0) (q1.2.2.1, q1.2.1, 0, ())
noncomputable def value_quote_T : TFn := { ps := (.cons .str .unit), res := .str, fn := fun v => value_quote v.1 }
noncomputable def value_quote_V : TEnv := { pure := [], look := [], glob := G0T, ty := [], raw := [(50, strings_Builder_WriteByte_R), (51, strings_Builder_String_R), (58, strings_Builder_WriteRune_R)], fresh := [] }
theorem value_quote_eq : runY Tryd.prog value_quote_E value_quote_H value_quote_V value_quote_Y Tryd.f35 value_quote_T.ps value_quote_T.res = value_quote_T.fn := by kernel_rfl
theorem value_quote_Fok : SoundP Tryd.prog G0 35 value_quote_F := closeF_sound (runF_sound (P := Tryd.prog) (E := value_quote_E) (h := value_quote_H) (f := 35) (fn := Tryd.f35) ⟨same_ok, envP_nil, (envS_cons strings_Builder_WriteByte_Sok (envS_cons strings_Builder_String_Sok (envS_cons strings_Builder_WriteRune_Sok envS_nil))), envP_nil, envX_nil⟩ Tryd.func35 rfl (by kernel_rfl))
theorem value_quote_ok : TOk value_quote_F value_quote_T := runY_ok (E := value_quote_E) (ET := value_quote_V) (EnvT.ofX (E := value_quote_E) (ET := value_quote_V) (pure_of pairs_nil) looks_nil (raws_cons strings_Builder_WriteByte_ok rfl rfl (raws_cons strings_Builder_String_ok rfl rfl (raws_cons strings_Builder_WriteRune_ok rfl rfl raws_nil))) G0_ok news_nil) value_quote_eq rfl
-- internal/strconv.FormatBool
noncomputable def int_strconv_FormatBool_E : Env := { pure := [], raw := [], glob := G0, same := [72], look := [], ext := [] }
def int_strconv_FormatBool_H : Hints := { seqs := [], loops := [], own := [] }
noncomputable def int_strconv_FormatBool_F : PFn := closeF (runF Tryd.prog int_strconv_FormatBool_E int_strconv_FormatBool_H Tryd.f59)
def int_strconv_FormatBool_Y : TH := { joins := [], loops := [], cuts := [], ro := [], news := [] }
noncomputable def int_strconv_FormatBool (a0 : Bool) : Option (List UInt8) :=
 cond a0 (
 some [116, 114, 117, 101]) (
 some [102, 97, 108, 115, 101])
noncomputable def int_strconv_FormatBool_T : TFn := { ps := (.cons .bool .unit), res := .str, fn := fun v => int_strconv_FormatBool v.1 }
noncomputable def int_strconv_FormatBool_V : TEnv := { pure := [], look := [], glob := G0T, ty := [], raw := [], fresh := [] }
theorem int_strconv_FormatBool_eq : runY Tryd.prog int_strconv_FormatBool_E int_strconv_FormatBool_H int_strconv_FormatBool_V int_strconv_FormatBool_Y Tryd.f59 int_strconv_FormatBool_T.ps int_strconv_FormatBool_T.res = int_strconv_FormatBool_T.fn := by kernel_rfl
theorem int_strconv_FormatBool_Fok : SoundP Tryd.prog G0 59 int_strconv_FormatBool_F := closeF_sound (runF_sound (P := Tryd.prog) (E := int_strconv_FormatBool_E) (h := int_strconv_FormatBool_H) (f := 59) (fn := Tryd.f59) ⟨same_ok, envP_nil, envS_nil, envP_nil, envX_nil⟩ Tryd.func59 rfl (by kernel_rfl))
theorem int_strconv_FormatBool_ok : TOk int_strconv_FormatBool_F int_strconv_FormatBool_T := runY_ok (E := int_strconv_FormatBool_E) (ET := int_strconv_FormatBool_V) (EnvT.ofX (E := int_strconv_FormatBool_E) (ET := int_strconv_FormatBool_V) (pure_of pairs_nil) looks_nil raws_nil G0_ok news_nil) int_strconv_FormatBool_eq rfl
-- strconv.FormatBool
noncomputable def strconv_FormatBool_E : Env := { pure := [(59, int_strconv_FormatBool_F)], raw := [], glob := G0, same := [72], look := [], ext := [] }
def strconv_FormatBool_H : Hints := { seqs := [], loops := [], own := [] }
noncomputable def strconv_FormatBool_F : PFn := closeF (runF Tryd.prog strconv_FormatBool_E strconv_FormatBool_H Tryd.f36)
def strconv_FormatBool_Y : TH := { joins := [], loops := [], cuts := [], ro := [], news := [] }
noncomputable def strconv_FormatBool (a0 : Bool) : Option (List UInt8) :=
(int_strconv_FormatBool a0).bind fun r1 =>
 some r1
noncomputable def strconv_FormatBool_T : TFn := { ps := (.cons .bool .unit), res := .str, fn := fun v => strconv_FormatBool v.1 }
noncomputable def strconv_FormatBool_V : TEnv := { pure := [(59, int_strconv_FormatBool_T)], look := [], glob := G0T, ty := [], raw := [], fresh := [] }
theorem strconv_FormatBool_eq : runY Tryd.prog strconv_FormatBool_E strconv_FormatBool_H strconv_FormatBool_V strconv_FormatBool_Y Tryd.f36 strconv_FormatBool_T.ps strconv_FormatBool_T.res = strconv_FormatBool_T.fn := by kernel_rfl
theorem strconv_FormatBool_Fok : SoundP Tryd.prog G0 36 strconv_FormatBool_F := closeF_sound (runF_sound (P := Tryd.prog) (E := strconv_FormatBool_E) (h := strconv_FormatBool_H) (f := 36) (fn := Tryd.f36) ⟨same_ok, (envP_cons int_strconv_FormatBool_Fok envP_nil), envS_nil, envP_nil, envX_nil⟩ Tryd.func36 rfl (by kernel_rfl))
theorem strconv_FormatBool_ok : TOk strconv_FormatBool_F strconv_FormatBool_T := runY_ok (E := strconv_FormatBool_E) (ET := strconv_FormatBool_V) (EnvT.ofX (E := strconv_FormatBool_E) (ET := strconv_FormatBool_V) (pure_of (pairs_cons int_strconv_FormatBool_ok pairs_nil)) looks_nil raws_nil G0_ok news_nil) strconv_FormatBool_eq rfl
-- strconv.Itoa
noncomputable def strconv_Itoa_F : PFn := itoaF
theorem strconv_Itoa_Fok : SoundP Tryd.prog G0 37 strconv_Itoa_F := itoa_sound (g := 5) ⟨Tryd.f37, Tryd.func37, rfl, by kernel_rfl⟩ (by kernel_rfl) (by kernel_rfl) Tryd.strconv_Itoa
noncomputable def strconv_Itoa (a0 : Int) : Option (List UInt8) := itoa a0
noncomputable def strconv_Itoa_T : TFn := itoa_T
theorem strconv_Itoa_ok : TOk strconv_Itoa_F strconv_Itoa_T := itoa_ok
-- palinode/value.Text
noncomputable def value_Text_E : Env := { pure := [(34, value_inner_F), (35, value_quote_F), (36, strconv_FormatBool_F), (37, strconv_Itoa_F)], raw := [], glob := G0, same := [72], look := [], ext := [] }
def value_Text_H : Hints := { seqs := [], loops := [], own := [] }
noncomputable def value_Text_F : PFn := closeF (runF Tryd.prog value_Text_E value_Text_H Tryd.f14)
theorem value_Text_Fok : SoundP Tryd.prog G0 14 value_Text_F := closeF_sound (runF_sound (P := Tryd.prog) (E := value_Text_E) (h := value_Text_H) (f := 14) (fn := Tryd.f14) ⟨same_ok, (envP_cons value_inner_Fok (envP_cons value_quote_Fok (envP_cons strconv_FormatBool_Fok (envP_cons strconv_Itoa_Fok envP_nil)))), envS_nil, envP_nil, envX_nil⟩ Tryd.func14 rfl (by kernel_rfl))
noncomputable def value_Text_G (Fq Fb Fs : PFn) : PFn := closeF (runF Tryd.prog { pure := [(34, value_inner_F), (35, Fq), (36, Fb), (37, Fs)], raw := [], glob := G0, same := [72], look := [], ext := [] } value_Text_H Tryd.f14)
theorem value_Text_G_eq : value_Text_F = value_Text_G value_quote_F strconv_FormatBool_F strconv_Itoa_F := rfl
theorem value_Text_2 (Fq Fb Fs : PFn) (n : Int) (s : List UInt8) : value_Text_G Fq Fb Fs [.agg [.int .i64 2, .int .i64 n, .str s]] = ((Fq [.str s]).bind fun t => some (t, [AReg.row 24 3 [.agg [.int .i64 2, .int .i64 n, .str s]]])).bind fun p => packV p.2 p.1 := by kernel_rfl
theorem value_Text_3 (Fq Fb Fs : PFn) (n : Int) (s : List UInt8) : value_Text_G Fq Fb Fs [.agg [.int .i64 3, .int .i64 n, .str s]] = ((Fb [.bool (n == 1)]).bind fun t => some (t, [AReg.row 24 3 [.agg [.int .i64 3, .int .i64 n, .str s]]])).bind fun p => packV p.2 p.1 := by kernel_rfl
theorem value_Text_0 (Fq Fb Fs : PFn) (n : Int) (s : List UInt8) : value_Text_G Fq Fb Fs [.agg [.int .i64 (Int.ofNat 0), .int .i64 n, .str s]] = ((Fs [.int .i64 n]).bind fun t => some (t, [AReg.row 24 3 [.agg [.int .i64 (Int.ofNat 0), .int .i64 n, .str s]]])).bind fun p => packV p.2 p.1 := by kernel_rfl
theorem value_Text_1 (Fq Fb Fs : PFn) (n : Int) (s : List UInt8) : value_Text_G Fq Fb Fs [.agg [.int .i64 (Int.ofNat 1), .int .i64 n, .str s]] = ((Fs [.int .i64 n]).bind fun t => some (t, [AReg.row 24 3 [.agg [.int .i64 (Int.ofNat 1), .int .i64 n, .str s]]])).bind fun p => packV p.2 p.1 := by kernel_rfl
theorem value_Text_4 (Fq Fb Fs : PFn) (k : Nat) (n : Int) (s : List UInt8) : value_Text_G Fq Fb Fs [.agg [.int .i64 (Int.ofNat (k + 4)), .int .i64 n, .str s]] = ((Fs [.int .i64 n]).bind fun t => some (t, [AReg.row 24 3 [.agg [.int .i64 (Int.ofNat (k + 4)), .int .i64 n, .str s]]])).bind fun p => packV p.2 p.1 := by kernel_rfl
theorem value_Text_5 (Fq Fb Fs : PFn) (k : Nat) (n : Int) (s : List UInt8) : value_Text_G Fq Fb Fs [.agg [.int .i64 (Int.negSucc k), .int .i64 n, .str s]] = ((Fs [.int .i64 n]).bind fun t => some (t, [AReg.row 24 3 [.agg [.int .i64 (Int.negSucc k), .int .i64 n, .str s]]])).bind fun p => packV p.2 p.1 := by kernel_rfl
theorem value_Text_6 (Fq Fb Fs : PFn) (k n : Int) (s : List UInt8) (h2 : k ≠ 2) (h3 : k ≠ 3) : value_Text_G Fq Fb Fs [.agg [.int .i64 k, .int .i64 n, .str s]] = ((Fs [.int .i64 n]).bind fun t => some (t, [AReg.row 24 3 [.agg [.int .i64 k, .int .i64 n, .str s]]])).bind fun p => packV p.2 p.1 := by
  match k, h2, h3 with
  | .ofNat 0, _, _ => exact value_Text_0 Fq Fb Fs n s
  | .ofNat 1, _, _ => exact value_Text_1 Fq Fb Fs n s
  | .ofNat 2, h, _ => exact absurd rfl h
  | .ofNat 3, _, h => exact absurd rfl h
  | .ofNat (k + 4), _, _ => exact value_Text_4 Fq Fb Fs k n s
  | .negSucc k, _, _ => exact value_Text_5 Fq Fb Fs k n s
noncomputable def value_Text (a0 : Int × Int × List UInt8 × Unit) : Option (List UInt8) := if a0.1 = 2 then value_quote a0.2.2.1 else if a0.1 = 3 then strconv_FormatBool (a0.2.1 == 1) else strconv_Itoa a0.2.1
noncomputable def value_Text_T : TFn := { ps := .cons (.agg (.cons (.int .i64) (.cons (.int .i64) (.cons .str .unit)))) .unit, res := .str, fn := fun v => value_Text v.1 }
theorem value_Text_ok : TOk value_Text_F value_Text_T := ⟨rfl, rfl, rfl, fun v r xs hr hps => by
  obtain ⟨⟨k, n, s, ⟨⟩⟩, ⟨⟩⟩ := v
  simp only [R, value_Text_T] at hps
  obtain ⟨l1, l2, rfl, ⟨cs, rfl, a1, a2, rfl, rfl, a3, a4, rfl, rfl, a5, a6, rfl, rfl, rfl⟩, rfl⟩ := hps
  rw [value_Text_G_eq]
  simp only [value_Text_T, value_Text] at hr
  have done : ∀ {o : Option AVal} {t : List UInt8} {st : Store}, o = some (.str t) → ((o.bind fun t => some (t, st)).bind fun p => packV p.2 p.1) = some (.str t) := fun h => by rw [h]; rfl
  simp only [List.cons_append, List.nil_append, List.append_nil]
  split at hr
  · rename_i h; subst h
    obtain ⟨a, h1, h2⟩ := value_quote_ok.run (s, ()) r [.str s] hr ⟨[.str s], [], rfl, rfl, rfl⟩
    have h2 := R_str h2; subst h2
    exact ⟨_, (value_Text_2 _ _ _ n s).trans (done h1), rfl⟩
  · split at hr
    · rename_i h; subst h
      obtain ⟨a, h1, h2⟩ := strconv_FormatBool_ok.run ((n == 1), ()) r [.bool (n == 1)] hr ⟨[.bool (n == 1)], [], rfl, rfl, rfl⟩
      have h2 := R_str h2; subst h2
      exact ⟨_, (value_Text_3 _ _ _ n s).trans (done h1), rfl⟩
    · rename_i h g
      obtain ⟨a, h1, h2⟩ := strconv_Itoa_ok.run (n, ()) r [.int .i64 n] hr ⟨[.int .i64 n], [], rfl, rfl, rfl⟩
      have h2 := R_str h2; subst h2
      exact ⟨_, (value_Text_6 _ _ _ k n s h g).trans (done h1), rfl⟩⟩
-- palinode/value.Parse
noncomputable def value_Parse_E : Env := { pure := [(11, value_Right_F), (14, value_Text_F), (23, strings_HasPrefix_F), (24, value_unquote_F), (25, strconv_Atoi_F)], raw := [], glob := G0, same := [72], look := [], ext := [] }
def value_Parse_H : Hints := { seqs := [], loops := [], own := [] }
noncomputable def value_Parse_F : PFn := closeF (runF Tryd.prog value_Parse_E value_Parse_H Tryd.f8)
def value_Parse_Y : TH := { joins := [(11, { keep := [(2, (.bx 0 0)), (4, (.bx 1 0))], mem := [.box 24 (.agg (.cons (.int .i64) (.cons (.int .i64) (.cons .str .unit)))), .box 24 (.agg (.cons (.int .i64) (.cons (.int .i64) (.cons .str .unit))))] })], loops := [], cuts := [], ro := [], news := [] }
noncomputable def value_Parse (a0 : List UInt8) : Option ((Int × Int × List UInt8 × Unit) × Int × Unit) :=
((strings_HasPrefix a0 [34]).bind fun r1 =>
 cond r1 (
(value_unquote a0).bind fun r2 =>
 some (.inl ((0, 0, [], ()), (2, 0, r2.1, ()), ()))) (
 cond (decide (a0 = [116, 114, 117, 101])) (
 some (.inl ((0, 0, [], ()), (3, 1, [], ()), ()))) (
 cond (decide (a0 = [102, 97, 108, 115, 101])) (
 some (.inl ((0, 0, [], ()), (3, 0, [], ()), ()))) (
(strconv_Atoi a0).bind fun r3 =>
 some (.inl ((0, 0, [], ()), (1, r3.1, [], ()), ()))))) : Option (((Int × Int × List UInt8 × Unit) × (Int × Int × List UInt8 × Unit) × Unit) ⊕ ((Int × Int × List UInt8 × Unit) × Int × Unit))).bind (joinS fun v4 =>
(value_Right v4.2.1).bind fun r5 =>
 cond (!r5) (some ((0, 0, [], ()), 19, ())) ((value_Text v4.2.1).bind fun r6 =>
 cond (!decide (r6 = a0)) (
 some ((0, 0, [], ()), 19, ())) (
 some (v4.2.1, 0, ()))))
noncomputable def value_Parse_T : TFn := { ps := (.cons .str .unit), res := (.tup (.cons (.agg (.cons (.int .i64) (.cons (.int .i64) (.cons .str .unit)))) (.cons (.int .i64) .unit))), fn := fun v => value_Parse v.1 }
noncomputable def value_Parse_V : TEnv := { pure := [(11, value_Right_T), (14, value_Text_T), (23, strings_HasPrefix_T), (24, value_unquote_T), (25, strconv_Atoi_T)], look := [], glob := G0T, ty := [], raw := [], fresh := [] }
theorem value_Parse_eq : runY Tryd.prog value_Parse_E value_Parse_H value_Parse_V value_Parse_Y Tryd.f8 value_Parse_T.ps value_Parse_T.res = value_Parse_T.fn := by kernel_rfl
theorem value_Parse_Fok : SoundP Tryd.prog G0 8 value_Parse_F := closeF_sound (runF_sound (P := Tryd.prog) (E := value_Parse_E) (h := value_Parse_H) (f := 8) (fn := Tryd.f8) ⟨same_ok, (envP_cons value_Right_Fok (envP_cons value_Text_Fok (envP_cons strings_HasPrefix_Fok (envP_cons value_unquote_Fok (envP_cons strconv_Atoi_Fok envP_nil))))), envS_nil, envP_nil, envX_nil⟩ Tryd.func8 rfl (by kernel_rfl))
theorem value_Parse_ok : TOk value_Parse_F value_Parse_T := runY_ok (E := value_Parse_E) (ET := value_Parse_V) (EnvT.ofX (E := value_Parse_E) (ET := value_Parse_V) (pure_of (pairs_cons value_Right_ok (pairs_cons value_Text_ok (pairs_cons strings_HasPrefix_ok (pairs_cons value_unquote_ok (pairs_cons strconv_Atoi_ok pairs_nil)))))) looks_nil raws_nil G0_ok news_nil) value_Parse_eq rfl
-- palinode/palinoderef04.Digits
noncomputable def ref04_Digits_E (F : PFn) : Env := { pure := [(38, F)], raw := [], glob := G0, same := [72], look := [], ext := [] }
def ref04_Digits_H : Hints := { seqs := [], loops := [], own := [] }
noncomputable def ref04_Digits_K (F : PFn) : PFn := closeF (runF Tryd.prog (ref04_Digits_E F) ref04_Digits_H Tryd.f38)
def ref04_Digits_Y : TH := { joins := [], loops := [], cuts := [], ro := [], news := [] }
noncomputable def ref04_Digits_step (rec : ((Int × Unit) → Option (List UInt8))) (a0 : Int) : Option (List UInt8) :=
 cond (decide (a0 < 0)) (
 cond (decide (a0 > (-10))) (
(rec ((IntKind.wrap .i64 (0 - a0)), ())).bind fun r1 =>
(catT [45] r1).bind fun s2 =>
 some s2) (
(quoT .i64 a0 10).bind fun t3 =>
(rec ((IntKind.wrap .i64 (0 - t3)), ())).bind fun r4 =>
(catT [45] r4).bind fun s5 =>
(remT a0 10).bind fun t6 =>
(rec ((IntKind.wrap .i64 (0 - t6)), ())).bind fun r7 =>
(catT s5 r7).bind fun s8 =>
 some s8)) (
 cond (decide (a0 < 10)) (
(subI [48, 49, 50, 51, 52, 53, 54, 55, 56, 57] a0 (IntKind.wrap .i64 (a0 + 1))).bind fun s9 =>
 some s9) (
(quoT .i64 a0 10).bind fun t10 =>
(rec (t10, ())).bind fun r11 =>
(remT a0 10).bind fun t12 =>
(remT a0 10).bind fun t13 =>
(subI [48, 49, 50, 51, 52, 53, 54, 55, 56, 57] t12 (IntKind.wrap .i64 (t13 + 1))).bind fun s14 =>
(catT r11 s14).bind fun s15 =>
 some s15))
noncomputable def ref04_Digits_fix : ((Int × Unit) → Option (List UInt8)) := fixT fun rec v => ref04_Digits_step rec v.1
noncomputable def ref04_Digits (a0 : Int) : Option (List UInt8) := ref04_Digits_fix (a0, ())
noncomputable def ref04_Digits_T : TFn := { ps := (.cons (.int .i64) .unit), res := .str, fn := fixT fun (rec : ((Int × Unit) → Option (List UInt8))) v => ref04_Digits_step rec v.1 }
noncomputable def ref04_Digits_F : PFn := fixF ref04_Digits_K ref04_Digits_T
noncomputable def ref04_Digits_V (rec : ((Int × Unit) → Option (List UInt8))) : TEnv := { pure := [(38, { ps := (.cons (.int .i64) .unit), res := .str, fn := rec })], look := [], glob := G0T, ty := [], raw := [], fresh := [] }
theorem ref04_Digits_eq (F : PFn) (rec : ((Int × Unit) → Option (List UInt8))) : runY Tryd.prog (ref04_Digits_E F) ref04_Digits_H (ref04_Digits_V rec) ref04_Digits_Y Tryd.f38 ref04_Digits_T.ps ref04_Digits_T.res = fun v => ref04_Digits_step rec v.1 := by kernel_rfl
theorem ref04_Digits_Fok : SoundP Tryd.prog G0 38 ref04_Digits_F := rec_sound ⟨Tryd.f38, Tryd.func38, rfl, by kernel_rfl⟩ fun F hF => closeF_sound (runF_sound (P := Tryd.prog) (E := ref04_Digits_E F) (h := ref04_Digits_H) (f := 38) (fn := Tryd.f38) ⟨same_ok, (envP_cons hF envP_nil), envS_nil, envP_nil, envX_nil⟩ Tryd.func38 rfl (by kernel_rfl))
theorem ref04_Digits_ok : TOk ref04_Digits_F ref04_Digits_T := rec_ok rfl fun F rec hF => runY_ok (E := ref04_Digits_E F) (ET := ref04_Digits_V rec) (EnvT.ofX (E := ref04_Digits_E F) (ET := ref04_Digits_V rec) (pure_of (pairs_cons hF pairs_nil)) looks_nil raws_nil G0_ok news_nil) (ref04_Digits_eq F rec) rfl
-- palinode/palinoderef09.number
noncomputable def ref09_number_E : Env := { pure := [(38, ref04_Digits_F)], raw := [], glob := G0, same := [72], look := [], ext := [] }
def ref09_number_H : Hints := { seqs := [], loops := [(9, [0, 4, 6, 7])], own := [] }
noncomputable def ref09_number_F : PFn := closeF (runF Tryd.prog ref09_number_E ref09_number_H Tryd.f26)
def ref09_number_Y : TH := { joins := [(5, { keep := [(5, (.int .i64))], mem := [] }), (14, { keep := [(6, (.int .i64))], mem := [] }), (16, { keep := [(6, (.int .i64))], mem := [] })], loops := [(9, { keep := [(6, (.int .i64)), (7, (.int .i64))], mem := [] })], cuts := [(1, [(8, { keep := [(15, .bool)], mem := [] })])], ro := [], news := [] }
noncomputable def ref09_number_l9 (a0 : List UInt8) (y9 : (Int × Int × Unit)) : Option ((Int × Int × Unit) ⊕ ((Int × Unit) ⊕ (Int × Bool × Unit))) :=
 cond (decide (y9.2.1 < (a0.length : Int))) (
(atI a0 y9.2.1).bind fun b4 =>
 cond (decide ((b4.toNat : Int) < 48)) (some (.inr (.inr (0, false, ())))) ((atI a0 y9.2.1).bind fun b5 =>
 cond (decide ((b5.toNat : Int) > 57)) (
 some (.inr (.inr (0, false, ())))) (
(atI a0 y9.2.1).bind fun b6 =>
 some (.inl ((IntKind.wrap .i64 ((IntKind.wrap .i64 ((IntKind.wrap .i64 (10 * y9.1)) + (IntKind.wrap .i64 (b6.toNat : Int)))) - 48)), (IntKind.wrap .i64 (y9.2.1 + 1)), ()))))) (
 some (.inr (.inl (y9.1, ()))))
noncomputable def ref09_number (a0 : List UInt8) : Option (Int × Bool × Unit) :=
(cond (decide ((a0.length : Int) > 0)) ((atI a0 0).bind fun b1 =>
 some ((decide ((b1.toNat : Int) = 45)), ())) (some (false, ())) : Option (Bool × Unit)).bind fun v2 =>
(cond v2.1 (
 some (.inl (1, ()))) (
 some (.inl (0, ()))) : Option ((Int × Unit) ⊕ (Int × Bool × Unit))).bind (joinS fun v3 =>
 cond (decide ((a0.length : Int) = v3.1)) (some (0, false, ())) (cond (decide ((a0.length : Int) > (IntKind.wrap .i64 (v3.1 + 10)))) (
 some (0, false, ())) (
(loopT (ref09_number_l9 a0) (0, v3.1, ()) : Option ((Int × Unit) ⊕ (Int × Bool × Unit))).bind (joinS fun v7 =>
(cond v2.1 (
 some (.inl ((IntKind.wrap .i64 (0 - v7.1)), ()))) (
 some (.inl (v7.1, ()))) : Option ((Int × Unit) ⊕ (Int × Bool × Unit))).bind (joinS fun v8 =>
(ref04_Digits v8.1).bind fun r9 =>
 some (v8.1, (decide (r9 = a0)), ()))))))
noncomputable def ref09_number_T : TFn := { ps := (.cons .str .unit), res := (.tup (.cons (.int .i64) (.cons .bool .unit))), fn := fun v => ref09_number v.1 }
noncomputable def ref09_number_V : TEnv := { pure := [(38, ref04_Digits_T)], look := [], glob := G0T, ty := [], raw := [], fresh := [] }
theorem ref09_number_eq : runY Tryd.prog ref09_number_E ref09_number_H ref09_number_V ref09_number_Y Tryd.f26 ref09_number_T.ps ref09_number_T.res = ref09_number_T.fn := by kernel_rfl
theorem ref09_number_Fok : SoundP Tryd.prog G0 26 ref09_number_F := closeF_sound (runF_sound (P := Tryd.prog) (E := ref09_number_E) (h := ref09_number_H) (f := 26) (fn := Tryd.f26) ⟨same_ok, (envP_cons ref04_Digits_Fok envP_nil), envS_nil, envP_nil, envX_nil⟩ Tryd.func26 rfl (by kernel_rfl))
theorem ref09_number_ok : TOk ref09_number_F ref09_number_T := runY_ok (E := ref09_number_E) (ET := ref09_number_V) (EnvT.ofX (E := ref09_number_E) (ET := ref09_number_V) (pure_of (pairs_cons ref04_Digits_ok pairs_nil)) looks_nil raws_nil G0_ok news_nil) ref09_number_eq rfl
-- palinode/palinoderef03.Char
noncomputable def ref03_Char_E : Env := { pure := [], raw := [], glob := G0, same := [72], look := [], ext := [] }
def ref03_Char_H : Hints := { seqs := [], loops := [(17, [0, 4, 5, 6, 7])], own := [] }
noncomputable def ref03_Char_F : PFn := closeF (runF Tryd.prog ref03_Char_E ref03_Char_H Tryd.f57)
def ref03_Char_Y : TH := { joins := [(14, { keep := [(4, (.int .i64)), (5, (.int .i64)), (6, (.int .i64))], mem := [] }), (9, { keep := [(18, .bool)], mem := [] }), (22, { keep := [(4, (.int .i64))], mem := [] }), (24, { keep := [], mem := [] })], loops := [(17, { keep := [(4, (.int .i64)), (7, (.int .i64))], mem := [] })], cuts := [], ro := [], news := [] }
noncomputable def ref03_Char_l17 (a0 : List UInt8) (v3 : (Int × Int × Int × Unit)) (y17 : (Int × Int × Unit)) : Option ((Int × Int × Unit) ⊕ ((Int × Unit) ⊕ (Int × Int × Unit))) :=
 cond (decide (y17.2.1 < v3.2.1)) (
(atI a0 y17.2.1).bind fun b4 =>
 cond (decide ((b4.toNat : Int) < 128)) (some (.inr (.inr (0, 0, ())))) ((atI a0 y17.2.1).bind fun b5 =>
 cond (decide ((b5.toNat : Int) > 191)) (
 some (.inr (.inr (0, 0, ())))) (
(atI a0 y17.2.1).bind fun b6 =>
 some (.inl ((IntKind.wrap .i64 ((IntKind.wrap .i64 ((IntKind.wrap .i64 (64 * y17.1)) + (IntKind.wrap .i64 (b6.toNat : Int)))) - 128)), (IntKind.wrap .i64 (y17.2.1 + 1)), ()))))) (
 some (.inr (.inl (y17.1, ()))))
noncomputable def ref03_Char (a0 : List UInt8) : Option (Int × Int × Unit) :=
 cond (decide ((a0.length : Int) = 0)) (
 some (0, 0, ())) (
(atI a0 0).bind fun b1 =>
(cond (decide ((IntKind.wrap .i64 (b1.toNat : Int)) < 128)) (
 some (.inr ((IntKind.wrap .i64 (b1.toNat : Int)), 1, ()))) (
(cond (decide ((IntKind.wrap .i64 (b1.toNat : Int)) ≥ 194)) (some (.inl ((decide ((IntKind.wrap .i64 (b1.toNat : Int)) < 224)), ()))) (some (.inl (false, ()))) : Option ((Bool × Unit) ⊕ ((Int × Int × Int × Unit) ⊕ (Int × Int × Unit)))).bind (joinS fun v2 =>
 cond v2.1 (
 some (.inl ((IntKind.wrap .i64 ((IntKind.wrap .i64 (b1.toNat : Int)) - 192)), 2, 128, ()))) (
 cond (decide ((IntKind.wrap .i64 (b1.toNat : Int)) ≥ 224)) (cond (decide ((IntKind.wrap .i64 (b1.toNat : Int)) < 240)) (
 some (.inl ((IntKind.wrap .i64 ((IntKind.wrap .i64 (b1.toNat : Int)) - 224)), 3, 2048, ()))) (
 cond (decide ((IntKind.wrap .i64 (b1.toNat : Int)) ≥ 240)) (cond (decide ((IntKind.wrap .i64 (b1.toNat : Int)) < 245)) (
 some (.inl ((IntKind.wrap .i64 ((IntKind.wrap .i64 (b1.toNat : Int)) - 240)), 4, 65536, ()))) (
 some (.inr (0, 0, ())))) (some (.inr (0, 0, ()))))) (cond (decide ((IntKind.wrap .i64 (b1.toNat : Int)) ≥ 240)) (cond (decide ((IntKind.wrap .i64 (b1.toNat : Int)) < 245)) (
 some (.inl ((IntKind.wrap .i64 ((IntKind.wrap .i64 (b1.toNat : Int)) - 240)), 4, 65536, ()))) (
 some (.inr (0, 0, ())))) (some (.inr (0, 0, ()))))))) : Option ((Int × Int × Int × Unit) ⊕ (Int × Int × Unit))).bind (joinS fun v3 =>
 cond (decide ((a0.length : Int) < v3.2.1)) (
 some (0, 0, ())) (
(loopT (ref03_Char_l17 a0 v3) (v3.1, 1, ()) : Option ((Int × Unit) ⊕ (Int × Int × Unit))).bind (joinS fun v7 =>
(cond (decide (v7.1 < v3.2.2.1)) (some (.inr (0, 0, ()))) (cond (decide (v7.1 > 1114111)) (some (.inr (0, 0, ()))) (cond (decide (v7.1 ≥ 55296)) (cond (decide (v7.1 ≤ 57343)) (
 some (.inr (0, 0, ()))) (
 some (.inl ()))) (some (.inl ())))) : Option (Unit ⊕ (Int × Int × Unit))).bind (joinS fun v8 =>
 some (v7.1, v3.2.1, ()))))))
noncomputable def ref03_Char_T : TFn := { ps := (.cons .str .unit), res := (.tup (.cons (.int .i64) (.cons (.int .i64) .unit))), fn := fun v => ref03_Char v.1 }
noncomputable def ref03_Char_V : TEnv := { pure := [], look := [], glob := G0T, ty := [], raw := [], fresh := [] }
theorem ref03_Char_eq : runY Tryd.prog ref03_Char_E ref03_Char_H ref03_Char_V ref03_Char_Y Tryd.f57 ref03_Char_T.ps ref03_Char_T.res = ref03_Char_T.fn := by kernel_rfl
theorem ref03_Char_Fok : SoundP Tryd.prog G0 57 ref03_Char_F := closeF_sound (runF_sound (P := Tryd.prog) (E := ref03_Char_E) (h := ref03_Char_H) (f := 57) (fn := Tryd.f57) ⟨same_ok, envP_nil, envS_nil, envP_nil, envX_nil⟩ Tryd.func57 rfl (by kernel_rfl))
theorem ref03_Char_ok : TOk ref03_Char_F ref03_Char_T := runY_ok (E := ref03_Char_E) (ET := ref03_Char_V) (EnvT.ofX (E := ref03_Char_E) (ET := ref03_Char_V) (pure_of pairs_nil) looks_nil raws_nil G0_ok news_nil) ref03_Char_eq rfl
-- palinode/palinoderef03.Runes
noncomputable def ref03_Runes_E : Env := { pure := [(57, ref03_Char_F)], raw := [], glob := G0, same := [72], look := [], ext := [] }
def ref03_Runes_H : Hints := { seqs := [], loops := [(3, [0, 4, 5])], own := [] }
noncomputable def ref03_Runes_F : PFn := closeF (runF Tryd.prog ref03_Runes_E ref03_Runes_H Tryd.f31)
def ref03_Runes_Y : TH := { joins := [], loops := [(3, { keep := [(4, (.own 0)), (5, (.int .i64))], mem := [.row true 3 (.int .i64)] })], cuts := [], ro := [], news := [] }
noncomputable def ref03_Runes_l3 (a0 : List UInt8) (y3 : (Int × List Int × Unit)) : Option ((Int × List Int × Unit) ⊕ (List Int × Bool × Unit)) :=
 cond (decide (y3.1 < (a0.length : Int))) (
(subI a0 y3.1 (a0.length : Int)).bind fun s1 =>
(ref03_Char s1).bind fun r2 =>
 cond (decide (r2.2.1 = 0)) (
 some (.inr ([], false, ()))) (
(roomT (y3.2.1.length + ([r2.1] : List Int).length)).bind fun u3 =>
 some (.inl ((IntKind.wrap .i64 (y3.1 + r2.2.1)), (y3.2.1 ++ ([r2.1] : List Int)), ())))) (
 some (.inr (y3.2.1, true, ())))
noncomputable def ref03_Runes (a0 : List UInt8) : Option (List Int × Bool × Unit) :=
 loopT (ref03_Runes_l3 a0) (0, [], ())
noncomputable def ref03_Runes_T : TFn := { ps := (.cons .str .unit), res := (.tup (.cons (.sl (.int .i64)) (.cons .bool .unit))), fn := fun v => ref03_Runes v.1 }
noncomputable def ref03_Runes_V : TEnv := { pure := [(57, ref03_Char_T)], look := [], glob := G0T, ty := [(3, (.int .i64))], raw := [], fresh := [] }
theorem ref03_Runes_eq : runY Tryd.prog ref03_Runes_E ref03_Runes_H ref03_Runes_V ref03_Runes_Y Tryd.f31 ref03_Runes_T.ps ref03_Runes_T.res = ref03_Runes_T.fn := by kernel_rfl
theorem ref03_Runes_Fok : SoundP Tryd.prog G0 31 ref03_Runes_F := closeF_sound (runF_sound (P := Tryd.prog) (E := ref03_Runes_E) (h := ref03_Runes_H) (f := 31) (fn := Tryd.f31) ⟨same_ok, (envP_cons ref03_Char_Fok envP_nil), envS_nil, envP_nil, envX_nil⟩ Tryd.func31 rfl (by kernel_rfl))
theorem ref03_Runes_ok : TOk ref03_Runes_F ref03_Runes_T := runY_ok (E := ref03_Runes_E) (ET := ref03_Runes_V) (EnvT.ofX (E := ref03_Runes_E) (ET := ref03_Runes_V) (pure_of (pairs_cons ref03_Char_ok pairs_nil)) looks_nil raws_nil G0_ok news_nil) ref03_Runes_eq rfl
-- palinode/palinoderef09.Right
noncomputable def ref09_Right_E : Env := { pure := [(31, ref03_Runes_F)], raw := [], glob := G0, same := [72], look := [], ext := [] }
def ref09_Right_H : Hints := { seqs := [], loops := [], own := [] }
noncomputable def ref09_Right_F : PFn := closeF (runF Tryd.prog ref09_Right_E ref09_Right_H Tryd.f12)
def ref09_Right_Y : TH := { joins := [], loops := [], cuts := [], ro := [1], news := [] }
noncomputable def ref09_Right (a0 : (Int × Int × List UInt8 × Unit)) : Option Bool :=
 cond (decide (a0.1 = 1)) (
 cond (decide (a0.2.2.1 = [])) (cond (decide (a0.2.1 ≥ (-2147483647))) (some (decide (a0.2.1 ≤ 2147483647))) (some false)) (some false)) (
 cond (decide (a0.1 = 2)) (
(ref03_Runes a0.2.2.1).bind fun r1 =>
 cond (decide (a0.2.1 = 0)) (cond r1.2.1 (some (decide ((a0.2.2.1.length : Int) ≤ 64))) (some false)) (some false)) (
 cond (decide (a0.1 = 3)) (cond (decide (a0.2.2.1 = [])) (cond (decide (a0.2.1 ≥ 0)) (some (decide (a0.2.1 ≤ 1))) (some false)) (some false)) (some false)))
noncomputable def ref09_Right_T : TFn := { ps := (.cons (.agg (.cons (.int .i64) (.cons (.int .i64) (.cons .str .unit)))) .unit), res := .bool, fn := fun v => ref09_Right v.1 }
noncomputable def ref09_Right_V : TEnv := { pure := [(31, ref03_Runes_T)], look := [], glob := G0T, ty := [], raw := [], fresh := [] }
theorem ref09_Right_eq : runY Tryd.prog ref09_Right_E ref09_Right_H ref09_Right_V ref09_Right_Y Tryd.f12 ref09_Right_T.ps ref09_Right_T.res = ref09_Right_T.fn := by kernel_rfl
theorem ref09_Right_Fok : SoundP Tryd.prog G0 12 ref09_Right_F := closeF_sound (runF_sound (P := Tryd.prog) (E := ref09_Right_E) (h := ref09_Right_H) (f := 12) (fn := Tryd.f12) ⟨same_ok, (envP_cons ref03_Runes_Fok envP_nil), envS_nil, envP_nil, envX_nil⟩ Tryd.func12 rfl (by kernel_rfl))
theorem ref09_Right_ok : TOk ref09_Right_F ref09_Right_T := runY_ok (E := ref09_Right_E) (ET := ref09_Right_V) (EnvT.ofX (E := ref09_Right_E) (ET := ref09_Right_V) (pure_of (pairs_cons ref03_Runes_ok pairs_nil)) looks_nil raws_nil G0_ok news_nil) ref09_Right_eq rfl
-- palinode/palinoderef09.Parse
noncomputable def ref09_Parse_E : Env := { pure := [(12, ref09_Right_F), (26, ref09_number_F)], raw := [], glob := G0, same := [72], look := [], ext := [] }
def ref09_Parse_H : Hints := { seqs := [], loops := [(13, [0, 2, 7, 8])], own := [] }
noncomputable def ref09_Parse_F : PFn := closeF (runF Tryd.prog ref09_Parse_E ref09_Parse_H Tryd.f9)
def ref09_Parse_Y : TH := { joins := [(6, { keep := [(2, (.bx 0 0)), (23, .bool)], mem := [.box 24 (.agg (.cons (.int .i64) (.cons (.int .i64) (.cons .str .unit))))] }), (20, { keep := [(2, (.bx 0 0)), (7, .str), (8, (.int .i64))], mem := [.box 24 (.agg (.cons (.int .i64) (.cons (.int .i64) (.cons .str .unit))))] }), (18, { keep := [(2, (.bx 0 0)), (8, (.int .i64))], mem := [.box 24 (.agg (.cons (.int .i64) (.cons (.int .i64) (.cons .str .unit))))] })], loops := [(13, { keep := [(2, (.bx 0 0)), (7, .str), (8, (.int .i64))], mem := [.box 24 (.agg (.cons (.int .i64) (.cons (.int .i64) (.cons .str .unit))))] })], cuts := [], ro := [], news := [] }
noncomputable def ref09_Parse_l13 (a0 : List UInt8) (y13 : (List UInt8 × Int × (Int × Int × List UInt8 × Unit) × Unit)) : Option ((List UInt8 × Int × (Int × Int × List UInt8 × Unit) × Unit) ⊕ ((List UInt8 × Int × (Int × Int × List UInt8 × Unit) × Unit) ⊕ ((Int × Int × List UInt8 × Unit) × Bool × Unit))) :=
 cond (decide (y13.2.1 < (a0.length : Int))) ((atI a0 y13.2.1).bind fun b5 =>
 cond (!decide ((b5.toNat : Int) = 34)) (
((atI a0 y13.2.1).bind fun b6 =>
 cond (decide ((b6.toNat : Int) = 92)) (
 cond (decide ((IntKind.wrap .i64 (y13.2.1 + 1)) = (a0.length : Int))) (some (.inr (.inr (.inr ((0, 0, [], ()), false, ()))))) ((atI a0 (IntKind.wrap .i64 (y13.2.1 + 1))).bind fun b7 =>
 cond (!decide ((b7.toNat : Int) = 34)) ((atI a0 (IntKind.wrap .i64 (y13.2.1 + 1))).bind fun b8 =>
 cond (!decide ((b8.toNat : Int) = 92)) (
 some (.inr (.inr (.inr ((0, 0, [], ()), false, ()))))) (
 some (.inl ((IntKind.wrap .i64 (y13.2.1 + 1)), y13.2.2.1, ())))) (some (.inl ((IntKind.wrap .i64 (y13.2.1 + 1)), y13.2.2.1, ()))))) (
 some (.inl (y13.2.1, y13.2.2.1, ()))) : Option ((Int × (Int × Int × List UInt8 × Unit) × Unit) ⊕ ((List UInt8 × Int × (Int × Int × List UInt8 × Unit) × Unit) ⊕ ((List UInt8 × Int × (Int × Int × List UInt8 × Unit) × Unit) ⊕ ((Int × Int × List UInt8 × Unit) × Bool × Unit))))).bind (joinS fun v9 =>
(subI a0 v9.1 (IntKind.wrap .i64 (v9.1 + 1))).bind fun s10 =>
(catT y13.1 s10).bind fun s11 =>
 some (.inl (s11, (IntKind.wrap .i64 (v9.1 + 1)), v9.2.1, ())))) (
 some (.inr (.inl (y13.1, y13.2.1, y13.2.2.1, ()))))) (some (.inr (.inl (y13.1, y13.2.1, y13.2.2.1, ()))))
noncomputable def ref09_Parse (a0 : List UInt8) : Option ((Int × Int × List UInt8 × Unit) × Bool × Unit) :=
 cond (decide (a0 = [116, 114, 117, 101])) (
 some ((3, 1, [], ()), true, ())) (
 cond (decide (a0 = [102, 97, 108, 115, 101])) (
 some ((3, 0, [], ()), true, ())) (
(cond (decide ((a0.length : Int) = 0)) (some (.inl (true, (0, 0, [], ()), ()))) ((atI a0 0).bind fun b1 =>
 some (.inl ((!decide ((b1.toNat : Int) = 34)), (0, 0, [], ()), ()))) : Option ((Bool × (Int × Int × List UInt8 × Unit) × Unit) ⊕ ((Int × Int × List UInt8 × Unit) × Bool × Unit))).bind (joinS fun v2 =>
 cond v2.1 (
(ref09_number a0).bind fun r3 =>
 cond (!r3.2.1) (some ((0, 0, [], ()), false, ())) ((ref09_Right (1, r3.1, [], ())).bind fun r4 =>
 cond (!r4) (
 some ((0, 0, [], ()), false, ())) (
 some ((1, r3.1, [], ()), true, ())))) (
(loopT (ref09_Parse_l13 a0) ([], 1, v2.2.1, ()) : Option ((List UInt8 × Int × (Int × Int × List UInt8 × Unit) × Unit) ⊕ ((Int × Int × List UInt8 × Unit) × Bool × Unit))).bind (joinS fun v12 =>
 cond (!decide (v12.2.1 = (IntKind.wrap .i64 ((a0.length : Int) - 1)))) (some ((0, 0, [], ()), false, ())) ((ref09_Right (2, 0, v12.1, ())).bind fun r13 =>
 cond (!r13) (
 some ((0, 0, [], ()), false, ())) (
 some ((2, 0, v12.1, ()), true, ()))))))))
noncomputable def ref09_Parse_T : TFn := { ps := (.cons .str .unit), res := (.tup (.cons (.agg (.cons (.int .i64) (.cons (.int .i64) (.cons .str .unit)))) (.cons .bool .unit))), fn := fun v => ref09_Parse v.1 }
noncomputable def ref09_Parse_V : TEnv := { pure := [(12, ref09_Right_T), (26, ref09_number_T)], look := [], glob := G0T, ty := [], raw := [], fresh := [] }
theorem ref09_Parse_eq : runY Tryd.prog ref09_Parse_E ref09_Parse_H ref09_Parse_V ref09_Parse_Y Tryd.f9 ref09_Parse_T.ps ref09_Parse_T.res = ref09_Parse_T.fn := by kernel_rfl
theorem ref09_Parse_Fok : SoundP Tryd.prog G0 9 ref09_Parse_F := closeF_sound (runF_sound (P := Tryd.prog) (E := ref09_Parse_E) (h := ref09_Parse_H) (f := 9) (fn := Tryd.f9) ⟨same_ok, (envP_cons ref09_Right_Fok (envP_cons ref09_number_Fok envP_nil)), envS_nil, envP_nil, envX_nil⟩ Tryd.func9 rfl (by kernel_rfl))
theorem ref09_Parse_ok : TOk ref09_Parse_F ref09_Parse_T := runY_ok (E := ref09_Parse_E) (ET := ref09_Parse_V) (EnvT.ofX (E := ref09_Parse_E) (ET := ref09_Parse_V) (pure_of (pairs_cons ref09_Right_ok (pairs_cons ref09_number_ok pairs_nil))) looks_nil raws_nil G0_ok news_nil) ref09_Parse_eq rfl
-- cmp.isNaN[int]
noncomputable def cmp_isNaN_int_E : Env := { pure := [], raw := [], glob := G0, same := [72], look := [], ext := [] }
def cmp_isNaN_int_H : Hints := { seqs := [], loops := [], own := [] }
noncomputable def cmp_isNaN_int_F : PFn := closeF (runF Tryd.prog cmp_isNaN_int_E cmp_isNaN_int_H Tryd.f54)
def cmp_isNaN_int_Y : TH := { joins := [], loops := [], cuts := [], ro := [], news := [] }
noncomputable def cmp_isNaN_int (a0 : Int) : Option Bool :=
 some (!decide (a0 = a0))
noncomputable def cmp_isNaN_int_T : TFn := { ps := (.cons (.int .i64) .unit), res := .bool, fn := fun v => cmp_isNaN_int v.1 }
noncomputable def cmp_isNaN_int_V : TEnv := { pure := [], look := [], glob := G0T, ty := [], raw := [], fresh := [] }
theorem cmp_isNaN_int_eq : runY Tryd.prog cmp_isNaN_int_E cmp_isNaN_int_H cmp_isNaN_int_V cmp_isNaN_int_Y Tryd.f54 cmp_isNaN_int_T.ps cmp_isNaN_int_T.res = cmp_isNaN_int_T.fn := by kernel_rfl
theorem cmp_isNaN_int_Fok : SoundP Tryd.prog G0 54 cmp_isNaN_int_F := closeF_sound (runF_sound (P := Tryd.prog) (E := cmp_isNaN_int_E) (h := cmp_isNaN_int_H) (f := 54) (fn := Tryd.f54) ⟨same_ok, envP_nil, envS_nil, envP_nil, envX_nil⟩ Tryd.func54 rfl (by kernel_rfl))
theorem cmp_isNaN_int_ok : TOk cmp_isNaN_int_F cmp_isNaN_int_T := runY_ok (E := cmp_isNaN_int_E) (ET := cmp_isNaN_int_V) (EnvT.ofX (E := cmp_isNaN_int_E) (ET := cmp_isNaN_int_V) (pure_of pairs_nil) looks_nil raws_nil G0_ok news_nil) cmp_isNaN_int_eq rfl
-- cmp.Compare[int]
noncomputable def cmp_Compare_int_E : Env := { pure := [(54, cmp_isNaN_int_F)], raw := [], glob := G0, same := [72], look := [], ext := [] }
def cmp_Compare_int_H : Hints := { seqs := [], loops := [], own := [] }
noncomputable def cmp_Compare_int_F : PFn := closeF (runF Tryd.prog cmp_Compare_int_E cmp_Compare_int_H Tryd.f28)
def cmp_Compare_int_Y : TH := { joins := [], loops := [], cuts := [], ro := [], news := [] }
noncomputable def cmp_Compare_int (a0 : Int) (a1 : Int) : Option Int :=
(cmp_isNaN_int a0).bind fun r1 =>
(cmp_isNaN_int a1).bind fun r2 =>
 cond r1 (
 cond r2 (
 some 0) (
 some (-1))) (
 cond r2 (
 some 1) (
 cond (decide (a0 < a1)) (
 some (-1)) (
 cond (decide (a0 > a1)) (
 some 1) (
 some 0))))
noncomputable def cmp_Compare_int_T : TFn := { ps := (.cons (.int .i64) (.cons (.int .i64) .unit)), res := (.int .i64), fn := fun v => cmp_Compare_int v.1 v.2.1 }
noncomputable def cmp_Compare_int_V : TEnv := { pure := [(54, cmp_isNaN_int_T)], look := [], glob := G0T, ty := [], raw := [], fresh := [] }
theorem cmp_Compare_int_eq : runY Tryd.prog cmp_Compare_int_E cmp_Compare_int_H cmp_Compare_int_V cmp_Compare_int_Y Tryd.f28 cmp_Compare_int_T.ps cmp_Compare_int_T.res = cmp_Compare_int_T.fn := by kernel_rfl
theorem cmp_Compare_int_Fok : SoundP Tryd.prog G0 28 cmp_Compare_int_F := closeF_sound (runF_sound (P := Tryd.prog) (E := cmp_Compare_int_E) (h := cmp_Compare_int_H) (f := 28) (fn := Tryd.f28) ⟨same_ok, (envP_cons cmp_isNaN_int_Fok envP_nil), envS_nil, envP_nil, envX_nil⟩ Tryd.func28 rfl (by kernel_rfl))
theorem cmp_Compare_int_ok : TOk cmp_Compare_int_F cmp_Compare_int_T := runY_ok (E := cmp_Compare_int_E) (ET := cmp_Compare_int_V) (EnvT.ofX (E := cmp_Compare_int_E) (ET := cmp_Compare_int_V) (pure_of (pairs_cons cmp_isNaN_int_ok pairs_nil)) looks_nil raws_nil G0_ok news_nil) cmp_Compare_int_eq rfl
-- strings.Compare
noncomputable def strings_Compare_F : PFn := cmpF
theorem strings_Compare_Fok : SoundP Tryd.prog G0 29 strings_Compare_F := cmp_sound ⟨Tryd.f29, Tryd.func29, rfl, by kernel_rfl⟩ Tryd.strings_Compare
noncomputable def strings_Compare (a0 : List UInt8) (a1 : List UInt8) : Option Int := cmpT a0 a1
noncomputable def strings_Compare_T : TFn := cmpT_T
theorem strings_Compare_ok : TOk strings_Compare_F strings_Compare_T := cmpT_ok
-- cmp.Or[int]
noncomputable def cmp_Or_int_E : Env := { pure := [], raw := [], glob := G0, same := [72], look := [], ext := [] }
def cmp_Or_int_H : Hints := { seqs := [], loops := [(3, [3, 6, 7, 8])], own := [] }
noncomputable def cmp_Or_int_F : PFn := closeF (runF Tryd.prog cmp_Or_int_E cmp_Or_int_H Tryd.f27)
def cmp_Or_int_Y : TH := { joins := [], loops := [(3, { keep := [(8, (.int .i64))], mem := [] })], cuts := [], ro := [], news := [] }
noncomputable def cmp_Or_int_l3 (a0 : List Int) (y3 : (Int × Unit)) : Option ((Int × Unit) ⊕ Int) :=
 cond (decide (y3.1 < (a0.length : Int))) (
(atI a0 y3.1).bind fun x1 =>
 cond (!decide (x1 = 0)) (
 some (.inr x1)) (
 some (.inl ((IntKind.wrap .i64 (y3.1 + 1)), ())))) (
 some (.inr 0))
noncomputable def cmp_Or_int (a0 : List Int) : Option Int :=
 loopT (cmp_Or_int_l3 a0) (0, ())
noncomputable def cmp_Or_int_T : TFn := { ps := (.cons (.sl (.int .i64)) .unit), res := (.int .i64), fn := fun v => cmp_Or_int v.1 }
noncomputable def cmp_Or_int_V : TEnv := { pure := [], look := [], glob := G0T, ty := [], raw := [], fresh := [] }
theorem cmp_Or_int_eq : runY Tryd.prog cmp_Or_int_E cmp_Or_int_H cmp_Or_int_V cmp_Or_int_Y Tryd.f27 cmp_Or_int_T.ps cmp_Or_int_T.res = cmp_Or_int_T.fn := by kernel_rfl
theorem cmp_Or_int_Fok : SoundP Tryd.prog G0 27 cmp_Or_int_F := closeF_sound (runF_sound (P := Tryd.prog) (E := cmp_Or_int_E) (h := cmp_Or_int_H) (f := 27) (fn := Tryd.f27) ⟨same_ok, envP_nil, envS_nil, envP_nil, envX_nil⟩ Tryd.func27 rfl (by kernel_rfl))
theorem cmp_Or_int_ok : TOk cmp_Or_int_F cmp_Or_int_T := runY_ok (E := cmp_Or_int_E) (ET := cmp_Or_int_V) (EnvT.ofX (E := cmp_Or_int_E) (ET := cmp_Or_int_V) (pure_of pairs_nil) looks_nil raws_nil G0_ok news_nil) cmp_Or_int_eq rfl
-- palinode/value.Compare
noncomputable def value_Compare_E : Env := { pure := [(27, cmp_Or_int_F), (28, cmp_Compare_int_F), (29, strings_Compare_F)], raw := [], glob := G0, same := [72], look := [], ext := [] }
def value_Compare_H : Hints := { seqs := [], loops := [], own := [] }
noncomputable def value_Compare_F : PFn := closeF (runF Tryd.prog value_Compare_E value_Compare_H Tryd.f10)
def value_Compare_Y : TH := { joins := [], loops := [], cuts := [], ro := [2, 3], news := [] }
noncomputable def value_Compare (a0 : (Int × Int × List UInt8 × Unit)) (a1 : (Int × Int × List UInt8 × Unit)) : Option Int :=
(cmp_Compare_int a0.1 a1.1).bind fun r1 =>
(cmp_Compare_int a0.2.1 a1.2.1).bind fun r2 =>
(strings_Compare a0.2.2.1 a1.2.2.1).bind fun r3 =>
(cmp_Or_int ([r1, r2, r3] : List Int)).bind fun r4 =>
 some r4
noncomputable def value_Compare_T : TFn := { ps := (.cons (.agg (.cons (.int .i64) (.cons (.int .i64) (.cons .str .unit)))) (.cons (.agg (.cons (.int .i64) (.cons (.int .i64) (.cons .str .unit)))) .unit)), res := (.int .i64), fn := fun v => value_Compare v.1 v.2.1 }
noncomputable def value_Compare_V : TEnv := { pure := [(27, cmp_Or_int_T), (28, cmp_Compare_int_T), (29, strings_Compare_T)], look := [], glob := G0T, ty := [(3, (.int .i64))], raw := [], fresh := [] }
theorem value_Compare_eq : runY Tryd.prog value_Compare_E value_Compare_H value_Compare_V value_Compare_Y Tryd.f10 value_Compare_T.ps value_Compare_T.res = value_Compare_T.fn := by kernel_rfl
theorem value_Compare_Fok : SoundP Tryd.prog G0 10 value_Compare_F := closeF_sound (runF_sound (P := Tryd.prog) (E := value_Compare_E) (h := value_Compare_H) (f := 10) (fn := Tryd.f10) ⟨same_ok, (envP_cons cmp_Or_int_Fok (envP_cons cmp_Compare_int_Fok (envP_cons strings_Compare_Fok envP_nil))), envS_nil, envP_nil, envX_nil⟩ Tryd.func10 rfl (by kernel_rfl))
theorem value_Compare_ok : TOk value_Compare_F value_Compare_T := runY_ok (E := value_Compare_E) (ET := value_Compare_V) (EnvT.ofX (E := value_Compare_E) (ET := value_Compare_V) (pure_of (pairs_cons cmp_Or_int_ok (pairs_cons cmp_Compare_int_ok (pairs_cons strings_Compare_ok pairs_nil)))) looks_nil raws_nil G0_ok news_nil) value_Compare_eq rfl
-- palinode/palinoderef09.ints
noncomputable def ref09_ints_E : Env := { pure := [], raw := [], glob := G0, same := [72], look := [], ext := [] }
def ref09_ints_H : Hints := { seqs := [], loops := [], own := [] }
noncomputable def ref09_ints_F : PFn := closeF (runF Tryd.prog ref09_ints_E ref09_ints_H Tryd.f32)
def ref09_ints_Y : TH := { joins := [], loops := [], cuts := [], ro := [], news := [] }
noncomputable def ref09_ints (a0 : Int) (a1 : Int) : Option Int :=
 cond (decide (a0 < a1)) (
 some (-1)) (
 cond (decide (a0 > a1)) (
 some 1) (
 some 0))
noncomputable def ref09_ints_T : TFn := { ps := (.cons (.int .i64) (.cons (.int .i64) .unit)), res := (.int .i64), fn := fun v => ref09_ints v.1 v.2.1 }
noncomputable def ref09_ints_V : TEnv := { pure := [], look := [], glob := G0T, ty := [], raw := [], fresh := [] }
theorem ref09_ints_eq : runY Tryd.prog ref09_ints_E ref09_ints_H ref09_ints_V ref09_ints_Y Tryd.f32 ref09_ints_T.ps ref09_ints_T.res = ref09_ints_T.fn := by kernel_rfl
theorem ref09_ints_Fok : SoundP Tryd.prog G0 32 ref09_ints_F := closeF_sound (runF_sound (P := Tryd.prog) (E := ref09_ints_E) (h := ref09_ints_H) (f := 32) (fn := Tryd.f32) ⟨same_ok, envP_nil, envS_nil, envP_nil, envX_nil⟩ Tryd.func32 rfl (by kernel_rfl))
theorem ref09_ints_ok : TOk ref09_ints_F ref09_ints_T := runY_ok (E := ref09_ints_E) (ET := ref09_ints_V) (EnvT.ofX (E := ref09_ints_E) (ET := ref09_ints_V) (pure_of pairs_nil) looks_nil raws_nil G0_ok news_nil) ref09_ints_eq rfl
-- palinode/palinoderef09.Texts
noncomputable def ref09_Texts_E : Env := { pure := [(32, ref09_ints_F)], raw := [], glob := G0, same := [72], look := [], ext := [] }
def ref09_Texts_H : Hints := { seqs := [], loops := [(2, [0, 1, 5])], own := [] }
noncomputable def ref09_Texts_F : PFn := closeF (runF Tryd.prog ref09_Texts_E ref09_Texts_H Tryd.f33)
def ref09_Texts_Y : TH := { joins := [(6, { keep := [], mem := [] })], loops := [(2, { keep := [(5, (.int .i64))], mem := [] })], cuts := [], ro := [], news := [] }
noncomputable def ref09_Texts_l2 (a0 : List UInt8) (a1 : List UInt8) (y2 : (Int × Unit)) : Option ((Int × Unit) ⊕ (Unit ⊕ Int)) :=
 cond (decide (y2.1 < (a0.length : Int))) (cond (decide (y2.1 < (a1.length : Int))) (
(atI a0 y2.1).bind fun b1 =>
(atI a1 y2.1).bind fun b2 =>
 cond (!decide ((b1.toNat : Int) = (b2.toNat : Int))) (
(atI a0 y2.1).bind fun b3 =>
(atI a1 y2.1).bind fun b4 =>
(ref09_ints (IntKind.wrap .i64 (b3.toNat : Int)) (IntKind.wrap .i64 (b4.toNat : Int))).bind fun r5 =>
 some (.inr (.inr r5))) (
 some (.inl ((IntKind.wrap .i64 (y2.1 + 1)), ())))) (
 some (.inr (.inl ())))) (some (.inr (.inl ())))
noncomputable def ref09_Texts (a0 : List UInt8) (a1 : List UInt8) : Option Int :=
(loopT (ref09_Texts_l2 a0 a1) (0, ()) : Option (Unit ⊕ Int)).bind (joinS fun v6 =>
(ref09_ints (a0.length : Int) (a1.length : Int)).bind fun r7 =>
 some r7)
noncomputable def ref09_Texts_T : TFn := { ps := (.cons .str (.cons .str .unit)), res := (.int .i64), fn := fun v => ref09_Texts v.1 v.2.1 }
noncomputable def ref09_Texts_V : TEnv := { pure := [(32, ref09_ints_T)], look := [], glob := G0T, ty := [], raw := [], fresh := [] }
theorem ref09_Texts_eq : runY Tryd.prog ref09_Texts_E ref09_Texts_H ref09_Texts_V ref09_Texts_Y Tryd.f33 ref09_Texts_T.ps ref09_Texts_T.res = ref09_Texts_T.fn := by kernel_rfl
theorem ref09_Texts_Fok : SoundP Tryd.prog G0 33 ref09_Texts_F := closeF_sound (runF_sound (P := Tryd.prog) (E := ref09_Texts_E) (h := ref09_Texts_H) (f := 33) (fn := Tryd.f33) ⟨same_ok, (envP_cons ref09_ints_Fok envP_nil), envS_nil, envP_nil, envX_nil⟩ Tryd.func33 rfl (by kernel_rfl))
theorem ref09_Texts_ok : TOk ref09_Texts_F ref09_Texts_T := runY_ok (E := ref09_Texts_E) (ET := ref09_Texts_V) (EnvT.ofX (E := ref09_Texts_E) (ET := ref09_Texts_V) (pure_of (pairs_cons ref09_ints_ok pairs_nil)) looks_nil raws_nil G0_ok news_nil) ref09_Texts_eq rfl
-- palinode/palinoderef09.Compare
noncomputable def ref09_Compare_E : Env := { pure := [(32, ref09_ints_F), (33, ref09_Texts_F)], raw := [], glob := G0, same := [72], look := [], ext := [] }
def ref09_Compare_H : Hints := { seqs := [], loops := [], own := [] }
noncomputable def ref09_Compare_F : PFn := closeF (runF Tryd.prog ref09_Compare_E ref09_Compare_H Tryd.f13)
def ref09_Compare_Y : TH := { joins := [], loops := [], cuts := [], ro := [2, 3], news := [] }
noncomputable def ref09_Compare (a0 : (Int × Int × List UInt8 × Unit)) (a1 : (Int × Int × List UInt8 × Unit)) : Option Int :=
 cond (!decide (a0.1 = a1.1)) (
(ref09_ints a0.1 a1.1).bind fun r1 =>
 some r1) (
 cond (!decide (a0.2.1 = a1.2.1)) (
(ref09_ints a0.2.1 a1.2.1).bind fun r2 =>
 some r2) (
(ref09_Texts a0.2.2.1 a1.2.2.1).bind fun r3 =>
 some r3))
noncomputable def ref09_Compare_T : TFn := { ps := (.cons (.agg (.cons (.int .i64) (.cons (.int .i64) (.cons .str .unit)))) (.cons (.agg (.cons (.int .i64) (.cons (.int .i64) (.cons .str .unit)))) .unit)), res := (.int .i64), fn := fun v => ref09_Compare v.1 v.2.1 }
noncomputable def ref09_Compare_V : TEnv := { pure := [(32, ref09_ints_T), (33, ref09_Texts_T)], look := [], glob := G0T, ty := [], raw := [], fresh := [] }
theorem ref09_Compare_eq : runY Tryd.prog ref09_Compare_E ref09_Compare_H ref09_Compare_V ref09_Compare_Y Tryd.f13 ref09_Compare_T.ps ref09_Compare_T.res = ref09_Compare_T.fn := by kernel_rfl
theorem ref09_Compare_Fok : SoundP Tryd.prog G0 13 ref09_Compare_F := closeF_sound (runF_sound (P := Tryd.prog) (E := ref09_Compare_E) (h := ref09_Compare_H) (f := 13) (fn := Tryd.f13) ⟨same_ok, (envP_cons ref09_ints_Fok (envP_cons ref09_Texts_Fok envP_nil)), envS_nil, envP_nil, envX_nil⟩ Tryd.func13 rfl (by kernel_rfl))
theorem ref09_Compare_ok : TOk ref09_Compare_F ref09_Compare_T := runY_ok (E := ref09_Compare_E) (ET := ref09_Compare_V) (EnvT.ofX (E := ref09_Compare_E) (ET := ref09_Compare_V) (pure_of (pairs_cons ref09_ints_ok (pairs_cons ref09_Texts_ok pairs_nil))) looks_nil raws_nil G0_ok news_nil) ref09_Compare_eq rfl
-- palinode/palinoderef09.Text
noncomputable def ref09_Text_E : Env := { pure := [(38, ref04_Digits_F)], raw := [], glob := G0, same := [72], look := [], ext := [] }
def ref09_Text_H : Hints := { seqs := [], loops := [(9, [1, 3, 4])], own := [] }
noncomputable def ref09_Text_F : PFn := closeF (runF Tryd.prog ref09_Text_E ref09_Text_H Tryd.f15)
def ref09_Text_Y : TH := { joins := [(13, { keep := [(1, (.bx 0 0)), (3, .str)], mem := [.same] })], loops := [(9, { keep := [(1, (.bx 0 0)), (3, .str), (4, (.int .i64))], mem := [.same] })], cuts := [], ro := [1], news := [] }
noncomputable def ref09_Text_l9 (a0 : (Int × Int × List UInt8 × Unit)) (y9 : (List UInt8 × Int × Unit)) : Option ((List UInt8 × Int × Unit) ⊕ List UInt8) :=
 cond (decide (y9.2.1 < (a0.2.2.1.length : Int))) (
((atI a0.2.2.1 y9.2.1).bind fun b2 =>
 cond (decide ((b2.toNat : Int) = 34)) ((catT y9.1 [92]).bind fun s3 =>
 some (.inl (s3, ()))) ((atI a0.2.2.1 y9.2.1).bind fun b4 =>
 cond (decide ((b4.toNat : Int) = 92)) (
(catT y9.1 [92]).bind fun s5 =>
 some (.inl (s5, ()))) (
 some (.inl (y9.1, ())))) : Option ((List UInt8 × Unit) ⊕ ((List UInt8 × Int × Unit) ⊕ List UInt8))).bind (joinS fun v6 =>
(subI a0.2.2.1 y9.2.1 (IntKind.wrap .i64 (y9.2.1 + 1))).bind fun s7 =>
(catT v6.1 s7).bind fun s8 =>
 some (.inl (s8, (IntKind.wrap .i64 (y9.2.1 + 1)), ())))) (
((catT y9.1 [34]).bind fun s9 =>
 some s9).map .inr)
noncomputable def ref09_Text (a0 : (Int × Int × List UInt8 × Unit)) : Option (List UInt8) :=
 cond (decide (a0.1 = 1)) (
(ref04_Digits a0.2.1).bind fun r1 =>
 some r1) (
 cond (decide (a0.1 = 3)) (
 cond (decide (a0.2.1 = 1)) (
 some [116, 114, 117, 101]) (
 some [102, 97, 108, 115, 101])) (
 loopT (ref09_Text_l9 a0) ([34], 0, ())))
noncomputable def ref09_Text_T : TFn := { ps := (.cons (.agg (.cons (.int .i64) (.cons (.int .i64) (.cons .str .unit)))) .unit), res := .str, fn := fun v => ref09_Text v.1 }
noncomputable def ref09_Text_V : TEnv := { pure := [(38, ref04_Digits_T)], look := [], glob := G0T, ty := [], raw := [], fresh := [] }
theorem ref09_Text_eq : runY Tryd.prog ref09_Text_E ref09_Text_H ref09_Text_V ref09_Text_Y Tryd.f15 ref09_Text_T.ps ref09_Text_T.res = ref09_Text_T.fn := by kernel_rfl
theorem ref09_Text_Fok : SoundP Tryd.prog G0 15 ref09_Text_F := closeF_sound (runF_sound (P := Tryd.prog) (E := ref09_Text_E) (h := ref09_Text_H) (f := 15) (fn := Tryd.f15) ⟨same_ok, (envP_cons ref04_Digits_Fok envP_nil), envS_nil, envP_nil, envX_nil⟩ Tryd.func15 rfl (by kernel_rfl))
theorem ref09_Text_ok : TOk ref09_Text_F ref09_Text_T := runY_ok (E := ref09_Text_E) (ET := ref09_Text_V) (EnvT.ofX (E := ref09_Text_E) (ET := ref09_Text_V) (pure_of (pairs_cons ref04_Digits_ok pairs_nil)) looks_nil raws_nil G0_ok news_nil) ref09_Text_eq rfl
-- palinode/pack.Int
noncomputable def pack_Int_E : Env := { pure := [], raw := [(50, strings_Builder_WriteByte_S), (51, strings_Builder_String_S)], glob := G0, same := [72], look := [], ext := [] }
def pack_Int_H : Hints := { seqs := [], loops := [(2, [0, 3])], own := [] }
noncomputable def pack_Int_F : PFn := closeF (runF Tryd.prog pack_Int_E pack_Int_H Tryd.f39)
def pack_Int_Y : TH := { joins := [(5, { keep := [(0, (.int .i64)), (3, (.bx 1 0))], mem := [.row true 5 (.int .u8), .box 72 (.agg (.cons (.op 1) (.cons (.own 0) .unit)))] })], loops := [(2, { keep := [(0, (.int .i64)), (3, (.bx 1 0))], mem := [.row true 5 (.int .u8), .box 72 (.agg (.cons (.op 1) (.cons (.own 0) .unit)))] })], cuts := [], ro := [], news := [(3, ((.agg (.cons (.op 1) (.cons (.own 0) .unit))), [(5, (.int .u8))]))] }
noncomputable def pack_Int_l2 (y2 : (Int × List Int × (Bool × Unit × Unit) × Unit)) : Option ((Int × List Int × (Bool × Unit × Unit) × Unit) ⊕ ((Int × List Int × (Bool × Unit × Unit) × Unit) ⊕ List UInt8)) :=
 cond (decide (y2.1 ≥ 128)) (
(strings_Builder_WriteByte (IntKind.wrap .u8 (IntKind.wrap .i64 ((BitVec.ofInt (IntKind.bits .i64) (IntKind.wrap .i64 ((BitVec.ofInt (IntKind.bits .i64) y2.1 &&& BitVec.ofInt (IntKind.bits .i64) 127).toNat)) ||| BitVec.ofInt (IntKind.bits .i64) 128).toNat))) (y2.2.2.1.1, (), ()) y2.2.1).bind fun q1 =>
(shrT .i64 y2.1 7).bind fun t2 =>
 some (.inl (t2, q1.2.2.1, q1.2.1, ()))) (
 some (.inr (.inl (y2.1, y2.2.1, y2.2.2.1, ()))))
noncomputable def pack_Int (a0 : Int) : Option (List UInt8) :=
(loopT (pack_Int_l2) (a0, [], (false, (), ()), ()) : Option ((Int × List Int × (Bool × Unit × Unit) × Unit) ⊕ List UInt8)).bind (joinS fun v3 =>
(strings_Builder_WriteByte (IntKind.wrap .u8 (max v3.1 0)) (v3.2.2.1.1, (), ()) v3.2.1).bind fun q4 =>
(strings_Builder_String (q4.2.1.1, (), ()) q4.2.2.1).bind fun q5 =>
 some q5.1)
noncomputable def pack_Int_T : TFn := { ps := (.cons (.int .i64) .unit), res := .str, fn := fun v => pack_Int v.1 }
noncomputable def pack_Int_V : TEnv := { pure := [], look := [], glob := G0T, ty := [], raw := [(50, strings_Builder_WriteByte_R), (51, strings_Builder_String_R)], fresh := [] }
theorem pack_Int_eq : runY Tryd.prog pack_Int_E pack_Int_H pack_Int_V pack_Int_Y Tryd.f39 pack_Int_T.ps pack_Int_T.res = pack_Int_T.fn := by kernel_rfl
theorem pack_Int_Fok : SoundP Tryd.prog G0 39 pack_Int_F := closeF_sound (runF_sound (P := Tryd.prog) (E := pack_Int_E) (h := pack_Int_H) (f := 39) (fn := Tryd.f39) ⟨same_ok, envP_nil, (envS_cons strings_Builder_WriteByte_Sok (envS_cons strings_Builder_String_Sok envS_nil)), envP_nil, envX_nil⟩ Tryd.func39 rfl (by kernel_rfl))
theorem pack_Int_ok : TOk pack_Int_F pack_Int_T := runY_ok (E := pack_Int_E) (ET := pack_Int_V) (EnvT.ofX (E := pack_Int_E) (ET := pack_Int_V) (pure_of pairs_nil) looks_nil (raws_cons strings_Builder_WriteByte_ok rfl rfl (raws_cons strings_Builder_String_ok rfl rfl raws_nil)) G0_ok news_nil) pack_Int_eq rfl
-- palinode/pack.Text
noncomputable def pack_Text_E : Env := { pure := [(39, pack_Int_F)], raw := [], glob := G0, same := [72], look := [], ext := [] }
def pack_Text_H : Hints := { seqs := [], loops := [], own := [] }
noncomputable def pack_Text_F : PFn := closeF (runF Tryd.prog pack_Text_E pack_Text_H Tryd.f40)
def pack_Text_Y : TH := { joins := [], loops := [], cuts := [], ro := [], news := [] }
noncomputable def pack_Text (a0 : List UInt8) : Option (List UInt8) :=
(pack_Int (a0.length : Int)).bind fun r1 =>
(catT r1 a0).bind fun s2 =>
 some s2
noncomputable def pack_Text_T : TFn := { ps := (.cons .str .unit), res := .str, fn := fun v => pack_Text v.1 }
noncomputable def pack_Text_V : TEnv := { pure := [(39, pack_Int_T)], look := [], glob := G0T, ty := [], raw := [], fresh := [] }
theorem pack_Text_eq : runY Tryd.prog pack_Text_E pack_Text_H pack_Text_V pack_Text_Y Tryd.f40 pack_Text_T.ps pack_Text_T.res = pack_Text_T.fn := by kernel_rfl
theorem pack_Text_Fok : SoundP Tryd.prog G0 40 pack_Text_F := closeF_sound (runF_sound (P := Tryd.prog) (E := pack_Text_E) (h := pack_Text_H) (f := 40) (fn := Tryd.f40) ⟨same_ok, (envP_cons pack_Int_Fok envP_nil), envS_nil, envP_nil, envX_nil⟩ Tryd.func40 rfl (by kernel_rfl))
theorem pack_Text_ok : TOk pack_Text_F pack_Text_T := runY_ok (E := pack_Text_E) (ET := pack_Text_V) (EnvT.ofX (E := pack_Text_E) (ET := pack_Text_V) (pure_of (pairs_cons pack_Int_ok pairs_nil)) looks_nil raws_nil G0_ok news_nil) pack_Text_eq rfl
-- palinode/value.Fold
noncomputable def value_Fold_E : Env := { pure := [], raw := [], glob := G0, same := [72], look := [], ext := [] }
def value_Fold_H : Hints := { seqs := [], loops := [], own := [] }
noncomputable def value_Fold_F : PFn := closeF (runF Tryd.prog value_Fold_E value_Fold_H Tryd.f21)
def value_Fold_Y : TH := { joins := [], loops := [], cuts := [], ro := [], news := [] }
noncomputable def value_Fold (a0 : Int) : Option Int :=
 cond (decide (a0 < 0)) (
 some (IntKind.wrap .i64 ((IntKind.wrap .i64 ((-2) * a0)) - 1))) (
 some (IntKind.wrap .i64 (2 * a0)))
noncomputable def value_Fold_T : TFn := { ps := (.cons (.int .i64) .unit), res := (.int .i64), fn := fun v => value_Fold v.1 }
noncomputable def value_Fold_V : TEnv := { pure := [], look := [], glob := G0T, ty := [], raw := [], fresh := [] }
theorem value_Fold_eq : runY Tryd.prog value_Fold_E value_Fold_H value_Fold_V value_Fold_Y Tryd.f21 value_Fold_T.ps value_Fold_T.res = value_Fold_T.fn := by kernel_rfl
theorem value_Fold_Fok : SoundP Tryd.prog G0 21 value_Fold_F := closeF_sound (runF_sound (P := Tryd.prog) (E := value_Fold_E) (h := value_Fold_H) (f := 21) (fn := Tryd.f21) ⟨same_ok, envP_nil, envS_nil, envP_nil, envX_nil⟩ Tryd.func21 rfl (by kernel_rfl))
theorem value_Fold_ok : TOk value_Fold_F value_Fold_T := runY_ok (E := value_Fold_E) (ET := value_Fold_V) (EnvT.ofX (E := value_Fold_E) (ET := value_Fold_V) (pure_of pairs_nil) looks_nil raws_nil G0_ok news_nil) value_Fold_eq rfl
-- palinode/value.Code
noncomputable def value_Code_E : Env := { pure := [(21, value_Fold_F), (39, pack_Int_F), (40, pack_Text_F)], raw := [], glob := G0, same := [72], look := [], ext := [] }
def value_Code_H : Hints := { seqs := [], loops := [], own := [] }
noncomputable def value_Code_F : PFn := closeF (runF Tryd.prog value_Code_E value_Code_H Tryd.f16)
def value_Code_Y : TH := { joins := [], loops := [], cuts := [], ro := [1], news := [] }
noncomputable def value_Code (a0 : (Int × Int × List UInt8 × Unit)) : Option (List UInt8) :=
 cond (decide (a0.1 = 2)) (
(pack_Int a0.1).bind fun r1 =>
(pack_Text a0.2.2.1).bind fun r2 =>
(catT r1 r2).bind fun s3 =>
 some s3) (
(pack_Int a0.1).bind fun r4 =>
(value_Fold a0.2.1).bind fun r5 =>
(pack_Int r5).bind fun r6 =>
(catT r4 r6).bind fun s7 =>
 some s7)
noncomputable def value_Code_T : TFn := { ps := (.cons (.agg (.cons (.int .i64) (.cons (.int .i64) (.cons .str .unit)))) .unit), res := .str, fn := fun v => value_Code v.1 }
noncomputable def value_Code_V : TEnv := { pure := [(21, value_Fold_T), (39, pack_Int_T), (40, pack_Text_T)], look := [], glob := G0T, ty := [], raw := [], fresh := [] }
theorem value_Code_eq : runY Tryd.prog value_Code_E value_Code_H value_Code_V value_Code_Y Tryd.f16 value_Code_T.ps value_Code_T.res = value_Code_T.fn := by kernel_rfl
theorem value_Code_Fok : SoundP Tryd.prog G0 16 value_Code_F := closeF_sound (runF_sound (P := Tryd.prog) (E := value_Code_E) (h := value_Code_H) (f := 16) (fn := Tryd.f16) ⟨same_ok, (envP_cons value_Fold_Fok (envP_cons pack_Int_Fok (envP_cons pack_Text_Fok envP_nil))), envS_nil, envP_nil, envX_nil⟩ Tryd.func16 rfl (by kernel_rfl))
theorem value_Code_ok : TOk value_Code_F value_Code_T := runY_ok (E := value_Code_E) (ET := value_Code_V) (EnvT.ofX (E := value_Code_E) (ET := value_Code_V) (pure_of (pairs_cons value_Fold_ok (pairs_cons pack_Int_ok (pairs_cons pack_Text_ok pairs_nil)))) looks_nil raws_nil G0_ok news_nil) value_Code_eq rfl
-- palinode/palinoderef02.Int
noncomputable def ref02_Int_E (F : PFn) : Env := { pure := [(41, F)], raw := [], glob := G0, same := [72], look := [], ext := [] }
def ref02_Int_H : Hints := { seqs := [], loops := [], own := [10, 16] }
noncomputable def ref02_Int_K (F : PFn) : PFn := closeF (runF Tryd.prog (ref02_Int_E F) ref02_Int_H Tryd.f41)
def ref02_Int_Y : TH := { joins := [(4, { keep := [(0, (.int .i64))], mem := [] })], loops := [], cuts := [], ro := [], news := [] }
noncomputable def ref02_Int_step (rec : ((Int × Unit) → Option (List UInt8))) (a0 : Int) : Option (List UInt8) :=
 cond (decide (a0 < 128)) (
(cond (decide (a0 < 0)) (
 some (.inl (0, ()))) (
 some (.inl (a0, ()))) : Option ((Int × Unit) ⊕ List UInt8)).bind (joinS fun v1 =>
 some (([(IntKind.wrap .u8 v1.1)] : List Int).map fun n => UInt8.ofNat n.toNat))) (
(remT a0 128).bind fun t2 =>
(quoT .i64 a0 128).bind fun t3 =>
(rec (t3, ())).bind fun r4 =>
(catT (([(IntKind.wrap .u8 (IntKind.wrap .i64 (t2 + 128)))] : List Int).map fun n => UInt8.ofNat n.toNat) r4).bind fun s5 =>
 some s5)
noncomputable def ref02_Int_fix : ((Int × Unit) → Option (List UInt8)) := fixT fun rec v => ref02_Int_step rec v.1
noncomputable def ref02_Int (a0 : Int) : Option (List UInt8) := ref02_Int_fix (a0, ())
noncomputable def ref02_Int_T : TFn := { ps := (.cons (.int .i64) .unit), res := .str, fn := fixT fun (rec : ((Int × Unit) → Option (List UInt8))) v => ref02_Int_step rec v.1 }
noncomputable def ref02_Int_F : PFn := fixF ref02_Int_K ref02_Int_T
noncomputable def ref02_Int_V (rec : ((Int × Unit) → Option (List UInt8))) : TEnv := { pure := [(41, { ps := (.cons (.int .i64) .unit), res := .str, fn := rec })], look := [], glob := G0T, ty := [(5, (.int .u8))], raw := [], fresh := [] }
theorem ref02_Int_eq (F : PFn) (rec : ((Int × Unit) → Option (List UInt8))) : runY Tryd.prog (ref02_Int_E F) ref02_Int_H (ref02_Int_V rec) ref02_Int_Y Tryd.f41 ref02_Int_T.ps ref02_Int_T.res = fun v => ref02_Int_step rec v.1 := by kernel_rfl
theorem ref02_Int_Fok : SoundP Tryd.prog G0 41 ref02_Int_F := rec_sound ⟨Tryd.f41, Tryd.func41, rfl, by kernel_rfl⟩ fun F hF => closeF_sound (runF_sound (P := Tryd.prog) (E := ref02_Int_E F) (h := ref02_Int_H) (f := 41) (fn := Tryd.f41) ⟨same_ok, (envP_cons hF envP_nil), envS_nil, envP_nil, envX_nil⟩ Tryd.func41 rfl (by kernel_rfl))
theorem ref02_Int_ok : TOk ref02_Int_F ref02_Int_T := rec_ok rfl fun F rec hF => runY_ok (E := ref02_Int_E F) (ET := ref02_Int_V rec) (EnvT.ofX (E := ref02_Int_E F) (ET := ref02_Int_V rec) (pure_of (pairs_cons hF pairs_nil)) looks_nil raws_nil G0_ok news_nil) (ref02_Int_eq F rec) rfl
-- palinode/palinoderef02.Text
noncomputable def ref02_Text_E : Env := { pure := [(41, ref02_Int_F)], raw := [], glob := G0, same := [72], look := [], ext := [] }
def ref02_Text_H : Hints := { seqs := [], loops := [], own := [] }
noncomputable def ref02_Text_F : PFn := closeF (runF Tryd.prog ref02_Text_E ref02_Text_H Tryd.f42)
def ref02_Text_Y : TH := { joins := [], loops := [], cuts := [], ro := [], news := [] }
noncomputable def ref02_Text (a0 : List UInt8) : Option (List UInt8) :=
(ref02_Int (a0.length : Int)).bind fun r1 =>
(catT r1 a0).bind fun s2 =>
 some s2
noncomputable def ref02_Text_T : TFn := { ps := (.cons .str .unit), res := .str, fn := fun v => ref02_Text v.1 }
noncomputable def ref02_Text_V : TEnv := { pure := [(41, ref02_Int_T)], look := [], glob := G0T, ty := [], raw := [], fresh := [] }
theorem ref02_Text_eq : runY Tryd.prog ref02_Text_E ref02_Text_H ref02_Text_V ref02_Text_Y Tryd.f42 ref02_Text_T.ps ref02_Text_T.res = ref02_Text_T.fn := by kernel_rfl
theorem ref02_Text_Fok : SoundP Tryd.prog G0 42 ref02_Text_F := closeF_sound (runF_sound (P := Tryd.prog) (E := ref02_Text_E) (h := ref02_Text_H) (f := 42) (fn := Tryd.f42) ⟨same_ok, (envP_cons ref02_Int_Fok envP_nil), envS_nil, envP_nil, envX_nil⟩ Tryd.func42 rfl (by kernel_rfl))
theorem ref02_Text_ok : TOk ref02_Text_F ref02_Text_T := runY_ok (E := ref02_Text_E) (ET := ref02_Text_V) (EnvT.ofX (E := ref02_Text_E) (ET := ref02_Text_V) (pure_of (pairs_cons ref02_Int_ok pairs_nil)) looks_nil raws_nil G0_ok news_nil) ref02_Text_eq rfl
-- palinode/palinoderef09.Fold
noncomputable def ref09_Fold_E : Env := { pure := [], raw := [], glob := G0, same := [72], look := [], ext := [] }
def ref09_Fold_H : Hints := { seqs := [], loops := [], own := [] }
noncomputable def ref09_Fold_F : PFn := closeF (runF Tryd.prog ref09_Fold_E ref09_Fold_H Tryd.f43)
def ref09_Fold_Y : TH := { joins := [], loops := [], cuts := [], ro := [], news := [] }
noncomputable def ref09_Fold (a0 : Int) : Option Int :=
 cond (decide (a0 < 0)) (
 some (IntKind.wrap .i64 ((IntKind.wrap .i64 ((IntKind.wrap .i64 (0 - a0)) - a0)) - 1))) (
 some (IntKind.wrap .i64 (a0 + a0)))
noncomputable def ref09_Fold_T : TFn := { ps := (.cons (.int .i64) .unit), res := (.int .i64), fn := fun v => ref09_Fold v.1 }
noncomputable def ref09_Fold_V : TEnv := { pure := [], look := [], glob := G0T, ty := [], raw := [], fresh := [] }
theorem ref09_Fold_eq : runY Tryd.prog ref09_Fold_E ref09_Fold_H ref09_Fold_V ref09_Fold_Y Tryd.f43 ref09_Fold_T.ps ref09_Fold_T.res = ref09_Fold_T.fn := by kernel_rfl
theorem ref09_Fold_Fok : SoundP Tryd.prog G0 43 ref09_Fold_F := closeF_sound (runF_sound (P := Tryd.prog) (E := ref09_Fold_E) (h := ref09_Fold_H) (f := 43) (fn := Tryd.f43) ⟨same_ok, envP_nil, envS_nil, envP_nil, envX_nil⟩ Tryd.func43 rfl (by kernel_rfl))
theorem ref09_Fold_ok : TOk ref09_Fold_F ref09_Fold_T := runY_ok (E := ref09_Fold_E) (ET := ref09_Fold_V) (EnvT.ofX (E := ref09_Fold_E) (ET := ref09_Fold_V) (pure_of pairs_nil) looks_nil raws_nil G0_ok news_nil) ref09_Fold_eq rfl
-- palinode/palinoderef09.Code
noncomputable def ref09_Code_E : Env := { pure := [(41, ref02_Int_F), (42, ref02_Text_F), (43, ref09_Fold_F)], raw := [], glob := G0, same := [72], look := [], ext := [] }
def ref09_Code_H : Hints := { seqs := [], loops := [], own := [] }
noncomputable def ref09_Code_F : PFn := closeF (runF Tryd.prog ref09_Code_E ref09_Code_H Tryd.f17)
def ref09_Code_Y : TH := { joins := [], loops := [], cuts := [], ro := [1], news := [] }
noncomputable def ref09_Code (a0 : (Int × Int × List UInt8 × Unit)) : Option (List UInt8) :=
 cond (decide (a0.1 = 2)) (
(ref02_Int 2).bind fun r1 =>
(ref02_Text a0.2.2.1).bind fun r2 =>
(catT r1 r2).bind fun s3 =>
 some s3) (
(ref02_Int a0.1).bind fun r4 =>
(ref09_Fold a0.2.1).bind fun r5 =>
(ref02_Int r5).bind fun r6 =>
(catT r4 r6).bind fun s7 =>
 some s7)
noncomputable def ref09_Code_T : TFn := { ps := (.cons (.agg (.cons (.int .i64) (.cons (.int .i64) (.cons .str .unit)))) .unit), res := .str, fn := fun v => ref09_Code v.1 }
noncomputable def ref09_Code_V : TEnv := { pure := [(41, ref02_Int_T), (42, ref02_Text_T), (43, ref09_Fold_T)], look := [], glob := G0T, ty := [], raw := [], fresh := [] }
theorem ref09_Code_eq : runY Tryd.prog ref09_Code_E ref09_Code_H ref09_Code_V ref09_Code_Y Tryd.f17 ref09_Code_T.ps ref09_Code_T.res = ref09_Code_T.fn := by kernel_rfl
theorem ref09_Code_Fok : SoundP Tryd.prog G0 17 ref09_Code_F := closeF_sound (runF_sound (P := Tryd.prog) (E := ref09_Code_E) (h := ref09_Code_H) (f := 17) (fn := Tryd.f17) ⟨same_ok, (envP_cons ref02_Int_Fok (envP_cons ref02_Text_Fok (envP_cons ref09_Fold_Fok envP_nil))), envS_nil, envP_nil, envX_nil⟩ Tryd.func17 rfl (by kernel_rfl))
theorem ref09_Code_ok : TOk ref09_Code_F ref09_Code_T := runY_ok (E := ref09_Code_E) (ET := ref09_Code_V) (EnvT.ofX (E := ref09_Code_E) (ET := ref09_Code_V) (pure_of (pairs_cons ref02_Int_ok (pairs_cons ref02_Text_ok (pairs_cons ref09_Fold_ok pairs_nil)))) looks_nil raws_nil G0_ok news_nil) ref09_Code_eq rfl
-- palinode/pack.Open
noncomputable def pack_Open_E : Env := { pure := [], raw := [], glob := G0, same := [72], look := [], ext := [] }
def pack_Open_H : Hints := { seqs := [], loops := [], own := [] }
noncomputable def pack_Open_S : SFn := runF Tryd.prog pack_Open_E pack_Open_H Tryd.f18
def pack_Open_Y : TH := { joins := [], loops := [], cuts := [], ro := [], news := [] }
noncomputable def pack_Open (a0 : List UInt8) : Option (List UInt8 × Int × Unit) :=
 some (a0, 0, ())
noncomputable def pack_Open_N : TNew := { ps := (.cons .str .unit), e := 65, t := (.agg (.cons .str (.cons (.int .i64) .unit))), fn := fun v => pack_Open v.1 }
noncomputable def pack_Open_V : TEnv := { pure := [], look := [], glob := G0T, ty := [], raw := [], fresh := [] }
theorem pack_Open_eq : newY Tryd.prog pack_Open_E pack_Open_H pack_Open_V pack_Open_Y Tryd.f18 pack_Open_N.ps pack_Open_N.e pack_Open_N.t = pack_Open_N.fn := by kernel_rfl
theorem pack_Open_Sok : SoundS Tryd.prog G0 18 pack_Open_S := runF_sound (P := Tryd.prog) (E := pack_Open_E) (h := pack_Open_H) (f := 18) (fn := Tryd.f18) ⟨same_ok, envP_nil, envS_nil, envP_nil, envX_nil⟩ Tryd.func18 rfl (by kernel_rfl)
theorem pack_Open_ok : TNewOk pack_Open_S pack_Open_N := newY_ok (E := pack_Open_E) (ET := pack_Open_V) (EnvT.ofX (E := pack_Open_E) (ET := pack_Open_V) (pure_of pairs_nil) looks_nil raws_nil G0_ok news_nil) pack_Open_eq
-- (*palinode/pack.Reader).fine
noncomputable def pack_Reader_fine_E : Env := { pure := [], raw := [], glob := G0, same := [72], look := [], ext := [] }
def pack_Reader_fine_H : Hints := { seqs := [], loops := [], own := [4] }
noncomputable def pack_Reader_fine_S : SFn := runF Tryd.prog pack_Reader_fine_E pack_Reader_fine_H Tryd.f61
def pack_Reader_fine_Y : TH := { joins := [], loops := [], cuts := [], ro := [], news := [] }
noncomputable def pack_Reader_fine (w0 : (List UInt8 × Int × Unit)) : Option (Bool × (List UInt8 × Int × Unit) × Unit) :=
 some ((decide (w0.2.1 = 0)), w0, ())
noncomputable def pack_Reader_fine_R : TRaw := { ps := (.cons (.bx 0 0) .unit), ins := [.box 65 (.agg (.cons .str (.cons (.int .i64) .unit)))], res := .bool, outs := [.box 65 (.agg (.cons .str (.cons (.int .i64) .unit)))], fn := fun v w => pack_Reader_fine w.1 }
noncomputable def pack_Reader_fine_V : TEnv := { pure := [], look := [], glob := G0T, ty := [], raw := [], fresh := [] }
theorem pack_Reader_fine_eq : rawY Tryd.prog pack_Reader_fine_E pack_Reader_fine_H pack_Reader_fine_V pack_Reader_fine_Y [(0, 0)] Tryd.f61 pack_Reader_fine_R.ps pack_Reader_fine_R.ins pack_Reader_fine_R.res pack_Reader_fine_R.outs = pack_Reader_fine_R.fn := by kernel_rfl
theorem pack_Reader_fine_Sok : SoundS Tryd.prog G0 61 pack_Reader_fine_S := runF_sound (P := Tryd.prog) (E := pack_Reader_fine_E) (h := pack_Reader_fine_H) (f := 61) (fn := Tryd.f61) ⟨same_ok, envP_nil, envS_nil, envP_nil, envX_nil⟩ Tryd.func61 rfl (by kernel_rfl)
theorem pack_Reader_fine_ok : TRawOk pack_Reader_fine_S pack_Reader_fine_R := rawY_ok (E := pack_Reader_fine_E) (ET := pack_Reader_fine_V) (EnvT.ofX (E := pack_Reader_fine_E) (ET := pack_Reader_fine_V) (pure_of pairs_nil) looks_nil raws_nil G0_ok news_nil) pack_Reader_fine_eq
-- (*palinode/pack.Reader).Fail
noncomputable def pack_Reader_Fail_E : Env := { pure := [], raw := [(61, pack_Reader_fine_S)], glob := G0, same := [72], look := [], ext := [] }
def pack_Reader_Fail_H : Hints := { seqs := [], loops := [], own := [] }
noncomputable def pack_Reader_Fail_S : SFn := runF Tryd.prog pack_Reader_Fail_E pack_Reader_Fail_H Tryd.f47
def pack_Reader_Fail_Y : TH := { joins := [], loops := [], cuts := [], ro := [], news := [] }
noncomputable def pack_Reader_Fail (a1 : Int) (w0 : (List UInt8 × Int × Unit)) : Option (Unit × (List UInt8 × Int × Unit) × Unit) :=
(pack_Reader_fine w0).bind fun q1 =>
 cond q1.1 (
 some ((), (q1.2.1.1, a1, ()), ())) (
 some ((), q1.2.1, ()))
noncomputable def pack_Reader_Fail_R : TRaw := { ps := (.cons (.bx 0 0) (.cons (.int .i64) .unit)), ins := [.box 65 (.agg (.cons .str (.cons (.int .i64) .unit)))], res := (.tup .unit), outs := [.box 65 (.agg (.cons .str (.cons (.int .i64) .unit)))], fn := fun v w => pack_Reader_Fail v.2.1 w.1 }
noncomputable def pack_Reader_Fail_V : TEnv := { pure := [], look := [], glob := G0T, ty := [], raw := [(61, pack_Reader_fine_R)], fresh := [] }
theorem pack_Reader_Fail_eq : rawY Tryd.prog pack_Reader_Fail_E pack_Reader_Fail_H pack_Reader_Fail_V pack_Reader_Fail_Y [(0, 0)] Tryd.f47 pack_Reader_Fail_R.ps pack_Reader_Fail_R.ins pack_Reader_Fail_R.res pack_Reader_Fail_R.outs = pack_Reader_Fail_R.fn := by kernel_rfl
theorem pack_Reader_Fail_Sok : SoundS Tryd.prog G0 47 pack_Reader_Fail_S := runF_sound (P := Tryd.prog) (E := pack_Reader_Fail_E) (h := pack_Reader_Fail_H) (f := 47) (fn := Tryd.f47) ⟨same_ok, envP_nil, (envS_cons pack_Reader_fine_Sok envS_nil), envP_nil, envX_nil⟩ Tryd.func47 rfl (by kernel_rfl)
theorem pack_Reader_Fail_ok : TRawOk pack_Reader_Fail_S pack_Reader_Fail_R := rawY_ok (E := pack_Reader_Fail_E) (ET := pack_Reader_Fail_V) (EnvT.ofX (E := pack_Reader_Fail_E) (ET := pack_Reader_Fail_V) (pure_of pairs_nil) looks_nil (raws_cons pack_Reader_fine_ok rfl rfl raws_nil) G0_ok news_nil) pack_Reader_Fail_eq
-- (*palinode/pack.Reader).Int
noncomputable def pack_Reader_Int_E : Env := { pure := [], raw := [(47, pack_Reader_Fail_S), (61, pack_Reader_fine_S)], glob := G0, same := [72], look := [], ext := [] }
def pack_Reader_Int_H : Hints := { seqs := [], loops := [(3, [0, 3, 4])], own := [] }
noncomputable def pack_Reader_Int_S : SFn := runF Tryd.prog pack_Reader_Int_E pack_Reader_Int_H Tryd.f44
def pack_Reader_Int_Y : TH := { joins := [(14, { keep := [(0, (.bx 0 0))], mem := [.box 65 (.agg (.cons .str (.cons (.int .i64) .unit)))] })], loops := [(3, { keep := [(0, (.bx 0 0)), (3, (.int .i64)), (4, (.int .i64))], mem := [.box 65 (.agg (.cons .str (.cons (.int .i64) .unit)))] })], cuts := [], ro := [], news := [] }
noncomputable def pack_Reader_Int_l3 (y3 : (Int × Int × (List UInt8 × Int × Unit) × Unit)) : Option ((Int × Int × (List UInt8 × Int × Unit) × Unit) ⊕ (Int × (List UInt8 × Int × Unit) × Unit)) :=
(pack_Reader_fine y3.2.2.1).bind fun q1 =>
 cond q1.1 (
 cond (decide (y3.2.1 = 8)) (
(pack_Reader_Fail 6 q1.2.1).bind fun q2 =>
 some (.inl (y3.1, (IntKind.wrap .i64 (y3.2.1 + 1)), q2.2.1, ()))) (
 cond (decide (y3.2.1 ≥ (q1.2.1.1.length : Int))) (
(pack_Reader_Fail 4 q1.2.1).bind fun q3 =>
 some (.inl (y3.1, (IntKind.wrap .i64 (y3.2.1 + 1)), q3.2.1, ()))) (
(atI q1.2.1.1 y3.2.1).bind fun b4 =>
(shlT .i64 (IntKind.wrap .i64 ((BitVec.ofInt (IntKind.bits .i64) (IntKind.wrap .i64 (b4.toNat : Int)) &&& BitVec.ofInt (IntKind.bits .i64) 127).toNat)) (IntKind.wrap .i64 (7 * y3.2.1))).bind fun t5 =>
(cond (decide ((IntKind.wrap .i64 (b4.toNat : Int)) ≥ 128)) (
 some (.inr (.inl ((IntKind.wrap .i64 ((BitVec.ofInt (IntKind.bits .i64) y3.1 ||| BitVec.ofInt (IntKind.bits .i64) t5).toNat)), (IntKind.wrap .i64 (y3.2.1 + 1)), q1.2.1, ())))) (
 cond (decide ((IntKind.wrap .i64 (b4.toNat : Int)) = 0)) (cond (decide (y3.2.1 > 0)) (
(pack_Reader_Fail 3 q1.2.1).bind fun q6 =>
 some (.inr (.inl ((IntKind.wrap .i64 ((BitVec.ofInt (IntKind.bits .i64) y3.1 ||| BitVec.ofInt (IntKind.bits .i64) t5).toNat)), (IntKind.wrap .i64 (y3.2.1 + 1)), q6.2.1, ())))) (
 some (.inl (q1.2.1, ())))) (some (.inl (q1.2.1, ())))) : Option (((List UInt8 × Int × Unit) × Unit) ⊕ ((Int × Int × (List UInt8 × Int × Unit) × Unit) ⊕ (Int × (List UInt8 × Int × Unit) × Unit)))).bind (joinS fun v7 =>
(subI v7.1.1 (IntKind.wrap .i64 (y3.2.1 + 1)) (v7.1.1.length : Int)).bind fun s8 =>
 some (.inr ((IntKind.wrap .i64 ((BitVec.ofInt (IntKind.bits .i64) y3.1 ||| BitVec.ofInt (IntKind.bits .i64) t5).toNat)), (s8, v7.1.2.1, ()), ())))))) (
 some (.inr (0, q1.2.1, ())))
noncomputable def pack_Reader_Int (w0 : (List UInt8 × Int × Unit)) : Option (Int × (List UInt8 × Int × Unit) × Unit) :=
 loopT (pack_Reader_Int_l3) (0, 0, w0, ())
noncomputable def pack_Reader_Int_R : TRaw := { ps := (.cons (.bx 0 0) .unit), ins := [.box 65 (.agg (.cons .str (.cons (.int .i64) .unit)))], res := (.int .i64), outs := [.box 65 (.agg (.cons .str (.cons (.int .i64) .unit)))], fn := fun v w => pack_Reader_Int w.1 }
noncomputable def pack_Reader_Int_V : TEnv := { pure := [], look := [], glob := G0T, ty := [], raw := [(47, pack_Reader_Fail_R), (61, pack_Reader_fine_R)], fresh := [] }
theorem pack_Reader_Int_eq : rawY Tryd.prog pack_Reader_Int_E pack_Reader_Int_H pack_Reader_Int_V pack_Reader_Int_Y [(0, 0)] Tryd.f44 pack_Reader_Int_R.ps pack_Reader_Int_R.ins pack_Reader_Int_R.res pack_Reader_Int_R.outs = pack_Reader_Int_R.fn := by kernel_rfl
theorem pack_Reader_Int_Sok : SoundS Tryd.prog G0 44 pack_Reader_Int_S := runF_sound (P := Tryd.prog) (E := pack_Reader_Int_E) (h := pack_Reader_Int_H) (f := 44) (fn := Tryd.f44) ⟨same_ok, envP_nil, (envS_cons pack_Reader_Fail_Sok (envS_cons pack_Reader_fine_Sok envS_nil)), envP_nil, envX_nil⟩ Tryd.func44 rfl (by kernel_rfl)
theorem pack_Reader_Int_ok : TRawOk pack_Reader_Int_S pack_Reader_Int_R := rawY_ok (E := pack_Reader_Int_E) (ET := pack_Reader_Int_V) (EnvT.ofX (E := pack_Reader_Int_E) (ET := pack_Reader_Int_V) (pure_of pairs_nil) looks_nil (raws_cons pack_Reader_Fail_ok rfl rfl (raws_cons pack_Reader_fine_ok rfl rfl raws_nil)) G0_ok news_nil) pack_Reader_Int_eq
-- (*palinode/pack.Reader).Text
noncomputable def pack_Reader_Text_E : Env := { pure := [], raw := [(44, pack_Reader_Int_S), (47, pack_Reader_Fail_S), (61, pack_Reader_fine_S)], glob := G0, same := [72], look := [], ext := [] }
def pack_Reader_Text_H : Hints := { seqs := [], loops := [], own := [] }
noncomputable def pack_Reader_Text_S : SFn := runF Tryd.prog pack_Reader_Text_E pack_Reader_Text_H Tryd.f45
def pack_Reader_Text_Y : TH := { joins := [(4, { keep := [(0, (.bx 0 0))], mem := [.box 65 (.agg (.cons .str (.cons (.int .i64) .unit)))] })], loops := [], cuts := [], ro := [], news := [] }
noncomputable def pack_Reader_Text (w0 : (List UInt8 × Int × Unit)) : Option (List UInt8 × (List UInt8 × Int × Unit) × Unit) :=
(pack_Reader_Int w0).bind fun q1 =>
((pack_Reader_fine q1.2.1).bind fun q2 =>
 cond q2.1 (cond (decide (q1.1 > (q2.2.1.1.length : Int))) (
(pack_Reader_Fail 4 q2.2.1).bind fun q3 =>
 some (.inl (q3.2.1, ()))) (
 some (.inl (q2.2.1, ())))) (some (.inl (q2.2.1, ()))) : Option (((List UInt8 × Int × Unit) × Unit) ⊕ (List UInt8 × (List UInt8 × Int × Unit) × Unit))).bind (joinS fun v4 =>
(pack_Reader_fine v4.1).bind fun q5 =>
 cond (!q5.1) (
 some ([], q5.2.1, ())) (
(subI q5.2.1.1 0 q1.1).bind fun s6 =>
(subI q5.2.1.1 q1.1 (q5.2.1.1.length : Int)).bind fun s7 =>
 some (s6, (s7, q5.2.1.2.1, ()), ())))
noncomputable def pack_Reader_Text_R : TRaw := { ps := (.cons (.bx 0 0) .unit), ins := [.box 65 (.agg (.cons .str (.cons (.int .i64) .unit)))], res := .str, outs := [.box 65 (.agg (.cons .str (.cons (.int .i64) .unit)))], fn := fun v w => pack_Reader_Text w.1 }
noncomputable def pack_Reader_Text_V : TEnv := { pure := [], look := [], glob := G0T, ty := [], raw := [(44, pack_Reader_Int_R), (47, pack_Reader_Fail_R), (61, pack_Reader_fine_R)], fresh := [] }
theorem pack_Reader_Text_eq : rawY Tryd.prog pack_Reader_Text_E pack_Reader_Text_H pack_Reader_Text_V pack_Reader_Text_Y [(0, 0)] Tryd.f45 pack_Reader_Text_R.ps pack_Reader_Text_R.ins pack_Reader_Text_R.res pack_Reader_Text_R.outs = pack_Reader_Text_R.fn := by kernel_rfl
theorem pack_Reader_Text_Sok : SoundS Tryd.prog G0 45 pack_Reader_Text_S := runF_sound (P := Tryd.prog) (E := pack_Reader_Text_E) (h := pack_Reader_Text_H) (f := 45) (fn := Tryd.f45) ⟨same_ok, envP_nil, (envS_cons pack_Reader_Int_Sok (envS_cons pack_Reader_Fail_Sok (envS_cons pack_Reader_fine_Sok envS_nil))), envP_nil, envX_nil⟩ Tryd.func45 rfl (by kernel_rfl)
theorem pack_Reader_Text_ok : TRawOk pack_Reader_Text_S pack_Reader_Text_R := rawY_ok (E := pack_Reader_Text_E) (ET := pack_Reader_Text_V) (EnvT.ofX (E := pack_Reader_Text_E) (ET := pack_Reader_Text_V) (pure_of pairs_nil) looks_nil (raws_cons pack_Reader_Int_ok rfl rfl (raws_cons pack_Reader_Fail_ok rfl rfl (raws_cons pack_Reader_fine_ok rfl rfl raws_nil))) G0_ok news_nil) pack_Reader_Text_eq
-- palinode/value.Unfold
noncomputable def value_Unfold_E : Env := { pure := [], raw := [], glob := G0, same := [72], look := [], ext := [] }
def value_Unfold_H : Hints := { seqs := [], loops := [], own := [] }
noncomputable def value_Unfold_F : PFn := closeF (runF Tryd.prog value_Unfold_E value_Unfold_H Tryd.f22)
def value_Unfold_Y : TH := { joins := [], loops := [], cuts := [], ro := [], news := [] }
noncomputable def value_Unfold (a0 : Int) : Option Int :=
(remT a0 2).bind fun t1 =>
 cond (decide (t1 = 1)) (
(quoT .i64 (IntKind.wrap .i64 (0 - (IntKind.wrap .i64 (a0 + 1)))) 2).bind fun t2 =>
 some t2) (
(quoT .i64 a0 2).bind fun t3 =>
 some t3)
noncomputable def value_Unfold_T : TFn := { ps := (.cons (.int .i64) .unit), res := (.int .i64), fn := fun v => value_Unfold v.1 }
noncomputable def value_Unfold_V : TEnv := { pure := [], look := [], glob := G0T, ty := [], raw := [], fresh := [] }
theorem value_Unfold_eq : runY Tryd.prog value_Unfold_E value_Unfold_H value_Unfold_V value_Unfold_Y Tryd.f22 value_Unfold_T.ps value_Unfold_T.res = value_Unfold_T.fn := by kernel_rfl
theorem value_Unfold_Fok : SoundP Tryd.prog G0 22 value_Unfold_F := closeF_sound (runF_sound (P := Tryd.prog) (E := value_Unfold_E) (h := value_Unfold_H) (f := 22) (fn := Tryd.f22) ⟨same_ok, envP_nil, envS_nil, envP_nil, envX_nil⟩ Tryd.func22 rfl (by kernel_rfl))
theorem value_Unfold_ok : TOk value_Unfold_F value_Unfold_T := runY_ok (E := value_Unfold_E) (ET := value_Unfold_V) (EnvT.ofX (E := value_Unfold_E) (ET := value_Unfold_V) (pure_of pairs_nil) looks_nil raws_nil G0_ok news_nil) value_Unfold_eq rfl
-- (*palinode/pack.Reader).Fault
noncomputable def pack_Reader_Fault_E : Env := { pure := [], raw := [], glob := G0, same := [72], look := [], ext := [] }
def pack_Reader_Fault_H : Hints := { seqs := [], loops := [], own := [4] }
noncomputable def pack_Reader_Fault_S : SFn := runF Tryd.prog pack_Reader_Fault_E pack_Reader_Fault_H Tryd.f46
def pack_Reader_Fault_Y : TH := { joins := [], loops := [], cuts := [], ro := [], news := [] }
noncomputable def pack_Reader_Fault (w0 : (List UInt8 × Int × Unit)) : Option (Int × (List UInt8 × Int × Unit) × Unit) :=
 some (w0.2.1, w0, ())
noncomputable def pack_Reader_Fault_R : TRaw := { ps := (.cons (.bx 0 0) .unit), ins := [.box 65 (.agg (.cons .str (.cons (.int .i64) .unit)))], res := (.int .i64), outs := [.box 65 (.agg (.cons .str (.cons (.int .i64) .unit)))], fn := fun v w => pack_Reader_Fault w.1 }
noncomputable def pack_Reader_Fault_V : TEnv := { pure := [], look := [], glob := G0T, ty := [], raw := [], fresh := [] }
theorem pack_Reader_Fault_eq : rawY Tryd.prog pack_Reader_Fault_E pack_Reader_Fault_H pack_Reader_Fault_V pack_Reader_Fault_Y [(0, 0)] Tryd.f46 pack_Reader_Fault_R.ps pack_Reader_Fault_R.ins pack_Reader_Fault_R.res pack_Reader_Fault_R.outs = pack_Reader_Fault_R.fn := by kernel_rfl
theorem pack_Reader_Fault_Sok : SoundS Tryd.prog G0 46 pack_Reader_Fault_S := runF_sound (P := Tryd.prog) (E := pack_Reader_Fault_E) (h := pack_Reader_Fault_H) (f := 46) (fn := Tryd.f46) ⟨same_ok, envP_nil, envS_nil, envP_nil, envX_nil⟩ Tryd.func46 rfl (by kernel_rfl)
theorem pack_Reader_Fault_ok : TRawOk pack_Reader_Fault_S pack_Reader_Fault_R := rawY_ok (E := pack_Reader_Fault_E) (ET := pack_Reader_Fault_V) (EnvT.ofX (E := pack_Reader_Fault_E) (ET := pack_Reader_Fault_V) (pure_of pairs_nil) looks_nil raws_nil G0_ok news_nil) pack_Reader_Fault_eq
-- palinode/value.Read
noncomputable def value_Read_E : Env := { pure := [(11, value_Right_F), (22, value_Unfold_F)], raw := [(44, pack_Reader_Int_S), (45, pack_Reader_Text_S), (46, pack_Reader_Fault_S), (47, pack_Reader_Fail_S)], glob := G0, same := [72], look := [], ext := [] }
def value_Read_H : Hints := { seqs := [], loops := [], own := [] }
noncomputable def value_Read_S : SFn := runF Tryd.prog value_Read_E value_Read_H Tryd.f19
def value_Read_Y : TH := { joins := [(5, { keep := [(0, (.bx 0 0)), (2, (.bx 1 0)), (3, (.bx 2 0))], mem := [.box 65 (.agg (.cons .str (.cons (.int .i64) .unit))), .box 24 (.agg (.cons (.int .i64) (.cons (.int .i64) (.cons .str .unit)))), .box 24 (.agg (.cons (.int .i64) (.cons (.int .i64) (.cons .str .unit))))] }), (7, { keep := [(0, (.bx 0 0)), (2, (.bx 1 0)), (3, (.bx 2 0))], mem := [.box 65 (.agg (.cons .str (.cons (.int .i64) .unit))), .box 24 (.agg (.cons (.int .i64) (.cons (.int .i64) (.cons .str .unit)))), .box 24 (.agg (.cons (.int .i64) (.cons (.int .i64) (.cons .str .unit))))] })], loops := [], cuts := [], ro := [], news := [] }
noncomputable def value_Read (w0 : (List UInt8 × Int × Unit)) : Option ((Int × Int × List UInt8 × Unit) × (List UInt8 × Int × Unit) × Unit) :=
(pack_Reader_Int w0).bind fun q1 =>
(cond (decide (q1.1 = 2)) (
(pack_Reader_Text q1.2.1).bind fun q2 =>
 some (.inl (q2.2.1, (0, 0, [], ()), (q1.1, 0, q2.1, ()), ()))) (
(pack_Reader_Int q1.2.1).bind fun q3 =>
(value_Unfold q3.1).bind fun r4 =>
 some (.inl (q3.2.1, (0, 0, [], ()), (q1.1, r4, [], ()), ()))) : Option (((List UInt8 × Int × Unit) × (Int × Int × List UInt8 × Unit) × (Int × Int × List UInt8 × Unit) × Unit) ⊕ ((Int × Int × List UInt8 × Unit) × (List UInt8 × Int × Unit) × Unit))).bind (joinS fun v5 =>
((pack_Reader_Fault v5.1).bind fun q6 =>
 cond (decide (q6.1 = 0)) ((value_Right v5.2.2.1).bind fun r7 =>
 cond (!r7) (
(pack_Reader_Fail 2 q6.2.1).bind fun q8 =>
 some (.inl (q8.2.1, v5.2.1, v5.2.2.1, ()))) (
 some (.inl (q6.2.1, v5.2.1, v5.2.2.1, ())))) (some (.inl (q6.2.1, v5.2.1, v5.2.2.1, ()))) : Option (((List UInt8 × Int × Unit) × (Int × Int × List UInt8 × Unit) × (Int × Int × List UInt8 × Unit) × Unit) ⊕ ((Int × Int × List UInt8 × Unit) × (List UInt8 × Int × Unit) × Unit))).bind (joinS fun v9 =>
(pack_Reader_Fault v9.1).bind fun q10 =>
 cond (!decide (q10.1 = 0)) (
 some ((0, 0, [], ()), q10.2.1, ())) (
 some (v9.2.2.1, q10.2.1, ()))))
noncomputable def value_Read_R : TRaw := { ps := (.cons (.bx 0 0) .unit), ins := [.box 65 (.agg (.cons .str (.cons (.int .i64) .unit)))], res := (.agg (.cons (.int .i64) (.cons (.int .i64) (.cons .str .unit)))), outs := [.box 65 (.agg (.cons .str (.cons (.int .i64) .unit)))], fn := fun v w => value_Read w.1 }
noncomputable def value_Read_V : TEnv := { pure := [(11, value_Right_T), (22, value_Unfold_T)], look := [], glob := G0T, ty := [], raw := [(44, pack_Reader_Int_R), (45, pack_Reader_Text_R), (46, pack_Reader_Fault_R), (47, pack_Reader_Fail_R)], fresh := [] }
theorem value_Read_eq : rawY Tryd.prog value_Read_E value_Read_H value_Read_V value_Read_Y [(0, 0)] Tryd.f19 value_Read_R.ps value_Read_R.ins value_Read_R.res value_Read_R.outs = value_Read_R.fn := by kernel_rfl
theorem value_Read_Sok : SoundS Tryd.prog G0 19 value_Read_S := runF_sound (P := Tryd.prog) (E := value_Read_E) (h := value_Read_H) (f := 19) (fn := Tryd.f19) ⟨same_ok, (envP_cons value_Right_Fok (envP_cons value_Unfold_Fok envP_nil)), (envS_cons pack_Reader_Int_Sok (envS_cons pack_Reader_Text_Sok (envS_cons pack_Reader_Fault_Sok (envS_cons pack_Reader_Fail_Sok envS_nil)))), envP_nil, envX_nil⟩ Tryd.func19 rfl (by kernel_rfl)
theorem value_Read_ok : TRawOk value_Read_S value_Read_R := rawY_ok (E := value_Read_E) (ET := value_Read_V) (EnvT.ofX (E := value_Read_E) (ET := value_Read_V) (pure_of (pairs_cons value_Right_ok (pairs_cons value_Unfold_ok pairs_nil))) looks_nil (raws_cons pack_Reader_Int_ok rfl rfl (raws_cons pack_Reader_Text_ok rfl rfl (raws_cons pack_Reader_Fault_ok rfl rfl (raws_cons pack_Reader_Fail_ok rfl rfl raws_nil)))) G0_ok news_nil) value_Read_eq
-- (*palinode/pack.Reader).Left
noncomputable def pack_Reader_Left_E : Env := { pure := [], raw := [(61, pack_Reader_fine_S)], glob := G0, same := [72], look := [], ext := [] }
def pack_Reader_Left_H : Hints := { seqs := [], loops := [], own := [] }
noncomputable def pack_Reader_Left_S : SFn := runF Tryd.prog pack_Reader_Left_E pack_Reader_Left_H Tryd.f48
def pack_Reader_Left_Y : TH := { joins := [], loops := [], cuts := [], ro := [], news := [] }
noncomputable def pack_Reader_Left (w0 : (List UInt8 × Int × Unit)) : Option (Int × (List UInt8 × Int × Unit) × Unit) :=
(pack_Reader_fine w0).bind fun q1 =>
 cond (!q1.1) (
 some (0, q1.2.1, ())) (
 some ((q1.2.1.1.length : Int), q1.2.1, ()))
noncomputable def pack_Reader_Left_R : TRaw := { ps := (.cons (.bx 0 0) .unit), ins := [.box 65 (.agg (.cons .str (.cons (.int .i64) .unit)))], res := (.int .i64), outs := [.box 65 (.agg (.cons .str (.cons (.int .i64) .unit)))], fn := fun v w => pack_Reader_Left w.1 }
noncomputable def pack_Reader_Left_V : TEnv := { pure := [], look := [], glob := G0T, ty := [], raw := [(61, pack_Reader_fine_R)], fresh := [] }
theorem pack_Reader_Left_eq : rawY Tryd.prog pack_Reader_Left_E pack_Reader_Left_H pack_Reader_Left_V pack_Reader_Left_Y [(0, 0)] Tryd.f48 pack_Reader_Left_R.ps pack_Reader_Left_R.ins pack_Reader_Left_R.res pack_Reader_Left_R.outs = pack_Reader_Left_R.fn := by kernel_rfl
theorem pack_Reader_Left_Sok : SoundS Tryd.prog G0 48 pack_Reader_Left_S := runF_sound (P := Tryd.prog) (E := pack_Reader_Left_E) (h := pack_Reader_Left_H) (f := 48) (fn := Tryd.f48) ⟨same_ok, envP_nil, (envS_cons pack_Reader_fine_Sok envS_nil), envP_nil, envX_nil⟩ Tryd.func48 rfl (by kernel_rfl)
theorem pack_Reader_Left_ok : TRawOk pack_Reader_Left_S pack_Reader_Left_R := rawY_ok (E := pack_Reader_Left_E) (ET := pack_Reader_Left_V) (EnvT.ofX (E := pack_Reader_Left_E) (ET := pack_Reader_Left_V) (pure_of pairs_nil) looks_nil (raws_cons pack_Reader_fine_ok rfl rfl raws_nil) G0_ok news_nil) pack_Reader_Left_eq
-- (*palinode/pack.Reader).End
noncomputable def pack_Reader_End_E : Env := { pure := [], raw := [(46, pack_Reader_Fault_S), (47, pack_Reader_Fail_S), (48, pack_Reader_Left_S)], glob := G0, same := [72], look := [], ext := [] }
def pack_Reader_End_H : Hints := { seqs := [], loops := [], own := [] }
noncomputable def pack_Reader_End_S : SFn := runF Tryd.prog pack_Reader_End_E pack_Reader_End_H Tryd.f20
def pack_Reader_End_Y : TH := { joins := [], loops := [], cuts := [], ro := [], news := [] }
noncomputable def pack_Reader_End (w0 : (List UInt8 × Int × Unit)) : Option (Int × (List UInt8 × Int × Unit) × Unit) :=
(pack_Reader_Left w0).bind fun q1 =>
 cond (decide (q1.1 > 0)) (
(pack_Reader_Fail 3 q1.2.1).bind fun q2 =>
(pack_Reader_Fault q2.2.1).bind fun q3 =>
 some (q3.1, q3.2.1, ())) (
(pack_Reader_Fault q1.2.1).bind fun q4 =>
 some (q4.1, q4.2.1, ()))
noncomputable def pack_Reader_End_R : TRaw := { ps := (.cons (.bx 0 0) .unit), ins := [.box 65 (.agg (.cons .str (.cons (.int .i64) .unit)))], res := (.int .i64), outs := [.box 65 (.agg (.cons .str (.cons (.int .i64) .unit)))], fn := fun v w => pack_Reader_End w.1 }
noncomputable def pack_Reader_End_V : TEnv := { pure := [], look := [], glob := G0T, ty := [], raw := [(46, pack_Reader_Fault_R), (47, pack_Reader_Fail_R), (48, pack_Reader_Left_R)], fresh := [] }
theorem pack_Reader_End_eq : rawY Tryd.prog pack_Reader_End_E pack_Reader_End_H pack_Reader_End_V pack_Reader_End_Y [(0, 0)] Tryd.f20 pack_Reader_End_R.ps pack_Reader_End_R.ins pack_Reader_End_R.res pack_Reader_End_R.outs = pack_Reader_End_R.fn := by kernel_rfl
theorem pack_Reader_End_Sok : SoundS Tryd.prog G0 20 pack_Reader_End_S := runF_sound (P := Tryd.prog) (E := pack_Reader_End_E) (h := pack_Reader_End_H) (f := 20) (fn := Tryd.f20) ⟨same_ok, envP_nil, (envS_cons pack_Reader_Fault_Sok (envS_cons pack_Reader_Fail_Sok (envS_cons pack_Reader_Left_Sok envS_nil))), envP_nil, envX_nil⟩ Tryd.func20 rfl (by kernel_rfl)
theorem pack_Reader_End_ok : TRawOk pack_Reader_End_S pack_Reader_End_R := rawY_ok (E := pack_Reader_End_E) (ET := pack_Reader_End_V) (EnvT.ofX (E := pack_Reader_End_E) (ET := pack_Reader_End_V) (pure_of pairs_nil) looks_nil (raws_cons pack_Reader_Fault_ok rfl rfl (raws_cons pack_Reader_Fail_ok rfl rfl (raws_cons pack_Reader_Left_ok rfl rfl raws_nil))) G0_ok news_nil) pack_Reader_End_eq
end Go.Proofs.YtoddoiemnekffaaDoor.Y
set_option linter.unusedVariables false
set_option maxRecDepth 100000
namespace Go.Proofs.YtoddoiemnekffaaDoor.K
open Go.EM Go.TY Go.Proofs Go.Proofs.YtoddoiemnekffaaDoor.Y
def stringslite_HasPrefix_kH : Hints := { seqs := [], loops := [], own := [] }
noncomputable def stringslite_HasPrefix_kE : Env := { pure := [], raw := [], glob := G0, same := [72], look := [], ext := [] }
noncomputable def stringslite_HasPrefix_ks : SFn := runK 60 Tryd.prog stringslite_HasPrefix_kE stringslite_HasPrefix_kH Tryd.f49
theorem stringslite_HasPrefix_kok : SoundS Tryd.prog G0 49 stringslite_HasPrefix_ks := soundS_sub (runF_sound (P := Tryd.prog) (E := stringslite_HasPrefix_kE) (h := stringslite_HasPrefix_kH) (f := 49) (fn := Tryd.f49) ⟨same_ok, envP_nil, envS_nil, envP_nil, envX_nil⟩ Tryd.func49 rfl (by kernel_rfl)) runK_sub
noncomputable def stringslite_HasPrefix_kp : PFn := closeF stringslite_HasPrefix_ks
theorem stringslite_HasPrefix_kpok : SoundP Tryd.prog G0 49 stringslite_HasPrefix_kp := closeF_sound stringslite_HasPrefix_kok
def strings_HasPrefix_kH : Hints := { seqs := [], loops := [], own := [] }
noncomputable def strings_HasPrefix_kE : Env := { pure := [(49, stringslite_HasPrefix_kp)], raw := [], glob := G0, same := [72], look := [], ext := [] }
noncomputable def strings_HasPrefix_ks : SFn := runK 60 Tryd.prog strings_HasPrefix_kE strings_HasPrefix_kH Tryd.f23
theorem strings_HasPrefix_kok : SoundS Tryd.prog G0 23 strings_HasPrefix_ks := soundS_sub (runF_sound (P := Tryd.prog) (E := strings_HasPrefix_kE) (h := strings_HasPrefix_kH) (f := 23) (fn := Tryd.f23) ⟨same_ok, (envP_cons stringslite_HasPrefix_kpok envP_nil), envS_nil, envP_nil, envX_nil⟩ Tryd.func23 rfl (by kernel_rfl)) runK_sub
noncomputable def strings_HasPrefix_kp : PFn := closeF strings_HasPrefix_ks
theorem strings_HasPrefix_kpok : SoundP Tryd.prog G0 23 strings_HasPrefix_kp := closeF_sound strings_HasPrefix_kok
def strings_Builder_copyCheck_kH : Hints := { seqs := [], loops := [], own := [6, 9, 11, 19] }
noncomputable def strings_Builder_copyCheck_kE : Env := { pure := [], raw := [], glob := G0, same := [72], look := [], ext := [] }
noncomputable def strings_Builder_copyCheck_ks : SFn := runK 60 Tryd.prog strings_Builder_copyCheck_kE strings_Builder_copyCheck_kH Tryd.f62
theorem strings_Builder_copyCheck_kok : SoundS Tryd.prog G0 62 strings_Builder_copyCheck_ks := soundS_sub (runF_sound (P := Tryd.prog) (E := strings_Builder_copyCheck_kE) (h := strings_Builder_copyCheck_kH) (f := 62) (fn := Tryd.f62) ⟨same_ok, envP_nil, envS_nil, envP_nil, envX_nil⟩ Tryd.func62 rfl (by kernel_rfl)) runK_sub
def strings_Builder_WriteByte_kH : Hints := { seqs := [], loops := [], own := [] }
noncomputable def strings_Builder_WriteByte_kE : Env := { pure := [], raw := [(62, strings_Builder_copyCheck_ks)], glob := G0, same := [72], look := [], ext := [] }
noncomputable def strings_Builder_WriteByte_ks : SFn := runK 60 Tryd.prog strings_Builder_WriteByte_kE strings_Builder_WriteByte_kH Tryd.f50
theorem strings_Builder_WriteByte_kok : SoundS Tryd.prog G0 50 strings_Builder_WriteByte_ks := soundS_sub (runF_sound (P := Tryd.prog) (E := strings_Builder_WriteByte_kE) (h := strings_Builder_WriteByte_kH) (f := 50) (fn := Tryd.f50) ⟨same_ok, envP_nil, (envS_cons strings_Builder_copyCheck_kok envS_nil), envP_nil, envX_nil⟩ Tryd.func50 rfl (by kernel_rfl)) runK_sub
def strings_Builder_String_kH : Hints := { seqs := [], loops := [], own := [] }
noncomputable def strings_Builder_String_kE : Env := { pure := [], raw := [], glob := G0, same := [72], look := [], ext := [] }
noncomputable def strings_Builder_String_ks : SFn := runK 60 Tryd.prog strings_Builder_String_kE strings_Builder_String_kH Tryd.f51
theorem strings_Builder_String_kok : SoundS Tryd.prog G0 51 strings_Builder_String_ks := soundS_sub (runF_sound (P := Tryd.prog) (E := strings_Builder_String_kE) (h := strings_Builder_String_kH) (f := 51) (fn := Tryd.f51) ⟨same_ok, envP_nil, envS_nil, envP_nil, envX_nil⟩ Tryd.func51 rfl (by kernel_rfl)) runK_sub
def value_unquote_kH : Hints := { seqs := [(12, [4, 5]), (7, [0, 4, 5, 6])], loops := [(6, [0, 4, 5, 6])], own := [] }
noncomputable def value_unquote_kE : Env := { pure := [], raw := [(50, strings_Builder_WriteByte_ks), (51, strings_Builder_String_ks)], glob := G0, same := [72], look := [], ext := [] }
noncomputable def value_unquote_ks : SFn := runK 60 Tryd.prog value_unquote_kE value_unquote_kH Tryd.f24
theorem value_unquote_kok : SoundS Tryd.prog G0 24 value_unquote_ks := soundS_sub (runF_sound (P := Tryd.prog) (E := value_unquote_kE) (h := value_unquote_kH) (f := 24) (fn := Tryd.f24) ⟨same_ok, envP_nil, (envS_cons strings_Builder_WriteByte_kok (envS_cons strings_Builder_String_kok envS_nil)), envP_nil, envX_nil⟩ Tryd.func24 rfl (by kernel_rfl)) runK_sub
noncomputable def value_unquote_kp : PFn := closeF value_unquote_ks
theorem value_unquote_kpok : SoundP Tryd.prog G0 24 value_unquote_kp := closeF_sound value_unquote_kok
def strconv_lower_kH : Hints := { seqs := [], loops := [], own := [] }
noncomputable def strconv_lower_kE : Env := { pure := [], raw := [], glob := G0, same := [72], look := [], ext := [] }
noncomputable def strconv_lower_ks : SFn := runK 60 Tryd.prog strconv_lower_kE strconv_lower_kH Tryd.f81
theorem strconv_lower_kok : SoundS Tryd.prog G0 81 strconv_lower_ks := soundS_sub (runF_sound (P := Tryd.prog) (E := strconv_lower_kE) (h := strconv_lower_kH) (f := 81) (fn := Tryd.f81) ⟨same_ok, envP_nil, envS_nil, envP_nil, envX_nil⟩ Tryd.func81 rfl (by kernel_rfl)) runK_sub
noncomputable def strconv_lower_kp : PFn := closeF strconv_lower_ks
theorem strconv_lower_kpok : SoundP Tryd.prog G0 81 strconv_lower_kp := closeF_sound strconv_lower_kok
def strconv_underscoreOK_kH : Hints := { seqs := [(5, [0, 3, 4]), (10, [0, 3, 4, 5]), (21, [3]), (11, [0, 3, 4, 5])], loops := [(10, [0, 3, 4, 5])], own := [] }
noncomputable def strconv_underscoreOK_kE : Env := { pure := [(81, strconv_lower_kp)], raw := [], glob := G0, same := [72], look := [], ext := [] }
noncomputable def strconv_underscoreOK_ks : SFn := runK 60 Tryd.prog strconv_underscoreOK_kE strconv_underscoreOK_kH Tryd.f82
theorem strconv_underscoreOK_kok : SoundS Tryd.prog G0 82 strconv_underscoreOK_ks := soundS_sub (runF_sound (P := Tryd.prog) (E := strconv_underscoreOK_kE) (h := strconv_underscoreOK_kH) (f := 82) (fn := Tryd.f82) ⟨same_ok, (envP_cons strconv_lower_kpok envP_nil), envS_nil, envP_nil, envX_nil⟩ Tryd.func82 rfl (by kernel_rfl)) runK_sub
noncomputable def strconv_underscoreOK_kp : PFn := closeF strconv_underscoreOK_ks
theorem strconv_underscoreOK_kpok : SoundP Tryd.prog G0 82 strconv_underscoreOK_kp := closeF_sound strconv_underscoreOK_kok
def strconv_ParseUint_kH : Hints := { seqs := [(21, [0, 1, 2, 8, 9]), (25, [0, 1, 2, 8, 9]), (32, [0, 1, 2, 8, 9, 10]), (56, [9, 12, 13]), (46, [1, 8, 9, 10, 11, 12, 13, 16, 99, 100, 101])], loops := [(36, [1, 8, 9, 10, 11, 12, 13, 99, 100, 101])], own := [99] }
noncomputable def strconv_ParseUint_kE : Env := { pure := [(81, strconv_lower_kp), (82, strconv_underscoreOK_kp)], raw := [], glob := G0, same := [72], look := [], ext := [] }
noncomputable def strconv_ParseUint_ks : SFn := runK 60 Tryd.prog strconv_ParseUint_kE strconv_ParseUint_kH Tryd.f73
theorem strconv_ParseUint_kok : SoundS Tryd.prog G0 73 strconv_ParseUint_ks := soundS_sub (runF_sound (P := Tryd.prog) (E := strconv_ParseUint_kE) (h := strconv_ParseUint_kH) (f := 73) (fn := Tryd.f73) ⟨same_ok, (envP_cons strconv_lower_kpok (envP_cons strconv_underscoreOK_kpok envP_nil)), envS_nil, envP_nil, envX_nil⟩ Tryd.func73 rfl (by kernel_rfl)) runK_sub
noncomputable def strconv_ParseUint_kp : PFn := closeF strconv_ParseUint_ks
theorem strconv_ParseUint_kpok : SoundP Tryd.prog G0 73 strconv_ParseUint_kp := closeF_sound strconv_ParseUint_kok
def strconv_ParseInt_kH : Hints := { seqs := [(10, [0, 1, 2, 8]), (16, [2, 8, 9]), (24, [11])], loops := [], own := [] }
noncomputable def strconv_ParseInt_kE : Env := { pure := [(73, strconv_ParseUint_kp)], raw := [], glob := G0, same := [72], look := [], ext := [] }
noncomputable def strconv_ParseInt_ks : SFn := runK 60 Tryd.prog strconv_ParseInt_kE strconv_ParseInt_kH Tryd.f63
theorem strconv_ParseInt_kok : SoundS Tryd.prog G0 63 strconv_ParseInt_ks := soundS_sub (runF_sound (P := Tryd.prog) (E := strconv_ParseInt_kE) (h := strconv_ParseInt_kH) (f := 63) (fn := Tryd.f63) ⟨same_ok, (envP_cons strconv_ParseUint_kpok envP_nil), envS_nil, envP_nil, envX_nil⟩ Tryd.func63 rfl (by kernel_rfl)) runK_sub
noncomputable def strconv_ParseInt_kp : PFn := closeF strconv_ParseInt_ks
theorem strconv_ParseInt_kpok : SoundP Tryd.prog G0 63 strconv_ParseInt_kp := closeF_sound strconv_ParseInt_kok
def int_strconv_Atoi_kH : Hints := { seqs := [(20, [0]), (8, [0, 5]), (17, [5, 6]), (19, [6])], loops := [(10, [5, 6, 47, 48, 49])], own := [47] }
noncomputable def int_strconv_Atoi_kE : Env := { pure := [(63, strconv_ParseInt_kp)], raw := [], glob := G0, same := [72], look := [], ext := [] }
noncomputable def int_strconv_Atoi_ks : SFn := runK 60 Tryd.prog int_strconv_Atoi_kE int_strconv_Atoi_kH Tryd.f52
theorem int_strconv_Atoi_kok : SoundS Tryd.prog G0 52 int_strconv_Atoi_ks := soundS_sub (runF_sound (P := Tryd.prog) (E := int_strconv_Atoi_kE) (h := int_strconv_Atoi_kH) (f := 52) (fn := Tryd.f52) ⟨same_ok, (envP_cons strconv_ParseInt_kpok envP_nil), envS_nil, envP_nil, envX_nil⟩ Tryd.func52 rfl (by kernel_rfl)) runK_sub
noncomputable def int_strconv_Atoi_kp : PFn := closeF int_strconv_Atoi_ks
theorem int_strconv_Atoi_kpok : SoundP Tryd.prog G0 52 int_strconv_Atoi_kp := closeF_sound int_strconv_Atoi_kok
def stringslite_Clone_kH : Hints := { seqs := [], loops := [], own := [] }
noncomputable def stringslite_Clone_kE : Env := { pure := [], raw := [], glob := G0, same := [72], look := [], ext := [] }
noncomputable def stringslite_Clone_ks : SFn := runK 60 Tryd.prog stringslite_Clone_kE stringslite_Clone_kH Tryd.f74
theorem stringslite_Clone_kok : SoundS Tryd.prog G0 74 stringslite_Clone_ks := soundS_sub (runF_sound (P := Tryd.prog) (E := stringslite_Clone_kE) (h := stringslite_Clone_kH) (f := 74) (fn := Tryd.f74) ⟨same_ok, envP_nil, envS_nil, envP_nil, envX_nil⟩ Tryd.func74 rfl (by kernel_rfl)) runK_sub
noncomputable def stringslite_Clone_kp : PFn := closeF stringslite_Clone_ks
theorem stringslite_Clone_kpok : SoundP Tryd.prog G0 74 stringslite_Clone_kp := closeF_sound stringslite_Clone_kok
def strconv_syntaxError_kH : Hints := { seqs := [], loops := [], own := [] }
noncomputable def strconv_syntaxError_kE : Env := { pure := [(74, stringslite_Clone_kp)], raw := [], glob := G0, same := [72], look := [], ext := [] }
noncomputable def strconv_syntaxError_ks : SFn := runK 60 Tryd.prog strconv_syntaxError_kE strconv_syntaxError_kH Tryd.f64
theorem strconv_syntaxError_kok : SoundS Tryd.prog G0 64 strconv_syntaxError_ks := soundS_sub (runF_sound (P := Tryd.prog) (E := strconv_syntaxError_kE) (h := strconv_syntaxError_kH) (f := 64) (fn := Tryd.f64) ⟨same_ok, (envP_cons stringslite_Clone_kpok envP_nil), envS_nil, envP_nil, envX_nil⟩ Tryd.func64 rfl (by kernel_rfl)) runK_sub
noncomputable def strconv_syntaxError_kp : PFn := closeF strconv_syntaxError_ks
theorem strconv_syntaxError_kpok : SoundP Tryd.prog G0 64 strconv_syntaxError_kp := closeF_sound strconv_syntaxError_kok
def strconv_rangeError_kH : Hints := { seqs := [], loops := [], own := [] }
noncomputable def strconv_rangeError_kE : Env := { pure := [(74, stringslite_Clone_kp)], raw := [], glob := G0, same := [72], look := [], ext := [] }
noncomputable def strconv_rangeError_ks : SFn := runK 60 Tryd.prog strconv_rangeError_kE strconv_rangeError_kH Tryd.f65
theorem strconv_rangeError_kok : SoundS Tryd.prog G0 65 strconv_rangeError_ks := soundS_sub (runF_sound (P := Tryd.prog) (E := strconv_rangeError_kE) (h := strconv_rangeError_kH) (f := 65) (fn := Tryd.f65) ⟨same_ok, (envP_cons stringslite_Clone_kpok envP_nil), envS_nil, envP_nil, envX_nil⟩ Tryd.func65 rfl (by kernel_rfl)) runK_sub
noncomputable def strconv_rangeError_kp : PFn := closeF strconv_rangeError_ks
theorem strconv_rangeError_kpok : SoundP Tryd.prog G0 65 strconv_rangeError_kp := closeF_sound strconv_rangeError_kok
def strconv_small_kH : Hints := { seqs := [], loops := [], own := [] }
noncomputable def strconv_small_kE : Env := { pure := [], raw := [], glob := G0, same := [72], look := [], ext := [] }
noncomputable def strconv_small_ks : SFn := runK 60 Tryd.prog strconv_small_kE strconv_small_kH Tryd.f77
theorem strconv_small_kok : SoundS Tryd.prog G0 77 strconv_small_ks := soundS_sub (runF_sound (P := Tryd.prog) (E := strconv_small_kE) (h := strconv_small_kH) (f := 77) (fn := Tryd.f77) ⟨same_ok, envP_nil, envS_nil, envP_nil, envX_nil⟩ Tryd.func77 rfl (by kernel_rfl)) runK_sub
noncomputable def strconv_small_kp : PFn := closeF strconv_small_ks
theorem strconv_small_kpok : SoundP Tryd.prog G0 77 strconv_small_kp := closeF_sound strconv_small_kok
def bits_Len64_kH : Hints := { seqs := [(4, [0, 2]), (7, [0, 2]), (10, [0, 2])], loops := [], own := [] }
noncomputable def bits_Len64_kE : Env := { pure := [], raw := [], glob := G0, same := [72], look := [], ext := [] }
noncomputable def bits_Len64_ks : SFn := runK 60 Tryd.prog bits_Len64_kE bits_Len64_kH Tryd.f84
theorem bits_Len64_kok : SoundS Tryd.prog G0 84 bits_Len64_ks := soundS_sub (runF_sound (P := Tryd.prog) (E := bits_Len64_kE) (h := bits_Len64_kH) (f := 84) (fn := Tryd.f84) ⟨same_ok, envP_nil, envS_nil, envP_nil, envX_nil⟩ Tryd.func84 rfl (by kernel_rfl)) runK_sub
noncomputable def bits_Len64_kp : PFn := closeF bits_Len64_ks
theorem bits_Len64_kpok : SoundP Tryd.prog G0 84 bits_Len64_kp := closeF_sound bits_Len64_kok
def strconv_log10Pow2_kH : Hints := { seqs := [], loops := [], own := [] }
noncomputable def strconv_log10Pow2_kE : Env := { pure := [], raw := [], glob := G0, same := [72], look := [], ext := [] }
noncomputable def strconv_log10Pow2_ks : SFn := runK 60 Tryd.prog strconv_log10Pow2_kE strconv_log10Pow2_kH Tryd.f83
theorem strconv_log10Pow2_kok : SoundS Tryd.prog G0 83 strconv_log10Pow2_ks := soundS_sub (runF_sound (P := Tryd.prog) (E := strconv_log10Pow2_kE) (h := strconv_log10Pow2_kH) (f := 83) (fn := Tryd.f83) ⟨same_ok, envP_nil, envS_nil, envP_nil, envX_nil⟩ Tryd.func83 rfl (by kernel_rfl)) runK_sub
noncomputable def strconv_log10Pow2_kp : PFn := closeF strconv_log10Pow2_ks
theorem strconv_log10Pow2_kpok : SoundP Tryd.prog G0 83 strconv_log10Pow2_kp := closeF_sound strconv_log10Pow2_kok
def strconv_bool2_int_kH : Hints := { seqs := [], loops := [], own := [] }
noncomputable def strconv_bool2_int_kE : Env := { pure := [], raw := [], glob := G0, same := [72], look := [], ext := [] }
noncomputable def strconv_bool2_int_ks : SFn := runK 60 Tryd.prog strconv_bool2_int_kE strconv_bool2_int_kH Tryd.f85
theorem strconv_bool2_int_kok : SoundS Tryd.prog G0 85 strconv_bool2_int_ks := soundS_sub (runF_sound (P := Tryd.prog) (E := strconv_bool2_int_kE) (h := strconv_bool2_int_kH) (f := 85) (fn := Tryd.f85) ⟨same_ok, envP_nil, envS_nil, envP_nil, envX_nil⟩ Tryd.func85 rfl (by kernel_rfl)) runK_sub
noncomputable def strconv_bool2_int_kp : PFn := closeF strconv_bool2_int_ks
theorem strconv_bool2_int_kpok : SoundP Tryd.prog G0 85 strconv_bool2_int_kp := closeF_sound strconv_bool2_int_kok
def strconv_numDigits_kH : Hints := { seqs := [], loops := [], own := [] }
noncomputable def strconv_numDigits_kE : Env := { pure := [(83, strconv_log10Pow2_kp), (84, bits_Len64_kp), (85, strconv_bool2_int_kp)], raw := [], glob := G0, same := [72], look := [], ext := [] }
noncomputable def strconv_numDigits_ks : SFn := runK 60 Tryd.prog strconv_numDigits_kE strconv_numDigits_kH Tryd.f78
theorem strconv_numDigits_kok : SoundS Tryd.prog G0 78 strconv_numDigits_ks := soundS_sub (runF_sound (P := Tryd.prog) (E := strconv_numDigits_kE) (h := strconv_numDigits_kH) (f := 78) (fn := Tryd.f78) ⟨same_ok, (envP_cons strconv_log10Pow2_kpok (envP_cons bits_Len64_kpok (envP_cons strconv_bool2_int_kpok envP_nil))), envS_nil, envP_nil, envX_nil⟩ Tryd.func78 rfl (by kernel_rfl)) runK_sub
noncomputable def strconv_numDigits_kp : PFn := closeF strconv_numDigits_ks
theorem strconv_numDigits_kpok : SoundP Tryd.prog G0 78 strconv_numDigits_kp := closeF_sound strconv_numDigits_kok
def strconv_formatBase10_kH : Hints := { seqs := [(12, [0, 1, 4]), (20, [0, 4, 12]), (25, [0, 4, 12])], loops := [(1, [0, 1, 4])], own := [] }
noncomputable def strconv_formatBase10_kE : Env := { pure := [], raw := [], glob := G0, same := [72], look := [], ext := [] }
noncomputable def strconv_formatBase10_ks : SFn := runK 60 Tryd.prog strconv_formatBase10_kE strconv_formatBase10_kH Tryd.f79
theorem strconv_formatBase10_kok : SoundS Tryd.prog G0 79 strconv_formatBase10_ks := soundS_sub (runF_sound (P := Tryd.prog) (E := strconv_formatBase10_kE) (h := strconv_formatBase10_kH) (f := 79) (fn := Tryd.f79) ⟨same_ok, envP_nil, envS_nil, envP_nil, envX_nil⟩ Tryd.func79 rfl (by kernel_rfl)) runK_sub
noncomputable def strconv_formatBase10_kp : PFn := closeF strconv_formatBase10_ks
theorem strconv_formatBase10_kpok : SoundP Tryd.prog G0 79 strconv_formatBase10_kp := closeF_sound strconv_formatBase10_kok
def strconv_isPowerOfTwo_kH : Hints := { seqs := [], loops := [], own := [] }
noncomputable def strconv_isPowerOfTwo_kE : Env := { pure := [], raw := [], glob := G0, same := [72], look := [], ext := [] }
noncomputable def strconv_isPowerOfTwo_ks : SFn := runK 60 Tryd.prog strconv_isPowerOfTwo_kE strconv_isPowerOfTwo_kH Tryd.f86
theorem strconv_isPowerOfTwo_kok : SoundS Tryd.prog G0 86 strconv_isPowerOfTwo_ks := soundS_sub (runF_sound (P := Tryd.prog) (E := strconv_isPowerOfTwo_kE) (h := strconv_isPowerOfTwo_kH) (f := 86) (fn := Tryd.f86) ⟨same_ok, envP_nil, envS_nil, envP_nil, envX_nil⟩ Tryd.func86 rfl (by kernel_rfl)) runK_sub
noncomputable def strconv_isPowerOfTwo_kp : PFn := closeF strconv_isPowerOfTwo_ks
theorem strconv_isPowerOfTwo_kpok : SoundP Tryd.prog G0 86 strconv_isPowerOfTwo_kp := closeF_sound strconv_isPowerOfTwo_kok
def bits_TrailingZeros32_kH : Hints := { seqs := [], loops := [], own := [] }
noncomputable def bits_TrailingZeros32_kE : Env := { pure := [], raw := [], glob := G0, same := [72], look := [], ext := [] }
noncomputable def bits_TrailingZeros32_ks : SFn := runK 60 Tryd.prog bits_TrailingZeros32_kE bits_TrailingZeros32_kH Tryd.f88
theorem bits_TrailingZeros32_kok : SoundS Tryd.prog G0 88 bits_TrailingZeros32_ks := soundS_sub (runF_sound (P := Tryd.prog) (E := bits_TrailingZeros32_kE) (h := bits_TrailingZeros32_kH) (f := 88) (fn := Tryd.f88) ⟨same_ok, envP_nil, envS_nil, envP_nil, envX_nil⟩ Tryd.func88 rfl (by kernel_rfl)) runK_sub
noncomputable def bits_TrailingZeros32_kp : PFn := closeF bits_TrailingZeros32_ks
theorem bits_TrailingZeros32_kpok : SoundP Tryd.prog G0 88 bits_TrailingZeros32_kp := closeF_sound bits_TrailingZeros32_kok
def bits_TrailingZeros64_kH : Hints := { seqs := [], loops := [], own := [] }
noncomputable def bits_TrailingZeros64_kE : Env := { pure := [], raw := [], glob := G0, same := [72], look := [], ext := [] }
noncomputable def bits_TrailingZeros64_ks : SFn := runK 60 Tryd.prog bits_TrailingZeros64_kE bits_TrailingZeros64_kH Tryd.f89
theorem bits_TrailingZeros64_kok : SoundS Tryd.prog G0 89 bits_TrailingZeros64_ks := soundS_sub (runF_sound (P := Tryd.prog) (E := bits_TrailingZeros64_kE) (h := bits_TrailingZeros64_kH) (f := 89) (fn := Tryd.f89) ⟨same_ok, envP_nil, envS_nil, envP_nil, envX_nil⟩ Tryd.func89 rfl (by kernel_rfl)) runK_sub
noncomputable def bits_TrailingZeros64_kp : PFn := closeF bits_TrailingZeros64_ks
theorem bits_TrailingZeros64_kpok : SoundP Tryd.prog G0 89 bits_TrailingZeros64_kp := closeF_sound bits_TrailingZeros64_kok
def bits_TrailingZeros_kH : Hints := { seqs := [], loops := [], own := [] }
noncomputable def bits_TrailingZeros_kE : Env := { pure := [(88, bits_TrailingZeros32_kp), (89, bits_TrailingZeros64_kp)], raw := [], glob := G0, same := [72], look := [], ext := [] }
noncomputable def bits_TrailingZeros_ks : SFn := runK 60 Tryd.prog bits_TrailingZeros_kE bits_TrailingZeros_kH Tryd.f87
theorem bits_TrailingZeros_kok : SoundS Tryd.prog G0 87 bits_TrailingZeros_ks := soundS_sub (runF_sound (P := Tryd.prog) (E := bits_TrailingZeros_kE) (h := bits_TrailingZeros_kH) (f := 87) (fn := Tryd.f87) ⟨same_ok, (envP_cons bits_TrailingZeros32_kpok (envP_cons bits_TrailingZeros64_kpok envP_nil)), envS_nil, envP_nil, envX_nil⟩ Tryd.func87 rfl (by kernel_rfl)) runK_sub
noncomputable def bits_TrailingZeros_kp : PFn := closeF bits_TrailingZeros_ks
theorem bits_TrailingZeros_kpok : SoundP Tryd.prog G0 87 bits_TrailingZeros_kp := closeF_sound bits_TrailingZeros_kok
def strconv_FormatInt_kH : Hints := { seqs := [(8, [0, 5, 6])], loops := [], own := [39, 43] }
noncomputable def strconv_FormatInt_kE : Env := { pure := [(77, strconv_small_kp), (78, strconv_numDigits_kp), (79, strconv_formatBase10_kp)], raw := [], glob := G0, same := [72], look := [], ext := [] }
noncomputable def strconv_FormatInt_ks : SFn := runK 60 Tryd.prog strconv_FormatInt_kE strconv_FormatInt_kH Tryd.f71
theorem strconv_FormatInt_kok : SoundS Tryd.prog G0 71 strconv_FormatInt_ks := soundS_sub (runF_sound (P := Tryd.prog) (E := strconv_FormatInt_kE) (h := strconv_FormatInt_kH) (f := 71) (fn := Tryd.f71) ⟨same_ok, (envP_cons strconv_small_kpok (envP_cons strconv_numDigits_kpok (envP_cons strconv_formatBase10_kpok envP_nil))), envS_nil, envP_nil, envX_nil⟩ Tryd.func71 rfl (by kernel_rfl)) runK_sub
noncomputable def strconv_FormatInt_kp : PFn := closeF strconv_FormatInt_ks
theorem strconv_FormatInt_kpok : SoundP Tryd.prog G0 71 strconv_FormatInt_kp := closeF_sound strconv_FormatInt_kok
def int_strconv_Itoa_kH : Hints := { seqs := [], loops := [], own := [] }
noncomputable def int_strconv_Itoa_kE : Env := { pure := [(71, strconv_FormatInt_kp)], raw := [], glob := G0, same := [72], look := [], ext := [] }
noncomputable def int_strconv_Itoa_ks : SFn := runK 60 Tryd.prog int_strconv_Itoa_kE int_strconv_Itoa_kH Tryd.f60
theorem int_strconv_Itoa_kok : SoundS Tryd.prog G0 60 int_strconv_Itoa_ks := soundS_sub (runF_sound (P := Tryd.prog) (E := int_strconv_Itoa_kE) (h := int_strconv_Itoa_kH) (f := 60) (fn := Tryd.f60) ⟨same_ok, (envP_cons strconv_FormatInt_kpok envP_nil), envS_nil, envP_nil, envX_nil⟩ Tryd.func60 rfl (by kernel_rfl)) runK_sub
noncomputable def int_strconv_Itoa_kp : PFn := closeF int_strconv_Itoa_ks
theorem int_strconv_Itoa_kpok : SoundP Tryd.prog G0 60 int_strconv_Itoa_kp := closeF_sound int_strconv_Itoa_kok
def strconv_Itoa_kH : Hints := { seqs := [], loops := [], own := [] }
noncomputable def strconv_Itoa_kE : Env := { pure := [(60, int_strconv_Itoa_kp)], raw := [], glob := G0, same := [72], look := [], ext := [] }
noncomputable def strconv_Itoa_ks : SFn := runK 60 Tryd.prog strconv_Itoa_kE strconv_Itoa_kH Tryd.f37
theorem strconv_Itoa_kok : SoundS Tryd.prog G0 37 strconv_Itoa_ks := soundS_sub (runF_sound (P := Tryd.prog) (E := strconv_Itoa_kE) (h := strconv_Itoa_kH) (f := 37) (fn := Tryd.f37) ⟨same_ok, (envP_cons int_strconv_Itoa_kpok envP_nil), envS_nil, envP_nil, envX_nil⟩ Tryd.func37 rfl (by kernel_rfl)) runK_sub
noncomputable def strconv_Itoa_kp : PFn := closeF strconv_Itoa_ks
theorem strconv_Itoa_kpok : SoundP Tryd.prog G0 37 strconv_Itoa_kp := closeF_sound strconv_Itoa_kok
def errors_New_kH : Hints := { seqs := [], loops := [], own := [] }
noncomputable def errors_New_kE : Env := { pure := [], raw := [], glob := G0, same := [72], look := [], ext := [] }
noncomputable def errors_New_ks : SFn := runK 60 Tryd.prog errors_New_kE errors_New_kH Tryd.f75
theorem errors_New_kok : SoundS Tryd.prog G0 75 errors_New_ks := soundS_sub (runF_sound (P := Tryd.prog) (E := errors_New_kE) (h := errors_New_kH) (f := 75) (fn := Tryd.f75) ⟨same_ok, envP_nil, envS_nil, envP_nil, envX_nil⟩ Tryd.func75 rfl (by kernel_rfl)) runK_sub
noncomputable def errors_New_kp : PFn := closeF errors_New_ks
theorem errors_New_kpok : SoundP Tryd.prog G0 75 errors_New_kp := closeF_sound errors_New_kok
def strconv_baseError_kH : Hints := { seqs := [], loops := [], own := [] }
noncomputable def strconv_baseError_kE : Env := { pure := [(37, strconv_Itoa_kp), (74, stringslite_Clone_kp), (75, errors_New_kp)], raw := [], glob := G0, same := [72], look := [], ext := [] }
noncomputable def strconv_baseError_ks : SFn := runK 60 Tryd.prog strconv_baseError_kE strconv_baseError_kH Tryd.f66
theorem strconv_baseError_kok : SoundS Tryd.prog G0 66 strconv_baseError_ks := soundS_sub (runF_sound (P := Tryd.prog) (E := strconv_baseError_kE) (h := strconv_baseError_kH) (f := 66) (fn := Tryd.f66) ⟨same_ok, (envP_cons strconv_Itoa_kpok (envP_cons stringslite_Clone_kpok (envP_cons errors_New_kpok envP_nil))), envS_nil, envP_nil, envX_nil⟩ Tryd.func66 rfl (by kernel_rfl)) runK_sub
noncomputable def strconv_baseError_kp : PFn := closeF strconv_baseError_ks
theorem strconv_baseError_kpok : SoundP Tryd.prog G0 66 strconv_baseError_kp := closeF_sound strconv_baseError_kok
def strconv_bitSizeError_kH : Hints := { seqs := [], loops := [], own := [] }
noncomputable def strconv_bitSizeError_kE : Env := { pure := [(37, strconv_Itoa_kp), (74, stringslite_Clone_kp), (75, errors_New_kp)], raw := [], glob := G0, same := [72], look := [], ext := [] }
noncomputable def strconv_bitSizeError_ks : SFn := runK 60 Tryd.prog strconv_bitSizeError_kE strconv_bitSizeError_kH Tryd.f67
theorem strconv_bitSizeError_kok : SoundS Tryd.prog G0 67 strconv_bitSizeError_ks := soundS_sub (runF_sound (P := Tryd.prog) (E := strconv_bitSizeError_kE) (h := strconv_bitSizeError_kH) (f := 67) (fn := Tryd.f67) ⟨same_ok, (envP_cons strconv_Itoa_kpok (envP_cons stringslite_Clone_kpok (envP_cons errors_New_kpok envP_nil))), envS_nil, envP_nil, envX_nil⟩ Tryd.func67 rfl (by kernel_rfl)) runK_sub
noncomputable def strconv_bitSizeError_kp : PFn := closeF strconv_bitSizeError_ks
theorem strconv_bitSizeError_kpok : SoundP Tryd.prog G0 67 strconv_bitSizeError_kp := closeF_sound strconv_bitSizeError_kok
def strconv_toError_kH : Hints := { seqs := [], loops := [], own := [] }
noncomputable def strconv_toError_kE : Env := { pure := [(64, strconv_syntaxError_kp), (65, strconv_rangeError_kp), (66, strconv_baseError_kp), (67, strconv_bitSizeError_kp)], raw := [], glob := G0, same := [72], look := [], ext := [] }
noncomputable def strconv_toError_ks : SFn := runK 60 Tryd.prog strconv_toError_kE strconv_toError_kH Tryd.f53
theorem strconv_toError_kok : SoundS Tryd.prog G0 53 strconv_toError_ks := soundS_sub (runF_sound (P := Tryd.prog) (E := strconv_toError_kE) (h := strconv_toError_kH) (f := 53) (fn := Tryd.f53) ⟨same_ok, (envP_cons strconv_syntaxError_kpok (envP_cons strconv_rangeError_kpok (envP_cons strconv_baseError_kpok (envP_cons strconv_bitSizeError_kpok envP_nil)))), envS_nil, envP_nil, envX_nil⟩ Tryd.func53 rfl (by kernel_rfl)) runK_sub
noncomputable def strconv_toError_kp : PFn := closeF strconv_toError_ks
theorem strconv_toError_kpok : SoundP Tryd.prog G0 53 strconv_toError_kp := closeF_sound strconv_toError_kok
def strconv_Atoi_kH : Hints := { seqs := [], loops := [], own := [] }
noncomputable def strconv_Atoi_kE : Env := { pure := [(52, int_strconv_Atoi_kp), (53, strconv_toError_kp)], raw := [], glob := G0, same := [72], look := [], ext := [] }
noncomputable def strconv_Atoi_ks : SFn := runK 60 Tryd.prog strconv_Atoi_kE strconv_Atoi_kH Tryd.f25
theorem strconv_Atoi_kok : SoundS Tryd.prog G0 25 strconv_Atoi_ks := soundS_sub (runF_sound (P := Tryd.prog) (E := strconv_Atoi_kE) (h := strconv_Atoi_kH) (f := 25) (fn := Tryd.f25) ⟨same_ok, (envP_cons int_strconv_Atoi_kpok (envP_cons strconv_toError_kpok envP_nil)), envS_nil, envP_nil, envX_nil⟩ Tryd.func25 rfl (by kernel_rfl)) runK_sub
noncomputable def strconv_Atoi_kp : PFn := closeF strconv_Atoi_ks
theorem strconv_Atoi_kpok : SoundP Tryd.prog G0 25 strconv_Atoi_kp := closeF_sound strconv_Atoi_kok
def utf8_decodeRuneInStringSlow_kH : Hints := { seqs := [], loops := [], own := [] }
noncomputable def utf8_decodeRuneInStringSlow_kE : Env := { pure := [], raw := [], glob := G0, same := [72], look := [], ext := [] }
noncomputable def utf8_decodeRuneInStringSlow_ks : SFn := runK 60 Tryd.prog utf8_decodeRuneInStringSlow_kE utf8_decodeRuneInStringSlow_kH Tryd.f69
theorem utf8_decodeRuneInStringSlow_kok : SoundS Tryd.prog G0 69 utf8_decodeRuneInStringSlow_ks := soundS_sub (runF_sound (P := Tryd.prog) (E := utf8_decodeRuneInStringSlow_kE) (h := utf8_decodeRuneInStringSlow_kH) (f := 69) (fn := Tryd.f69) ⟨same_ok, envP_nil, envS_nil, envP_nil, envX_nil⟩ Tryd.func69 rfl (by kernel_rfl)) runK_sub
noncomputable def utf8_decodeRuneInStringSlow_kp : PFn := closeF utf8_decodeRuneInStringSlow_ks
theorem utf8_decodeRuneInStringSlow_kpok : SoundP Tryd.prog G0 69 utf8_decodeRuneInStringSlow_kp := closeF_sound utf8_decodeRuneInStringSlow_kok
def utf8_DecodeRuneInString_kH : Hints := { seqs := [], loops := [], own := [] }
noncomputable def utf8_DecodeRuneInString_kE : Env := { pure := [(69, utf8_decodeRuneInStringSlow_kp)], raw := [], glob := G0, same := [72], look := [], ext := [] }
noncomputable def utf8_DecodeRuneInString_ks : SFn := runK 60 Tryd.prog utf8_DecodeRuneInString_kE utf8_DecodeRuneInString_kH Tryd.f56
theorem utf8_DecodeRuneInString_kok : SoundS Tryd.prog G0 56 utf8_DecodeRuneInString_ks := soundS_sub (runF_sound (P := Tryd.prog) (E := utf8_DecodeRuneInString_kE) (h := utf8_DecodeRuneInString_kH) (f := 56) (fn := Tryd.f56) ⟨same_ok, (envP_cons utf8_decodeRuneInStringSlow_kpok envP_nil), envS_nil, envP_nil, envX_nil⟩ Tryd.func56 rfl (by kernel_rfl)) runK_sub
noncomputable def utf8_DecodeRuneInString_kp : PFn := closeF utf8_DecodeRuneInString_ks
theorem utf8_DecodeRuneInString_kpok : SoundP Tryd.prog G0 56 utf8_DecodeRuneInString_kp := closeF_sound utf8_DecodeRuneInString_kok
def name_Runes_kH : Hints := { seqs := [(10, [4]), (9, [0, 4, 6, 10])], loops := [(3, [0, 4, 10])], own := [] }
noncomputable def name_Runes_kE : Env := { pure := [(56, utf8_DecodeRuneInString_kp)], raw := [], glob := G0, same := [72], look := [], ext := [] }
noncomputable def name_Runes_ks : SFn := runK 60 Tryd.prog name_Runes_kE name_Runes_kH Tryd.f30
theorem name_Runes_kok : SoundS Tryd.prog G0 30 name_Runes_ks := soundS_sub (runF_sound (P := Tryd.prog) (E := name_Runes_kE) (h := name_Runes_kH) (f := 30) (fn := Tryd.f30) ⟨same_ok, (envP_cons utf8_DecodeRuneInString_kpok envP_nil), envS_nil, envP_nil, envX_nil⟩ Tryd.func30 rfl (by kernel_rfl)) runK_sub
noncomputable def name_Runes_kp : PFn := closeF name_Runes_ks
theorem name_Runes_kpok : SoundP Tryd.prog G0 30 name_Runes_kp := closeF_sound name_Runes_kok
def value_Right_kH : Hints := { seqs := [], loops := [], own := [] }
noncomputable def value_Right_kE : Env := { pure := [(30, name_Runes_kp)], raw := [], glob := G0, same := [72], look := [], ext := [] }
noncomputable def value_Right_ks : SFn := runK 60 Tryd.prog value_Right_kE value_Right_kH Tryd.f11
theorem value_Right_kok : SoundS Tryd.prog G0 11 value_Right_ks := soundS_sub (runF_sound (P := Tryd.prog) (E := value_Right_kE) (h := value_Right_kH) (f := 11) (fn := Tryd.f11) ⟨same_ok, (envP_cons name_Runes_kpok envP_nil), envS_nil, envP_nil, envX_nil⟩ Tryd.func11 rfl (by kernel_rfl)) runK_sub
noncomputable def value_Right_kp : PFn := closeF value_Right_ks
theorem value_Right_kpok : SoundP Tryd.prog G0 11 value_Right_kp := closeF_sound value_Right_kok
def value_inner_kH : Hints := { seqs := [], loops := [], own := [] }
noncomputable def value_inner_kE : Env := { pure := [], raw := [], glob := G0, same := [72], look := [], ext := [] }
noncomputable def value_inner_ks : SFn := runK 60 Tryd.prog value_inner_kE value_inner_kH Tryd.f34
theorem value_inner_kok : SoundS Tryd.prog G0 34 value_inner_ks := soundS_sub (runF_sound (P := Tryd.prog) (E := value_inner_kE) (h := value_inner_kH) (f := 34) (fn := Tryd.f34) ⟨same_ok, envP_nil, envS_nil, envP_nil, envX_nil⟩ Tryd.func34 rfl (by kernel_rfl)) runK_sub
noncomputable def value_inner_kp : PFn := closeF value_inner_ks
theorem value_inner_kpok : SoundP Tryd.prog G0 34 value_inner_kp := closeF_sound value_inner_kok
def utf8_appendRuneNonASCII_kH : Hints := { seqs := [(7, [0, 1, 5, 25])], loops := [], own := [] }
noncomputable def utf8_appendRuneNonASCII_kE : Env := { pure := [], raw := [], glob := G0, same := [72], look := [], ext := [] }
noncomputable def utf8_appendRuneNonASCII_ks : SFn := runK 60 Tryd.prog utf8_appendRuneNonASCII_kE utf8_appendRuneNonASCII_kH Tryd.f76
theorem utf8_appendRuneNonASCII_kok : SoundS Tryd.prog G0 76 utf8_appendRuneNonASCII_ks := soundS_sub (runF_sound (P := Tryd.prog) (E := utf8_appendRuneNonASCII_kE) (h := utf8_appendRuneNonASCII_kH) (f := 76) (fn := Tryd.f76) ⟨same_ok, envP_nil, envS_nil, envP_nil, envX_nil⟩ Tryd.func76 rfl (by kernel_rfl)) runK_sub
def utf8_AppendRune_kH : Hints := { seqs := [], loops := [], own := [] }
noncomputable def utf8_AppendRune_kE : Env := { pure := [], raw := [(76, utf8_appendRuneNonASCII_ks)], glob := G0, same := [72], look := [], ext := [] }
noncomputable def utf8_AppendRune_ks : SFn := runK 60 Tryd.prog utf8_AppendRune_kE utf8_AppendRune_kH Tryd.f70
theorem utf8_AppendRune_kok : SoundS Tryd.prog G0 70 utf8_AppendRune_ks := soundS_sub (runF_sound (P := Tryd.prog) (E := utf8_AppendRune_kE) (h := utf8_AppendRune_kH) (f := 70) (fn := Tryd.f70) ⟨same_ok, envP_nil, (envS_cons utf8_appendRuneNonASCII_kok envS_nil), envP_nil, envX_nil⟩ Tryd.func70 rfl (by kernel_rfl)) runK_sub
def strings_Builder_WriteRune_kH : Hints := { seqs := [], loops := [], own := [] }
noncomputable def strings_Builder_WriteRune_kE : Env := { pure := [], raw := [(62, strings_Builder_copyCheck_ks), (70, utf8_AppendRune_ks)], glob := G0, same := [72], look := [], ext := [] }
noncomputable def strings_Builder_WriteRune_ks : SFn := runK 60 Tryd.prog strings_Builder_WriteRune_kE strings_Builder_WriteRune_kH Tryd.f58
theorem strings_Builder_WriteRune_kok : SoundS Tryd.prog G0 58 strings_Builder_WriteRune_ks := soundS_sub (runF_sound (P := Tryd.prog) (E := strings_Builder_WriteRune_kE) (h := strings_Builder_WriteRune_kH) (f := 58) (fn := Tryd.f58) ⟨same_ok, envP_nil, (envS_cons strings_Builder_copyCheck_kok (envS_cons utf8_AppendRune_kok envS_nil)), envP_nil, envX_nil⟩ Tryd.func58 rfl (by kernel_rfl)) runK_sub
def value_quote_kH : Hints := { seqs := [(9, [3])], loops := [(4, [3, 8])], own := [] }
noncomputable def value_quote_kE : Env := { pure := [], raw := [(50, strings_Builder_WriteByte_ks), (51, strings_Builder_String_ks), (58, strings_Builder_WriteRune_ks)], glob := G0, same := [72], look := [], ext := [] }
noncomputable def value_quote_ks : SFn := runK 60 Tryd.prog value_quote_kE value_quote_kH Tryd.f35
theorem value_quote_kok : SoundS Tryd.prog G0 35 value_quote_ks := soundS_sub (runF_sound (P := Tryd.prog) (E := value_quote_kE) (h := value_quote_kH) (f := 35) (fn := Tryd.f35) ⟨same_ok, envP_nil, (envS_cons strings_Builder_WriteByte_kok (envS_cons strings_Builder_String_kok (envS_cons strings_Builder_WriteRune_kok envS_nil))), envP_nil, envX_nil⟩ Tryd.func35 rfl (by kernel_rfl)) runK_sub
noncomputable def value_quote_kp : PFn := closeF value_quote_ks
theorem value_quote_kpok : SoundP Tryd.prog G0 35 value_quote_kp := closeF_sound value_quote_kok
def int_strconv_FormatBool_kH : Hints := { seqs := [], loops := [], own := [] }
noncomputable def int_strconv_FormatBool_kE : Env := { pure := [], raw := [], glob := G0, same := [72], look := [], ext := [] }
noncomputable def int_strconv_FormatBool_ks : SFn := runK 60 Tryd.prog int_strconv_FormatBool_kE int_strconv_FormatBool_kH Tryd.f59
theorem int_strconv_FormatBool_kok : SoundS Tryd.prog G0 59 int_strconv_FormatBool_ks := soundS_sub (runF_sound (P := Tryd.prog) (E := int_strconv_FormatBool_kE) (h := int_strconv_FormatBool_kH) (f := 59) (fn := Tryd.f59) ⟨same_ok, envP_nil, envS_nil, envP_nil, envX_nil⟩ Tryd.func59 rfl (by kernel_rfl)) runK_sub
noncomputable def int_strconv_FormatBool_kp : PFn := closeF int_strconv_FormatBool_ks
theorem int_strconv_FormatBool_kpok : SoundP Tryd.prog G0 59 int_strconv_FormatBool_kp := closeF_sound int_strconv_FormatBool_kok
def strconv_FormatBool_kH : Hints := { seqs := [], loops := [], own := [] }
noncomputable def strconv_FormatBool_kE : Env := { pure := [(59, int_strconv_FormatBool_kp)], raw := [], glob := G0, same := [72], look := [], ext := [] }
noncomputable def strconv_FormatBool_ks : SFn := runK 60 Tryd.prog strconv_FormatBool_kE strconv_FormatBool_kH Tryd.f36
theorem strconv_FormatBool_kok : SoundS Tryd.prog G0 36 strconv_FormatBool_ks := soundS_sub (runF_sound (P := Tryd.prog) (E := strconv_FormatBool_kE) (h := strconv_FormatBool_kH) (f := 36) (fn := Tryd.f36) ⟨same_ok, (envP_cons int_strconv_FormatBool_kpok envP_nil), envS_nil, envP_nil, envX_nil⟩ Tryd.func36 rfl (by kernel_rfl)) runK_sub
noncomputable def strconv_FormatBool_kp : PFn := closeF strconv_FormatBool_ks
theorem strconv_FormatBool_kpok : SoundP Tryd.prog G0 36 strconv_FormatBool_kp := closeF_sound strconv_FormatBool_kok
def value_Text_kH : Hints := { seqs := [], loops := [], own := [] }
noncomputable def value_Text_kE : Env := { pure := [(34, value_inner_kp), (35, value_quote_kp), (36, strconv_FormatBool_kp), (37, strconv_Itoa_kp)], raw := [], glob := G0, same := [72], look := [], ext := [] }
noncomputable def value_Text_ks : SFn := runK 60 Tryd.prog value_Text_kE value_Text_kH Tryd.f14
theorem value_Text_kok : SoundS Tryd.prog G0 14 value_Text_ks := soundS_sub (runF_sound (P := Tryd.prog) (E := value_Text_kE) (h := value_Text_kH) (f := 14) (fn := Tryd.f14) ⟨same_ok, (envP_cons value_inner_kpok (envP_cons value_quote_kpok (envP_cons strconv_FormatBool_kpok (envP_cons strconv_Itoa_kpok envP_nil)))), envS_nil, envP_nil, envX_nil⟩ Tryd.func14 rfl (by kernel_rfl)) runK_sub
noncomputable def value_Text_kp : PFn := closeF value_Text_ks
theorem value_Text_kpok : SoundP Tryd.prog G0 14 value_Text_kp := closeF_sound value_Text_kok
def value_Parse_kH : Hints := { seqs := [(11, [0, 2, 4])], loops := [], own := [] }
noncomputable def value_Parse_kE : Env := { pure := [(11, value_Right_kp), (14, value_Text_kp), (23, strings_HasPrefix_kp), (24, value_unquote_kp), (25, strconv_Atoi_kp)], raw := [], glob := G0, same := [72], look := [], ext := [] }
noncomputable def value_Parse_ks : SFn := runK 60 Tryd.prog value_Parse_kE value_Parse_kH Tryd.f8
theorem value_Parse_kok : SoundS Tryd.prog G0 8 value_Parse_ks := soundS_sub (runF_sound (P := Tryd.prog) (E := value_Parse_kE) (h := value_Parse_kH) (f := 8) (fn := Tryd.f8) ⟨same_ok, (envP_cons value_Right_kpok (envP_cons value_Text_kpok (envP_cons strings_HasPrefix_kpok (envP_cons value_unquote_kpok (envP_cons strconv_Atoi_kpok envP_nil))))), envS_nil, envP_nil, envX_nil⟩ Tryd.func8 rfl (by kernel_rfl)) runK_sub
noncomputable def value_Parse_kp : PFn := closeF value_Parse_ks
theorem value_Parse_kpok : SoundP Tryd.prog G0 8 value_Parse_kp := closeF_sound value_Parse_kok
def value_Fold_kH : Hints := { seqs := [], loops := [], own := [] }
noncomputable def value_Fold_kE : Env := { pure := [], raw := [], glob := G0, same := [72], look := [], ext := [] }
noncomputable def value_Fold_ks : SFn := runK 60 Tryd.prog value_Fold_kE value_Fold_kH Tryd.f21
theorem value_Fold_kok : SoundS Tryd.prog G0 21 value_Fold_ks := soundS_sub (runF_sound (P := Tryd.prog) (E := value_Fold_kE) (h := value_Fold_kH) (f := 21) (fn := Tryd.f21) ⟨same_ok, envP_nil, envS_nil, envP_nil, envX_nil⟩ Tryd.func21 rfl (by kernel_rfl)) runK_sub
noncomputable def value_Fold_kp : PFn := closeF value_Fold_ks
theorem value_Fold_kpok : SoundP Tryd.prog G0 21 value_Fold_kp := closeF_sound value_Fold_kok
def value_Unfold_kH : Hints := { seqs := [], loops := [], own := [] }
noncomputable def value_Unfold_kE : Env := { pure := [], raw := [], glob := G0, same := [72], look := [], ext := [] }
noncomputable def value_Unfold_ks : SFn := runK 60 Tryd.prog value_Unfold_kE value_Unfold_kH Tryd.f22
theorem value_Unfold_kok : SoundS Tryd.prog G0 22 value_Unfold_ks := soundS_sub (runF_sound (P := Tryd.prog) (E := value_Unfold_kE) (h := value_Unfold_kH) (f := 22) (fn := Tryd.f22) ⟨same_ok, envP_nil, envS_nil, envP_nil, envX_nil⟩ Tryd.func22 rfl (by kernel_rfl)) runK_sub
noncomputable def value_Unfold_kp : PFn := closeF value_Unfold_ks
theorem value_Unfold_kpok : SoundP Tryd.prog G0 22 value_Unfold_kp := closeF_sound value_Unfold_kok
def law09_awake_kH : Hints := { seqs := [], loops := [], own := [] }
noncomputable def law09_awake_kE : Env := { pure := [(8, value_Parse_kp), (14, value_Text_kp), (21, value_Fold_kp), (22, value_Unfold_kp)], raw := [], glob := G0, same := [72], look := [], ext := [] }
noncomputable def law09_awake_ks : SFn := runK 60 Tryd.prog law09_awake_kE law09_awake_kH Tryd.f7
theorem law09_awake_kok : SoundS Tryd.prog G0 7 law09_awake_ks := soundS_sub (runF_sound (P := Tryd.prog) (E := law09_awake_kE) (h := law09_awake_kH) (f := 7) (fn := Tryd.f7) ⟨same_ok, (envP_cons value_Parse_kpok (envP_cons value_Text_kpok (envP_cons value_Fold_kpok (envP_cons value_Unfold_kpok envP_nil)))), envS_nil, envP_nil, envX_nil⟩ Tryd.func7 rfl (by kernel_rfl)) runK_sub
noncomputable def law09_awake_kp : PFn := closeF law09_awake_ks
theorem law09_awake_kpok : SoundP Tryd.prog G0 7 law09_awake_kp := closeF_sound law09_awake_kok
theorem law09_awake_kt : law09_awake_kp [] = some (.bool true) := by kernel_rfl
noncomputable def law09_awake_F : PFn := fun xs => match xs with | [] => some (.bool true) | _ => none
theorem law09_awake_Fok : SoundP Tryd.prog G0 7 law09_awake_F := soundP_at law09_awake_kpok law09_awake_kt
def law09_awake : Option Bool := some true
noncomputable def law09_awake_T : TFn := { ps := .unit, res := .bool, fn := fun _ => law09_awake }
theorem law09_awake_ok : TOk law09_awake_F law09_awake_T := given_bool rfl
end Go.Proofs.YtoddoiemnekffaaDoor.K
set_option linter.unusedVariables false
set_option maxRecDepth 100000
namespace Go.Proofs.YtoddoiemnekffaaDoor.L
open Go.EM Go.TY Go.Proofs Go.Proofs.YtoddoiemnekffaaDoor.Y Go.Proofs.YtoddoiemnekffaaDoor.K
-- palinode/palinodelaw09.ValueParses
noncomputable def law09_ValueParses_E : Env := { pure := [(7, law09_awake_F), (8, value_Parse_F), (9, ref09_Parse_F)], raw := [], glob := G0, same := [72], look := [], ext := [] }
def law09_ValueParses_H : Hints := { seqs := [], loops := [], own := [] }
noncomputable def law09_ValueParses_F : PFn := closeF (runF Tryd.prog law09_ValueParses_E law09_ValueParses_H Tryd.f3)
def law09_ValueParses_Y : TH := { joins := [], loops := [], cuts := [], ro := [], news := [] }
noncomputable def law09_ValueParses (a0 : List UInt8) : Option Bool :=
 cond (decide ((a0.length : Int) > 200)) (
(law09_awake).bind fun r1 =>
 some r1) (
(value_Parse a0).bind fun r2 =>
(ref09_Parse a0).bind fun r3 =>
 cond (eqV (.agg (.cons (.int .i64) (.cons (.int .i64) (.cons .str .unit)))) r2.1 r3.1) (cond (r3.2.1 == (decide (r2.2.1 = 0))) (cond r3.2.1 ((law09_awake).bind fun r4 =>
 some r4) (cond (decide (r2.2.1 = 19)) ((law09_awake).bind fun r5 =>
 some r5) (some false))) (some false)) (some false))
noncomputable def law09_ValueParses_T : TFn := { ps := (.cons .str .unit), res := .bool, fn := fun v => law09_ValueParses v.1 }
noncomputable def law09_ValueParses_V : TEnv := { pure := [(7, law09_awake_T), (8, value_Parse_T), (9, ref09_Parse_T)], look := [], glob := G0T, ty := [], raw := [], fresh := [] }
theorem law09_ValueParses_eq : runY Tryd.prog law09_ValueParses_E law09_ValueParses_H law09_ValueParses_V law09_ValueParses_Y Tryd.f3 law09_ValueParses_T.ps law09_ValueParses_T.res = law09_ValueParses_T.fn := by kernel_rfl
theorem law09_ValueParses_Fok : SoundP Tryd.prog G0 3 law09_ValueParses_F := closeF_sound (runF_sound (P := Tryd.prog) (E := law09_ValueParses_E) (h := law09_ValueParses_H) (f := 3) (fn := Tryd.f3) ⟨same_ok, (envP_cons law09_awake_Fok (envP_cons value_Parse_Fok (envP_cons ref09_Parse_Fok envP_nil))), envS_nil, envP_nil, envX_nil⟩ Tryd.func3 rfl (by kernel_rfl))
theorem law09_ValueParses_ok : TOk law09_ValueParses_F law09_ValueParses_T := runY_ok (E := law09_ValueParses_E) (ET := law09_ValueParses_V) (EnvT.ofX (E := law09_ValueParses_E) (ET := law09_ValueParses_V) (pure_of (pairs_cons law09_awake_ok (pairs_cons value_Parse_ok (pairs_cons ref09_Parse_ok pairs_nil)))) looks_nil raws_nil G0_ok news_nil) law09_ValueParses_eq rfl
-- palinode/palinodelaw09.ValueRow
noncomputable def law09_ValueRow_E : Env := { pure := [(7, law09_awake_F), (10, value_Compare_F)], raw := [], glob := G0, same := [72], look := [], ext := [] }
def law09_ValueRow_H : Hints := { seqs := [], loops := [], own := [] }
noncomputable def law09_ValueRow_F : PFn := closeF (runF Tryd.prog law09_ValueRow_E law09_ValueRow_H Tryd.f4)
def law09_ValueRow_Y : TH := { joins := [], loops := [], cuts := [(4, [(14, { keep := [(49, .bool)], mem := [.same, .same, .same] })])], ro := [3, 4, 5], news := [] }
noncomputable def law09_ValueRow (a0 : (Int × Int × List UInt8 × Unit)) (a1 : (Int × Int × List UInt8 × Unit)) (a2 : (Int × Int × List UInt8 × Unit)) : Option Bool :=
 cond (decide ((a0.2.2.1.length : Int) > 200)) ((law09_awake).bind fun r1 =>
 some r1) (cond (decide ((a1.2.2.1.length : Int) > 200)) ((law09_awake).bind fun r2 =>
 some r2) (cond (decide ((a2.2.2.1.length : Int) > 200)) (
(law09_awake).bind fun r3 =>
 some r3) (
(value_Compare a0 a1).bind fun r4 =>
(value_Compare a1 a2).bind fun r5 =>
(value_Compare a0 a2).bind fun r6 =>
((value_Compare a1 a0).bind fun r7 =>
 cond (decide (r7 = (IntKind.wrap .i64 (0 - r4)))) (some (((decide (r4 = 0)) == (eqV (.agg (.cons (.int .i64) (.cons (.int .i64) (.cons .str .unit)))) a0 a1)), ())) (some (false, ())) : Option (Bool × Unit)).bind fun v8 =>
 cond v8.1 (cond (decide (r4 > 0)) ((law09_awake).bind fun r9 =>
 some r9) (cond (decide (r5 > 0)) ((law09_awake).bind fun r10 =>
 some r10) (cond (decide (r6 ≤ 0)) ((law09_awake).bind fun r11 =>
 some r11) (some false)))) (some false))))
noncomputable def law09_ValueRow_T : TFn := { ps := (.cons (.agg (.cons (.int .i64) (.cons (.int .i64) (.cons .str .unit)))) (.cons (.agg (.cons (.int .i64) (.cons (.int .i64) (.cons .str .unit)))) (.cons (.agg (.cons (.int .i64) (.cons (.int .i64) (.cons .str .unit)))) .unit))), res := .bool, fn := fun v => law09_ValueRow v.1 v.2.1 v.2.2.1 }
noncomputable def law09_ValueRow_V : TEnv := { pure := [(7, law09_awake_T), (10, value_Compare_T)], look := [], glob := G0T, ty := [], raw := [], fresh := [] }
theorem law09_ValueRow_eq : runY Tryd.prog law09_ValueRow_E law09_ValueRow_H law09_ValueRow_V law09_ValueRow_Y Tryd.f4 law09_ValueRow_T.ps law09_ValueRow_T.res = law09_ValueRow_T.fn := by kernel_rfl
theorem law09_ValueRow_Fok : SoundP Tryd.prog G0 4 law09_ValueRow_F := closeF_sound (runF_sound (P := Tryd.prog) (E := law09_ValueRow_E) (h := law09_ValueRow_H) (f := 4) (fn := Tryd.f4) ⟨same_ok, (envP_cons law09_awake_Fok (envP_cons value_Compare_Fok envP_nil)), envS_nil, envP_nil, envX_nil⟩ Tryd.func4 rfl (by kernel_rfl))
theorem law09_ValueRow_ok : TOk law09_ValueRow_F law09_ValueRow_T := runY_ok (E := law09_ValueRow_E) (ET := law09_ValueRow_V) (EnvT.ofX (E := law09_ValueRow_E) (ET := law09_ValueRow_V) (pure_of (pairs_cons law09_awake_ok (pairs_cons value_Compare_ok pairs_nil))) looks_nil raws_nil G0_ok news_nil) law09_ValueRow_eq rfl
-- palinode/palinodelaw09.ValueTells
noncomputable def law09_ValueTells_E : Env := { pure := [(7, law09_awake_F), (10, value_Compare_F), (11, value_Right_F), (12, ref09_Right_F), (13, ref09_Compare_F), (14, value_Text_F), (15, ref09_Text_F), (16, value_Code_F), (17, ref09_Code_F)], raw := [], glob := G0, same := [72], look := [], ext := [] }
def law09_ValueTells_H : Hints := { seqs := [], loops := [], own := [] }
noncomputable def law09_ValueTells_F : PFn := closeF (runF Tryd.prog law09_ValueTells_E law09_ValueTells_H Tryd.f5)
def law09_ValueTells_Y : TH := { joins := [], loops := [], cuts := [], ro := [2, 3], news := [] }
noncomputable def law09_ValueTells (a0 : (Int × Int × List UInt8 × Unit)) (a1 : (Int × Int × List UInt8 × Unit)) : Option Bool :=
 cond (decide ((a0.2.2.1.length : Int) > 200)) ((law09_awake).bind fun r1 =>
 some r1) (cond (decide ((a1.2.2.1.length : Int) > 200)) (
(law09_awake).bind fun r2 =>
 some r2) (
(value_Right a0).bind fun r3 =>
(ref09_Right a0).bind fun r4 =>
 cond (!(r3 == r4)) (some false) ((value_Compare a0 a1).bind fun r5 =>
(ref09_Compare a0 a1).bind fun r6 =>
 cond (!decide (r5 = r6)) (
 some false) (
(ref09_Right a0).bind fun r7 =>
 cond (!r7) ((law09_awake).bind fun r8 =>
 some r8) ((value_Text a0).bind fun r9 =>
(ref09_Text a0).bind fun r10 =>
 cond (decide (r9 = r10)) ((value_Code a0).bind fun r11 =>
(ref09_Code a0).bind fun r12 =>
 cond (decide (r11 = r12)) ((law09_awake).bind fun r13 =>
 some r13) (some false)) (some false))))))
noncomputable def law09_ValueTells_T : TFn := { ps := (.cons (.agg (.cons (.int .i64) (.cons (.int .i64) (.cons .str .unit)))) (.cons (.agg (.cons (.int .i64) (.cons (.int .i64) (.cons .str .unit)))) .unit)), res := .bool, fn := fun v => law09_ValueTells v.1 v.2.1 }
noncomputable def law09_ValueTells_V : TEnv := { pure := [(7, law09_awake_T), (10, value_Compare_T), (11, value_Right_T), (12, ref09_Right_T), (13, ref09_Compare_T), (14, value_Text_T), (15, ref09_Text_T), (16, value_Code_T), (17, ref09_Code_T)], look := [], glob := G0T, ty := [], raw := [], fresh := [] }
theorem law09_ValueTells_eq : runY Tryd.prog law09_ValueTells_E law09_ValueTells_H law09_ValueTells_V law09_ValueTells_Y Tryd.f5 law09_ValueTells_T.ps law09_ValueTells_T.res = law09_ValueTells_T.fn := by kernel_rfl
theorem law09_ValueTells_Fok : SoundP Tryd.prog G0 5 law09_ValueTells_F := closeF_sound (runF_sound (P := Tryd.prog) (E := law09_ValueTells_E) (h := law09_ValueTells_H) (f := 5) (fn := Tryd.f5) ⟨same_ok, (envP_cons law09_awake_Fok (envP_cons value_Compare_Fok (envP_cons value_Right_Fok (envP_cons ref09_Right_Fok (envP_cons ref09_Compare_Fok (envP_cons value_Text_Fok (envP_cons ref09_Text_Fok (envP_cons value_Code_Fok (envP_cons ref09_Code_Fok envP_nil))))))))), envS_nil, envP_nil, envX_nil⟩ Tryd.func5 rfl (by kernel_rfl))
theorem law09_ValueTells_ok : TOk law09_ValueTells_F law09_ValueTells_T := runY_ok (E := law09_ValueTells_E) (ET := law09_ValueTells_V) (EnvT.ofX (E := law09_ValueTells_E) (ET := law09_ValueTells_V) (pure_of (pairs_cons law09_awake_ok (pairs_cons value_Compare_ok (pairs_cons value_Right_ok (pairs_cons ref09_Right_ok (pairs_cons ref09_Compare_ok (pairs_cons value_Text_ok (pairs_cons ref09_Text_ok (pairs_cons value_Code_ok (pairs_cons ref09_Code_ok pairs_nil)))))))))) looks_nil raws_nil G0_ok news_nil) law09_ValueTells_eq rfl
-- palinode/palinodelaw09.ValueBack
noncomputable def law09_ValueBack_E : Env := { pure := [(7, law09_awake_F), (8, value_Parse_F), (12, ref09_Right_F), (14, value_Text_F), (16, value_Code_F)], raw := [(18, pack_Open_S), (19, value_Read_S), (20, pack_Reader_End_S)], glob := G0, same := [72], look := [], ext := [] }
def law09_ValueBack_H : Hints := { seqs := [], loops := [], own := [] }
noncomputable def law09_ValueBack_F : PFn := closeF (runF Tryd.prog law09_ValueBack_E law09_ValueBack_H Tryd.f6)
def law09_ValueBack_Y : TH := { joins := [], loops := [], cuts := [(6, [(7, { keep := [(2, (.bx 0 0)), (3, (.bx 1 0)), (7, (.bx 3 0)), (8, (.bx 4 0)), (35, .bool)], mem := [.same, .same, .gone, .box 65 (.agg (.cons .str (.cons (.int .i64) .unit))), .box 24 (.agg (.cons (.int .i64) (.cons (.int .i64) (.cons .str .unit))))] }), (5, { keep := [(2, (.bx 0 0)), (3, (.bx 1 0)), (7, (.bx 3 0)), (40, .bool)], mem := [.same, .same, .gone, .box 65 (.agg (.cons .str (.cons (.int .i64) .unit))), .gone] }), (5, { keep := [(2, (.bx 0 0)), (3, (.bx 1 0)), (45, .bool)], mem := [.same, .same, .gone, .gone, .gone] })])], ro := [2, 3], news := [] }
noncomputable def law09_ValueBack (a0 : (Int × Int × List UInt8 × Unit)) (a1 : (Int × Int × List UInt8 × Unit)) : Option Bool :=
(ref09_Right a0).bind fun r1 =>
 cond (!r1) ((law09_awake).bind fun r2 =>
 some r2) ((ref09_Right a1).bind fun r3 =>
 cond (!r3) (
(law09_awake).bind fun r4 =>
 some r4) (
(value_Text a0).bind fun r5 =>
(value_Parse r5).bind fun r6 =>
(value_Code a0).bind fun r7 =>
(pack_Open r7).bind fun n8 =>
(value_Read n8).bind fun q9 =>
(cond (decide (r6.2.1 = 0)) (some ((eqV (.agg (.cons (.int .i64) (.cons (.int .i64) (.cons .str .unit)))) r6.1 a0), q9.2.1, q9.1, ())) (some (false, q9.2.1, q9.1, ())) : Option (Bool × (List UInt8 × Int × Unit) × (Int × Int × List UInt8 × Unit) × Unit)).bind fun v10 =>
(cond v10.1 (some ((eqV (.agg (.cons (.int .i64) (.cons (.int .i64) (.cons .str .unit)))) v10.2.2.1 a0), v10.2.1, ())) (some (false, v10.2.1, ())) : Option (Bool × (List UInt8 × Int × Unit) × Unit)).bind fun v11 =>
(cond v11.1 ((pack_Reader_End v11.2.1).bind fun q12 =>
 some ((decide (q12.1 = 0)), ())) (some (false, ())) : Option (Bool × Unit)).bind fun v13 =>
 cond v13.1 ((value_Text a0).bind fun r14 =>
(value_Text a1).bind fun r15 =>
 cond ((decide (r14 = r15)) == (eqV (.agg (.cons (.int .i64) (.cons (.int .i64) (.cons .str .unit)))) a0 a1)) ((law09_awake).bind fun r16 =>
 some r16) (some false)) (some false)))
noncomputable def law09_ValueBack_T : TFn := { ps := (.cons (.agg (.cons (.int .i64) (.cons (.int .i64) (.cons .str .unit)))) (.cons (.agg (.cons (.int .i64) (.cons (.int .i64) (.cons .str .unit)))) .unit)), res := .bool, fn := fun v => law09_ValueBack v.1 v.2.1 }
noncomputable def law09_ValueBack_V : TEnv := { pure := [(7, law09_awake_T), (8, value_Parse_T), (12, ref09_Right_T), (14, value_Text_T), (16, value_Code_T)], look := [], glob := G0T, ty := [], raw := [(19, value_Read_R), (20, pack_Reader_End_R)], fresh := [(18, pack_Open_N)] }
theorem law09_ValueBack_eq : runY Tryd.prog law09_ValueBack_E law09_ValueBack_H law09_ValueBack_V law09_ValueBack_Y Tryd.f6 law09_ValueBack_T.ps law09_ValueBack_T.res = law09_ValueBack_T.fn := by kernel_rfl
theorem law09_ValueBack_Fok : SoundP Tryd.prog G0 6 law09_ValueBack_F := closeF_sound (runF_sound (P := Tryd.prog) (E := law09_ValueBack_E) (h := law09_ValueBack_H) (f := 6) (fn := Tryd.f6) ⟨same_ok, (envP_cons law09_awake_Fok (envP_cons value_Parse_Fok (envP_cons ref09_Right_Fok (envP_cons value_Text_Fok (envP_cons value_Code_Fok envP_nil))))), (envS_cons pack_Open_Sok (envS_cons value_Read_Sok (envS_cons pack_Reader_End_Sok envS_nil))), envP_nil, envX_nil⟩ Tryd.func6 rfl (by kernel_rfl))
theorem law09_ValueBack_ok : TOk law09_ValueBack_F law09_ValueBack_T := runY_ok (E := law09_ValueBack_E) (ET := law09_ValueBack_V) (EnvT.ofX (E := law09_ValueBack_E) (ET := law09_ValueBack_V) (pure_of (pairs_cons law09_awake_ok (pairs_cons value_Parse_ok (pairs_cons ref09_Right_ok (pairs_cons value_Text_ok (pairs_cons value_Code_ok pairs_nil)))))) looks_nil (raws_more (raws_cons value_Read_ok rfl rfl (raws_cons pack_Reader_End_ok rfl rfl raws_nil)) rfl) G0_ok (news_cons pack_Open_ok rfl rfl rfl news_nil)) law09_ValueBack_eq rfl
end Go.Proofs.YtoddoiemnekffaaDoor.L
