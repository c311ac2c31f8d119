import Derived.Test.YtnafmjbakholcaaDoorK
set_option linter.unusedVariables false
set_option maxRecDepth 100000
namespace Go.Proofs.YtnafmjbakholcaaDoor.L
open Go.EM Go.TY Go.Proofs Go.Proofs.YtnafmjbakholcaaDoor.Y Go.Proofs.YtnafmjbakholcaaDoor.K
-- palinode/palinodelaw37.GlobJoins
noncomputable def law37_GlobJoins_E : Env := { pure := [(7, law37_awake_F), (9, glob_Right_F), (10, glob_Match_F), (12, law37_text_F)], raw := [], glob := G0, same := [28], look := [] }
def law37_GlobJoins_H : Hints := { seqs := [], loops := [], own := [] }
noncomputable def law37_GlobJoins_F : PFn := closeF (runF Tryd.prog law37_GlobJoins_E law37_GlobJoins_H Tryd.f4)
def law37_GlobJoins_Y : TH := { joins := [(6, { keep := [], mem := [] })], loops := [], cuts := [(1, [(8, { keep := [(17, .bool)], mem := [] }), (5, { keep := [(22, .bool)], mem := [] })]), (4, [(7, { keep := [(48, .bool)], mem := [] })])], ro := [] }
noncomputable def law37_GlobJoins (a0 : List UInt8) (a1 : List UInt8) (a2 : List UInt8) (a3 : List UInt8) : Option Bool :=
((law37_text a0).bind fun r1 =>
 cond (!r1) (some (true, ())) ((law37_text a1).bind fun r2 =>
 some ((!r2), ()))).bind fun v3 =>
(cond v3.1 (some (true, ())) ((law37_text a2).bind fun r4 =>
 some ((!r4), ()))).bind fun v5 =>
 cond v5.1 ((law37_awake).bind fun r6 =>
 some r6) ((law37_text a3).bind fun r7 =>
 cond (!r7) ((law37_awake).bind fun r8 =>
 some r8) ((glob_Right a0).bind fun r9 =>
 cond (!r9) ((law37_awake).bind fun r10 =>
 some r10) ((glob_Right a1).bind fun r11 =>
 cond (!r11) (
(law37_awake).bind fun r12 =>
 some r12) (
(catT a0 a1).bind fun s13 =>
(((glob_Right s13).bind fun r14 =>
 cond r14 ((glob_Match a0 a2).bind fun r15 =>
 some (r15, ())) (some (false, ()))).bind fun v16 =>
 cond v16.1 ((glob_Match a1 a3).bind fun r17 =>
 cond r17 ((catT a2 a3).bind fun s18 =>
(glob_Match s13 s18).bind fun r19 =>
 cond (!r19) (
 some (.inr false)) (
 some (.inl ()))) (some (.inl ()))) (some (.inl ())) : Option (Unit ⊕ Bool)).bind (joinS fun v20 =>
(glob_Match [42] a2).bind fun r21 =>
 cond r21 ((glob_Match [] a2).bind fun r22 =>
 cond (r22 == (decide (a2 = []))) ((law37_awake).bind fun r23 =>
 some r23) (some false)) (some false))))))
noncomputable def law37_GlobJoins_T : TFn := { ps := (.cons .str (.cons .str (.cons .str (.cons .str .unit)))), res := .bool, fn := fun v => law37_GlobJoins v.1 v.2.1 v.2.2.1 v.2.2.2.1 }
noncomputable def law37_GlobJoins_V : TEnv := { pure := [(7, law37_awake_T), (9, glob_Right_T), (10, glob_Match_T), (12, law37_text_T)], look := [], glob := G0T, ty := [] }
theorem law37_GlobJoins_eq : runY Tryd.prog law37_GlobJoins_E law37_GlobJoins_H law37_GlobJoins_V law37_GlobJoins_Y Tryd.f4 law37_GlobJoins_T.ps law37_GlobJoins_T.res = law37_GlobJoins_T.fn := by kernel_rfl
theorem law37_GlobJoins_Fok : SoundP Tryd.prog G0 4 law37_GlobJoins_F := closeF_sound (runF_sound (P := Tryd.prog) (E := law37_GlobJoins_E) (h := law37_GlobJoins_H) (f := 4) (fn := Tryd.f4) ⟨same_ok, (envP_cons law37_awake_Fok (envP_cons glob_Right_Fok (envP_cons glob_Match_Fok (envP_cons law37_text_Fok envP_nil)))), envS_nil, envP_nil⟩ Tryd.func4 rfl (by kernel_rfl))
theorem law37_GlobJoins_ok : TOk law37_GlobJoins_F law37_GlobJoins_T := runY_ok (E := law37_GlobJoins_E) (ET := law37_GlobJoins_V) (EnvT.of (E := law37_GlobJoins_E) (ET := law37_GlobJoins_V) (pairs_cons law37_awake_ok (pairs_cons glob_Right_ok (pairs_cons glob_Match_ok (pairs_cons law37_text_ok pairs_nil)))) looks_nil G0_ok) law37_GlobJoins_eq rfl
-- palinode/palinodelaw37.GlobLiteral
noncomputable def law37_GlobLiteral_E : Env := { pure := [(7, law37_awake_F), (8, ref37_Parts_F), (10, glob_Match_F), (15, glob_Literal_F)], raw := [], glob := G0, same := [28], look := [] }
def law37_GlobLiteral_H : Hints := { seqs := [], loops := [(6, [0, 1, 5, 6, 7, 8])], own := [] }
noncomputable def law37_GlobLiteral_F : PFn := closeF (runF Tryd.prog law37_GlobLiteral_E law37_GlobLiteral_H Tryd.f6)
def law37_GlobLiteral_Y : TH := { joins := [(9, { keep := [(7, .bool)], mem := [] }), (12, { keep := [], mem := [] })], loops := [(6, { keep := [(7, .bool), (8, (.int .i64))], mem := [] })], cuts := [(12, [(6, { keep := [(56, .bool)], mem := [] })])], ro := [] }
noncomputable def law37_GlobLiteral_l6 (r3 : (List Int × Bool × Unit)) (y6 : (Bool × Int × Unit)) : Option ((Bool × Int × Unit) ⊕ ((Bool × Unit) ⊕ Bool)) :=
 cond (decide (y6.2.1 < (r3.1.length : Int))) (
 cond y6.1 (some (.inl (true, (IntKind.wrap .i64 (y6.2.1 + 1)), ()))) ((atI r3.1 y6.2.1).bind fun x4 =>
 some (.inl ((decide (x4 < 0)), (IntKind.wrap .i64 (y6.2.1 + 1)), ())))) (
 some (.inr (.inl (y6.1, ()))))
noncomputable def law37_GlobLiteral (a0 : List UInt8) (a1 : List UInt8) : Option Bool :=
 cond (decide ((a0.length : Int) > 200)) ((law37_awake).bind fun r1 =>
 some r1) (cond (decide ((a1.length : Int) > 200)) (
(law37_awake).bind fun r2 =>
 some r2) (
(ref37_Parts a0).bind fun r3 =>
(loopT (law37_GlobLiteral_l6 r3) (false, 0, ()) : Option ((Bool × Unit) ⊕ Bool)).bind (joinS fun v5 =>
(glob_Literal a0).bind fun r6 =>
(cond r3.2.1 (cond (!(r6.2.1 == (!v5.1))) (
 some (.inr false)) (
 some (.inl ()))) (cond (!(r6.2.1 == false)) (
 some (.inr false)) (
 some (.inl ()))) : Option (Unit ⊕ Bool)).bind (joinS fun v7 =>
(cond r6.2.1 ((glob_Match a0 r6.1).bind fun r8 =>
 some (r8, ())) (some (false, ()))).bind fun v9 =>
 cond v9.1 ((glob_Match a0 a1).bind fun r10 =>
 cond (r10 == (decide (a1 = r6.1))) ((law37_awake).bind fun r11 =>
 some r11) (cond (!r6.2.1) (cond (decide (r6.1 = [])) ((law37_awake).bind fun r12 =>
 some r12) (some false)) (some false))) (cond (!r6.2.1) (cond (decide (r6.1 = [])) ((law37_awake).bind fun r13 =>
 some r13) (some false)) (some false))))))
noncomputable def law37_GlobLiteral_T : TFn := { ps := (.cons .str (.cons .str .unit)), res := .bool, fn := fun v => law37_GlobLiteral v.1 v.2.1 }
noncomputable def law37_GlobLiteral_V : TEnv := { pure := [(7, law37_awake_T), (8, ref37_Parts_T), (10, glob_Match_T), (15, glob_Literal_T)], look := [], glob := G0T, ty := [] }
theorem law37_GlobLiteral_eq : runY Tryd.prog law37_GlobLiteral_E law37_GlobLiteral_H law37_GlobLiteral_V law37_GlobLiteral_Y Tryd.f6 law37_GlobLiteral_T.ps law37_GlobLiteral_T.res = law37_GlobLiteral_T.fn := by kernel_rfl
theorem law37_GlobLiteral_Fok : SoundP Tryd.prog G0 6 law37_GlobLiteral_F := closeF_sound (runF_sound (P := Tryd.prog) (E := law37_GlobLiteral_E) (h := law37_GlobLiteral_H) (f := 6) (fn := Tryd.f6) ⟨same_ok, (envP_cons law37_awake_Fok (envP_cons ref37_Parts_Fok (envP_cons glob_Match_Fok (envP_cons glob_Literal_Fok envP_nil)))), envS_nil, envP_nil⟩ Tryd.func6 rfl (by kernel_rfl))
theorem law37_GlobLiteral_ok : TOk law37_GlobLiteral_F law37_GlobLiteral_T := runY_ok (E := law37_GlobLiteral_E) (ET := law37_GlobLiteral_V) (EnvT.of (E := law37_GlobLiteral_E) (ET := law37_GlobLiteral_V) (pairs_cons law37_awake_ok (pairs_cons ref37_Parts_ok (pairs_cons glob_Match_ok (pairs_cons glob_Literal_ok pairs_nil)))) looks_nil G0_ok) law37_GlobLiteral_eq rfl
end Go.Proofs.YtnafmjbakholcaaDoor.L
