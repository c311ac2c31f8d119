import Derived.Test.YtgfpkhlabdcbmaaGreatDoorS
import Derived.Test.YtgfpkhlabdcbmaaGreatDoorT29
import GoSem.PinnedTables
set_option linter.unusedVariables false
set_option maxRecDepth 100000
namespace Go.Proofs.YtgfpkhlabdcbmaaGreatDoor.Y
open Go.EM Go.TY Go.Proofs
theorem zb.{u, v} {A : Type u} {B : Type v} (a : A) (f : A → Option B) : (some a).bind f = f a := rfl
theorem zg.{u} {A : Type u} {l : List A} {i : Nat} (h : i < l.length) : l[i]? = some l[i] := List.getElem?_eq_getElem h
theorem zl.{u} {A : Type u} {a : A} {l : List A} : (a :: l).length = l.length + 1 := rfl
theorem zf {p : Prop} [Decidable p] (h : ¬p) : decide p = false := decide_eq_false h
theorem zn.{u} {c : Prop} {h : Decidable c} (hc : ¬c) {A : Sort u} {t e : A} : ite c t e = e := if_neg hc
theorem zp.{u} {c : Prop} {h : Decidable c} (hc : c) {A : Sort u} {t e : A} : ite c t e = t := if_pos hc
theorem zm.{u} {A : Type u} {l : List A} {n : Nat} (h : n < l.length) : l[n] ∈ l := List.getElem_mem h
theorem zt {p : Prop} [Decidable p] (h : p) : decide p = true := decide_eq_true h
noncomputable section
def G0 : List (Nat × AVal) := [(0, .rptr tabFirst8), (1, .rptr tabAccept8)]
def G0T : List (Nat × TV) := []
theorem G0_ok : GlobsOk G0 G0T := globs_nil
theorem same_ok : ∀ f, memN f [188] = true → Same Tryz.prog f := by
 intro f h
 by_cases e188 : f = 188
 · subst e188; exact ⟨Tryz.f188, Tryz.func188, by kernel_rfl, by kernel_rfl, by kernel_rfl, by kernel_rfl⟩
 simp_all [memN]
def eZ (l : List (Nat × PFn)) (s : List Nat) : Env := { pure := l, raw := [], glob := G0, same := s, look := [], ext := [] }
def vZ (l : List (Nat × TFn)) : TEnv := { pure := l, look := [], glob := G0T, ty := [], raw := [], fresh := [] }
def hZ (l : List (Nat × List Nat)) (o : List Nat) : Hints := { seqs := [], loops := l, own := o }
def yZ : TH := { joins := [], loops := [], cuts := [], ro := [], news := [] }
abbrev vV0 := (Int × List (List UInt8) × (Int × Int × List UInt8 × Unit) × Int × List ((Int × Int × Unit) × Int × Unit) × Unit)
abbrev vV1 := ((Int × Int × Unit) × Int × Unit)
abbrev vV2 := (Int × (Int × List (List UInt8) × (Int × Int × List UInt8 × Unit) × Int × Unit × Unit) × (Int × Unit × (Int × Int × List UInt8 × Unit) × Int × Unit × Unit) × List vV1 × Unit)
abbrev vV3 := ((Int × List (List UInt8) × (Int × Int × List UInt8 × Unit) × Int × Unit × Unit) × (Int × Unit × (Int × Int × List UInt8 × Unit) × Int × Unit × Unit) × List vV1 × Unit)
abbrev vV4 := ((Int × Int × Unit) × Int × Int × Bool × List vV0 × Unit)
abbrev vV5 := (vV1 × vV0 × Int × Unit)
abbrev vV6 := (Int × Int × List UInt8 × Unit)
abbrev vV7 := (Int × List (vV1 × Bool) × Unit)
abbrev tT8 : Ty := (.agg (.cons (.int .i64) (.cons (.sl .str) (.cons (.agg (.cons (.int .i64) (.cons (.int .i64) (.cons .str .unit)))) (.cons (.int .i64) (.cons (.sl (.agg (.cons (.agg (.cons (.int .i64) (.cons (.int .i64) .unit))) (.cons (.int .i64) .unit)))) .unit))))))
abbrev tT9 : Ty := (.agg (.cons (.agg (.cons (.int .i64) (.cons (.int .i64) .unit))) (.cons (.int .i64) .unit)))
abbrev tT10 : Ty := (.agg (.cons (.int .i64) (.cons (.int .i64) (.cons .str .unit))))
abbrev tT11 : Ty := (.agg (.cons (.agg (.cons (.int .i64) (.cons (.int .i64) .unit))) (.cons (.int .i64) (.cons (.int .i64) (.cons .bool (.cons (.sl tT8) .unit))))))
abbrev tT12 : Ty := (.agg (.cons tT9 (.cons tT8 (.cons (.int .i64) .unit))))
abbrev tT13 : Ty := (.agg (.cons (.int .i64) (.cons .nilsl (.cons tT10 (.cons (.int .i64) (.cons .nilsl .unit))))))
abbrev tT14 : Ty := (.cons (.int .i64) (.cons (.int .i64) .unit))
abbrev tT15 : Ty := (.agg (.cons (.int .i64) (.cons (.sl .str) (.cons tT10 (.cons (.int .i64) (.cons (.own 2) .unit))))))
def zbj_E : Env := (eZ [] [188])
def zbj_H : Hints := (hZ [] [])
def zbj_F : PFn := closeF (runF Tryz.prog zbj_E zbj_H Tryz.f111)
def zbj_Y : TH := yZ
def zbj (a0 : Int) (a1 : Int) : Option Int :=
 cond (decide (a0 < a1)) (
 some (-1)) (
 cond (decide (a0 > a1)) (
 some 1) (
 some 0))
def zbj_T : TFn := { ps := tT14, res := (.int .i64), fn := fun v => zbj v.1 v.2.1 }
def zbj_V : TEnv := (vZ [])
theorem zbj_eq : runY Tryz.prog zbj_E zbj_H zbj_V zbj_Y Tryz.f111 zbj_T.ps zbj_T.res = zbj_T.fn := by kernel_rfl
theorem zbj_Fok : SoundP Tryz.prog G0 111 zbj_F := closeF_sound (runF_sound ⟨same_ok, envP_nil, envS_nil, envP_nil, envX_nil⟩ Tryz.func111 rfl (by kernel_rfl))
theorem zbj_ok : TOk zbj_F zbj_T := runY_ok (E := zbj_E) (ET := zbj_V) (EnvT.ofX (pure_of pairs_nil) looks_nil raws_nil G0_ok news_nil) zbj_eq rfl
def zan_E : Env := (eZ [(111, zbj_F)] [188])
def zan_H : Hints := (hZ [] [])
def zan_F : PFn := closeF (runF Tryz.prog zan_E zan_H Tryz.f110)
def zan_Y : TH := { loops := [], ro := [2, 3] }
def zan (a0 : (Int × Int × Unit)) (a1 : (Int × Int × Unit)) : Option Int :=
 cond (!decide (a0.1 = a1.1)) (
(zbj a0.1 a1.1).bind fun r1 =>
 some r1) (
(zbj a0.2.1 a1.2.1).bind fun r2 =>
 some r2)
def zan_T : TFn := { ps := (.cons (.agg tT14) (.cons (.agg tT14) .unit)), res := (.int .i64), fn := fun v => zan v.1 v.2.1 }
def zan_V : TEnv := (vZ [(111, zbj_T)])
theorem zan_eq : runY Tryz.prog zan_E zan_H zan_V zan_Y Tryz.f110 zan_T.ps zan_T.res = zan_T.fn := by kernel_rfl
theorem zan_Fok : SoundP Tryz.prog G0 110 zan_F := closeF_sound (runF_sound ⟨same_ok, (envP_cons zbj_Fok envP_nil), envS_nil, envP_nil, envX_nil⟩ Tryz.func110 rfl (by kernel_rfl))
theorem zan_ok : TOk zan_F zan_T := runY_ok (E := zan_E) (ET := zan_V) (EnvT.ofX (pure_of (pairs_cons zbj_ok pairs_nil)) looks_nil raws_nil G0_ok news_nil) zan_eq rfl
def zbc_E : Env := (eZ [(110, zan_F)] [188])
def zbc_H : Hints := (hZ [(2, [0, 3])] [])
def zbc_F : PFn := closeF (runF Tryz.prog zbc_E zbc_H Tryz.f93)
def zbc_Y : TH := { loops := [(2, { keep := [(3, (.int .i64))], mem := [] })], ro := [] }
def zbc_l2 (a0 : List vV4) (y2 : (Int × Unit)) : Option ((Int × Unit) ⊕ Bool) :=
 cond (decide (y2.1 < (a0.length : Int))) (
(atI a0 (IntKind.wrap .i64 (y2.1 - 1))).bind fun x1 =>
(atI a0 y2.1).bind fun x2 =>
(zan x1.1 x2.1).bind fun r3 =>
 cond (!decide (r3 = (-1))) (
 some (.inr false)) (
 some (.inl ((IntKind.wrap .i64 (y2.1 + 1)), ())))) (
 some (.inr true))
def zbc (a0 : List vV4) : Option Bool :=
 loopT (zbc_l2 a0) (1, ())
def zbc_T : TFn := { ps := (.cons (.sl tT11) .unit), res := .bool, fn := fun v => zbc v.1 }
def zbc_V : TEnv := (vZ [(110, zan_T)])
theorem zbc_eq : runY Tryz.prog zbc_E zbc_H zbc_V zbc_Y Tryz.f93 zbc_T.ps zbc_T.res = zbc_T.fn := by kernel_rfl
theorem zbc_Fok : SoundP Tryz.prog G0 93 zbc_F := closeF_sound (runF_sound ⟨same_ok, (envP_cons zan_Fok envP_nil), envS_nil, envP_nil, envX_nil⟩ Tryz.func93 rfl (by kernel_rfl))
theorem zbc_ok : TOk zbc_F zbc_T := runY_ok (E := zbc_E) (ET := zbc_V) (EnvT.ofX (pure_of (pairs_cons zan_ok pairs_nil)) looks_nil raws_nil G0_ok news_nil) zbc_eq rfl
def za2_E : Env := (eZ [] [188])
def za2_H : Hints := (hZ [(4, [0, 3])] [])
def za2_F : PFn := closeF (runF Tryz.prog za2_E za2_H Tryz.f24)
def za2_Y : TH := { loops := [(4, { keep := [(3, (.int .i64))], mem := [] })], ro := [] }
def za2_l4 (a0 : List (List UInt8)) (y4 : (Int × Unit)) : Option ((Int × Unit) ⊕ Bool) :=
 cond (decide (y4.1 < (a0.length : Int))) (
(atI a0 y4.1).bind fun x1 =>
 cond (decide ((x1.length : Int) > 120)) (
 some (.inr false)) (
 some (.inl ((IntKind.wrap .i64 (y4.1 + 1)), ())))) (
 some (.inr true))
def za2 (a0 : List (List UInt8)) : Option Bool :=
 cond (decide ((a0.length : Int) > 12)) (
 some false) (
 loopT (za2_l4 a0) (0, ()))
def za2_T : TFn := { ps := (.cons (.sl .str) .unit), res := .bool, fn := fun v => za2 v.1 }
def za2_V : TEnv := (vZ [])
theorem za2_eq : runY Tryz.prog za2_E za2_H za2_V za2_Y Tryz.f24 za2_T.ps za2_T.res = za2_T.fn := by kernel_rfl
theorem za2_Fok : SoundP Tryz.prog G0 24 za2_F := closeF_sound (runF_sound ⟨same_ok, envP_nil, envS_nil, envP_nil, envX_nil⟩ Tryz.func24 rfl (by kernel_rfl))
theorem za2_ok : TOk za2_F za2_T := runY_ok (E := za2_E) (ET := za2_V) (EnvT.ofX (pure_of pairs_nil) looks_nil raws_nil G0_ok news_nil) za2_eq rfl
def za3_E : Env := (eZ [(24, za2_F)] [188])
def za3_H : Hints := (hZ [] [])
def za3_F : PFn := closeF (runF Tryz.prog za3_E za3_H Tryz.f11)
def za3_Y : TH := { loops := [], ro := [1] }
def za3 (a0 : vV0) : Option Bool :=
(za2 a0.2.1).bind fun r1 =>
 cond r1 (cond (decide ((a0.2.2.1.2.2.1.length : Int) ≤ 200)) (some (decide ((a0.2.2.2.2.1.length : Int) ≤ 300))) (some false)) (some false)
def za3_T : TFn := { ps := (.cons tT8 .unit), res := .bool, fn := fun v => za3 v.1 }
def za3_V : TEnv := (vZ [(24, za2_T)])
theorem za3_eq : runY Tryz.prog za3_E za3_H za3_V za3_Y Tryz.f11 za3_T.ps za3_T.res = za3_T.fn := by kernel_rfl
theorem za3_Fok : SoundP Tryz.prog G0 11 za3_F := closeF_sound (runF_sound ⟨same_ok, (envP_cons za2_Fok envP_nil), envS_nil, envP_nil, envX_nil⟩ Tryz.func11 rfl (by kernel_rfl))
theorem za3_ok : TOk za3_F za3_T := runY_ok (E := za3_E) (ET := za3_V) (EnvT.ofX (pure_of (pairs_cons za2_ok pairs_nil)) looks_nil raws_nil G0_ok news_nil) za3_eq rfl
def za7_E : Env := (eZ [(11, za3_F)] [188])
def za7_H : Hints := (hZ [(4, [1, 3])] [])
def za7_F : PFn := closeF (runF Tryz.prog za7_E za7_H Tryz.f94)
def za7_Y : TH := { loops := [(4, { keep := [(1, (.bx 0 0)), (3, (.int .i64))], mem := [.same] })], ro := [1] }
def za7_l4 (a0 : vV4) (y4 : (Int × Unit)) : Option ((Int × Unit) ⊕ Bool) :=
 cond (decide (y4.1 < (a0.2.2.2.2.1.length : Int))) (
(atI a0.2.2.2.2.1 y4.1).bind fun x1 =>
(za3 x1).bind fun r2 =>
 cond (!r2) (
 some (.inr false)) (
 some (.inl ((IntKind.wrap .i64 (y4.1 + 1)), ())))) (
 some (.inr true))
def za7 (a0 : vV4) : Option Bool :=
 cond (decide ((a0.2.2.2.2.1.length : Int) > 20)) (
 some false) (
 loopT (za7_l4 a0) (0, ()))
def za7_T : TFn := { ps := (.cons tT11 .unit), res := .bool, fn := fun v => za7 v.1 }
def za7_V : TEnv := (vZ [(11, za3_T)])
theorem za7_eq : runY Tryz.prog za7_E za7_H za7_V za7_Y Tryz.f94 za7_T.ps za7_T.res = za7_T.fn := by kernel_rfl
theorem za7_Fok : SoundP Tryz.prog G0 94 za7_F := closeF_sound (runF_sound ⟨same_ok, (envP_cons za3_Fok envP_nil), envS_nil, envP_nil, envX_nil⟩ Tryz.func94 rfl (by kernel_rfl))
theorem za7_ok : TOk za7_F za7_T := runY_ok (E := za7_E) (ET := za7_V) (EnvT.ofX (pure_of (pairs_cons za3_ok pairs_nil)) looks_nil raws_nil G0_ok news_nil) za7_eq rfl
def za4_E : Env := (eZ [] [188])
def za4_H : Hints := (hZ [] [])
def za4_F : PFn := closeF (runF Tryz.prog za4_E za4_H Tryz.f116)
def za4_Y : TH := { loops := [], ro := [1] }
def za4 (a0 : (Int × Int × Unit)) : Option Bool :=
 cond (decide (a0.1 ≥ 0)) (cond (decide (a0.1 ≤ 15)) (cond (decide (a0.2.1 ≥ 1)) (some (decide (a0.2.1 ≤ 1048576))) (some false)) (some false)) (some false)
def za4_T : TFn := { ps := (.cons (.agg tT14) .unit), res := .bool, fn := fun v => za4 v.1 }
def za4_V : TEnv := (vZ [])
theorem za4_eq : runY Tryz.prog za4_E za4_H za4_V za4_Y Tryz.f116 za4_T.ps za4_T.res = za4_T.fn := by kernel_rfl
theorem za4_Fok : SoundP Tryz.prog G0 116 za4_F := closeF_sound (runF_sound ⟨same_ok, envP_nil, envS_nil, envP_nil, envX_nil⟩ Tryz.func116 rfl (by kernel_rfl))
theorem za4_ok : TOk za4_F za4_T := runY_ok (E := za4_E) (ET := za4_V) (EnvT.ofX (pure_of pairs_nil) looks_nil raws_nil G0_ok news_nil) za4_eq rfl
def zbt_E : Env := (eZ [] [188])
def zbt_H : Hints := (hZ [(17, [0, 4, 5, 6, 7])] [])
def zbt_F : PFn := closeF (runF Tryz.prog zbt_E zbt_H Tryz.f160)
def zbt_Y : TH := { joins := [(14, { keep := [(4, (.int .i64)), (5, (.int .i64)), (6, (.int .i64))], mem := [] }), (9, { keep := [(18, .bool)], mem := [] }), (22, { keep := [(4, (.int .i64))], mem := [] }), (24, { keep := [], mem := [] })], loops := [(17, { keep := [(4, (.int .i64)), (7, (.int .i64))], mem := [] })], ro := [] }
def zbt_l17 (a0 : List UInt8) (v3 : (Int × Int × Int × Unit)) (y17 : (Int × Int × Unit)) : Option ((Int × Int × Unit) ⊕ ((Int × Unit) ⊕ (Int × Int × Unit))) :=
 cond (decide (y17.2.1 < v3.2.1)) (
(atI a0 y17.2.1).bind fun b4 =>
 cond (decide ((b4.toNat : Int) < 128)) (some (.inr (.inr (0, 0, ())))) ((atI a0 y17.2.1).bind fun b5 =>
 cond (decide ((b5.toNat : Int) > 191)) (
 some (.inr (.inr (0, 0, ())))) (
(atI a0 y17.2.1).bind fun b6 =>
 some (.inl ((IntKind.wrap .i64 ((IntKind.wrap .i64 ((IntKind.wrap .i64 (64 * y17.1)) + (IntKind.wrap .i64 (b6.toNat : Int)))) - 128)), (IntKind.wrap .i64 (y17.2.1 + 1)), ()))))) (
 some (.inr (.inl (y17.1, ()))))
def zbt (a0 : List UInt8) : Option (Int × Int × Unit) :=
 cond (decide ((a0.length : Int) = 0)) (
 some (0, 0, ())) (
(atI a0 0).bind fun b1 =>
(cond (decide ((IntKind.wrap .i64 (b1.toNat : Int)) < 128)) (
 some (.inr ((IntKind.wrap .i64 (b1.toNat : Int)), 1, ()))) (
(cond (decide ((IntKind.wrap .i64 (b1.toNat : Int)) ≥ 194)) (some (.inl ((decide ((IntKind.wrap .i64 (b1.toNat : Int)) < 224)), ()))) (some (.inl (false, ()))) : Option ((Bool × Unit) ⊕ ((Int × Int × Int × Unit) ⊕ (Int × Int × Unit)))).bind (joinS fun v2 =>
 cond v2.1 (
 some (.inl ((IntKind.wrap .i64 ((IntKind.wrap .i64 (b1.toNat : Int)) - 192)), 2, 128, ()))) (
 cond (decide ((IntKind.wrap .i64 (b1.toNat : Int)) ≥ 224)) (cond (decide ((IntKind.wrap .i64 (b1.toNat : Int)) < 240)) (
 some (.inl ((IntKind.wrap .i64 ((IntKind.wrap .i64 (b1.toNat : Int)) - 224)), 3, 2048, ()))) (
 cond (decide ((IntKind.wrap .i64 (b1.toNat : Int)) ≥ 240)) (cond (decide ((IntKind.wrap .i64 (b1.toNat : Int)) < 245)) (
 some (.inl ((IntKind.wrap .i64 ((IntKind.wrap .i64 (b1.toNat : Int)) - 240)), 4, 65536, ()))) (
 some (.inr (0, 0, ())))) (some (.inr (0, 0, ()))))) (cond (decide ((IntKind.wrap .i64 (b1.toNat : Int)) ≥ 240)) (cond (decide ((IntKind.wrap .i64 (b1.toNat : Int)) < 245)) (
 some (.inl ((IntKind.wrap .i64 ((IntKind.wrap .i64 (b1.toNat : Int)) - 240)), 4, 65536, ()))) (
 some (.inr (0, 0, ())))) (some (.inr (0, 0, ()))))))) : Option ((Int × Int × Int × Unit) ⊕ (Int × Int × Unit))).bind (joinS fun v3 =>
 cond (decide ((a0.length : Int) < v3.2.1)) (
 some (0, 0, ())) (
(loopT (zbt_l17 a0 v3) (v3.1, 1, ()) : Option ((Int × Unit) ⊕ (Int × Int × Unit))).bind (joinS fun v7 =>
(cond (decide (v7.1 < v3.2.2.1)) (some (.inr (0, 0, ()))) (cond (decide (v7.1 > 1114111)) (some (.inr (0, 0, ()))) (cond (decide (v7.1 ≥ 55296)) (cond (decide (v7.1 ≤ 57343)) (
 some (.inr (0, 0, ()))) (
 some (.inl ()))) (some (.inl ())))) : Option (Unit ⊕ (Int × Int × Unit))).bind (joinS fun v8 =>
 some (v7.1, v3.2.1, ()))))))
def zbt_T : TFn := { ps := (.cons .str .unit), res := (.tup tT14), fn := fun v => zbt v.1 }
def zbt_V : TEnv := (vZ [])
theorem zbt_eq : runY Tryz.prog zbt_E zbt_H zbt_V zbt_Y Tryz.f160 zbt_T.ps zbt_T.res = zbt_T.fn := by kernel_rfl
theorem zbt_Fok : SoundP Tryz.prog G0 160 zbt_F := closeF_sound (runF_sound ⟨same_ok, envP_nil, envS_nil, envP_nil, envX_nil⟩ Tryz.func160 rfl (by kernel_rfl))
theorem zbt_ok : TOk zbt_F zbt_T := runY_ok (E := zbt_E) (ET := zbt_V) (EnvT.ofX (pure_of pairs_nil) looks_nil raws_nil G0_ok news_nil) zbt_eq rfl
def za1_E : Env := (eZ [(160, zbt_F)] [188])
def za1_H : Hints := (hZ [(3, [0, 4, 5])] [])
def za1_F : PFn := closeF (runF Tryz.prog za1_E za1_H Tryz.f115)
def za1_Y : TH := { loops := [(3, { keep := [(4, (.own 0)), (5, (.int .i64))], mem := [.row true 3 (.int .i64)] })], ro := [] }
def za1_l3 (a0 : List UInt8) (y3 : (Int × List Int × Unit)) : Option ((Int × List Int × Unit) ⊕ (List Int × Bool × Unit)) :=
 cond (decide (y3.1 < (a0.length : Int))) (
(subI a0 y3.1 (a0.length : Int)).bind fun s1 =>
(zbt s1).bind fun r2 =>
 cond (decide (r2.2.1 = 0)) (
 some (.inr ([], false, ()))) (
(roomT (y3.2.1.length + ([r2.1] : List Int).length)).bind fun u3 =>
 some (.inl ((IntKind.wrap .i64 (y3.1 + r2.2.1)), (y3.2.1 ++ ([r2.1] : List Int)), ())))) (
 some (.inr (y3.2.1, true, ())))
def za1 (a0 : List UInt8) : Option (List Int × Bool × Unit) :=
 loopT (za1_l3 a0) (0, [], ())
def za1_T : TFn := { ps := (.cons .str .unit), res := (.tup (.cons (.sl (.int .i64)) (.cons .bool .unit))), fn := fun v => za1 v.1 }
def za1_V : TEnv := { pure := [(160, zbt_T)], look := [], glob := G0T, ty := [(3, (.int .i64))], raw := [], fresh := [] }
theorem za1_eq : runY Tryz.prog za1_E za1_H za1_V za1_Y Tryz.f115 za1_T.ps za1_T.res = za1_T.fn := by kernel_rfl
theorem za1_Fok : SoundP Tryz.prog G0 115 za1_F := closeF_sound (runF_sound ⟨same_ok, (envP_cons zbt_Fok envP_nil), envS_nil, envP_nil, envX_nil⟩ Tryz.func115 rfl (by kernel_rfl))
theorem za1_ok : TOk za1_F za1_T := runY_ok (E := za1_E) (ET := za1_V) (EnvT.ofX (pure_of (pairs_cons zbt_ok pairs_nil)) looks_nil raws_nil G0_ok news_nil) za1_eq rfl
def zb5_E : Env := (eZ [] [188])
def zb5_H : Hints := (hZ [] [])
def zb5_F : PFn := closeF (runF Tryz.prog zb5_E zb5_H Tryz.f159)
def zb5_Y : TH := yZ
def zb5 (a0 : Int) : Option Bool :=
 cond (decide (a0 ≥ 32)) (cond (decide (a0 < 127)) (some (!decide (a0 = 65533))) (cond (decide (a0 > 159)) (some (!decide (a0 = 65533))) (some false))) (some false)
def zb5_T : TFn := { ps := (.cons (.int .i64) .unit), res := .bool, fn := fun v => zb5 v.1 }
def zb5_V : TEnv := (vZ [])
theorem zb5_eq : runY Tryz.prog zb5_E zb5_H zb5_V zb5_Y Tryz.f159 zb5_T.ps zb5_T.res = zb5_T.fn := by kernel_rfl
theorem zb5_Fok : SoundP Tryz.prog G0 159 zb5_F := closeF_sound (runF_sound ⟨same_ok, envP_nil, envS_nil, envP_nil, envX_nil⟩ Tryz.func159 rfl (by kernel_rfl))
theorem zb5_ok : TOk zb5_F zb5_T := runY_ok (E := zb5_E) (ET := zb5_V) (EnvT.ofX (pure_of pairs_nil) looks_nil raws_nil G0_ok news_nil) zb5_eq rfl
def za6_E : Env := (eZ [(115, za1_F), (159, zb5_F)] [188])
def za6_H : Hints := (hZ [(3, [3, 4, 5])] [])
def za6_F : PFn := closeF (runF Tryz.prog za6_E za6_H Tryz.f114)
def za6_Y : TH := { joins := [(7, { keep := [], mem := [] })], loops := [(3, { keep := [(5, (.int .i64))], mem := [] })], ro := [] }
def za6_l3 (r1 : (List Int × Bool × Unit)) (y3 : (Int × Unit)) : Option ((Int × Unit) ⊕ (Unit ⊕ Bool)) :=
 cond (decide (y3.1 < (r1.1.length : Int))) (
(atI r1.1 y3.1).bind fun x2 =>
(zb5 x2).bind fun r3 =>
 cond (!r3) (
 some (.inr (.inr false))) (
 some (.inl ((IntKind.wrap .i64 (y3.1 + 1)), ())))) (
 some (.inr (.inl ())))
def za6 (a0 : List UInt8) : Option Bool :=
(za1 a0).bind fun r1 =>
(loopT (za6_l3 r1) (0, ()) : Option (Unit ⊕ Bool)).bind (joinS fun v4 =>
 cond r1.2.1 (cond (decide ((r1.1.length : Int) ≥ 1)) (some (decide ((r1.1.length : Int) ≤ 24))) (some false)) (some false))
def za6_T : TFn := { ps := (.cons .str .unit), res := .bool, fn := fun v => za6 v.1 }
def za6_V : TEnv := (vZ [(115, za1_T), (159, zb5_T)])
theorem za6_eq : runY Tryz.prog za6_E za6_H za6_V za6_Y Tryz.f114 za6_T.ps za6_T.res = za6_T.fn := by kernel_rfl
theorem za6_Fok : SoundP Tryz.prog G0 114 za6_F := closeF_sound (runF_sound ⟨same_ok, (envP_cons za1_Fok (envP_cons zb5_Fok envP_nil)), envS_nil, envP_nil, envX_nil⟩ Tryz.func114 rfl (by kernel_rfl))
theorem za6_ok : TOk za6_F za6_T := runY_ok (E := za6_E) (ET := za6_V) (EnvT.ofX (pure_of (pairs_cons za1_ok (pairs_cons zb5_ok pairs_nil))) looks_nil raws_nil G0_ok news_nil) za6_eq rfl
def zba_E : Env := (eZ [(114, za6_F)] [188])
def zba_H : Hints := (hZ [(6, [0, 3])] [])
def zba_F : PFn := closeF (runF Tryz.prog zba_E zba_H Tryz.f59)
def zba_Y : TH := { loops := [(6, { keep := [(3, (.int .i64))], mem := [] })], ro := [] }
def zba_l6 (a0 : List (List UInt8)) (y6 : (Int × Unit)) : Option ((Int × Unit) ⊕ Int) :=
 cond (decide (y6.1 < (a0.length : Int))) (
(atI a0 y6.1).bind fun x1 =>
(za6 x1).bind fun r2 =>
 cond (!r2) (
 some (.inr 8)) (
 some (.inl ((IntKind.wrap .i64 (y6.1 + 1)), ())))) (
 some (.inr 0))
def zba (a0 : List (List UInt8)) : Option Int :=
 cond (decide ((a0.length : Int) = 0)) (
 some 8) (
 cond (decide ((a0.length : Int) > 8)) (
 some 9) (
 loopT (zba_l6 a0) (0, ())))
def zba_T : TFn := { ps := (.cons (.sl .str) .unit), res := (.int .i64), fn := fun v => zba v.1 }
def zba_V : TEnv := (vZ [(114, za6_T)])
theorem zba_eq : runY Tryz.prog zba_E zba_H zba_V zba_Y Tryz.f59 zba_T.ps zba_T.res = zba_T.fn := by kernel_rfl
theorem zba_Fok : SoundP Tryz.prog G0 59 zba_F := closeF_sound (runF_sound ⟨same_ok, (envP_cons za6_Fok envP_nil), envS_nil, envP_nil, envX_nil⟩ Tryz.func59 rfl (by kernel_rfl))
theorem zba_ok : TOk zba_F zba_T := runY_ok (E := zba_E) (ET := zba_V) (EnvT.ofX (pure_of (pairs_cons za6_ok pairs_nil)) looks_nil raws_nil G0_ok news_nil) zba_eq rfl
def za0_E : Env := (eZ [(115, za1_F)] [188])
def za0_H : Hints := (hZ [] [])
def za0_F : PFn := closeF (runF Tryz.prog za0_E za0_H Tryz.f60)
def za0_Y : TH := { loops := [], ro := [1] }
def za0 (a0 : vV6) : Option Bool :=
 cond (decide (a0.1 = 1)) (
 cond (decide (a0.2.2.1 = [])) (cond (decide (a0.2.1 ≥ (-2147483647))) (some (decide (a0.2.1 ≤ 2147483647))) (some false)) (some false)) (
 cond (decide (a0.1 = 2)) (
(za1 a0.2.2.1).bind fun r1 =>
 cond (decide (a0.2.1 = 0)) (cond r1.2.1 (some (decide ((a0.2.2.1.length : Int) ≤ 64))) (some false)) (some false)) (
 cond (decide (a0.1 = 3)) (cond (decide (a0.2.2.1 = [])) (cond (decide (a0.2.1 ≥ 0)) (some (decide (a0.2.1 ≤ 1))) (some false)) (some false)) (some false)))
def za0_T : TFn := { ps := (.cons tT10 .unit), res := .bool, fn := fun v => za0 v.1 }
def za0_V : TEnv := (vZ [(115, za1_T)])
theorem za0_eq : runY Tryz.prog za0_E za0_H za0_V za0_Y Tryz.f60 za0_T.ps za0_T.res = za0_T.fn := by kernel_rfl
theorem za0_Fok : SoundP Tryz.prog G0 60 za0_F := closeF_sound (runF_sound ⟨same_ok, (envP_cons za1_Fok envP_nil), envS_nil, envP_nil, envX_nil⟩ Tryz.func60 rfl (by kernel_rfl))
theorem za0_ok : TOk za0_F za0_T := runY_ok (E := za0_E) (ET := za0_V) (EnvT.ofX (pure_of (pairs_cons za1_ok pairs_nil)) looks_nil raws_nil G0_ok news_nil) za0_eq rfl
def zb0_E : Env := (eZ [(110, zan_F), (111, zbj_F)] [188])
def zb0_H : Hints := (hZ [] [])
def zb0_F : PFn := closeF (runF Tryz.prog zb0_E zb0_H Tryz.f56)
def zb0_Y : TH := { loops := [], ro := [2, 3] }
def zb0 (a0 : vV1) (a1 : vV1) : Option Int :=
(zan a0.1 a1.1).bind fun r1 =>
 cond (!decide (r1 = 0)) (
(zan a0.1 a1.1).bind fun r2 =>
 some r2) (
(zbj a0.2.1 a1.2.1).bind fun r3 =>
 some r3)
def zb0_T : TFn := { ps := (.cons tT9 (.cons tT9 .unit)), res := (.int .i64), fn := fun v => zb0 v.1 v.2.1 }
def zb0_V : TEnv := (vZ [(110, zan_T), (111, zbj_T)])
theorem zb0_eq : runY Tryz.prog zb0_E zb0_H zb0_V zb0_Y Tryz.f56 zb0_T.ps zb0_T.res = zb0_T.fn := by kernel_rfl
theorem zb0_Fok : SoundP Tryz.prog G0 56 zb0_F := closeF_sound (runF_sound ⟨same_ok, (envP_cons zan_Fok (envP_cons zbj_Fok envP_nil)), envS_nil, envP_nil, envX_nil⟩ Tryz.func56 rfl (by kernel_rfl))
theorem zb0_ok : TOk zb0_F zb0_T := runY_ok (E := zb0_E) (ET := zb0_V) (EnvT.ofX (pure_of (pairs_cons zan_ok (pairs_cons zbj_ok pairs_nil))) looks_nil raws_nil G0_ok news_nil) zb0_eq rfl
def zbl_E : Env := (eZ [(56, zb0_F), (116, za4_F)] [188])
def zbl_H : Hints := (hZ [(2, [0, 3])] [])
def zbl_F : PFn := closeF (runF Tryz.prog zbl_E zbl_H Tryz.f61)
def zbl_Y : TH := { loops := [(2, { keep := [(3, (.int .i64))], mem := [] })], ro := [] }
def zbl_l2 (a0 : List vV1) (y2 : (Int × Unit)) : Option ((Int × Unit) ⊕ Bool) :=
 cond (decide (y2.1 < (a0.length : Int))) (
(atI a0 y2.1).bind fun x1 =>
(za4 x1.1).bind fun r2 =>
 cond (!r2) (some (.inr false)) ((atI a0 y2.1).bind fun x3 =>
 cond (decide (x3.2.1 < 0)) (some (.inr false)) ((atI a0 y2.1).bind fun x4 =>
 cond (decide (x4.2.1 > 15)) (
 some (.inr false)) (
 cond (decide (y2.1 > 0)) ((atI a0 (IntKind.wrap .i64 (y2.1 - 1))).bind fun x5 =>
(atI a0 y2.1).bind fun x6 =>
(zb0 x5 x6).bind fun r7 =>
 cond (!decide (r7 = (-1))) (
 some (.inr false)) (
 some (.inl ((IntKind.wrap .i64 (y2.1 + 1)), ())))) (some (.inl ((IntKind.wrap .i64 (y2.1 + 1)), ()))))))) (
 some (.inr true))
def zbl (a0 : List vV1) : Option Bool :=
 loopT (zbl_l2 a0) (0, ())
def zbl_T : TFn := { ps := (.cons (.sl tT9) .unit), res := .bool, fn := fun v => zbl v.1 }
def zbl_V : TEnv := (vZ [(56, zb0_T), (116, za4_T)])
theorem zbl_eq : runY Tryz.prog zbl_E zbl_H zbl_V zbl_Y Tryz.f61 zbl_T.ps zbl_T.res = zbl_T.fn := by kernel_rfl
theorem zbl_Fok : SoundP Tryz.prog G0 61 zbl_F := closeF_sound (runF_sound ⟨same_ok, (envP_cons zb0_Fok (envP_cons za4_Fok envP_nil)), envS_nil, envP_nil, envX_nil⟩ Tryz.func61 rfl (by kernel_rfl))
theorem zbl_ok : TOk zbl_F zbl_T := runY_ok (E := zbl_E) (ET := zbl_V) (EnvT.ofX (pure_of (pairs_cons zb0_ok (pairs_cons za4_ok pairs_nil))) looks_nil raws_nil G0_ok news_nil) zbl_eq rfl
def zbe_E : Env := (eZ [(59, zba_F), (60, za0_F), (61, zbl_F)] [188])
def zbe_H : Hints := (hZ [] [])
def zbe_F : PFn := closeF (runF Tryz.prog zbe_E zbe_H Tryz.f18)
def zbe_Y : TH := { joins := [(9, { keep := [(1, (.bx 0 0))], mem := [.same, .gone] }), (11, { keep := [(1, (.bx 0 0))], mem := [.same, .gone] }), (13, { keep := [(1, (.bx 0 0))], mem := [.same, .gone] }), (15, { keep := [(1, (.bx 0 0))], mem := [.same, .gone] })], loops := [], cuts := [(11, [(8, { keep := [(1, (.bx 0 0)), (55, .bool)], mem := [.same, .gone] })])], ro := [1], news := [] }
def zbe (a0 : vV0) : Option Int :=
 cond (decide (a0.1 < 1)) (some 18) (cond (decide (a0.1 > 5)) (
 some 18) (
(zba a0.2.1).bind fun r1 =>
 cond (!decide (r1 = 0)) (
 some r1) (
(cond (decide (a0.1 = 3)) (cond (!(eqV tT10 a0.2.2.1 (0, 0, [], ()))) (
 some (.inr 2)) (
 some (.inl ()))) (cond (decide (a0.1 = 5)) (cond (!(eqV tT10 a0.2.2.1 (0, 0, [], ()))) (
 some (.inr 2)) (
 some (.inl ()))) (some (.inl ()))) : Option (Unit ⊕ Int)).bind (joinS fun v2 =>
(cond (!decide (a0.1 = 3)) (cond (!decide (a0.1 = 5)) ((za0 a0.2.2.1).bind fun r3 =>
 cond (!r3) (
 some (.inr 2)) (
 some (.inl ()))) (some (.inl ()))) (some (.inl ())) : Option (Unit ⊕ Int)).bind (joinS fun v4 =>
((cond (!decide (a0.1 = 3)) (some ((!decide (a0.2.2.2.1 = 0)), ())) (some (false, ())) : Option (Bool × Unit)).bind fun v5 =>
 cond v5.1 (some (.inr 2)) (cond (decide (a0.1 = 3)) (cond (decide (a0.2.2.2.1 = 0)) (some (.inr 2)) (cond (decide (a0.2.2.2.1 > 2147483647)) (some (.inr 2)) (cond (decide (a0.2.2.2.1 < (-2147483647))) (
 some (.inr 2)) (
 some (.inl ()))))) (some (.inl ()))) : Option (Unit ⊕ Int)).bind (joinS fun v6 =>
(cond (decide (a0.1 = 2)) (cond (decide ((a0.2.2.2.2.1.length : Int) > 0)) (
 some (.inr 2)) (
 some (.inl ()))) (cond (decide (a0.1 = 3)) (cond (decide ((a0.2.2.2.2.1.length : Int) > 0)) (
 some (.inr 2)) (
 some (.inl ()))) (some (.inl ()))) : Option (Unit ⊕ Int)).bind (joinS fun v7 =>
 cond (decide ((a0.2.2.2.2.1.length : Int) > 256)) (
 some 7) (
(zbl a0.2.2.2.2.1).bind fun r8 =>
 cond (!r8) (
 some 2) (
 some 0)))))))))
def zbe_T : TFn := { ps := (.cons tT8 .unit), res := (.int .i64), fn := fun v => zbe v.1 }
def zbe_V : TEnv := (vZ [(59, zba_T), (60, za0_T), (61, zbl_T)])
theorem zbe_eq : runY Tryz.prog zbe_E zbe_H zbe_V zbe_Y Tryz.f18 zbe_T.ps zbe_T.res = zbe_T.fn := by kernel_rfl
theorem zbe_Fok : SoundP Tryz.prog G0 18 zbe_F := closeF_sound (runF_sound ⟨same_ok, (envP_cons zba_Fok (envP_cons za0_Fok (envP_cons zbl_Fok envP_nil))), envS_nil, envP_nil, envX_nil⟩ Tryz.func18 rfl (by kernel_rfl))
theorem zbe_ok : TOk zbe_F zbe_T := runY_ok (E := zbe_E) (ET := zbe_V) (EnvT.ofX (pure_of (pairs_cons zba_ok (pairs_cons za0_ok (pairs_cons zbl_ok pairs_nil)))) looks_nil raws_nil G0_ok news_nil) zbe_eq rfl
def zbu_E : Env := (eZ [] [188])
def zbu_H : Hints := (hZ [] [])
def zbu_F : PFn := closeF (runF Tryz.prog zbu_E zbu_H Tryz.f19)
def zbu_Y : TH := { loops := [], cuts := [(2, [(9, { keep := [(1, (.bx 0 0)), (3, (.bx 1 0)), (13, .bool)], mem := [.same, .box 26 tT10] })])], ro := [1], news := [] }
def zbu (a0 : vV0) : Option Bool :=
(cond (decide (a0.1 = 0)) (some ((decide ((a0.2.1.length : Int) = 0)), (0, 0, [], ()), ())) (some (false, (0, 0, [], ()), ())) : Option (Bool × vV6 × Unit)).bind fun v1 =>
 cond v1.1 (cond (eqV tT10 a0.2.2.1 v1.2.1) (cond (decide (a0.2.2.2.1 = 0)) (some (decide ((a0.2.2.2.2.1.length : Int) = 0))) (some false)) (some false)) (some false)
def zbu_T : TFn := { ps := (.cons tT8 .unit), res := .bool, fn := fun v => zbu v.1 }
def zbu_V : TEnv := (vZ [])
theorem zbu_eq : runY Tryz.prog zbu_E zbu_H zbu_V zbu_Y Tryz.f19 zbu_T.ps zbu_T.res = zbu_T.fn := by kernel_rfl
theorem zbu_Fok : SoundP Tryz.prog G0 19 zbu_F := closeF_sound (runF_sound ⟨same_ok, envP_nil, envS_nil, envP_nil, envX_nil⟩ Tryz.func19 rfl (by kernel_rfl))
theorem zbu_ok : TOk zbu_F zbu_T := runY_ok (E := zbu_E) (ET := zbu_V) (EnvT.ofX (pure_of pairs_nil) looks_nil raws_nil G0_ok news_nil) zbu_eq rfl
def zay_E : Env := (eZ [(18, zbe_F), (19, zbu_F), (116, za4_F)] [188])
def zay_H : Hints := (hZ [(8, [1, 3])] [])
def zay_F : PFn := closeF (runF Tryz.prog zay_E zay_H Tryz.f95)
def zay_Y : TH := { loops := [(8, { keep := [(1, (.bx 0 0)), (3, (.int .i64))], mem := [.same] })], cuts := [(1, [(9, { keep := [(1, (.bx 0 0)), (13, .bool)], mem := [.same] })])], ro := [1], news := [] }
def zay_l8 (a0 : vV4) (y8 : (Int × Unit)) : Option ((Int × Unit) ⊕ Int) :=
 cond (decide (y8.1 < (a0.2.2.2.2.1.length : Int))) (
(atI a0.2.2.2.2.1 y8.1).bind fun x3 =>
(zbe x3).bind fun r4 =>
 cond (!decide (r4 = 0)) (cond a0.2.2.2.1 ((atI a0.2.2.2.2.1 y8.1).bind fun x5 =>
(zbu x5).bind fun r6 =>
 cond (!r6) (
 some (.inr r4)) (
 some (.inl ((IntKind.wrap .i64 (y8.1 + 1)), ())))) (some (.inr r4))) (some (.inl ((IntKind.wrap .i64 (y8.1 + 1)), ())))) (
 some (.inr 0))
def zay (a0 : vV4) : Option Int :=
((za4 a0.1).bind fun r1 =>
 cond (!r1) (some (true, ())) (some ((decide (a0.2.1 < 0)), ())) : Option (Bool × Unit)).bind fun v2 =>
 cond v2.1 (some 2) (cond (decide (a0.2.1 > 7)) (some 2) (cond (decide (a0.2.2.1 < 1)) (some 2) (cond (decide (a0.2.2.1 > 1099511627776)) (
 some 2) (
 cond (decide ((a0.2.2.2.2.1.length : Int) = 0)) (
 some 11) (
 cond (decide ((a0.2.2.2.2.1.length : Int) > 16)) (
 some 7) (
 loopT (zay_l8 a0) (0, ())))))))
def zay_T : TFn := { ps := (.cons tT11 .unit), res := (.int .i64), fn := fun v => zay v.1 }
def zay_V : TEnv := (vZ [(18, zbe_T), (19, zbu_T), (116, za4_T)])
theorem zay_eq : runY Tryz.prog zay_E zay_H zay_V zay_Y Tryz.f95 zay_T.ps zay_T.res = zay_T.fn := by kernel_rfl
theorem zay_Fok : SoundP Tryz.prog G0 95 zay_F := closeF_sound (runF_sound ⟨same_ok, (envP_cons zbe_Fok (envP_cons zbu_Fok (envP_cons za4_Fok envP_nil))), envS_nil, envP_nil, envX_nil⟩ Tryz.func95 rfl (by kernel_rfl))
theorem zay_ok : TOk zay_F zay_T := runY_ok (E := zay_E) (ET := zay_V) (EnvT.ofX (pure_of (pairs_cons zbe_ok (pairs_cons zbu_ok (pairs_cons za4_ok pairs_nil)))) looks_nil raws_nil G0_ok news_nil) zay_eq rfl
def zby_E : Env := (eZ [(93, zbc_F), (94, za7_F), (95, zay_F)] [188])
def zby_H : Hints := (hZ [(4, [0, 5])] [])
def zby_F : PFn := closeF (runF Tryz.prog zby_E zby_H Tryz.f46)
def zby_Y : TH := { loops := [(4, { keep := [(5, (.int .i64))], mem := [] })], ro := [] }
def zby_l4 (a0 : List vV4) (y4 : (Int × Unit)) : Option ((Int × Unit) ⊕ Bool) :=
 cond (decide (y4.1 < (a0.length : Int))) (
(atI a0 y4.1).bind fun x2 =>
(za7 x2).bind fun r3 =>
 cond (!r3) (some (.inr false)) ((atI a0 y4.1).bind fun x4 =>
(zay x4).bind fun r5 =>
 cond (!decide (r5 = 0)) (
 some (.inr false)) (
 some (.inl ((IntKind.wrap .i64 (y4.1 + 1)), ()))))) (
 some (.inr true))
def zby (a0 : List vV4) (a1 : Int) : Option Bool :=
 cond (decide ((a0.length : Int) > a1)) (some false) ((zbc a0).bind fun r1 =>
 cond (!r1) (
 some false) (
 loopT (zby_l4 a0) (0, ())))
def zby_T : TFn := { ps := (.cons (.sl tT11) (.cons (.int .i64) .unit)), res := .bool, fn := fun v => zby v.1 v.2.1 }
def zby_V : TEnv := (vZ [(93, zbc_T), (94, za7_T), (95, zay_T)])
theorem zby_eq : runY Tryz.prog zby_E zby_H zby_V zby_Y Tryz.f46 zby_T.ps zby_T.res = zby_T.fn := by kernel_rfl
theorem zby_Fok : SoundP Tryz.prog G0 46 zby_F := closeF_sound (runF_sound ⟨same_ok, (envP_cons zbc_Fok (envP_cons za7_Fok (envP_cons zay_Fok envP_nil))), envS_nil, envP_nil, envX_nil⟩ Tryz.func46 rfl (by kernel_rfl))
theorem zby_ok : TOk zby_F zby_T := runY_ok (E := zby_E) (ET := zby_V) (EnvT.ofX (pure_of (pairs_cons zbc_ok (pairs_cons za7_ok (pairs_cons zay_ok pairs_nil)))) looks_nil raws_nil G0_ok news_nil) zby_eq rfl
def zb9_E : Env := (eZ [(116, za4_F)] [188])
def zb9_H : Hints := (hZ [] [])
def zb9_F : PFn := closeF (runF Tryz.prog zb9_E zb9_H Tryz.f151)
def zb9_Y : TH := { loops := [], ro := [1] }
def zb9 (a0 : vV1) : Option Bool :=
(za4 a0.1).bind fun r1 =>
 cond r1 (cond (decide (a0.2.1 ≥ 1)) (some (decide (a0.2.1 ≤ 64))) (some false)) (some false)
def zb9_T : TFn := { ps := (.cons tT9 .unit), res := .bool, fn := fun v => zb9 v.1 }
def zb9_V : TEnv := (vZ [(116, za4_T)])
theorem zb9_eq : runY Tryz.prog zb9_E zb9_H zb9_V zb9_Y Tryz.f151 zb9_T.ps zb9_T.res = zb9_T.fn := by kernel_rfl
theorem zb9_Fok : SoundP Tryz.prog G0 151 zb9_F := closeF_sound (runF_sound ⟨same_ok, (envP_cons za4_Fok envP_nil), envS_nil, envP_nil, envX_nil⟩ Tryz.func151 rfl (by kernel_rfl))
theorem zb9_ok : TOk zb9_F zb9_T := runY_ok (E := zb9_E) (ET := zb9_V) (EnvT.ofX (pure_of (pairs_cons za4_ok pairs_nil)) looks_nil raws_nil G0_ok news_nil) zb9_eq rfl
def za5_E : Env := (eZ [(110, zan_F), (151, zb9_F)] [188])
def za5_H : Hints := (hZ [(2, [0, 3])] [])
def za5_F : PFn := closeF (runF Tryz.prog za5_E za5_H Tryz.f96)
def za5_Y : TH := { loops := [(2, { keep := [(3, (.int .i64))], mem := [] })], ro := [] }
def za5_l2 (a0 : List vV1) (y2 : (Int × Unit)) : Option ((Int × Unit) ⊕ Bool) :=
 cond (decide (y2.1 < (a0.length : Int))) (
(atI a0 y2.1).bind fun x1 =>
(zb9 x1).bind fun r2 =>
 cond (!r2) (some (.inr false)) (cond (decide (y2.1 > 0)) ((atI a0 (IntKind.wrap .i64 (y2.1 - 1))).bind fun x3 =>
(atI a0 y2.1).bind fun x4 =>
(zan x3.1 x4.1).bind fun r5 =>
 cond (!decide (r5 = (-1))) (
 some (.inr false)) (
 some (.inl ((IntKind.wrap .i64 (y2.1 + 1)), ())))) (some (.inl ((IntKind.wrap .i64 (y2.1 + 1)), ()))))) (
 some (.inr true))
def za5 (a0 : List vV1) : Option Bool :=
 loopT (za5_l2 a0) (0, ())
def za5_T : TFn := { ps := (.cons (.sl tT9) .unit), res := .bool, fn := fun v => za5 v.1 }
def za5_V : TEnv := (vZ [(110, zan_T), (151, zb9_T)])
theorem za5_eq : runY Tryz.prog za5_E za5_H za5_V za5_Y Tryz.f96 za5_T.ps za5_T.res = za5_T.fn := by kernel_rfl
theorem za5_Fok : SoundP Tryz.prog G0 96 za5_F := closeF_sound (runF_sound ⟨same_ok, (envP_cons zan_Fok (envP_cons zb9_Fok envP_nil)), envS_nil, envP_nil, envX_nil⟩ Tryz.func96 rfl (by kernel_rfl))
theorem za5_ok : TOk za5_F za5_T := runY_ok (E := za5_E) (ET := za5_V) (EnvT.ofX (pure_of (pairs_cons zan_ok (pairs_cons zb9_ok pairs_nil))) looks_nil raws_nil G0_ok news_nil) za5_eq rfl
def zbv_E : Env := (eZ [(96, za5_F)] [188])
def zbv_H : Hints := (hZ [] [])
def zbv_F : PFn := closeF (runF Tryz.prog zbv_E zbv_H Tryz.f47)
def zbv_Y : TH := yZ
def zbv (a0 : List vV1) : Option Bool :=
 cond (decide ((a0.length : Int) ≤ 100)) ((za5 a0).bind fun r1 =>
 some r1) (some false)
def zbv_T : TFn := { ps := (.cons (.sl tT9) .unit), res := .bool, fn := fun v => zbv v.1 }
def zbv_V : TEnv := (vZ [(96, za5_T)])
theorem zbv_eq : runY Tryz.prog zbv_E zbv_H zbv_V zbv_Y Tryz.f47 zbv_T.ps zbv_T.res = zbv_T.fn := by kernel_rfl
theorem zbv_Fok : SoundP Tryz.prog G0 47 zbv_F := closeF_sound (runF_sound ⟨same_ok, (envP_cons za5_Fok envP_nil), envS_nil, envP_nil, envX_nil⟩ Tryz.func47 rfl (by kernel_rfl))
theorem zbv_ok : TOk zbv_F zbv_T := runY_ok (E := zbv_E) (ET := zbv_V) (EnvT.ofX (pure_of (pairs_cons za5_ok pairs_nil)) looks_nil raws_nil G0_ok news_nil) zbv_eq rfl
def zbk_E : Env := (eZ [(46, zby_F), (47, zbv_F)] [188])
def zbk_H : Hints := (hZ [] [])
def zbk_F : PFn := closeF (runF Tryz.prog zbk_E zbk_H Tryz.f10)
def zbk_Y : TH := yZ
def zbk (a0 : List vV4) (a1 : List vV1) : Option Bool :=
(zby a0 20).bind fun r1 =>
 cond r1 ((zbv a1).bind fun r2 =>
 some r2) (some false)
def zbk_T : TFn := { ps := (.cons (.sl tT11) (.cons (.sl tT9) .unit)), res := .bool, fn := fun v => zbk v.1 v.2.1 }
def zbk_V : TEnv := (vZ [(46, zby_T), (47, zbv_T)])
theorem zbk_eq : runY Tryz.prog zbk_E zbk_H zbk_V zbk_Y Tryz.f10 zbk_T.ps zbk_T.res = zbk_T.fn := by kernel_rfl
theorem zbk_Fok : SoundP Tryz.prog G0 10 zbk_F := closeF_sound (runF_sound ⟨same_ok, (envP_cons zby_Fok (envP_cons zbv_Fok envP_nil)), envS_nil, envP_nil, envX_nil⟩ Tryz.func10 rfl (by kernel_rfl))
theorem zbk_ok : TOk zbk_F zbk_T := runY_ok (E := zbk_E) (ET := zbk_V) (EnvT.ofX (pure_of (pairs_cons zby_ok (pairs_cons zbv_ok pairs_nil))) looks_nil raws_nil G0_ok news_nil) zbk_eq rfl
def zal_E : Env := (eZ [] [188])
def zal_H : Hints := (hZ [] [])
def zal_F : PFn := closeF (runF Tryz.prog zal_E zal_H Tryz.f174)
def zal_Y : TH := yZ
def zal (a0 : Int) : Option Bool :=
 some (!decide (a0 = a0))
def zal_T : TFn := { ps := (.cons (.int .i64) .unit), res := .bool, fn := fun v => zal v.1 }
def zal_V : TEnv := (vZ [])
theorem zal_eq : runY Tryz.prog zal_E zal_H zal_V zal_Y Tryz.f174 zal_T.ps zal_T.res = zal_T.fn := by kernel_rfl
theorem zal_Fok : SoundP Tryz.prog G0 174 zal_F := closeF_sound (runF_sound ⟨same_ok, envP_nil, envS_nil, envP_nil, envX_nil⟩ Tryz.func174 rfl (by kernel_rfl))
theorem zal_ok : TOk zal_F zal_T := runY_ok (E := zal_E) (ET := zal_V) (EnvT.ofX (pure_of pairs_nil) looks_nil raws_nil G0_ok news_nil) zal_eq rfl
def zak_E : Env := (eZ [(174, zal_F)] [188])
def zak_H : Hints := (hZ [] [])
def zak_F : PFn := closeF (runF Tryz.prog zak_E zak_H Tryz.f126)
def zak_Y : TH := yZ
def zak (a0 : Int) (a1 : Int) : Option Int :=
(zal a0).bind fun r1 =>
(zal a1).bind fun r2 =>
 cond r1 (
 cond r2 (
 some 0) (
 some (-1))) (
 cond r2 (
 some 1) (
 cond (decide (a0 < a1)) (
 some (-1)) (
 cond (decide (a0 > a1)) (
 some 1) (
 some 0))))
def zak_T : TFn := { ps := tT14, res := (.int .i64), fn := fun v => zak v.1 v.2.1 }
def zak_V : TEnv := (vZ [(174, zal_T)])
theorem zak_eq : runY Tryz.prog zak_E zak_H zak_V zak_Y Tryz.f126 zak_T.ps zak_T.res = zak_T.fn := by kernel_rfl
theorem zak_Fok : SoundP Tryz.prog G0 126 zak_F := closeF_sound (runF_sound ⟨same_ok, (envP_cons zal_Fok envP_nil), envS_nil, envP_nil, envX_nil⟩ Tryz.func126 rfl (by kernel_rfl))
theorem zak_ok : TOk zak_F zak_T := runY_ok (E := zak_E) (ET := zak_V) (EnvT.ofX (pure_of (pairs_cons zal_ok pairs_nil)) looks_nil raws_nil G0_ok news_nil) zak_eq rfl
def zbr_E : Env := (eZ [] [188])
def zbr_H : Hints := (hZ [(3, [3, 6, 7, 8])] [])
def zbr_F : PFn := closeF (runF Tryz.prog zbr_E zbr_H Tryz.f124)
def zbr_Y : TH := { loops := [(3, { keep := [(8, (.int .i64))], mem := [] })], ro := [] }
def zbr_l3 (a0 : List Int) (y3 : (Int × Unit)) : Option ((Int × Unit) ⊕ Int) :=
 cond (decide (y3.1 < (a0.length : Int))) (
(atI a0 y3.1).bind fun x1 =>
 cond (!decide (x1 = 0)) (
 some (.inr x1)) (
 some (.inl ((IntKind.wrap .i64 (y3.1 + 1)), ())))) (
 some (.inr 0))
def zbr (a0 : List Int) : Option Int :=
 loopT (zbr_l3 a0) (0, ())
def zbr_T : TFn := { ps := (.cons (.sl (.int .i64)) .unit), res := (.int .i64), fn := fun v => zbr v.1 }
def zbr_V : TEnv := (vZ [])
theorem zbr_eq : runY Tryz.prog zbr_E zbr_H zbr_V zbr_Y Tryz.f124 zbr_T.ps zbr_T.res = zbr_T.fn := by kernel_rfl
theorem zbr_Fok : SoundP Tryz.prog G0 124 zbr_F := closeF_sound (runF_sound ⟨same_ok, envP_nil, envS_nil, envP_nil, envX_nil⟩ Tryz.func124 rfl (by kernel_rfl))
theorem zbr_ok : TOk zbr_F zbr_T := runY_ok (E := zbr_E) (ET := zbr_V) (EnvT.ofX (pure_of pairs_nil) looks_nil raws_nil G0_ok news_nil) zbr_eq rfl
def za9_E : Env := (eZ [(124, zbr_F), (126, zak_F)] [188])
def za9_H : Hints := (hZ [] [])
def za9_F : PFn := closeF (runF Tryz.prog za9_E za9_H Tryz.f119)
def za9_Y : TH := { loops := [], ro := [2, 3] }
def za9 (a0 : (Int × Int × Unit)) (a1 : (Int × Int × Unit)) : Option Int :=
(zak a0.1 a1.1).bind fun r1 =>
(zak a0.2.1 a1.2.1).bind fun r2 =>
(zbr ([r1, r2] : List Int)).bind fun r3 =>
 some r3
def za9_T : TFn := { ps := (.cons (.agg tT14) (.cons (.agg tT14) .unit)), res := (.int .i64), fn := fun v => za9 v.1 v.2.1 }
def za9_V : TEnv := { pure := [(124, zbr_T), (126, zak_T)], look := [], glob := G0T, ty := [(3, (.int .i64))], raw := [], fresh := [] }
theorem za9_eq : runY Tryz.prog za9_E za9_H za9_V za9_Y Tryz.f119 za9_T.ps za9_T.res = za9_T.fn := by kernel_rfl
theorem za9_Fok : SoundP Tryz.prog G0 119 za9_F := closeF_sound (runF_sound ⟨same_ok, (envP_cons zbr_Fok (envP_cons zak_Fok envP_nil)), envS_nil, envP_nil, envX_nil⟩ Tryz.func119 rfl (by kernel_rfl))
theorem za9_ok : TOk za9_F za9_T := runY_ok (E := za9_E) (ET := za9_V) (EnvT.ofX (pure_of (pairs_cons zbr_ok (pairs_cons zak_ok pairs_nil))) looks_nil raws_nil G0_ok news_nil) za9_eq rfl
def zao_E : Env := (eZ [(119, za9_F)] [188])
def zao_H : Hints := (hZ [] [])
def zao_F : PFn := closeF (runF Tryz.prog zao_E zao_H Tryz.f191)
def zao_Y : TH := { loops := [], ro := [2, 3] }
def zao (a0 : vV1) (a1 : vV1) : Option Int :=
(za9 a0.1 a1.1).bind fun r1 =>
 some r1
def zao_T : TFn := { ps := (.cons tT9 (.cons tT9 .unit)), res := (.int .i64), fn := fun v => zao v.1 v.2.1 }
def zao_V : TEnv := (vZ [(119, za9_T)])
theorem zao_eq : runY Tryz.prog zao_E zao_H zao_V zao_Y Tryz.f191 zao_T.ps zao_T.res = zao_T.fn := by kernel_rfl
theorem zao_Fok : SoundP Tryz.prog G0 191 zao_F := closeF_sound (runF_sound ⟨same_ok, (envP_cons za9_Fok envP_nil), envS_nil, envP_nil, envX_nil⟩ Tryz.func191 rfl (by kernel_rfl))
theorem zao_ok : TOk zao_F zao_T := runY_ok (E := zao_E) (ET := zao_V) (EnvT.ofX (pure_of (pairs_cons za9_ok pairs_nil)) looks_nil raws_nil G0_ok news_nil) zao_eq rfl
def zaa_E : Env := (eZ [(191, zao_F)] [188])
def zaa_H : Hints := (hZ [(3, [0, 2, 4, 8, 9, 10])] [])
def zaa_F : PFn := closeF (runF Tryz.prog zaa_E zaa_H Tryz.f190)
def zaa_Y : TH := { joins := [(8, { keep := [(4, (.bx 0 0)), (9, (.int .i64))], mem := [.same] })], loops := [(3, { keep := [(4, (.bx 0 0)), (9, (.int .i64)), (10, (.int .i64))], mem := [.same] })], ro := [4] }
def zaa_l3 (a0 : List vV1) (a1 : vV1) (y3 : (Int × Int × Unit)) : Option ((Int × Int × Unit) ⊕ ((Int × Unit) ⊕ (Int × Bool × Unit))) :=
 cond (decide (y3.1 < y3.2.1)) (
(shrT .u64 (IntKind.wrap .u64 (IntKind.wrap .i64 (y3.1 + y3.2.1))) 1).bind fun t1 =>
(atI a0 (IntKind.wrap .i64 t1)).bind fun x2 =>
(zao x2 a1).bind fun r3 =>
 cond (decide (r3 < 0)) (
 some (.inl ((IntKind.wrap .i64 ((IntKind.wrap .i64 t1) + 1)), y3.2.1, ()))) (
 some (.inl (y3.1, (IntKind.wrap .i64 t1), ())))) (
 some (.inr (.inl (y3.1, ()))))
def zaa (a0 : List vV1) (a1 : vV1) (a2 : Unit) : Option (Int × Bool × Unit) :=
(loopT (zaa_l3 a0 a1) (0, (a0.length : Int), ()) : Option ((Int × Unit) ⊕ (Int × Bool × Unit))).bind (joinS fun v4 =>
 cond (decide (v4.1 < (a0.length : Int))) ((atI a0 v4.1).bind fun x5 =>
(zao x5 a1).bind fun r6 =>
 some (v4.1, (decide (r6 = 0)), ())) (some (v4.1, false, ())))
def zaa_T : TFn := { ps := (.cons (.sl tT9) (.cons tT9 (.cons (.fn 191) .unit))), res := (.tup (.cons (.int .i64) (.cons .bool .unit))), fn := fun v => zaa v.1 v.2.1 v.2.2.1 }
def zaa_V : TEnv := (vZ [(191, zao_T)])
theorem zaa_eq : runY Tryz.prog zaa_E zaa_H zaa_V zaa_Y Tryz.f190 zaa_T.ps zaa_T.res = zaa_T.fn := by kernel_rfl
theorem zaa_Fok : SoundP Tryz.prog G0 190 zaa_F := closeF_sound (runF_sound ⟨same_ok, (envP_cons zao_Fok envP_nil), envS_nil, envP_nil, envX_nil⟩ Tryz.func190 rfl (by kernel_rfl))
theorem zaa_ok : TOk zaa_F zaa_T := runY_ok (E := zaa_E) (ET := zaa_V) (EnvT.ofX (pure_of (pairs_cons zao_ok pairs_nil)) looks_nil raws_nil G0_ok news_nil) zaa_eq rfl
def zce_E : Env := (eZ [(190, zaa_F)] [188])
def zce_H : Hints := (hZ [] [])
def zce_F : PFn := closeF (runF Tryz.prog zce_E zce_H Tryz.f150)
def zce_Y : TH := { loops := [], ro := [3] }
def zce (a0 : List vV1) (a1 : (Int × Int × Unit)) : Option (Int × Bool × Unit) :=
(zaa a0 (a1, 0, ()) ()).bind fun r1 =>
 some (r1.1, r1.2.1, ())
def zce_T : TFn := { ps := (.cons (.sl tT9) (.cons (.agg tT14) .unit)), res := (.tup (.cons (.int .i64) (.cons .bool .unit))), fn := fun v => zce v.1 v.2.1 }
def zce_V : TEnv := (vZ [(190, zaa_T)])
theorem zce_eq : runY Tryz.prog zce_E zce_H zce_V zce_Y Tryz.f150 zce_T.ps zce_T.res = zce_T.fn := by kernel_rfl
theorem zce_Fok : SoundP Tryz.prog G0 150 zce_F := closeF_sound (runF_sound ⟨same_ok, (envP_cons zaa_Fok envP_nil), envS_nil, envP_nil, envX_nil⟩ Tryz.func150 rfl (by kernel_rfl))
theorem zce_ok : TOk zce_F zce_T := runY_ok (E := zce_E) (ET := zce_V) (EnvT.ofX (pure_of (pairs_cons zaa_ok pairs_nil)) looks_nil raws_nil G0_ok news_nil) zce_eq rfl
def zb3_E : Env := (eZ [(150, zce_F)] [188])
def zb3_H : Hints := (hZ [] [])
def zb3_F : PFn := closeF (runF Tryz.prog zb3_E zb3_H Tryz.f92)
def zb3_Y : TH := { loops := [], ro := [3] }
def zb3 (a0 : List vV1) (a1 : (Int × Int × Unit)) : Option Int :=
(zce a0 a1).bind fun r1 =>
 cond r1.2.1 (
(atI a0 r1.1).bind fun x2 =>
 some x2.2.1) (
 some 0)
def zb3_T : TFn := { ps := (.cons (.sl tT9) (.cons (.agg tT14) .unit)), res := (.int .i64), fn := fun v => zb3 v.1 v.2.1 }
def zb3_V : TEnv := (vZ [(150, zce_T)])
theorem zb3_eq : runY Tryz.prog zb3_E zb3_H zb3_V zb3_Y Tryz.f92 zb3_T.ps zb3_T.res = zb3_T.fn := by kernel_rfl
theorem zb3_Fok : SoundP Tryz.prog G0 92 zb3_F := closeF_sound (runF_sound ⟨same_ok, (envP_cons zce_Fok envP_nil), envS_nil, envP_nil, envX_nil⟩ Tryz.func92 rfl (by kernel_rfl))
theorem zb3_ok : TOk zb3_F zb3_T := runY_ok (E := zb3_E) (ET := zb3_V) (EnvT.ofX (pure_of (pairs_cons zce_ok pairs_nil)) looks_nil raws_nil G0_ok news_nil) zb3_eq rfl
def zbs_E : Env := (eZ [(92, zb3_F)] [188])
def zbs_H : Hints := (hZ [] [])
def zbs_F : PFn := closeF (runF Tryz.prog zbs_E zbs_H Tryz.f45)
def zbs_Y : TH := { loops := [], ro := [3] }
def zbs (a0 : List vV1) (a1 : (Int × Int × Unit)) : Option Bool :=
(zb3 a0 a1).bind fun r1 =>
(remT r1 2).bind fun t2 =>
 some (decide (t2 = 0))
def zbs_T : TFn := { ps := (.cons (.sl tT9) (.cons (.agg tT14) .unit)), res := .bool, fn := fun v => zbs v.1 v.2.1 }
def zbs_V : TEnv := (vZ [(92, zb3_T)])
theorem zbs_eq : runY Tryz.prog zbs_E zbs_H zbs_V zbs_Y Tryz.f45 zbs_T.ps zbs_T.res = zbs_T.fn := by kernel_rfl
theorem zbs_Fok : SoundP Tryz.prog G0 45 zbs_F := closeF_sound (runF_sound ⟨same_ok, (envP_cons zb3_Fok envP_nil), envS_nil, envP_nil, envX_nil⟩ Tryz.func45 rfl (by kernel_rfl))
theorem zbs_ok : TOk zbs_F zbs_T := runY_ok (E := zbs_E) (ET := zbs_V) (EnvT.ofX (pure_of (pairs_cons zb3_ok pairs_nil)) looks_nil raws_nil G0_ok news_nil) zbs_eq rfl
def zau_E : Env := (eZ [(45, zbs_F)] [188])
def zau_H : Hints := (hZ [(3, [1, 5, 13, 14, 15]), (7, [1, 5, 13, 14, 15, 25, 26, 27]), (10, [1, 5, 13, 14, 15, 25, 26, 27, 32, 33, 34])] [])
def zau_S : SFn := runF Tryz.prog zau_E zau_H Tryz.f52
def zau_Y : TH := { loops := [(3, { keep := [(5, (.mp 0)), (15, (.int .i64))], mem := [.map tT9 .bool] }), (7, { keep := [(5, (.mp 0)), (27, (.int .i64))], mem := [.map tT9 .bool, .gone] }), (10, { keep := [(5, (.mp 0)), (34, (.int .i64))], mem := [.map tT9 .bool, .gone, .gone] })], ro := [] }
def zau_l10 (y7 : vV7) (x3 : vV0) (y10 : vV7) : Option (vV7 ⊕ (vV7 ⊕ (vV7 ⊕ (List (vV1 × Bool))))) :=
 cond (decide (y10.1 < (x3.2.2.2.2.1.length : Int))) (
(atI x3.2.2.2.2.1 y10.1).bind fun x4 =>
 some (.inl ((IntKind.wrap .i64 (y10.1 + 1)), (putK tT9 x4 true y10.2.1), ()))) (
 some (.inr (.inl ((IntKind.wrap .i64 (y7.1 + 1)), y10.2.1, ()))))
def zau_l7 (y3 : vV7) (x1 : vV4) (y7 : vV7) : Option (vV7 ⊕ (vV7 ⊕ (List (vV1 × Bool)))) :=
 cond (decide (y7.1 < (x1.2.2.2.2.1.length : Int))) (
(atI x1.2.2.2.2.1 y7.1).bind fun x3 =>
 loopT (zau_l10 y7 x3) (0, y7.2.1, ())) (
 some (.inr (.inl ((IntKind.wrap .i64 (y3.1 + 1)), y7.2.1, ()))))
def zau_l3 (a0 : List vV4) (a1 : List vV1) (y3 : vV7) : Option (vV7 ⊕ (List (vV1 × Bool))) :=
 cond (decide (y3.1 < (a0.length : Int))) (
(atI a0 y3.1).bind fun x1 =>
(zbs a1 x1.1).bind fun r2 =>
 cond (!r2) (
 some (.inl ((IntKind.wrap .i64 (y3.1 + 1)), y3.2.1, ()))) (
 loopT (zau_l7 y3 x1) (0, y3.2.1, ()))) (
 some (.inr y3.2.1))
def zau (a0 : List vV4) (a1 : List vV1) : Option (List (vV1 × Bool)) :=
 loopT (zau_l3 a0 a1) (0, [], ())
def zau_N : TNew := { ps := (.cons (.sl tT11) (.cons (.sl tT9) .unit)), e := 91, t := (.sl (.cons tT9 .bool)), fn := fun v => zau v.1 v.2.1, mp := true }
def zau_V : TEnv := { pure := [(45, zbs_T)], look := [], glob := G0T, ty := [(4, .bool), (94, tT9)], raw := [], fresh := [] }
theorem zau_eq : newMY Tryz.prog zau_E zau_H zau_V zau_Y Tryz.f52 zau_N.ps tT9 .bool = zau_N.fn := by kernel_rfl
theorem zau_Sok : SoundS Tryz.prog G0 52 zau_S := runF_sound ⟨same_ok, (envP_cons zbs_Fok envP_nil), envS_nil, envP_nil, envX_nil⟩ Tryz.func52 rfl (by kernel_rfl)
theorem zau_ok : TNewOk zau_S zau_N := newMY_ok (E := zau_E) (ET := zau_V) (EnvT.ofX (pure_of (pairs_cons zbs_ok pairs_nil)) looks_nil raws_nil G0_ok news_nil) zau_eq
def zcf_E : Env := { pure := [(45, zbs_F)], raw := [(52, zau_S)], glob := G0, same := [188], look := [], ext := [] }
def zcf_H : Hints := (hZ [(4, [1, 5, 6, 15, 16, 17]), (8, [1, 5, 6, 8, 15, 16, 17, 27, 28, 29])] [])
def zcf_F : PFn := closeF (runF Tryz.prog zcf_E zcf_H Tryz.f14)
def zcf_Y : TH := { loops := [(4, { keep := [(5, (.mp 0)), (6, (.own 4)), (17, (.int .i64))], mem := [.map tT9 .bool, .gone, .gone, .gone, .row true 96 tT12] }), (8, { keep := [(5, (.mp 0)), (6, (.own 4)), (8, (.bx 5 0)), (29, (.int .i64))], mem := [.map tT9 .bool, .gone, .gone, .gone, .row true 96 tT12, .box 51 tT11] })], ro := [] }
def zcf_l8 (y4 : (Int × List (vV1 × Bool) × List vV5 × Unit)) (x2 : vV4) (y8 : (Int × List (vV1 × Bool) × List vV5 × vV4 × Unit)) : Option ((Int × List (vV1 × Bool) × List vV5 × vV4 × Unit) ⊕ ((Int × List (vV1 × Bool) × List vV5 × Unit) ⊕ List vV5)) :=
 cond (decide (y8.1 < (x2.2.2.2.2.1.length : Int))) (
(atI x2.2.2.2.2.1 y8.1).bind fun x4 =>
 cond (decide (x4.1 = 1)) (cond (!((getK tT9 false (y8.2.2.2.1.1, y8.1, ()) y8.2.1).1)) (
(roomT (y8.2.2.1.length + ([((y8.2.2.2.1.1, y8.1, ()), x4, y8.2.2.2.1.2.2.1, ())] : List vV5).length)).bind fun u5 =>
 some (.inl ((IntKind.wrap .i64 (y8.1 + 1)), y8.2.1, (y8.2.2.1 ++ ([((y8.2.2.2.1.1, y8.1, ()), x4, y8.2.2.2.1.2.2.1, ())] : List vV5)), y8.2.2.2.1, ()))) (
 some (.inl ((IntKind.wrap .i64 (y8.1 + 1)), y8.2.1, y8.2.2.1, y8.2.2.2.1, ())))) (cond (decide (x4.1 = 2)) (cond (!((getK tT9 false (y8.2.2.2.1.1, y8.1, ()) y8.2.1).1)) (
(roomT (y8.2.2.1.length + ([((y8.2.2.2.1.1, y8.1, ()), x4, y8.2.2.2.1.2.2.1, ())] : List vV5).length)).bind fun u6 =>
 some (.inl ((IntKind.wrap .i64 (y8.1 + 1)), y8.2.1, (y8.2.2.1 ++ ([((y8.2.2.2.1.1, y8.1, ()), x4, y8.2.2.2.1.2.2.1, ())] : List vV5)), y8.2.2.2.1, ()))) (
 some (.inl ((IntKind.wrap .i64 (y8.1 + 1)), y8.2.1, y8.2.2.1, y8.2.2.2.1, ())))) (cond (decide (x4.1 = 3)) (cond (!((getK tT9 false (y8.2.2.2.1.1, y8.1, ()) y8.2.1).1)) (
(roomT (y8.2.2.1.length + ([((y8.2.2.2.1.1, y8.1, ()), x4, y8.2.2.2.1.2.2.1, ())] : List vV5).length)).bind fun u7 =>
 some (.inl ((IntKind.wrap .i64 (y8.1 + 1)), y8.2.1, (y8.2.2.1 ++ ([((y8.2.2.2.1.1, y8.1, ()), x4, y8.2.2.2.1.2.2.1, ())] : List vV5)), y8.2.2.2.1, ()))) (
 some (.inl ((IntKind.wrap .i64 (y8.1 + 1)), y8.2.1, y8.2.2.1, y8.2.2.2.1, ())))) (some (.inl ((IntKind.wrap .i64 (y8.1 + 1)), y8.2.1, y8.2.2.1, y8.2.2.2.1, ())))))) (
 some (.inr (.inl ((IntKind.wrap .i64 (y4.1 + 1)), y8.2.1, y8.2.2.1, ()))))
def zcf_l4 (a0 : List vV4) (a1 : List vV1) (y4 : (Int × List (vV1 × Bool) × List vV5 × Unit)) : Option ((Int × List (vV1 × Bool) × List vV5 × Unit) ⊕ List vV5) :=
 cond (decide (y4.1 < (a0.length : Int))) (
(atI a0 y4.1).bind fun x2 =>
(zbs a1 x2.1).bind fun r3 =>
 cond (!r3) (
 some (.inl ((IntKind.wrap .i64 (y4.1 + 1)), y4.2.1, y4.2.2.1, ()))) (
 loopT (zcf_l8 y4 x2) (0, y4.2.1, y4.2.2.1, x2, ()))) (
 some (.inr y4.2.2.1))
def zcf (a0 : List vV4) (a1 : List vV1) : Option (List vV5) :=
(zau a0 a1).bind fun n1 =>
 loopT (zcf_l4 a0 a1) (0, n1, [], ())
def zcf_T : TFn := { ps := (.cons (.sl tT11) (.cons (.sl tT9) .unit)), res := (.sl tT12), fn := fun v => zcf v.1 v.2.1 }
def zcf_V : TEnv := { pure := [(45, zbs_T)], look := [], glob := G0T, ty := [(96, tT12)], raw := [], fresh := [(52, zau_N)] }
theorem zcf_eq : runY Tryz.prog zcf_E zcf_H zcf_V zcf_Y Tryz.f14 zcf_T.ps zcf_T.res = zcf_T.fn := by kernel_rfl
theorem zcf_Fok : SoundP Tryz.prog G0 14 zcf_F := closeF_sound (runF_sound ⟨same_ok, (envP_cons zbs_Fok envP_nil), (envS_cons zau_Sok envS_nil), envP_nil, envX_nil⟩ Tryz.func14 rfl (by kernel_rfl))
theorem zcf_ok : TOk zcf_F zcf_T := runY_ok (E := zcf_E) (ET := zcf_V) (EnvT.ofX (pure_of (pairs_cons zbs_ok pairs_nil)) looks_nil (raws_more raws_nil rfl) G0_ok (news_cons zau_ok rfl rfl rfl news_nil)) zcf_eq rfl
def zb7_E : Env := (eZ [] [188])
def zb7_H : Hints := (hZ [(2, [0, 3, 5])] [])
def zb7_F : PFn := closeF (runF Tryz.prog zb7_E zb7_H Tryz.f112)
def zb7_Y : TH := { loops := [(2, { keep := [(3, (.bx 0 0)), (5, (.int .i64))], mem := [.same] })], ro := [3] }
def zb7_l2 (a0 : List vV1) (a1 : (Int × Int × Unit)) (y2 : (Int × Unit)) : Option ((Int × Unit) ⊕ Int) :=
 cond (decide (y2.1 < (a0.length : Int))) (
(atI a0 y2.1).bind fun x1 =>
 cond (eqV (.agg tT14) x1.1 a1) (
(atI a0 y2.1).bind fun x2 =>
 some (.inr x2.2.1)) (
 some (.inl ((IntKind.wrap .i64 (y2.1 + 1)), ())))) (
 some (.inr 0))
def zb7 (a0 : List vV1) (a1 : (Int × Int × Unit)) : Option Int :=
 loopT (zb7_l2 a0 a1) (0, ())
def zb7_T : TFn := { ps := (.cons (.sl tT9) (.cons (.agg tT14) .unit)), res := (.int .i64), fn := fun v => zb7 v.1 v.2.1 }
def zb7_V : TEnv := (vZ [])
theorem zb7_eq : runY Tryz.prog zb7_E zb7_H zb7_V zb7_Y Tryz.f112 zb7_T.ps zb7_T.res = zb7_T.fn := by kernel_rfl
theorem zb7_Fok : SoundP Tryz.prog G0 112 zb7_F := closeF_sound (runF_sound ⟨same_ok, envP_nil, envS_nil, envP_nil, envX_nil⟩ Tryz.func112 rfl (by kernel_rfl))
theorem zb7_ok : TOk zb7_F zb7_T := runY_ok (E := zb7_E) (ET := zb7_V) (EnvT.ofX (pure_of pairs_nil) looks_nil raws_nil G0_ok news_nil) zb7_eq rfl
def zbi_E : Env := (eZ [(112, zb7_F)] [188])
def zbi_H : Hints := (hZ [] [])
def zbi_F : PFn := closeF (runF Tryz.prog zbi_E zbi_H Tryz.f57)
def zbi_Y : TH := { loops := [], ro := [3] }
def zbi (a0 : List vV1) (a1 : (Int × Int × Unit)) : Option Bool :=
(zb7 a0 a1).bind fun r1 =>
(remT r1 2).bind fun t2 =>
 some (decide (t2 = 0))
def zbi_T : TFn := { ps := (.cons (.sl tT9) (.cons (.agg tT14) .unit)), res := .bool, fn := fun v => zbi v.1 v.2.1 }
def zbi_V : TEnv := (vZ [(112, zb7_T)])
theorem zbi_eq : runY Tryz.prog zbi_E zbi_H zbi_V zbi_Y Tryz.f57 zbi_T.ps zbi_T.res = zbi_T.fn := by kernel_rfl
theorem zbi_Fok : SoundP Tryz.prog G0 57 zbi_F := closeF_sound (runF_sound ⟨same_ok, (envP_cons zb7_Fok envP_nil), envS_nil, envP_nil, envX_nil⟩ Tryz.func57 rfl (by kernel_rfl))
theorem zbi_ok : TOk zbi_F zbi_T := runY_ok (E := zbi_E) (ET := zbi_V) (EnvT.ofX (pure_of (pairs_cons zb7_ok pairs_nil)) looks_nil raws_nil G0_ok news_nil) zbi_eq rfl
def zas_E : Env := (eZ [] [188])
def zas_H : Hints := (hZ [(2, [2, 3, 5])] [])
def zas_F : PFn := closeF (runF Tryz.prog zas_E zas_H Tryz.f113)
def zas_Y : TH := { loops := [(2, { keep := [(2, (.bx 0 0)), (3, (.bx 1 0)), (5, (.int .i64))], mem := [.same, .same] })], ro := [2, 3] }
def zas_l2 (a0 : vV0) (a1 : vV1) (y2 : (Int × Unit)) : Option ((Int × Unit) ⊕ Bool) :=
 cond (decide (y2.1 < (a0.2.2.2.2.1.length : Int))) (
(atI a0.2.2.2.2.1 y2.1).bind fun x1 =>
 cond (eqV tT9 x1 a1) (
 some (.inr true)) (
 some (.inl ((IntKind.wrap .i64 (y2.1 + 1)), ())))) (
 some (.inr false))
def zas (a0 : vV0) (a1 : vV1) : Option Bool :=
 loopT (zas_l2 a0 a1) (0, ())
def zas_T : TFn := { ps := (.cons tT8 (.cons tT9 .unit)), res := .bool, fn := fun v => zas v.1 v.2.1 }
def zas_V : TEnv := (vZ [])
theorem zas_eq : runY Tryz.prog zas_E zas_H zas_V zas_Y Tryz.f113 zas_T.ps zas_T.res = zas_T.fn := by kernel_rfl
theorem zas_Fok : SoundP Tryz.prog G0 113 zas_F := closeF_sound (runF_sound ⟨same_ok, envP_nil, envS_nil, envP_nil, envX_nil⟩ Tryz.func113 rfl (by kernel_rfl))
theorem zas_ok : TOk zas_F zas_T := runY_ok (E := zas_E) (ET := zas_V) (EnvT.ofX (pure_of pairs_nil) looks_nil raws_nil G0_ok news_nil) zas_eq rfl
def zar_E : Env := (eZ [(57, zbi_F), (113, zas_F)] [188])
def zar_H : Hints := (hZ [(2, [0, 1, 5, 7]), (5, [0, 1, 5, 7, 8])] [])
def zar_F : PFn := closeF (runF Tryz.prog zar_E zar_H Tryz.f58)
def zar_Y : TH := { loops := [(2, { keep := [(5, (.bx 0 0)), (7, (.int .i64))], mem := [.same] }), (5, { keep := [(5, (.bx 0 0)), (8, (.int .i64))], mem := [.same] })], ro := [5] }
def zar_l5 (y2 : (Int × Unit)) (a0 : List vV4) (a1 : List vV1) (a2 : vV1) (y5 : (Int × Unit)) : Option ((Int × Unit) ⊕ ((Int × Unit) ⊕ Bool)) :=
(atI a0 y2.1).bind fun x1 =>
 cond (decide (y5.1 < (x1.2.2.2.2.1.length : Int))) (
(atI a0 y2.1).bind fun x2 =>
(atI x2.2.2.2.2.1 y5.1).bind fun x3 =>
(zas x3 a2).bind fun r4 =>
 cond r4 ((atI a0 y2.1).bind fun x5 =>
(zbi a1 x5.1).bind fun r6 =>
 cond r6 (
 some (.inr (.inr true))) (
 some (.inl ((IntKind.wrap .i64 (y5.1 + 1)), ())))) (some (.inl ((IntKind.wrap .i64 (y5.1 + 1)), ())))) (
 some (.inr (.inl ((IntKind.wrap .i64 (y2.1 + 1)), ()))))
def zar_l2 (a0 : List vV4) (a1 : List vV1) (a2 : vV1) (y2 : (Int × Unit)) : Option ((Int × Unit) ⊕ Bool) :=
 cond (decide (y2.1 < (a0.length : Int))) (
 loopT (zar_l5 y2 a0 a1 a2) (0, ())) (
 some (.inr false))
def zar (a0 : List vV4) (a1 : List vV1) (a2 : vV1) : Option Bool :=
 loopT (zar_l2 a0 a1 a2) (0, ())
def zar_T : TFn := { ps := (.cons (.sl tT11) (.cons (.sl tT9) (.cons tT9 .unit))), res := .bool, fn := fun v => zar v.1 v.2.1 v.2.2.1 }
def zar_V : TEnv := (vZ [(57, zbi_T), (113, zas_T)])
theorem zar_eq : runY Tryz.prog zar_E zar_H zar_V zar_Y Tryz.f58 zar_T.ps zar_T.res = zar_T.fn := by kernel_rfl
theorem zar_Fok : SoundP Tryz.prog G0 58 zar_F := closeF_sound (runF_sound ⟨same_ok, (envP_cons zbi_Fok (envP_cons zas_Fok envP_nil)), envS_nil, envP_nil, envX_nil⟩ Tryz.func58 rfl (by kernel_rfl))
theorem zar_ok : TOk zar_F zar_T := runY_ok (E := zar_E) (ET := zar_V) (EnvT.ofX (pure_of (pairs_cons zbi_ok (pairs_cons zas_ok pairs_nil))) looks_nil raws_nil G0_ok news_nil) zar_eq rfl
def zb2_E : Env := (eZ [(57, zbi_F), (58, zar_F)] [188])
def zb2_H : Hints := (hZ [(3, [0, 1, 5, 6]), (6, [0, 1, 5, 6, 7])] [72])
def zb2_F : PFn := closeF (runF Tryz.prog zb2_E zb2_H Tryz.f16)
def zb2_Y : TH := { loops := [(3, { keep := [(5, (.own 2)), (6, (.int .i64))], mem := [.gone, .gone, .row true 99 tT12] }), (6, { keep := [(5, (.own 2)), (7, (.int .i64))], mem := [.gone, .gone, .row true 99 tT12] })], cuts := [(10, [(8, { keep := [(5, (.own 2)), (8, (.bx 3 0)), (9, (.bx 4 0)), (48, .bool)], mem := [.gone, .gone, .row true 99 tT12, .box 29 tT8, .box 94 tT9] })])], ro := [], news := [] }
def zb2_l6 (y3 : (Int × List vV5 × Unit)) (a0 : List vV4) (a1 : List vV1) (y6 : (Int × List vV5 × Unit)) : Option ((Int × List vV5 × Unit) ⊕ ((Int × List vV5 × Unit) ⊕ List vV5)) :=
(atI a0 y3.1).bind fun x1 =>
 cond (decide (y6.1 < (x1.2.2.2.2.1.length : Int))) (
(atI a0 y3.1).bind fun x2 =>
(atI x2.2.2.2.2.1 y6.1).bind fun x3 =>
(atI a0 y3.1).bind fun x4 =>
(cond (decide (x3.1 ≥ 1)) (some ((decide (x3.1 ≤ 3)), y6.2.1, x3, (x4.1, y6.1, ()), ())) (some (false, y6.2.1, x3, (x4.1, y6.1, ()), ())) : Option (Bool × List vV5 × vV0 × vV1 × Unit)).bind fun v5 =>
 cond v5.1 ((atI a0 y3.1).bind fun x6 =>
(zbi a1 x6.1).bind fun r7 =>
 cond r7 ((zar a0 a1 v5.2.2.2.1).bind fun r8 =>
 cond (!r8) (
(atI a0 y3.1).bind fun x9 =>
(roomT (v5.2.1.length + ([(v5.2.2.2.1, v5.2.2.1, x9.2.2.1, ())] : List vV5).length)).bind fun u10 =>
 some (.inl ((IntKind.wrap .i64 (y6.1 + 1)), (v5.2.1 ++ ([(v5.2.2.2.1, v5.2.2.1, x9.2.2.1, ())] : List vV5)), ()))) (
 some (.inl ((IntKind.wrap .i64 (y6.1 + 1)), v5.2.1, ())))) (some (.inl ((IntKind.wrap .i64 (y6.1 + 1)), v5.2.1, ())))) (some (.inl ((IntKind.wrap .i64 (y6.1 + 1)), v5.2.1, ())))) (
 some (.inr (.inl ((IntKind.wrap .i64 (y3.1 + 1)), y6.2.1, ()))))
def zb2_l3 (a0 : List vV4) (a1 : List vV1) (y3 : (Int × List vV5 × Unit)) : Option ((Int × List vV5 × Unit) ⊕ List vV5) :=
 cond (decide (y3.1 < (a0.length : Int))) (
 loopT (zb2_l6 y3 a0 a1) (0, y3.2.1, ())) (
 some (.inr y3.2.1))
def zb2 (a0 : List vV4) (a1 : List vV1) : Option (List vV5) :=
 loopT (zb2_l3 a0 a1) (0, [], ())
def zb2_T : TFn := { ps := (.cons (.sl tT11) (.cons (.sl tT9) .unit)), res := (.sl tT12), fn := fun v => zb2 v.1 v.2.1 }
def zb2_V : TEnv := { pure := [(57, zbi_T), (58, zar_T)], look := [], glob := G0T, ty := [(99, tT12)], raw := [], fresh := [] }
theorem zb2_eq : runY Tryz.prog zb2_E zb2_H zb2_V zb2_Y Tryz.f16 zb2_T.ps zb2_T.res = zb2_T.fn := by kernel_rfl
theorem zb2_Fok : SoundP Tryz.prog G0 16 zb2_F := closeF_sound (runF_sound ⟨same_ok, (envP_cons zbi_Fok (envP_cons zar_Fok envP_nil)), envS_nil, envP_nil, envX_nil⟩ Tryz.func16 rfl (by kernel_rfl))
theorem zb2_ok : TOk zb2_F zb2_T := runY_ok (E := zb2_E) (ET := zb2_V) (EnvT.ofX (pure_of (pairs_cons zbi_ok (pairs_cons zar_ok pairs_nil))) looks_nil raws_nil G0_ok news_nil) zb2_eq rfl
def zag_ren : Go.Shelf.Ren := ⟨fun | 41 => 50 | n => n, fun | 22 => 24 | 23 => 9 | 4 => 4 | n => n, fun | n => n⟩
theorem zag_lays : Go.Proofs.SlLaysE0.n41 Tryz.prog zag_ren := {
 mixed := by kernel_rfl
 f41 := ⟨Tryz.f50.name, by decide, Tryz.func50.trans (congrArg some (by kernel_rfl))⟩
 t4 := Tryz.underlying4
 a4 := Tryz.isAgg4
 z4 := Tryz.sizeOf4
 v4 := Tryz.zeroValue4
 t22 := Tryz.underlying24
 a22 := Tryz.isAgg24
 z22 := Tryz.sizeOf24
 v22 := Tryz.zeroValue24 }
def zag_F : PFn := (cloneF 1)
theorem zag_Fok : SoundP Tryz.prog G0 50 zag_F := clone_lays zag_lays 1 ⟨Tryz.f50, Tryz.func50, rfl, by kernel_rfl⟩ (by kernel_rfl) (by kernel_rfl) (by kernel_rfl) (by kernel_rfl) (by kernel_rfl) (by decide) (fun w => Tryz.sizeOf9 w)
def zag (a0 : List (List UInt8)) : Option (List (List UInt8)) := cloneT a0
def zag_T : TFn := cloneT_T .str
theorem zag_ok : TOk zag_F zag_T := cloneT_ok rfl rfl rfl
def zcj_E : Env := (eZ [] [188])
def zcj_H : Hints := (hZ [] [])
def zcj_F : PFn := closeF (runF Tryz.prog zcj_E zcj_H Tryz.f63)
def zcj_Y : TH := { joins := [(6, { keep := [(6, .bool)], mem := [] })], loops := [], ro := [] }
def zcj (a0 : Int) : Option Int :=
 cond (decide (a0 = 1)) (
 some 1) (
(cond (decide (a0 = 2)) (
 some (.inl ((decide (a0 = 2)), ()))) (
 some (.inl ((decide (a0 = 4)), ()))) : Option ((Bool × Unit) ⊕ Int)).bind (joinS fun v1 =>
 cond v1.1 (
 some 2) (
 cond (decide (a0 = 3)) (
 some 3) (
 some 0))))
def zcj_T : TFn := { ps := (.cons (.int .i64) .unit), res := (.int .i64), fn := fun v => zcj v.1 }
def zcj_V : TEnv := (vZ [])
theorem zcj_eq : runY Tryz.prog zcj_E zcj_H zcj_V zcj_Y Tryz.f63 zcj_T.ps zcj_T.res = zcj_T.fn := by kernel_rfl
theorem zcj_Fok : SoundP Tryz.prog G0 63 zcj_F := closeF_sound (runF_sound ⟨same_ok, envP_nil, envS_nil, envP_nil, envX_nil⟩ Tryz.func63 rfl (by kernel_rfl))
theorem zcj_ok : TOk zcj_F zcj_T := runY_ok (E := zcj_E) (ET := zcj_V) (EnvT.ofX (pure_of pairs_nil) looks_nil raws_nil G0_ok news_nil) zcj_eq rfl
theorem zal_FokD : @SoundP ⟨True⟩ Tryz.prog G0 174 zal_F := by
 letI : Drawn := ⟨True⟩
 exact closeF_sound (runF_sound ⟨same_ok, envP_nil, envS_nil, envP_nil, envX_nil⟩ Tryz.func174 rfl (by kernel_rfl))
theorem zak_FokD : @SoundP ⟨True⟩ Tryz.prog G0 126 zak_F := by
 letI : Drawn := ⟨True⟩
 exact closeF_sound (runF_sound ⟨same_ok, (envP_cons zal_FokD envP_nil), envS_nil, envP_nil, envX_nil⟩ Tryz.func126 rfl (by kernel_rfl))
theorem zbr_FokD : @SoundP ⟨True⟩ Tryz.prog G0 124 zbr_F := by
 letI : Drawn := ⟨True⟩
 exact closeF_sound (runF_sound ⟨same_ok, envP_nil, envS_nil, envP_nil, envX_nil⟩ Tryz.func124 rfl (by kernel_rfl))
def zbz_E : Env := (eZ [] [188])
def zbz_H : Hints := (hZ [] [])
def zbz_F : PFn := closeF (runF Tryz.prog zbz_E zbz_H Tryz.f149)
def zbz_Y : TH := yZ
def zbz (a0 : Int) (a1 : Int) : Option Int :=
 cond (decide (a0 < a1)) (
 some (-1)) (
 cond (decide (a0 > a1)) (
 some 1) (
 some 0))
def zbz_T : TFn := { ps := tT14, res := (.int .i64), fn := fun v => zbz v.1 v.2.1 }
def zbz_V : TEnv := (vZ [])
theorem zbz_eq : runY Tryz.prog zbz_E zbz_H zbz_V zbz_Y Tryz.f149 zbz_T.ps zbz_T.res = zbz_T.fn := by kernel_rfl
theorem zbz_Fok : SoundP Tryz.prog G0 149 zbz_F := closeF_sound (runF_sound ⟨same_ok, envP_nil, envS_nil, envP_nil, envX_nil⟩ Tryz.func149 rfl (by kernel_rfl))
theorem zbz_ok : TOk zbz_F zbz_T := runY_ok (E := zbz_E) (ET := zbz_V) (EnvT.ofX (pure_of pairs_nil) looks_nil raws_nil G0_ok news_nil) zbz_eq rfl
def zbb_E : Env := (eZ [(149, zbz_F)] [188])
def zbb_H : Hints := (hZ [(2, [0, 1, 5])] [])
def zbb_F : PFn := closeF (runF Tryz.prog zbb_E zbb_H Tryz.f91)
def zbb_Y : TH := { joins := [(6, { keep := [], mem := [] })], loops := [(2, { keep := [(5, (.int .i64))], mem := [] })], ro := [] }
def zbb_l2 (a0 : List UInt8) (a1 : List UInt8) (y2 : (Int × Unit)) : Option ((Int × Unit) ⊕ (Unit ⊕ Int)) :=
 cond (decide (y2.1 < (a0.length : Int))) (cond (decide (y2.1 < (a1.length : Int))) (
(atI a0 y2.1).bind fun b1 =>
(atI a1 y2.1).bind fun b2 =>
 cond (!decide ((b1.toNat : Int) = (b2.toNat : Int))) (
(atI a0 y2.1).bind fun b3 =>
(atI a1 y2.1).bind fun b4 =>
(zbz (IntKind.wrap .i64 (b3.toNat : Int)) (IntKind.wrap .i64 (b4.toNat : Int))).bind fun r5 =>
 some (.inr (.inr r5))) (
 some (.inl ((IntKind.wrap .i64 (y2.1 + 1)), ())))) (
 some (.inr (.inl ())))) (some (.inr (.inl ())))
def zbb (a0 : List UInt8) (a1 : List UInt8) : Option Int :=
(loopT (zbb_l2 a0 a1) (0, ()) : Option (Unit ⊕ Int)).bind (joinS fun v6 =>
(zbz (a0.length : Int) (a1.length : Int)).bind fun r7 =>
 some r7)
def zbb_T : TFn := { ps := (.cons .str (.cons .str .unit)), res := (.int .i64), fn := fun v => zbb v.1 v.2.1 }
def zbb_V : TEnv := (vZ [(149, zbz_T)])
theorem zbb_eq : runY Tryz.prog zbb_E zbb_H zbb_V zbb_Y Tryz.f91 zbb_T.ps zbb_T.res = zbb_T.fn := by kernel_rfl
theorem zbb_Fok : SoundP Tryz.prog G0 91 zbb_F := closeF_sound (runF_sound ⟨same_ok, (envP_cons zbz_Fok envP_nil), envS_nil, envP_nil, envX_nil⟩ Tryz.func91 rfl (by kernel_rfl))
theorem zbb_ok : TOk zbb_F zbb_T := runY_ok (E := zbb_E) (ET := zbb_V) (EnvT.ofX (pure_of (pairs_cons zbz_ok pairs_nil)) looks_nil raws_nil G0_ok news_nil) zbb_eq rfl
def zap_E : Env := (eZ [(91, zbb_F)] [188])
def zap_H : Hints := (hZ [(2, [0, 1, 5])] [])
def zap_F : PFn := closeF (runF Tryz.prog zap_E zap_H Tryz.f44)
def zap_Y : TH := { joins := [(7, { keep := [], mem := [] })], loops := [(2, { keep := [(5, (.int .i64))], mem := [] })], ro := [] }
def zap_l2 (a0 : List (List UInt8)) (a1 : List (List UInt8)) (y2 : (Int × Unit)) : Option ((Int × Unit) ⊕ (Unit ⊕ Int)) :=
 cond (decide (y2.1 < (a0.length : Int))) (cond (decide (y2.1 < (a1.length : Int))) (
(atI a0 y2.1).bind fun x1 =>
(atI a1 y2.1).bind fun x2 =>
(zbb x1 x2).bind fun r3 =>
 cond (!decide (r3 = 0)) (
 some (.inr (.inr r3))) (
 some (.inl ((IntKind.wrap .i64 (y2.1 + 1)), ())))) (
 some (.inr (.inl ())))) (some (.inr (.inl ())))
def zap (a0 : List (List UInt8)) (a1 : List (List UInt8)) : Option Int :=
(loopT (zap_l2 a0 a1) (0, ()) : Option (Unit ⊕ Int)).bind (joinS fun v4 =>
 cond (decide ((a0.length : Int) < (a1.length : Int))) (
 some (-1)) (
 cond (decide ((a0.length : Int) > (a1.length : Int))) (
 some 1) (
 some 0)))
def zap_T : TFn := { ps := (.cons (.sl .str) (.cons (.sl .str) .unit)), res := (.int .i64), fn := fun v => zap v.1 v.2.1 }
def zap_V : TEnv := (vZ [(91, zbb_T)])
theorem zap_eq : runY Tryz.prog zap_E zap_H zap_V zap_Y Tryz.f44 zap_T.ps zap_T.res = zap_T.fn := by kernel_rfl
theorem zap_Fok : SoundP Tryz.prog G0 44 zap_F := closeF_sound (runF_sound ⟨same_ok, (envP_cons zbb_Fok envP_nil), envS_nil, envP_nil, envX_nil⟩ Tryz.func44 rfl (by kernel_rfl))
theorem zap_ok : TOk zap_F zap_T := runY_ok (E := zap_E) (ET := zap_V) (EnvT.ofX (pure_of (pairs_cons zbb_ok pairs_nil)) looks_nil raws_nil G0_ok news_nil) zap_eq rfl
def zaw_E : Env := (eZ [] [188])
def zaw_H : Hints := (hZ [(4, [0, 1, 5])] [])
def zaw_F : PFn := closeF (runF Tryz.prog zaw_E zaw_H Tryz.f109)
def zaw_Y : TH := { loops := [(4, { keep := [(5, (.int .i64))], mem := [] })], ro := [] }
def zaw_l4 (a0 : List (List UInt8)) (a1 : List (List UInt8)) (y4 : (Int × Unit)) : Option ((Int × Unit) ⊕ Bool) :=
 cond (decide (y4.1 < (a1.length : Int))) (
(atI a0 y4.1).bind fun x1 =>
(atI a1 y4.1).bind fun x2 =>
 cond (!decide (x1 = x2)) (
 some (.inr false)) (
 some (.inl ((IntKind.wrap .i64 (y4.1 + 1)), ())))) (
 some (.inr true))
def zaw (a0 : List (List UInt8)) (a1 : List (List UInt8)) : Option Bool :=
 cond (decide ((a1.length : Int) > (a0.length : Int))) (
 some false) (
 loopT (zaw_l4 a0 a1) (0, ()))
def zaw_T : TFn := { ps := (.cons (.sl .str) (.cons (.sl .str) .unit)), res := .bool, fn := fun v => zaw v.1 v.2.1 }
def zaw_V : TEnv := (vZ [])
theorem zaw_eq : runY Tryz.prog zaw_E zaw_H zaw_V zaw_Y Tryz.f109 zaw_T.ps zaw_T.res = zaw_T.fn := by kernel_rfl
theorem zaw_Fok : SoundP Tryz.prog G0 109 zaw_F := closeF_sound (runF_sound ⟨same_ok, envP_nil, envS_nil, envP_nil, envX_nil⟩ Tryz.func109 rfl (by kernel_rfl))
theorem zaw_ok : TOk zaw_F zaw_T := runY_ok (E := zaw_E) (ET := zaw_V) (EnvT.ofX (pure_of pairs_nil) looks_nil raws_nil G0_ok news_nil) zaw_eq rfl
def zax_E : Env := (eZ [(44, zap_F), (109, zaw_F)] [188])
def zax_H : Hints := (hZ [] [])
def zax_F : PFn := closeF (runF Tryz.prog zax_E zax_H Tryz.f53)
def zax_Y : TH := yZ
def zax (a0 : List (List UInt8)) (a1 : Int) (a2 : List (List UInt8)) (a3 : Int) : Option Bool :=
(zap a0 a2).bind fun r1 =>
 cond (decide (r1 = 0)) (
 some (!decide (a1 = a3))) (
(zaw a0 a2).bind fun r2 =>
 cond r2 (some true) ((zaw a2 a0).bind fun r3 =>
 some r3))
def zax_T : TFn := { ps := (.cons (.sl .str) (.cons (.int .i64) (.cons (.sl .str) (.cons (.int .i64) .unit)))), res := .bool, fn := fun v => zax v.1 v.2.1 v.2.2.1 v.2.2.2.1 }
def zax_V : TEnv := (vZ [(44, zap_T), (109, zaw_T)])
theorem zax_eq : runY Tryz.prog zax_E zax_H zax_V zax_Y Tryz.f53 zax_T.ps zax_T.res = zax_T.fn := by kernel_rfl
theorem zax_Fok : SoundP Tryz.prog G0 53 zax_F := closeF_sound (runF_sound ⟨same_ok, (envP_cons zap_Fok (envP_cons zaw_Fok envP_nil)), envS_nil, envP_nil, envX_nil⟩ Tryz.func53 rfl (by kernel_rfl))
theorem zax_ok : TOk zax_F zax_T := runY_ok (E := zax_E) (ET := zax_V) (EnvT.ofX (pure_of (pairs_cons zap_ok (pairs_cons zaw_ok pairs_nil))) looks_nil raws_nil G0_ok news_nil) zax_eq rfl
def zbq_E : Env := (eZ [] [188])
def zbq_H : Hints := (hZ [(4, [0, 1, 5])] [])
def zbq_F : PFn := closeF (runF Tryz.prog zbq_E zbq_H Tryz.f31)
def zbq_Y : TH := { loops := [(4, { keep := [(5, (.int .i64))], mem := [] })], ro := [] }
def zbq_l4 (a0 : List (List UInt8)) (a1 : List (List UInt8)) (y4 : (Int × Unit)) : Option ((Int × Unit) ⊕ Bool) :=
 cond (decide (y4.1 < (a0.length : Int))) (
(atI a0 y4.1).bind fun x1 =>
(atI a1 y4.1).bind fun x2 =>
 cond (!decide (x1 = x2)) (
 some (.inr false)) (
 some (.inl ((IntKind.wrap .i64 (y4.1 + 1)), ())))) (
 some (.inr true))
def zbq (a0 : List (List UInt8)) (a1 : List (List UInt8)) : Option Bool :=
 cond (!decide ((a0.length : Int) = (a1.length : Int))) (
 some false) (
 loopT (zbq_l4 a0 a1) (0, ()))
def zbq_T : TFn := { ps := (.cons (.sl .str) (.cons (.sl .str) .unit)), res := .bool, fn := fun v => zbq v.1 v.2.1 }
def zbq_V : TEnv := (vZ [])
theorem zbq_eq : runY Tryz.prog zbq_E zbq_H zbq_V zbq_Y Tryz.f31 zbq_T.ps zbq_T.res = zbq_T.fn := by kernel_rfl
theorem zbq_Fok : SoundP Tryz.prog G0 31 zbq_F := closeF_sound (runF_sound ⟨same_ok, envP_nil, envS_nil, envP_nil, envX_nil⟩ Tryz.func31 rfl (by kernel_rfl))
theorem zbq_ok : TOk zbq_F zbq_T := runY_ok (E := zbq_E) (ET := zbq_V) (EnvT.ofX (pure_of pairs_nil) looks_nil raws_nil G0_ok news_nil) zbq_eq rfl
def zbp_E : Env := (eZ [(31, zbq_F)] [188])
def zbp_H : Hints := (hZ [(4, [2, 3, 5])] [])
def zbp_F : PFn := closeF (runF Tryz.prog zbp_E zbp_H Tryz.f17)
def zbp_Y : TH := { loops := [(4, { keep := [(2, (.bx 0 0)), (3, (.bx 1 0)), (5, (.int .i64))], mem := [.same, .same] })], cuts := [(1, [(12, { keep := [(2, (.bx 0 0)), (3, (.bx 1 0)), (17, .bool)], mem := [.same, .same] }), (7, { keep := [(2, (.bx 0 0)), (3, (.bx 1 0)), (24, .bool)], mem := [.same, .same] })])], ro := [2, 3], news := [] }
def zbp_l4 (a0 : vV0) (a1 : vV0) (y4 : (Int × Unit)) : Option ((Int × Unit) ⊕ Bool) :=
 cond (decide (y4.1 < (a0.2.2.2.2.1.length : Int))) (
(atI a0.2.2.2.2.1 y4.1).bind fun x4 =>
(atI a1.2.2.2.2.1 y4.1).bind fun x5 =>
 cond (!(eqV tT9 x4 x5)) (
 some (.inr false)) (
 some (.inl ((IntKind.wrap .i64 (y4.1 + 1)), ())))) (
 some (.inr true))
def zbp (a0 : vV0) (a1 : vV0) : Option Bool :=
(cond (!decide (a0.1 = a1.1)) (some (true, ())) (some ((!(eqV tT10 a0.2.2.1 a1.2.2.1)), ())) : Option (Bool × Unit)).bind fun v1 =>
(cond v1.1 (some (true, ())) (some ((!decide (a0.2.2.2.1 = a1.2.2.2.1)), ())) : Option (Bool × Unit)).bind fun v2 =>
 cond v2.1 (some false) ((zbq a0.2.1 a1.2.1).bind fun r3 =>
 cond (!r3) (some false) (cond (!decide ((a0.2.2.2.2.1.length : Int) = (a1.2.2.2.2.1.length : Int))) (
 some false) (
 loopT (zbp_l4 a0 a1) (0, ()))))
def zbp_T : TFn := { ps := (.cons tT8 (.cons tT8 .unit)), res := .bool, fn := fun v => zbp v.1 v.2.1 }
def zbp_V : TEnv := (vZ [(31, zbq_T)])
theorem zbp_eq : runY Tryz.prog zbp_E zbp_H zbp_V zbp_Y Tryz.f17 zbp_T.ps zbp_T.res = zbp_T.fn := by kernel_rfl
theorem zbp_Fok : SoundP Tryz.prog G0 17 zbp_F := closeF_sound (runF_sound ⟨same_ok, (envP_cons zbq_Fok envP_nil), envS_nil, envP_nil, envX_nil⟩ Tryz.func17 rfl (by kernel_rfl))
theorem zbp_ok : TOk zbp_F zbp_T := runY_ok (E := zbp_E) (ET := zbp_V) (EnvT.ofX (pure_of (pairs_cons zbq_ok pairs_nil)) looks_nil raws_nil G0_ok news_nil) zbp_eq rfl
def zai_F : PFn := decodeF
theorem zai_Fok : SoundP Tryz.prog G0 229 zai_F := decode_sound (g3 := 0) (g4 := 1) ⟨Tryz.f229, Tryz.func229, rfl, by kernel_rfl⟩ (by kernel_rfl) (by kernel_rfl) (fun s w hT => Tryz.utf8_DecodeRuneInString s w hT)
def zai (a0 : List UInt8) : Option (Int × Int × Unit) := decodeT a0
def zai_T : TFn := decodeT_T
theorem zai_ok : TOk zai_F zai_T := decodeT_ok
def zbm_E : Env := (eZ [(229, zai_F)] [188])
def zbm_H : Hints := (hZ [(3, [0, 4, 10])] [])
def zbm_F : PFn := closeF (runF Tryz.prog zbm_E zbm_H Tryz.f193)
def zbm_Y : TH := { joins := [(9, { keep := [(4, (.own 1)), (10, (.it 0))], mem := [.iter, .row true 21 (.int .i32)] })], loops := [(3, { keep := [(4, (.own 1)), (10, (.it 0))], mem := [.iter, .row true 21 (.int .i32)] })], ro := [] }
def zbm_l3 (a0 : List UInt8) (y3 : (Nat × List Int × Unit)) : Option ((Nat × List Int × Unit) ⊕ (List Int × Bool × Unit)) :=
 cond (decide (y3.1 < a0.length)) ((cond (decide (((Utf8.decode ⟨a0.toArray⟩ y3.1).1 : Int) = 65533)) (
(subI a0 (y3.1 : Int) (a0.length : Int)).bind fun s1 =>
(zai s1).bind fun r2 =>
 cond (decide (r2.2.1 ≤ 1)) (
 some (.inr (.inr ([], false, ())))) (
 some (.inl ((y3.1 + (Utf8.decode ⟨a0.toArray⟩ y3.1).2), y3.2.1, ())))) (
 some (.inl ((y3.1 + (Utf8.decode ⟨a0.toArray⟩ y3.1).2), y3.2.1, ()))) : Option ((Nat × List Int × Unit) ⊕ ((Nat × List Int × Unit) ⊕ (List Int × Bool × Unit)))).bind (joinS fun v3 =>
(roomT (v3.2.1.length + ([((Utf8.decode ⟨a0.toArray⟩ y3.1).1 : Int)] : List Int).length)).bind fun u4 =>
 some (.inl (v3.1, (v3.2.1 ++ ([((Utf8.decode ⟨a0.toArray⟩ y3.1).1 : Int)] : List Int)), ())))) (some (.inr (y3.2.1, true, ())))
def zbm (a0 : List UInt8) : Option (List Int × Bool × Unit) :=
 loopT (zbm_l3 a0) (0, [], ())
def zbm_T : TFn := { ps := (.cons .str .unit), res := (.tup (.cons (.sl (.int .i32)) (.cons .bool .unit))), fn := fun v => zbm v.1 }
def zbm_V : TEnv := { pure := [(229, zai_T)], look := [], glob := G0T, ty := [(21, (.int .i32))], raw := [], fresh := [] }
theorem zbm_eq : runY Tryz.prog zbm_E zbm_H zbm_V zbm_Y Tryz.f193 zbm_T.ps zbm_T.res = zbm_T.fn := by kernel_rfl
theorem zbm_Fok : SoundP Tryz.prog G0 193 zbm_F := closeF_sound (runF_sound ⟨same_ok, (envP_cons zai_Fok envP_nil), envS_nil, envP_nil, envX_nil⟩ Tryz.func193 rfl (by kernel_rfl))
theorem zbm_ok : TOk zbm_F zbm_T := runY_ok (E := zbm_E) (ET := zbm_V) (EnvT.ofX (pure_of (pairs_cons zai_ok pairs_nil)) looks_nil raws_nil G0_ok news_nil) zbm_eq rfl
def zcc_E : Env := (eZ [] [188])
def zcc_H : Hints := (hZ [] [])
def zcc_F : PFn := closeF (runF Tryz.prog zcc_E zcc_H Tryz.f194)
def zcc_Y : TH := yZ
def zcc (a0 : Int) : Option Bool :=
 cond (decide (a0 < 32)) (
 cond (decide (a0 < 32)) (
 some false) (
 some (!decide (a0 = 65533)))) (
 cond (decide (a0 ≥ 127)) (cond (decide (a0 < 160)) (
 some false) (
 some (!decide (a0 = 65533)))) (some (!decide (a0 = 65533))))
def zcc_T : TFn := { ps := (.cons (.int .i32) .unit), res := .bool, fn := fun v => zcc v.1 }
def zcc_V : TEnv := (vZ [])
theorem zcc_eq : runY Tryz.prog zcc_E zcc_H zcc_V zcc_Y Tryz.f194 zcc_T.ps zcc_T.res = zcc_T.fn := by kernel_rfl
theorem zcc_Fok : SoundP Tryz.prog G0 194 zcc_F := closeF_sound (runF_sound ⟨same_ok, envP_nil, envS_nil, envP_nil, envX_nil⟩ Tryz.func194 rfl (by kernel_rfl))
theorem zcc_ok : TOk zcc_F zcc_T := runY_ok (E := zcc_E) (ET := zcc_V) (EnvT.ofX (pure_of pairs_nil) looks_nil raws_nil G0_ok news_nil) zcc_eq rfl
def zbf_E : Env := (eZ [(193, zbm_F), (194, zcc_F)] [188])
def zbf_H : Hints := (hZ [(5, [24, 25, 26])] [])
def zbf_F : PFn := closeF (runF Tryz.prog zbf_E zbf_H Tryz.f154)
def zbf_Y : TH := { loops := [(5, { keep := [(26, (.int .i64))], mem := [] })], ro := [] }
def zbf_l5 (r1 : (List Int × Bool × Unit)) (y5 : (Int × Unit)) : Option ((Int × Unit) ⊕ Bool) :=
 cond (decide (y5.1 < (r1.1.length : Int))) (
(atI r1.1 y5.1).bind fun x2 =>
(zcc x2).bind fun r3 =>
 cond (!r3) (
 some (.inr false)) (
 some (.inl ((IntKind.wrap .i64 (y5.1 + 1)), ())))) (
 some (.inr true))
def zbf (a0 : List UInt8) : Option Bool :=
(zbm a0).bind fun r1 =>
 cond (!r1.2.1) (some false) (cond (decide ((r1.1.length : Int) = 0)) (some false) (cond (decide ((r1.1.length : Int) > 24)) (
 some false) (
 loopT (zbf_l5 r1) (0, ()))))
def zbf_T : TFn := { ps := (.cons .str .unit), res := .bool, fn := fun v => zbf v.1 }
def zbf_V : TEnv := (vZ [(193, zbm_T), (194, zcc_T)])
theorem zbf_eq : runY Tryz.prog zbf_E zbf_H zbf_V zbf_Y Tryz.f154 zbf_T.ps zbf_T.res = zbf_T.fn := by kernel_rfl
theorem zbf_Fok : SoundP Tryz.prog G0 154 zbf_F := closeF_sound (runF_sound ⟨same_ok, (envP_cons zbm_Fok (envP_cons zcc_Fok envP_nil)), envS_nil, envP_nil, envX_nil⟩ Tryz.func154 rfl (by kernel_rfl))
theorem zbf_ok : TOk zbf_F zbf_T := runY_ok (E := zbf_E) (ET := zbf_V) (EnvT.ofX (pure_of (pairs_cons zbm_ok (pairs_cons zcc_ok pairs_nil))) looks_nil raws_nil G0_ok news_nil) zbf_eq rfl
def zav_E : Env := (eZ [(154, zbf_F)] [188])
def zav_H : Hints := (hZ [] [])
def zav_F : PFn := closeF (runF Tryz.prog zav_E zav_H Tryz.f153)
def zav_Y : TH := yZ
def zav (a0 : List UInt8) : Option Bool :=
(zbf a0).bind fun r1 =>
 some (!r1)
def zav_T : TFn := { ps := (.cons .str .unit), res := .bool, fn := fun v => zav v.1 }
def zav_V : TEnv := (vZ [(154, zbf_T)])
theorem zav_eq : runY Tryz.prog zav_E zav_H zav_V zav_Y Tryz.f153 zav_T.ps zav_T.res = zav_T.fn := by kernel_rfl
theorem zav_Fok : SoundP Tryz.prog G0 153 zav_F := closeF_sound (runF_sound ⟨same_ok, (envP_cons zbf_Fok envP_nil), envS_nil, envP_nil, envX_nil⟩ Tryz.func153 rfl (by kernel_rfl))
theorem zav_ok : TOk zav_F zav_T := runY_ok (E := zav_E) (ET := zav_V) (EnvT.ofX (pure_of (pairs_cons zbf_ok pairs_nil)) looks_nil raws_nil G0_ok news_nil) zav_eq rfl
def zae_E : Env := (eZ [(153, zav_F)] [188])
def zae_H : Hints := (hZ [(2, [0, 1, 7, 8])] [])
def zae_F : PFn := closeF (runF Tryz.prog zae_E zae_H Tryz.f192)
def zae_Y : TH := { loops := [(2, { keep := [(8, (.int .i64))], mem := [] })], ro := [] }
def zae_l2 (a0 : List (List UInt8)) (y2 : (Int × Unit)) : Option ((Int × Unit) ⊕ Int) :=
 cond (decide (y2.1 < (a0.length : Int))) (
(atI a0 y2.1).bind fun x1 =>
(zav x1).bind fun r2 =>
 cond r2 (
 some (.inr y2.1)) (
 some (.inl ((IntKind.wrap .i64 (y2.1 + 1)), ())))) (
 some (.inr (-1)))
def zae (a0 : List (List UInt8)) (a1 : Unit) : Option Int :=
 loopT (zae_l2 a0) (0, ())
def zae_T : TFn := { ps := (.cons (.sl .str) (.cons (.fn 153) .unit)), res := (.int .i64), fn := fun v => zae v.1 v.2.1 }
def zae_V : TEnv := (vZ [(153, zav_T)])
theorem zae_eq : runY Tryz.prog zae_E zae_H zae_V zae_Y Tryz.f192 zae_T.ps zae_T.res = zae_T.fn := by kernel_rfl
theorem zae_Fok : SoundP Tryz.prog G0 192 zae_F := closeF_sound (runF_sound ⟨same_ok, (envP_cons zav_Fok envP_nil), envS_nil, envP_nil, envX_nil⟩ Tryz.func192 rfl (by kernel_rfl))
theorem zae_ok : TOk zae_F zae_T := runY_ok (E := zae_E) (ET := zae_V) (EnvT.ofX (pure_of (pairs_cons zav_ok pairs_nil)) looks_nil raws_nil G0_ok news_nil) zae_eq rfl
def zad_E : Env := (eZ [(192, zae_F)] [188])
def zad_H : Hints := (hZ [] [])
def zad_F : PFn := closeF (runF Tryz.prog zad_E zad_H Tryz.f152)
def zad_Y : TH := yZ
def zad (a0 : List (List UInt8)) (a1 : Unit) : Option Bool :=
(zae a0 a1).bind fun r1 =>
 some (decide (r1 ≥ 0))
def zad_T : TFn := { ps := (.cons (.sl .str) (.cons (.fn 153) .unit)), res := .bool, fn := fun v => zad v.1 v.2.1 }
def zad_V : TEnv := (vZ [(192, zae_T)])
theorem zad_eq : runY Tryz.prog zad_E zad_H zad_V zad_Y Tryz.f152 zad_T.ps zad_T.res = zad_T.fn := by kernel_rfl
theorem zad_Fok : SoundP Tryz.prog G0 152 zad_F := closeF_sound (runF_sound ⟨same_ok, (envP_cons zae_Fok envP_nil), envS_nil, envP_nil, envX_nil⟩ Tryz.func152 rfl (by kernel_rfl))
theorem zad_ok : TOk zad_F zad_T := runY_ok (E := zad_E) (ET := zad_V) (EnvT.ofX (pure_of (pairs_cons zae_ok pairs_nil)) looks_nil raws_nil G0_ok news_nil) zad_eq rfl
def zbw_E : Env := (eZ [(152, zad_F)] [188])
def zbw_H : Hints := (hZ [] [])
def zbw_F : PFn := closeF (runF Tryz.prog zbw_E zbw_H Tryz.f97)
def zbw_Y : TH := yZ
def zbw (a0 : List (List UInt8)) : Option Int :=
 cond (decide ((a0.length : Int) = 0)) (
 some 8) (
 cond (decide ((a0.length : Int) > 8)) (
 some 9) (
(zad a0 ()).bind fun r1 =>
 cond r1 (
 some 8) (
 some 0)))
def zbw_T : TFn := { ps := (.cons (.sl .str) .unit), res := (.int .i64), fn := fun v => zbw v.1 }
def zbw_V : TEnv := (vZ [(152, zad_T)])
theorem zbw_eq : runY Tryz.prog zbw_E zbw_H zbw_V zbw_Y Tryz.f97 zbw_T.ps zbw_T.res = zbw_T.fn := by kernel_rfl
theorem zbw_Fok : SoundP Tryz.prog G0 97 zbw_F := closeF_sound (runF_sound ⟨same_ok, (envP_cons zad_Fok envP_nil), envS_nil, envP_nil, envX_nil⟩ Tryz.func97 rfl (by kernel_rfl))
theorem zbw_ok : TOk zbw_F zbw_T := runY_ok (E := zbw_E) (ET := zbw_V) (EnvT.ofX (pure_of (pairs_cons zad_ok pairs_nil)) looks_nil raws_nil G0_ok news_nil) zbw_eq rfl
def zbd_E : Env := (eZ [(193, zbm_F)] [188])
def zbd_H : Hints := (hZ [] [])
def zbd_F : PFn := closeF (runF Tryz.prog zbd_E zbd_H Tryz.f155)
def zbd_Y : TH := { loops := [], ro := [1] }
def zbd (a0 : vV6) : Option Bool :=
 cond (decide (a0.1 = 1)) (
 cond (decide (a0.2.2.1 = [])) (cond (decide (a0.2.1 ≥ (-2147483647))) (some (decide (a0.2.1 ≤ 2147483647))) (some false)) (some false)) (
 cond (decide (a0.1 = 2)) (
(zbm a0.2.2.1).bind fun r1 =>
 cond r1.2.1 (cond (decide (a0.2.1 = 0)) (some (decide ((a0.2.2.1.length : Int) ≤ 64))) (some false)) (some false)) (
 cond (decide (a0.1 = 3)) (
 cond (decide (a0.2.2.1 = [])) (cond (decide (a0.2.1 = 0)) (some true) (some (decide (a0.2.1 = 1)))) (some false)) (
 some false)))
def zbd_T : TFn := { ps := (.cons tT10 .unit), res := .bool, fn := fun v => zbd v.1 }
def zbd_V : TEnv := (vZ [(193, zbm_T)])
theorem zbd_eq : runY Tryz.prog zbd_E zbd_H zbd_V zbd_Y Tryz.f155 zbd_T.ps zbd_T.res = zbd_T.fn := by kernel_rfl
theorem zbd_Fok : SoundP Tryz.prog G0 155 zbd_F := closeF_sound (runF_sound ⟨same_ok, (envP_cons zbm_Fok envP_nil), envS_nil, envP_nil, envX_nil⟩ Tryz.func155 rfl (by kernel_rfl))
theorem zbd_ok : TOk zbd_F zbd_T := runY_ok (E := zbd_E) (ET := zbd_V) (EnvT.ofX (pure_of (pairs_cons zbm_ok pairs_nil)) looks_nil raws_nil G0_ok news_nil) zbd_eq rfl
def zb4_E : Env := (eZ [(155, zbd_F)] [188])
def zb4_H : Hints := (hZ [] [])
def zb4_F : PFn := closeF (runF Tryz.prog zb4_E zb4_H Tryz.f98)
def zb4_Y : TH := { loops := [], ro := [1] }
def zb4 (a0 : vV0) : Option Bool :=
 cond (decide (a0.1 = 3)) (some (eqV tT10 a0.2.2.1 (0, 0, [], ()))) (cond (decide (a0.1 = 5)) (
 some (eqV tT10 a0.2.2.1 (0, 0, [], ()))) (
(zbd a0.2.2.1).bind fun r1 =>
 some r1))
def zb4_T : TFn := { ps := (.cons tT8 .unit), res := .bool, fn := fun v => zb4 v.1 }
def zb4_V : TEnv := (vZ [(155, zbd_T)])
theorem zb4_eq : runY Tryz.prog zb4_E zb4_H zb4_V zb4_Y Tryz.f98 zb4_T.ps zb4_T.res = zb4_T.fn := by kernel_rfl
theorem zb4_Fok : SoundP Tryz.prog G0 98 zb4_F := closeF_sound (runF_sound ⟨same_ok, (envP_cons zbd_Fok envP_nil), envS_nil, envP_nil, envX_nil⟩ Tryz.func98 rfl (by kernel_rfl))
theorem zb4_ok : TOk zb4_F zb4_T := runY_ok (E := zb4_E) (ET := zb4_V) (EnvT.ofX (pure_of (pairs_cons zbd_ok pairs_nil)) looks_nil raws_nil G0_ok news_nil) zb4_eq rfl
def zb1_E : Env := (eZ [] [188])
def zb1_H : Hints := (hZ [] [])
def zb1_F : PFn := closeF (runF Tryz.prog zb1_E zb1_H Tryz.f99)
def zb1_Y : TH := { loops := [], ro := [1] }
def zb1 (a0 : vV0) : Option Bool :=
 cond (decide (a0.1 = 3)) (
 cond (!decide (a0.2.2.2.1 = 0)) (cond (decide (a0.2.2.2.1 ≥ (-2147483647))) (some (decide (a0.2.2.2.1 ≤ 2147483647))) (some false)) (some false)) (
 some (decide (a0.2.2.2.1 = 0)))
def zb1_T : TFn := { ps := (.cons tT8 .unit), res := .bool, fn := fun v => zb1 v.1 }
def zb1_V : TEnv := (vZ [])
theorem zb1_eq : runY Tryz.prog zb1_E zb1_H zb1_V zb1_Y Tryz.f99 zb1_T.ps zb1_T.res = zb1_T.fn := by kernel_rfl
theorem zb1_Fok : SoundP Tryz.prog G0 99 zb1_F := closeF_sound (runF_sound ⟨same_ok, envP_nil, envS_nil, envP_nil, envX_nil⟩ Tryz.func99 rfl (by kernel_rfl))
theorem zb1_ok : TOk zb1_F zb1_T := runY_ok (E := zb1_E) (ET := zb1_V) (EnvT.ofX (pure_of pairs_nil) looks_nil raws_nil G0_ok news_nil) zb1_eq rfl
def zca_E : Env := (eZ [] [188])
def zca_H : Hints := (hZ [] [])
def zca_F : PFn := closeF (runF Tryz.prog zca_E zca_H Tryz.f156)
def zca_Y : TH := { loops := [], ro := [1] }
def zca (a0 : (Int × Int × Unit)) : Option Bool :=
 cond (decide (a0.1 ≥ 0)) (cond (decide (a0.1 < 16)) (cond (decide (a0.2.1 ≥ 1)) (some (decide (a0.2.1 ≤ 1048576))) (some false)) (some false)) (some false)
def zca_T : TFn := { ps := (.cons (.agg tT14) .unit), res := .bool, fn := fun v => zca v.1 }
def zca_V : TEnv := (vZ [])
theorem zca_eq : runY Tryz.prog zca_E zca_H zca_V zca_Y Tryz.f156 zca_T.ps zca_T.res = zca_T.fn := by kernel_rfl
theorem zca_Fok : SoundP Tryz.prog G0 156 zca_F := closeF_sound (runF_sound ⟨same_ok, envP_nil, envS_nil, envP_nil, envX_nil⟩ Tryz.func156 rfl (by kernel_rfl))
theorem zca_ok : TOk zca_F zca_T := runY_ok (E := zca_E) (ET := zca_V) (EnvT.ofX (pure_of pairs_nil) looks_nil raws_nil G0_ok news_nil) zca_eq rfl
def zcb_E : Env := (eZ [(119, za9_F), (124, zbr_F), (126, zak_F)] [188])
def zcb_H : Hints := (hZ [] [])
def zcb_F : PFn := closeF (runF Tryz.prog zcb_E zcb_H Tryz.f108)
def zcb_Y : TH := { loops := [], ro := [2, 3] }
def zcb (a0 : vV1) (a1 : vV1) : Option Int :=
(za9 a0.1 a1.1).bind fun r1 =>
(zak a0.2.1 a1.2.1).bind fun r2 =>
(zbr ([r1, r2] : List Int)).bind fun r3 =>
 some r3
def zcb_T : TFn := { ps := (.cons tT9 (.cons tT9 .unit)), res := (.int .i64), fn := fun v => zcb v.1 v.2.1 }
def zcb_V : TEnv := { pure := [(119, za9_T), (124, zbr_T), (126, zak_T)], look := [], glob := G0T, ty := [(3, (.int .i64))], raw := [], fresh := [] }
theorem zcb_eq : runY Tryz.prog zcb_E zcb_H zcb_V zcb_Y Tryz.f108 zcb_T.ps zcb_T.res = zcb_T.fn := by kernel_rfl
theorem zcb_Fok : SoundP Tryz.prog G0 108 zcb_F := closeF_sound (runF_sound ⟨same_ok, (envP_cons za9_Fok (envP_cons zbr_Fok (envP_cons zak_Fok envP_nil))), envS_nil, envP_nil, envX_nil⟩ Tryz.func108 rfl (by kernel_rfl))
theorem zcb_ok : TOk zcb_F zcb_T := runY_ok (E := zcb_E) (ET := zcb_V) (EnvT.ofX (pure_of (pairs_cons za9_ok (pairs_cons zbr_ok (pairs_cons zak_ok pairs_nil)))) looks_nil raws_nil G0_ok news_nil) zcb_eq rfl
theorem za9_FokD : @SoundP ⟨True⟩ Tryz.prog G0 119 za9_F := by
 letI : Drawn := ⟨True⟩
 exact closeF_sound (runF_sound ⟨same_ok, (envP_cons zbr_FokD (envP_cons zak_FokD envP_nil)), envS_nil, envP_nil, envX_nil⟩ Tryz.func119 rfl (by kernel_rfl))
theorem zcb_FokD : @SoundP ⟨True⟩ Tryz.prog G0 108 zcb_F := by
 letI : Drawn := ⟨True⟩
 exact closeF_sound (runF_sound ⟨same_ok, (envP_cons za9_FokD (envP_cons zbr_FokD (envP_cons zak_FokD envP_nil))), envS_nil, envP_nil, envX_nil⟩ Tryz.func108 rfl (by kernel_rfl))
def zaf_ren : Go.Shelf.Ren := ⟨fun | 6 => 107 | 14 => 158 | 15 => 123 | 20 => 195 | 21 => 196 | 22 => 197 | 23 => 198 | 24 => 199 | 25 => 200 | 26 => 201 | 27 => 202 | 28 => 171 | 29 => 172 | 46 => 230 | 47 => 205 | 48 => 206 | 49 => 231 | 50 => 232 | 57 => 250 | n => n, fun | 0 => 0 | 3 => 3 | 4 => 4 | 5 => 5 | 9 => 9 | 22 => 27 | 24 => 94 | 25 => 101 | 39 => 162 | 45 => 194 | 46 => 195 | 50 => 155 | 53 => 201 | 55 => 203 | 66 => 223 | 70 => 227 | 76 => 249 | 77 => 189 | n => n, fun | n => n⟩
theorem zaf_lays : Go.Proofs.SlLaysF0.n6 Tryz.prog zaf_ren := {
 mixed := by kernel_rfl
 f6 := ⟨Tryz.f107.name, by decide, Tryz.func107.trans (congrArg some (by kernel_rfl))⟩
 f14 := ⟨Tryz.f158.name, by decide, Tryz.func158.trans (congrArg some (by kernel_rfl))⟩
 f15 := Tryz.func123.trans (congrArg some (by kernel_rfl))
 f20 := ⟨Tryz.f195.name, by decide, Tryz.func195.trans (congrArg some (by kernel_rfl))⟩
 f21 := ⟨Tryz.f196.name, by decide, Tryz.func196.trans (congrArg some (by kernel_rfl))⟩
 f22 := ⟨Tryz.f197.name, by decide, Tryz.func197.trans (congrArg some (by kernel_rfl))⟩
 f23 := ⟨Tryz.f198.name, by decide, Tryz.func198.trans (congrArg some (by kernel_rfl))⟩
 f24 := ⟨Tryz.f199.name, by decide, Tryz.func199.trans (congrArg some (by kernel_rfl))⟩
 f25 := ⟨Tryz.f200.name, by decide, Tryz.func200.trans (congrArg some (by kernel_rfl))⟩
 f26 := ⟨Tryz.f201.name, by decide, Tryz.func201.trans (congrArg some (by kernel_rfl))⟩
 f27 := ⟨Tryz.f202.name, by decide, Tryz.func202.trans (congrArg some (by kernel_rfl))⟩
 f28 := Tryz.func171.trans (congrArg some (by kernel_rfl))
 f29 := Tryz.func172.trans (congrArg some (by kernel_rfl))
 f46 := ⟨Tryz.f230.name, by decide, Tryz.func230.trans (congrArg some (by kernel_rfl))⟩
 f47 := Tryz.func205.trans (congrArg some (by kernel_rfl))
 f48 := Tryz.func206.trans (congrArg some (by kernel_rfl))
 f49 := ⟨Tryz.f231.name, by decide, Tryz.func231.trans (congrArg some (by kernel_rfl))⟩
 f50 := ⟨Tryz.f232.name, by decide, Tryz.func232.trans (congrArg some (by kernel_rfl))⟩
 f57 := ⟨Tryz.f250.name, by decide, Tryz.func250.trans (congrArg some (by kernel_rfl))⟩
 t0 := Tryz.underlying0
 a0 := Tryz.isAgg0
 z0 := Tryz.sizeOf0
 v0 := Tryz.zeroValue0
 t3 := Tryz.underlying3
 a3 := Tryz.isAgg3
 z3 := Tryz.sizeOf3
 v3 := Tryz.zeroValue3
 t4 := Tryz.underlying4
 a4 := Tryz.isAgg4
 z4 := Tryz.sizeOf4
 v4 := Tryz.zeroValue4
 t5 := Tryz.underlying5
 a5 := Tryz.isAgg5
 z5 := Tryz.sizeOf5
 v5 := Tryz.zeroValue5
 t9 := Tryz.underlying9
 a9 := Tryz.isAgg9
 z9 := Tryz.sizeOf9
 v9 := Tryz.zeroValue9
 t22 := Tryz.underlying27
 a22 := Tryz.isAgg27
 z22 := Tryz.sizeOf27
 v22 := Tryz.zeroValue27
 t25 := Tryz.underlying101
 a25 := Tryz.isAgg101
 z25 := Tryz.sizeOf101
 v25 := Tryz.zeroValue101
 t39 := Tryz.underlying162
 a39 := Tryz.isAgg162
 z39 := Tryz.sizeOf162
 v39 := Tryz.zeroValue162
 t45 := Tryz.underlying194
 a45 := Tryz.isAgg194
 z45 := Tryz.sizeOf194
 v45 := Tryz.zeroValue194
 t46 := Tryz.underlying195
 a46 := Tryz.isAgg195
 z46 := Tryz.sizeOf195
 v46 := Tryz.zeroValue195
 t50 := Tryz.underlying155
 a50 := Tryz.isAgg155
 z50 := Tryz.sizeOf155
 v50 := Tryz.zeroValue155
 t53 := Tryz.underlying201
 a53 := Tryz.isAgg201
 z53 := Tryz.sizeOf201
 v53 := Tryz.zeroValue201
 t55 := Tryz.underlying203
 a55 := Tryz.isAgg203
 z55 := Tryz.sizeOf203
 v55 := Tryz.zeroValue203
 t66 := Tryz.underlying223
 a66 := Tryz.isAgg223
 z66 := Tryz.sizeOf223
 v66 := Tryz.zeroValue223
 t70 := Tryz.underlying227
 a70 := Tryz.isAgg227
 z70 := Tryz.sizeOf227
 v70 := Tryz.zeroValue227
 t76 := Tryz.underlying249
 a76 := Tryz.isAgg249
 z76 := Tryz.sizeOf249
 v76 := Tryz.zeroValue249
 t77 := Tryz.underlying189
 a77 := Tryz.isAgg189
 z77 := Tryz.sizeOf189
 v77 := Tryz.zeroValue189 }
def zaf_S : SFn := sortS zcb_F 108 3 94
theorem zaf_Sok : SoundS Tryz.prog G0 107 zaf_S := sortS_sound (M := 3) (g := 108) zaf_lays (by decide) (fun w => Tryz.isAgg94 w) (fun w => Tryz.sizeOf94 w) zcb_FokD ⟨Tryz.f107, Tryz.func107, rfl, by kernel_rfl⟩
def zaf (w0 : List vV1) : Option (Unit × List vV1 × Unit) := (sortT (fun x y => zcb x y) w0).map fun l => ((), (l, ()))
def zaf_R : TRaw := sortR false 108 94 tT9 (fun x y => zcb x y)
theorem zaf_ok : TRawOk zaf_S zaf_R := sortR_ok rfl rfl rfl rfl zcb_ok
def zci_E : Env := (eZ [(108, zcb_F), (156, zca_F)] [188])
def zci_H : Hints := (hZ [(2, [0, 5, 6, 7])] [])
def zci_F : PFn := closeF (runF Tryz.prog zci_E zci_H Tryz.f100)
def zci_Y : TH := { loops := [(2, { keep := [(7, (.int .i64))], mem := [] })], cuts := [(4, [(9, { keep := [(4, (.bx 0 0)), (20, .bool)], mem := [.box 94 tT9] }), (5, { keep := [(4, (.bx 0 0)), (25, .bool)], mem := [.box 94 tT9] })])], ro := [], news := [] }
def zci_l2 (a0 : List vV1) (y2 : (Int × Unit)) : Option ((Int × Unit) ⊕ Bool) :=
 cond (decide (y2.1 < (a0.length : Int))) (
(atI a0 y2.1).bind fun x1 =>
((zca x1.1).bind fun r2 =>
 cond (!r2) (some (true, x1, ())) (some ((decide (x1.2.1 < 0)), x1, ())) : Option (Bool × vV1 × Unit)).bind fun v3 =>
(cond v3.1 (some (true, v3.2.1, ())) (some ((decide (v3.2.1.2.1 ≥ 16)), v3.2.1, ())) : Option (Bool × vV1 × Unit)).bind fun v4 =>
 cond v4.1 (some (.inr false)) (cond (decide (y2.1 > 0)) ((atI a0 (IntKind.wrap .i64 (y2.1 - 1))).bind fun x5 =>
(zcb x5 v4.2.1).bind fun r6 =>
 cond (decide (r6 ≥ 0)) (
 some (.inr false)) (
 some (.inl ((IntKind.wrap .i64 (y2.1 + 1)), ())))) (some (.inl ((IntKind.wrap .i64 (y2.1 + 1)), ()))))) (
 some (.inr true))
def zci (a0 : List vV1) : Option Bool :=
 loopT (zci_l2 a0) (0, ())
def zci_T : TFn := { ps := (.cons (.sl tT9) .unit), res := .bool, fn := fun v => zci v.1 }
def zci_V : TEnv := (vZ [(108, zcb_T), (156, zca_T)])
theorem zci_eq : runY Tryz.prog zci_E zci_H zci_V zci_Y Tryz.f100 zci_T.ps zci_T.res = zci_T.fn := by kernel_rfl
theorem zci_Fok : SoundP Tryz.prog G0 100 zci_F := closeF_sound (runF_sound ⟨same_ok, (envP_cons zcb_Fok (envP_cons zca_Fok envP_nil)), envS_nil, envP_nil, envX_nil⟩ Tryz.func100 rfl (by kernel_rfl))
theorem zci_ok : TOk zci_F zci_T := runY_ok (E := zci_E) (ET := zci_V) (EnvT.ofX (pure_of (pairs_cons zcb_ok (pairs_cons zca_ok pairs_nil))) looks_nil raws_nil G0_ok news_nil) zci_eq rfl
def zcd_E : Env := (eZ [(97, zbw_F), (98, zb4_F), (99, zb1_F), (100, zci_F)] [188])
def zcd_H : Hints := (hZ [] [])
def zcd_F : PFn := closeF (runF Tryz.prog zcd_E zcd_H Tryz.f48)
def zcd_Y : TH := { joins := [(10, { keep := [(1, (.bx 0 0)), (32, .bool)], mem := [.same] })], loops := [], cuts := [(6, [(8, { keep := [(1, (.bx 0 0)), (26, .bool)], mem := [.same] }), (5, { keep := [(1, (.bx 0 0)), (31, .bool)], mem := [.same] })]), (9, [(8, { keep := [(1, (.bx 0 0)), (46, .bool)], mem := [.same] })])], ro := [1], news := [] }
def zcd (a0 : vV0) : Option Int :=
 cond (decide (a0.1 < 1)) (some 18) (cond (decide (a0.1 > 5)) (
 some 18) (
(zbw a0.2.1).bind fun r1 =>
 cond (!decide (r1 = 0)) (
 some r1) (
(cond (decide (a0.1 = 1)) (some (true, ())) (some ((decide (a0.1 = 4)), ())) : Option (Bool × Unit)).bind fun v2 =>
(cond v2.1 (some (true, ())) (some ((decide (a0.1 = 5)), ())) : Option (Bool × Unit)).bind fun v3 =>
((zb4 a0).bind fun r4 =>
 cond (!r4) (
 some (.inl ((!r4), ()))) (
(zb1 a0).bind fun r5 =>
 cond (!r5) (
 some (.inl ((!r5), ()))) (
(cond (!v3.1) (some ((decide ((a0.2.2.2.2.1.length : Int) > 0)), ())) (some (false, ())) : Option (Bool × Unit)).bind fun v6 =>
 some (.inl (v6.1, ())))) : Option ((Bool × Unit) ⊕ Int)).bind (joinS fun v7 =>
 cond v7.1 (
 some 2) (
 cond (decide ((a0.2.2.2.2.1.length : Int) > 256)) (
 some 7) (
(zci a0.2.2.2.2.1).bind fun r8 =>
 cond (!r8) (
 some 2) (
 some 0)))))))
def zcd_T : TFn := { ps := (.cons tT8 .unit), res := (.int .i64), fn := fun v => zcd v.1 }
def zcd_V : TEnv := (vZ [(97, zbw_T), (98, zb4_T), (99, zb1_T), (100, zci_T)])
theorem zcd_eq : runY Tryz.prog zcd_E zcd_H zcd_V zcd_Y Tryz.f48 zcd_T.ps zcd_T.res = zcd_T.fn := by kernel_rfl
theorem zcd_Fok : SoundP Tryz.prog G0 48 zcd_F := closeF_sound (runF_sound ⟨same_ok, (envP_cons zbw_Fok (envP_cons zb4_Fok (envP_cons zb1_Fok (envP_cons zci_Fok envP_nil)))), envS_nil, envP_nil, envX_nil⟩ Tryz.func48 rfl (by kernel_rfl))
theorem zcd_ok : TOk zcd_F zcd_T := runY_ok (E := zcd_E) (ET := zcd_V) (EnvT.ofX (pure_of (pairs_cons zbw_ok (pairs_cons zb4_ok (pairs_cons zb1_ok (pairs_cons zci_ok pairs_nil))))) looks_nil raws_nil G0_ok news_nil) zcd_eq rfl
def zah_E : Env := (eZ [] [188])
def zah_H : Hints := (hZ [(4, [0, 1, 12, 13])] [])
def zah_F : PFn := closeF (runF Tryz.prog zah_E zah_H Tryz.f132)
def zah_Y : TH := { loops := [(4, { keep := [(13, (.int .i64))], mem := [] })], ro := [] }
def zah_l4 (a0 : List (List UInt8)) (a1 : List (List UInt8)) (y4 : (Int × Unit)) : Option ((Int × Unit) ⊕ Bool) :=
 cond (decide (y4.1 < (a0.length : Int))) (
(atI a0 y4.1).bind fun x1 =>
(atI a1 y4.1).bind fun x2 =>
 cond (!decide (x1 = x2)) (
 some (.inr false)) (
 some (.inl ((IntKind.wrap .i64 (y4.1 + 1)), ())))) (
 some (.inr true))
def zah (a0 : List (List UInt8)) (a1 : List (List UInt8)) : Option Bool :=
 cond (!decide ((a0.length : Int) = (a1.length : Int))) (
 some false) (
 loopT (zah_l4 a0 a1) (0, ()))
def zah_T : TFn := { ps := (.cons (.sl .str) (.cons (.sl .str) .unit)), res := .bool, fn := fun v => zah v.1 v.2.1 }
def zah_V : TEnv := (vZ [])
theorem zah_eq : runY Tryz.prog zah_E zah_H zah_V zah_Y Tryz.f132 zah_T.ps zah_T.res = zah_T.fn := by kernel_rfl
theorem zah_Fok : SoundP Tryz.prog G0 132 zah_F := closeF_sound (runF_sound ⟨same_ok, envP_nil, envS_nil, envP_nil, envX_nil⟩ Tryz.func132 rfl (by kernel_rfl))
theorem zah_ok : TOk zah_F zah_T := runY_ok (E := zah_E) (ET := zah_V) (EnvT.ofX (pure_of pairs_nil) looks_nil raws_nil G0_ok news_nil) zah_eq rfl
def zb8_E : Env := (eZ [(132, zah_F)] [188])
def zb8_H : Hints := (hZ [] [])
def zb8_F : PFn := closeF (runF Tryz.prog zb8_E zb8_H Tryz.f72)
def zb8_Y : TH := yZ
def zb8 (a0 : List (List UInt8)) (a1 : List (List UInt8)) : Option Bool :=
(zah a0 a1).bind fun r1 =>
 some r1
def zb8_T : TFn := { ps := (.cons (.sl .str) (.cons (.sl .str) .unit)), res := .bool, fn := fun v => zb8 v.1 v.2.1 }
def zb8_V : TEnv := (vZ [(132, zah_T)])
theorem zb8_eq : runY Tryz.prog zb8_E zb8_H zb8_V zb8_Y Tryz.f72 zb8_T.ps zb8_T.res = zb8_T.fn := by kernel_rfl
theorem zb8_Fok : SoundP Tryz.prog G0 72 zb8_F := closeF_sound (runF_sound ⟨same_ok, (envP_cons zah_Fok envP_nil), envS_nil, envP_nil, envX_nil⟩ Tryz.func72 rfl (by kernel_rfl))
theorem zb8_ok : TOk zb8_F zb8_T := runY_ok (E := zb8_E) (ET := zb8_V) (EnvT.ofX (pure_of (pairs_cons zah_ok pairs_nil)) looks_nil raws_nil G0_ok news_nil) zb8_eq rfl
def zbn_E : Env := (eZ [(132, zah_F)] [188])
def zbn_H : Hints := (hZ [] [])
def zbn_F : PFn := closeF (runF Tryz.prog zbn_E zbn_H Tryz.f103)
def zbn_Y : TH := yZ
def zbn (a0 : List (List UInt8)) (a1 : List (List UInt8)) : Option Bool :=
 cond (decide ((a0.length : Int) ≥ (a1.length : Int))) ((subI a0 0 (a1.length : Int)).bind fun s1 =>
(zah s1 a1).bind fun r2 =>
 some r2) (some false)
def zbn_T : TFn := { ps := (.cons (.sl .str) (.cons (.sl .str) .unit)), res := .bool, fn := fun v => zbn v.1 v.2.1 }
def zbn_V : TEnv := (vZ [(132, zah_T)])
theorem zbn_eq : runY Tryz.prog zbn_E zbn_H zbn_V zbn_Y Tryz.f103 zbn_T.ps zbn_T.res = zbn_T.fn := by kernel_rfl
theorem zbn_Fok : SoundP Tryz.prog G0 103 zbn_F := closeF_sound (runF_sound ⟨same_ok, (envP_cons zah_Fok envP_nil), envS_nil, envP_nil, envX_nil⟩ Tryz.func103 rfl (by kernel_rfl))
theorem zbn_ok : TOk zbn_F zbn_T := runY_ok (E := zbn_E) (ET := zbn_V) (EnvT.ofX (pure_of (pairs_cons zah_ok pairs_nil)) looks_nil raws_nil G0_ok news_nil) zbn_eq rfl
def zam_E : Env := (eZ [(63, zcj_F), (72, zb8_F), (103, zbn_F)] [188])
def zam_H : Hints := (hZ [] [])
def zam_F : PFn := closeF (runF Tryz.prog zam_E zam_H Tryz.f102)
def zam_Y : TH := { loops := [], ro := [3] }
def zam (a0 : vV5) (a1 : vV0) (a2 : Int) : Option Bool :=
(zb8 a0.2.1.2.1 a1.2.1).bind fun r1 =>
 cond r1 (
(zcj a0.2.1.1).bind fun r2 =>
 some (!decide (r2 = a2))) (
(zbn a0.2.1.2.1 a1.2.1).bind fun r3 =>
 cond r3 (some true) ((zbn a1.2.1 a0.2.1.2.1).bind fun r4 =>
 some r4))
def zam_T : TFn := { ps := (.cons tT12 (.cons (.rp tT8 0) (.cons (.rp (.int .i64) 0) .unit))), res := .bool, fn := fun v => zam v.1 v.2.1 v.2.2.1 }
def zam_V : TEnv := (vZ [(63, zcj_T), (72, zb8_T), (103, zbn_T)])
theorem zam_eq : runY Tryz.prog zam_E zam_H zam_V zam_Y Tryz.f102 zam_T.ps zam_T.res = zam_T.fn := by kernel_rfl
theorem zam_Fok : SoundP Tryz.prog G0 102 zam_F := closeF_sound (runF_sound ⟨same_ok, (envP_cons zcj_Fok (envP_cons zb8_Fok (envP_cons zbn_Fok envP_nil))), envS_nil, envP_nil, envX_nil⟩ Tryz.func102 rfl (by kernel_rfl))
theorem zam_ok : TOk zam_F zam_T := runY_ok (E := zam_E) (ET := zam_V) (EnvT.ofX (pure_of (pairs_cons zcj_ok (pairs_cons zb8_ok (pairs_cons zbn_ok pairs_nil)))) looks_nil raws_nil G0_ok news_nil) zam_eq rfl
def zac_E : Env := (eZ [(102, zam_F)] [188])
def zac_H : Hints := (hZ [(2, [0, 1, 7, 8])] [])
def zac_F : PFn := closeF (runF Tryz.prog zac_E zac_H Tryz.f157)
def zac_Y : TH := { loops := [(2, { keep := [(8, (.int .i64))], mem := [] })], ro := [] }
def zac_l2 (a0 : List vV5) (a1 : (vV0 × Int × Unit)) (y2 : (Int × Unit)) : Option ((Int × Unit) ⊕ Int) :=
 cond (decide (y2.1 < (a0.length : Int))) (
(atI a0 y2.1).bind fun x1 =>
(zam x1 a1.1 a1.2.1).bind fun r2 =>
 cond r2 (
 some (.inr y2.1)) (
 some (.inl ((IntKind.wrap .i64 (y2.1 + 1)), ())))) (
 some (.inr (-1)))
def zac (a0 : List vV5) (a1 : (vV0 × Int × Unit)) : Option Int :=
 loopT (zac_l2 a0 a1) (0, ())
def zac_T : TFn := { ps := (.cons (.sl tT12) (.cons (.cl 102 (.cons (.rp tT8 0) (.cons (.rp (.int .i64) 0) .unit))) .unit)), res := (.int .i64), fn := fun v => zac v.1 v.2.1 }
def zac_V : TEnv := (vZ [(102, zam_T)])
theorem zac_eq : runY Tryz.prog zac_E zac_H zac_V zac_Y Tryz.f157 zac_T.ps zac_T.res = zac_T.fn := by kernel_rfl
theorem zac_Fok : SoundP Tryz.prog G0 157 zac_F := closeF_sound (runF_sound ⟨same_ok, (envP_cons zam_Fok envP_nil), envS_nil, envP_nil, envX_nil⟩ Tryz.func157 rfl (by kernel_rfl))
theorem zac_ok : TOk zac_F zac_T := runY_ok (E := zac_E) (ET := zac_V) (EnvT.ofX (pure_of (pairs_cons zam_ok pairs_nil)) looks_nil raws_nil G0_ok news_nil) zac_eq rfl
def zab_E : Env := (eZ [(157, zac_F)] [188])
def zab_H : Hints := (hZ [] [])
def zab_F : PFn := closeF (runF Tryz.prog zab_E zab_H Tryz.f101)
def zab_Y : TH := yZ
def zab (a0 : List vV5) (a1 : (vV0 × Int × Unit)) : Option Bool :=
(zac a0 a1).bind fun r1 =>
 some (decide (r1 ≥ 0))
def zab_T : TFn := { ps := (.cons (.sl tT12) (.cons (.cl 102 (.cons (.rp tT8 0) (.cons (.rp (.int .i64) 0) .unit))) .unit)), res := .bool, fn := fun v => zab v.1 v.2.1 }
def zab_V : TEnv := (vZ [(157, zac_T)])
theorem zab_eq : runY Tryz.prog zab_E zab_H zab_V zab_Y Tryz.f101 zab_T.ps zab_T.res = zab_T.fn := by kernel_rfl
theorem zab_Fok : SoundP Tryz.prog G0 101 zab_F := closeF_sound (runF_sound ⟨same_ok, (envP_cons zac_Fok envP_nil), envS_nil, envP_nil, envX_nil⟩ Tryz.func101 rfl (by kernel_rfl))
theorem zab_ok : TOk zab_F zab_T := runY_ok (E := zab_E) (ET := zab_V) (EnvT.ofX (pure_of (pairs_cons zac_ok pairs_nil)) looks_nil raws_nil G0_ok news_nil) zab_eq rfl
def za8_E : Env := (eZ [(63, zcj_F), (101, zab_F)] [188])
def za8_H : Hints := { seqs := [], loops := [], own := [], frz := [(2, [3, 5])] }
def za8_F : PFn := closeF (runF Tryz.prog za8_E za8_H Tryz.f49)
def za8_Y : TH := yZ
def za8 (a0 : List vV5) (a1 : vV0) : Option Bool :=
(zcj a1.1).bind fun r1 =>
 cond (!decide (r1 = 0)) ((zab a0 (a1, r1, ())).bind fun r2 =>
 some r2) (some false)
def za8_T : TFn := { ps := (.cons (.sl tT12) (.cons tT8 .unit)), res := .bool, fn := fun v => za8 v.1 v.2.1 }
def za8_V : TEnv := (vZ [(63, zcj_T), (101, zab_T)])
theorem za8_eq : runY Tryz.prog za8_E za8_H za8_V za8_Y Tryz.f49 za8_T.ps za8_T.res = za8_T.fn := by kernel_rfl
theorem za8_Fok : SoundP Tryz.prog G0 49 za8_F := closeF_sound (runF_sound ⟨same_ok, (envP_cons zcj_Fok (envP_cons zab_Fok envP_nil)), envS_nil, envP_nil, envX_nil⟩ Tryz.func49 rfl (by kernel_rfl))
theorem za8_ok : TOk za8_F za8_T := runY_ok (E := za8_E) (ET := za8_V) (EnvT.ofX (pure_of (pairs_cons zcj_ok (pairs_cons zab_ok pairs_nil))) looks_nil raws_nil G0_ok news_nil) za8_eq rfl
def zch_E : Env := (eZ [(63, zcj_F), (72, zb8_F)] [188])
def zch_H : Hints := (hZ [(3, [1, 2, 7, 10, 11, 12])] [])
def zch_F : PFn := closeF (runF Tryz.prog zch_E zch_H Tryz.f32)
def zch_Y : TH := { loops := [(3, { keep := [(7, (.own 1)), (12, (.int .i64))], mem := [.gone, .row true 96 tT12] })], ro := [] }
def zch_l3 (a0 : List vV5) (a1 : List (List UInt8)) (a2 : Int) (y3 : (Int × List vV5 × Unit)) : Option ((Int × List vV5 × Unit) ⊕ List vV5) :=
 cond (decide (y3.1 < (a0.length : Int))) (
(atI a0 y3.1).bind fun x1 =>
(zcj x1.2.1.1).bind fun r2 =>
 cond (decide (r2 = a2)) ((zb8 x1.2.1.2.1 a1).bind fun r3 =>
 cond r3 (
(roomT (y3.2.1.length + ([x1] : List vV5).length)).bind fun u4 =>
 some (.inl ((IntKind.wrap .i64 (y3.1 + 1)), (y3.2.1 ++ ([x1] : List vV5)), ()))) (
 some (.inl ((IntKind.wrap .i64 (y3.1 + 1)), y3.2.1, ())))) (some (.inl ((IntKind.wrap .i64 (y3.1 + 1)), y3.2.1, ())))) (
 some (.inr y3.2.1))
def zch (a0 : List vV5) (a1 : List (List UInt8)) (a2 : Int) : Option (List vV5) :=
 loopT (zch_l3 a0 a1 a2) (0, [], ())
def zch_T : TFn := { ps := (.cons (.sl tT12) (.cons (.sl .str) (.cons (.int .i64) .unit))), res := (.sl tT12), fn := fun v => zch v.1 v.2.1 v.2.2.1 }
def zch_V : TEnv := { pure := [(63, zcj_T), (72, zb8_T)], look := [], glob := G0T, ty := [(96, tT12)], raw := [], fresh := [] }
theorem zch_eq : runY Tryz.prog zch_E zch_H zch_V zch_Y Tryz.f32 zch_T.ps zch_T.res = zch_T.fn := by kernel_rfl
theorem zch_Fok : SoundP Tryz.prog G0 32 zch_F := closeF_sound (runF_sound ⟨same_ok, (envP_cons zcj_Fok (envP_cons zb8_Fok envP_nil)), envS_nil, envP_nil, envX_nil⟩ Tryz.func32 rfl (by kernel_rfl))
theorem zch_ok : TOk zch_F zch_T := runY_ok (E := zch_E) (ET := zch_V) (EnvT.ofX (pure_of (pairs_cons zcj_ok (pairs_cons zb8_ok pairs_nil))) looks_nil raws_nil G0_ok news_nil) zch_eq rfl
def zb6_E : Env := (eZ [] [188])
def zb6_H : Hints := (hZ [(3, [3, 6, 7, 8])] [])
def zb6_S : SFn := runF Tryz.prog zb6_E zb6_H Tryz.f104
def zb6_Y : TH := { loops := [(3, { keep := [(3, (.own 1)), (8, (.int .i64))], mem := [.gone, .row true 94 tT9] })], ro := [] }
def zb6_l3 (a0 : List vV5) (y3 : (Int × List vV1 × Unit)) : Option ((Int × List vV1 × Unit) ⊕ (List vV1)) :=
 cond (decide (y3.1 < (a0.length : Int))) (
(atI a0 y3.1).bind fun x1 =>
(roomT (y3.2.1.length + ([x1.1] : List vV1).length)).bind fun u2 =>
 some (.inl ((IntKind.wrap .i64 (y3.1 + 1)), (y3.2.1 ++ ([x1.1] : List vV1)), ()))) (
 some (.inr y3.2.1))
def zb6 (a0 : List vV5) : Option (List vV1) :=
 loopT (zb6_l3 a0) (0, [], ())
def zb6_N : TNew := { ps := (.cons (.sl tT12) .unit), e := 94, t := (.sl tT9), fn := fun v => zb6 v.1, row := true }
def zb6_V : TEnv := { pure := [], look := [], glob := G0T, ty := [(94, tT9)], raw := [], fresh := [] }
theorem zb6_eq : newRY Tryz.prog zb6_E zb6_H zb6_V zb6_Y Tryz.f104 zb6_N.ps 94 tT9 = zb6_N.fn := by kernel_rfl
theorem zb6_Sok : SoundS Tryz.prog G0 104 zb6_S := runF_sound ⟨same_ok, envP_nil, envS_nil, envP_nil, envX_nil⟩ Tryz.func104 rfl (by kernel_rfl)
theorem zb6_ok : TNewOk zb6_S zb6_N := newRY_ok (E := zb6_E) (ET := zb6_V) (EnvT.ofX (pure_of pairs_nil) looks_nil raws_nil G0_ok news_nil) zb6_eq
def zcg_E : Env := (eZ [(32, zch_F)] [188])
def zcg_H : Hints := (hZ [(3, [5, 7, 12, 13, 14])] [])
def zcg_S : SFn := runF Tryz.prog zcg_E zcg_H Tryz.f105
def zcg_Y : TH := { loops := [(3, { keep := [(5, (.bx 0 0)), (7, (.own 2)), (14, (.int .i64))], mem := [.same, .gone, .row true 94 tT9] })], ro := [5] }
def zcg_l3 (a2 : vV6) (r1 : List vV5) (y3 : (Int × List vV1 × Unit)) : Option ((Int × List vV1 × Unit) ⊕ (List vV1)) :=
 cond (decide (y3.1 < (r1.length : Int))) (
(atI r1 y3.1).bind fun x2 =>
 cond (eqV tT10 x2.2.1.2.2.1 a2) (
(roomT (y3.2.1.length + ([x2.1] : List vV1).length)).bind fun u3 =>
 some (.inl ((IntKind.wrap .i64 (y3.1 + 1)), (y3.2.1 ++ ([x2.1] : List vV1)), ()))) (
 some (.inl ((IntKind.wrap .i64 (y3.1 + 1)), y3.2.1, ())))) (
 some (.inr y3.2.1))
def zcg (a0 : List vV5) (a1 : List (List UInt8)) (a2 : vV6) : Option (List vV1) :=
(zch a0 a1 2).bind fun r1 =>
 loopT (zcg_l3 a2 r1) (0, [], ())
def zcg_N : TNew := { ps := (.cons (.sl tT12) (.cons (.sl .str) (.cons tT10 .unit))), e := 94, t := (.sl tT9), fn := fun v => zcg v.1 v.2.1 v.2.2.1, row := true }
def zcg_V : TEnv := { pure := [(32, zch_T)], look := [], glob := G0T, ty := [(94, tT9)], raw := [], fresh := [] }
theorem zcg_eq : newRY Tryz.prog zcg_E zcg_H zcg_V zcg_Y Tryz.f105 zcg_N.ps 94 tT9 = zcg_N.fn := by kernel_rfl
theorem zcg_Sok : SoundS Tryz.prog G0 105 zcg_S := runF_sound ⟨same_ok, (envP_cons zch_Fok envP_nil), envS_nil, envP_nil, envX_nil⟩ Tryz.func105 rfl (by kernel_rfl)
theorem zcg_ok : TNewOk zcg_S zcg_N := newRY_ok (E := zcg_E) (ET := zcg_V) (EnvT.ofX (pure_of (pairs_cons zch_ok pairs_nil)) looks_nil raws_nil G0_ok news_nil) zcg_eq
def zbo_E : Env := (eZ [(103, zbn_F)] [188])
def zbo_H : Hints := (hZ [(3, [1, 5, 8, 9, 10])] [])
def zbo_F : PFn := closeF (runF Tryz.prog zbo_E zbo_H Tryz.f106)
def zbo_Y : TH := { loops := [(3, { keep := [(5, (.own 1)), (10, (.int .i64))], mem := [.gone, .row true 96 tT12] })], ro := [] }
def zbo_l3 (a0 : List vV5) (a1 : List (List UInt8)) (y3 : (Int × List vV5 × Unit)) : Option ((Int × List vV5 × Unit) ⊕ List vV5) :=
 cond (decide (y3.1 < (a0.length : Int))) (
(atI a0 y3.1).bind fun x1 =>
(zbn x1.2.1.2.1 a1).bind fun r2 =>
 cond r2 (
(roomT (y3.2.1.length + ([x1] : List vV5).length)).bind fun u3 =>
 some (.inl ((IntKind.wrap .i64 (y3.1 + 1)), (y3.2.1 ++ ([x1] : List vV5)), ()))) (
 some (.inl ((IntKind.wrap .i64 (y3.1 + 1)), y3.2.1, ())))) (
 some (.inr y3.2.1))
def zbo (a0 : List vV5) (a1 : List (List UInt8)) : Option (List vV5) :=
 loopT (zbo_l3 a0 a1) (0, [], ())
def zbo_T : TFn := { ps := (.cons (.sl tT12) (.cons (.sl .str) .unit)), res := (.sl tT12), fn := fun v => zbo v.1 v.2.1 }
def zbo_V : TEnv := { pure := [(103, zbn_T)], look := [], glob := G0T, ty := [(96, tT12)], raw := [], fresh := [] }
theorem zbo_eq : runY Tryz.prog zbo_E zbo_H zbo_V zbo_Y Tryz.f106 zbo_T.ps zbo_T.res = zbo_T.fn := by kernel_rfl
theorem zbo_Fok : SoundP Tryz.prog G0 106 zbo_F := closeF_sound (runF_sound ⟨same_ok, (envP_cons zbn_Fok envP_nil), envS_nil, envP_nil, envX_nil⟩ Tryz.func106 rfl (by kernel_rfl))
theorem zbo_ok : TOk zbo_F zbo_T := runY_ok (E := zbo_E) (ET := zbo_V) (EnvT.ofX (pure_of (pairs_cons zbn_ok pairs_nil)) looks_nil raws_nil G0_ok news_nil) zbo_eq rfl
def zaq_E : Env := { pure := [(32, zch_F), (106, zbo_F)], raw := [(104, zb6_S), (105, zcg_S), (107, zaf_S)], glob := G0, same := [188], look := [], ext := [] }
def zaq_H : Hints := (hZ [] [])
def zaq_F : PFn := closeF (runF Tryz.prog zaq_E zaq_H Tryz.f51)
def zaq_Y : TH := { joins := [(9, { keep := [(5, (.own 1))], mem := [.same, .row false 94 tT9] })], loops := [], ro := [3] }
def zaq (a0 : List vV5) (a1 : vV0) : Option (List vV1) :=
(cond (decide (a1.1 = 1)) (
(zch a0 a1.2.1 1).bind fun r1 =>
(zb6 r1).bind fun n2 =>
 some (.inl (n2, ()))) (
 cond (decide (a1.1 = 4)) (
(zcg a0 a1.2.1 a1.2.2.1).bind fun n3 =>
 some (.inl (n3, ()))) (
 cond (decide (a1.1 = 5)) (
(zbo a0 a1.2.1).bind fun r4 =>
(zb6 r4).bind fun n5 =>
 some (.inl (n5, ()))) (
 some (.inl ([], ()))))) : Option ((List vV1 × Unit) ⊕ List vV1)).bind (joinS fun v6 =>
(zaf v6.1).bind fun q7 =>
 some q7.2.1)
def zaq_T : TFn := { ps := (.cons (.sl tT12) (.cons tT8 .unit)), res := (.sl tT9), fn := fun v => zaq v.1 v.2.1 }
def zaq_V : TEnv := { pure := [(32, zch_T), (106, zbo_T)], look := [], glob := G0T, ty := [], raw := [(107, zaf_R)], fresh := [(104, zb6_N), (105, zcg_N)] }
theorem zaq_eq : runY Tryz.prog zaq_E zaq_H zaq_V zaq_Y Tryz.f51 zaq_T.ps zaq_T.res = zaq_T.fn := by kernel_rfl
theorem zaq_Fok : SoundP Tryz.prog G0 51 zaq_F := closeF_sound (runF_sound ⟨same_ok, (envP_cons zch_Fok (envP_cons zbo_Fok envP_nil)), (envS_cons zb6_Sok (envS_cons zcg_Sok (envS_cons zaf_Sok envS_nil))), envP_nil, envX_nil⟩ Tryz.func51 rfl (by kernel_rfl))
theorem zaq_ok : TOk zaq_F zaq_T := runY_ok (E := zaq_E) (ET := zaq_V) (EnvT.ofX (pure_of (pairs_cons zch_ok (pairs_cons zbo_ok pairs_nil))) looks_nil (raws_more (raws_more (raws_cons zaf_ok rfl rfl raws_nil) rfl) rfl) G0_ok (news_cons zb6_ok rfl rfl rfl (news_cons zcg_ok rfl rfl rfl news_nil))) zaq_eq rfl
def zbh_E : Env := (eZ [(48, zcd_F), (49, za8_F), (50, zag_F), (51, zaq_F)] [188])
def zbh_H : Hints := (hZ [] [])
def zbh_F : PFn := closeF (runF Tryz.prog zbh_E zbh_H Tryz.f13)
def zbh_Y : TH := yZ
def zbh (a0 : List vV5) (a1 : vV0) : Option (vV0 × Int × Unit) :=
(zcd (a1.1, a1.2.1, (a1.2.2.1.1, a1.2.2.1.2.1, a1.2.2.1.2.2.1, ()), a1.2.2.2.1, [], ())).bind fun r1 =>
 cond (!decide (r1 = 0)) (
 some ((0, [], (0, 0, [], ()), 0, [], ()), r1, ())) (
(za8 a0 (a1.1, a1.2.1, (a1.2.2.1.1, a1.2.2.1.2.1, a1.2.2.1.2.2.1, ()), a1.2.2.2.1, [], ())).bind fun r2 =>
 cond r2 (
 some ((0, [], (0, 0, [], ()), 0, [], ()), 10, ())) (
(zag a1.2.1).bind fun r3 =>
(zaq a0 (a1.1, r3, (a1.2.2.1.1, a1.2.2.1.2.1, a1.2.2.1.2.2.1, ()), a1.2.2.2.1, [], ())).bind fun r4 =>
 cond (decide ((r4.length : Int) = 0)) (cond (decide (a1.1 = 4)) (some ((0, [], (0, 0, [], ()), 0, [], ()), 11, ())) (cond (decide (a1.1 = 5)) (
 some ((0, [], (0, 0, [], ()), 0, [], ()), 11, ())) (
 cond (decide ((r4.length : Int) > 256)) (
 some ((0, [], (0, 0, [], ()), 0, [], ()), 7, ())) (
 some ((a1.1, r3, a1.2.2.1, a1.2.2.2.1, r4, ()), 0, ()))))) (cond (decide ((r4.length : Int) > 256)) (
 some ((0, [], (0, 0, [], ()), 0, [], ()), 7, ())) (
 some ((a1.1, r3, a1.2.2.1, a1.2.2.2.1, r4, ()), 0, ())))))
def zbh_T : TFn := { ps := (.cons (.sl tT12) (.cons tT8 .unit)), res := (.tup (.cons tT8 (.cons (.int .i64) .unit))), fn := fun v => zbh v.1 v.2.1 }
def zbh_V : TEnv := (vZ [(48, zcd_T), (49, za8_T), (50, zag_T), (51, zaq_T)])
theorem zbh_eq : runY Tryz.prog zbh_E zbh_H zbh_V zbh_Y Tryz.f13 zbh_T.ps zbh_T.res = zbh_T.fn := by kernel_rfl
theorem zbh_Fok : SoundP Tryz.prog G0 13 zbh_F := closeF_sound (runF_sound ⟨same_ok, (envP_cons zcd_Fok (envP_cons za8_Fok (envP_cons zag_Fok (envP_cons zaq_Fok envP_nil)))), envS_nil, envP_nil, envX_nil⟩ Tryz.func13 rfl (by kernel_rfl))
theorem zbh_ok : TOk zbh_F zbh_T := runY_ok (E := zbh_E) (ET := zbh_V) (EnvT.ofX (pure_of (pairs_cons zcd_ok (pairs_cons za8_ok (pairs_cons zag_ok (pairs_cons zaq_ok pairs_nil))))) looks_nil raws_nil G0_ok news_nil) zbh_eq rfl
def zbg_E : Env := (eZ [] [188])
def zbg_H : Hints := (hZ [] [])
def zbg_F : PFn := closeF (runF Tryz.prog zbg_E zbg_H Tryz.f54)
def zbg_Y : TH := yZ
def zbg (a0 : Int) : Option Int :=
 cond (decide (a0 = 1)) (
 some 1) (
 cond (decide (a0 = 2)) (some 2) (cond (decide (a0 = 4)) (
 some 2) (
 cond (decide (a0 = 3)) (
 some 3) (
 some 0))))
def zbg_T : TFn := { ps := (.cons (.int .i64) .unit), res := (.int .i64), fn := fun v => zbg v.1 }
def zbg_V : TEnv := (vZ [])
theorem zbg_eq : runY Tryz.prog zbg_E zbg_H zbg_V zbg_Y Tryz.f54 zbg_T.ps zbg_T.res = zbg_T.fn := by kernel_rfl
theorem zbg_Fok : SoundP Tryz.prog G0 54 zbg_F := closeF_sound (runF_sound ⟨same_ok, envP_nil, envS_nil, envP_nil, envX_nil⟩ Tryz.func54 rfl (by kernel_rfl))
theorem zbg_ok : TOk zbg_F zbg_T := runY_ok (E := zbg_E) (ET := zbg_V) (EnvT.ofX (pure_of pairs_nil) looks_nil raws_nil G0_ok news_nil) zbg_eq rfl
def zat_E : Env := (eZ [(44, zap_F), (109, zaw_F)] [188])
def zat_H : Hints := (hZ [] [])
def zat_F : PFn := closeF (runF Tryz.prog zat_E zat_H Tryz.f55)
def zat_Y : TH := { loops := [], ro := [2, 3] }
def zat (a0 : vV0) (a1 : vV5) : Option Bool :=
(zap a0.2.1 a1.2.1.2.1).bind fun r1 =>
 cond (decide (a0.1 = 1)) (
 cond (decide (r1 = 0)) (some (decide (a1.2.1.1 = 1))) (some false)) (
 cond (decide (a0.1 = 4)) (
 cond (decide (r1 = 0)) (cond (decide (a1.2.1.1 = 2)) (some (eqV tT10 a1.2.1.2.2.1 a0.2.2.1)) (some false)) (some false)) (
 cond (decide (a0.1 = 5)) (
(zaw a1.2.1.2.1 a0.2.1).bind fun r2 =>
 some r2) (
 some false)))
def zat_T : TFn := { ps := (.cons tT8 (.cons tT12 .unit)), res := .bool, fn := fun v => zat v.1 v.2.1 }
def zat_V : TEnv := (vZ [(44, zap_T), (109, zaw_T)])
theorem zat_eq : runY Tryz.prog zat_E zat_H zat_V zat_Y Tryz.f55 zat_T.ps zat_T.res = zat_T.fn := by kernel_rfl
theorem zat_Fok : SoundP Tryz.prog G0 55 zat_F := closeF_sound (runF_sound ⟨same_ok, (envP_cons zap_Fok (envP_cons zaw_Fok envP_nil)), envS_nil, envP_nil, envX_nil⟩ Tryz.func55 rfl (by kernel_rfl))
theorem zat_ok : TOk zat_F zat_T := runY_ok (E := zat_E) (ET := zat_V) (EnvT.ofX (pure_of (pairs_cons zap_ok (pairs_cons zaw_ok pairs_nil))) looks_nil raws_nil G0_ok news_nil) zat_eq rfl
def zbx_E : Env := { pure := [(18, zbe_F), (53, zax_F), (54, zbg_F), (56, zb0_F)], raw := [], glob := G0, same := [188], look := [(55, zat_F)], ext := [] }
def zbx_H : Hints := (hZ [(6, [0, 3, 4, 7]), (11, [0, 3, 4, 8]), (15, [0, 3, 4, 8, 9]), (19, [0, 3, 4, 8, 9, 10])] [89])
def zbx_F : PFn := closeF (runF Tryz.prog zbx_E zbx_H Tryz.f15)
def zbx_Y : TH := { joins := [(10, { keep := [(3, (.bx 0 0)), (4, (.bx 1 0))], mem := [.box 29 (.agg (.cons (.int .i64) (.cons (.sl .str) (.cons tT10 (.cons (.int .i64) (.cons .nilsl .unit)))))), .box 29 tT13] }), (23, { keep := [(3, (.bx 0 0)), (4, (.bx 1 0))], mem := [.box 29 tT15, .box 29 tT13, .row true 94 tT9] }), (17, { keep := [(3, (.bx 0 0)), (4, (.bx 1 0)), (9, (.int .i64))], mem := [.box 29 tT15, .box 29 tT13, .row true 94 tT9] }), (22, { keep := [(3, (.bx 0 0)), (4, (.bx 1 0))], mem := [.box 29 tT15, .box 29 tT13, .row true 94 tT9] }), (25, { keep := [(3, (.bx 0 0)), (4, (.bx 1 0))], mem := [.box 29 tT15, .box 29 tT13, .row true 94 tT9] })], loops := [(6, { keep := [(3, (.bx 0 0)), (4, (.bx 1 0)), (7, (.int .i64))], mem := [.box 29 (.agg (.cons (.int .i64) (.cons (.sl .str) (.cons tT10 (.cons (.int .i64) (.cons .nilsl .unit)))))), .box 29 tT13] }), (11, { keep := [(3, (.bx 0 0)), (4, (.bx 1 0)), (8, (.int .i64))], mem := [.box 29 tT15, .box 29 tT13, .row true 94 tT9] }), (15, { keep := [(3, (.bx 0 0)), (4, (.bx 1 0)), (9, (.int .i64))], mem := [.box 29 tT15, .box 29 tT13, .row true 94 tT9] }), (19, { keep := [(3, (.bx 0 0)), (4, (.bx 1 0)), (10, (.int .i64))], mem := [.box 29 tT15, .box 29 tT13, .row true 94 tT9] })], ro := [] }
def zbx_l6 (a0 : List vV5) (y6 : (Int × (Int × List (List UInt8) × vV6 × Int × Unit × Unit) × (Int × Unit × vV6 × Int × Unit × Unit) × Unit)) : Option ((Int × (Int × List (List UInt8) × vV6 × Int × Unit × Unit) × (Int × Unit × vV6 × Int × Unit × Unit) × Unit) ⊕ (((Int × List (List UInt8) × vV6 × Int × Unit × Unit) × (Int × Unit × vV6 × Int × Unit × Unit) × Unit) ⊕ (vV0 × Int × Unit))) :=
 cond (decide (y6.1 < (a0.length : Int))) (
 cond (!decide (y6.2.1.1 = 5)) ((zbg y6.2.1.1).bind fun r2 =>
(atI a0 y6.1).bind fun x3 =>
(atI a0 y6.1).bind fun x4 =>
(zbg x4.2.1.1).bind fun r5 =>
(zax y6.2.1.2.1 r2 x3.2.1.2.1 r5).bind fun r6 =>
 cond r6 (
 some (.inr (.inr ((0, [], (0, 0, [], ()), 0, [], ()), 10, ())))) (
 some (.inl ((IntKind.wrap .i64 (y6.1 + 1)), y6.2.1, y6.2.2.1, ())))) (some (.inl ((IntKind.wrap .i64 (y6.1 + 1)), y6.2.1, y6.2.2.1, ())))) (
 some (.inr (.inl (y6.2.1, y6.2.2.1, ()))))
def zbx_l15 (y11 : vV2) (a0 : List vV5) (y15 : vV2) : Option (vV2 ⊕ (vV2 ⊕ (vV2 ⊕ (vV3 ⊕ (vV0 × Int × Unit))))) :=
 cond (decide (y15.1 < (y15.2.2.2.1.length : Int))) ((inI y15.2.2.2.1.length y15.1).bind fun i10 =>
(y15.2.2.2.1[i10]?).bind fun x11 =>
(atI a0 y11.1).bind fun x12 =>
(zb0 x11 x12.1).bind fun r13 =>
 cond (decide (r13 < 0)) (
 some (.inl ((IntKind.wrap .i64 (y15.1 + 1)), y15.2.1, y15.2.2.1, y15.2.2.2.1, ()))) (
 some (.inr (.inl (y15.1, y15.2.1, y15.2.2.1, y15.2.2.2.1, ()))))) (some (.inr (.inl (y15.1, y15.2.1, y15.2.2.1, y15.2.2.2.1, ()))))
def zbx_l19 (v14 : vV2) (y19 : vV2) : Option (vV2 ⊕ (vV3 ⊕ (vV2 ⊕ (vV3 ⊕ (vV0 × Int × Unit))))) :=
 cond (decide (y19.1 > v14.1)) (
(inI y19.2.2.2.1.length (IntKind.wrap .i64 (y19.1 - 1))).bind fun i17 =>
(y19.2.2.2.1[i17]?).bind fun x18 =>
(inI y19.2.2.2.1.length y19.1).bind fun i19 =>
(y19.2.2.2.1[i19]?).bind fun x20 =>
 some (.inl ((IntKind.wrap .i64 (y19.1 - 1)), y19.2.1, y19.2.2.1, (y19.2.2.2.1.set i19 x18), ()))) (
 some (.inr (.inl (y19.2.1, y19.2.2.1, y19.2.2.2.1, ()))))
def zbx_l11 (a0 : List vV5) (y11 : vV2) : Option (vV2 ⊕ (vV3 ⊕ (vV0 × Int × Unit))) :=
 cond (decide (y11.1 < (a0.length : Int))) (
(atI a0 y11.1).bind fun x8 =>
(zat (y11.2.1.1, y11.2.1.2.1, y11.2.1.2.2.1, y11.2.1.2.2.2.1, y11.2.2.2.1, ()) x8).bind fun r9 =>
 cond (!r9) (
 some (.inl ((IntKind.wrap .i64 (y11.1 + 1)), y11.2.1, y11.2.2.1, y11.2.2.2.1, ()))) (
(loopT (zbx_l15 y11 a0) (0, y11.2.1, y11.2.2.1, y11.2.2.2.1, ()) : Option (vV2 ⊕ (vV2 ⊕ (vV3 ⊕ (vV0 × Int × Unit))))).bind (joinS fun v14 =>
(atI a0 y11.1).bind fun x15 =>
(roomT (v14.2.2.2.1.length + ([x15.1] : List vV1).length)).bind fun u16 =>
(loopT (zbx_l19 v14) ((IntKind.wrap .i64 (((v14.2.2.2.1 ++ ([x15.1] : List vV1)).length : Int) - 1)), (v14.2.1.1, v14.2.1.2.1, (v14.2.1.2.2.1.1, v14.2.1.2.2.1.2.1, v14.2.1.2.2.1.2.2.1, ()), v14.2.1.2.2.2.1, (), ()), v14.2.2.1, (v14.2.2.2.1 ++ ([x15.1] : List vV1)), ()) : Option (vV3 ⊕ (vV2 ⊕ (vV3 ⊕ (vV0 × Int × Unit))))).bind (joinS fun v21 =>
(atI a0 y11.1).bind fun x22 =>
(inI v21.2.2.1.length v14.1).bind fun i23 =>
(v21.2.2.1[i23]?).bind fun x24 =>
 some (.inl ((IntKind.wrap .i64 (y11.1 + 1)), v21.1, v21.2.1, (v21.2.2.1.set i23 x22.1), ())))))) (
 some (.inr (.inl (y11.2.1, y11.2.2.1, y11.2.2.2.1, ()))))
def zbx (a0 : List vV5) (a1 : vV0) : Option (vV0 × Int × Unit) :=
(zbe (a1.1, a1.2.1, (a1.2.2.1.1, a1.2.2.1.2.1, a1.2.2.1.2.2.1, ()), a1.2.2.2.1, [], ())).bind fun r1 =>
 cond (!decide (r1 = 0)) (
 some ((0, [], (0, 0, [], ()), 0, [], ()), r1, ())) (
(loopT (zbx_l6 a0) (0, (a1.1, a1.2.1, a1.2.2.1, a1.2.2.2.1, (), ()), (0, (), (0, 0, [], ()), 0, (), ()), ()) : Option (((Int × List (List UInt8) × vV6 × Int × Unit × Unit) × (Int × Unit × vV6 × Int × Unit × Unit) × Unit) ⊕ (vV0 × Int × Unit))).bind (joinS fun v7 =>
(loopT (zbx_l11 a0) (0, (v7.1.1, v7.1.2.1, (v7.1.2.2.1.1, v7.1.2.2.1.2.1, v7.1.2.2.1.2.2.1, ()), v7.1.2.2.2.1, (), ()), v7.2.1, [], ()) : Option (vV3 ⊕ (vV0 × Int × Unit))).bind (joinS fun v25 =>
(cond (decide ((v25.2.2.1.length : Int) = 0)) (cond (decide (v25.1.1 ≥ 4)) (
 some (.inr ((0, [], (0, 0, [], ()), 0, [], ()), 11, ()))) (
 some (.inl (v25.1, v25.2.1, v25.2.2.1, ())))) (some (.inl (v25.1, v25.2.1, v25.2.2.1, ()))) : Option (vV3 ⊕ (vV0 × Int × Unit))).bind (joinS fun v26 =>
 cond (decide ((v26.2.2.1.length : Int) > 256)) (
 some ((0, [], (0, 0, [], ()), 0, [], ()), 7, ())) (
 some ((v26.1.1, v26.1.2.1, v26.1.2.2.1, v26.1.2.2.2.1, v26.2.2.1, ()), 0, ()))))))
def zbx_T : TFn := { ps := (.cons (.sl tT12) (.cons tT8 .unit)), res := (.tup (.cons tT8 (.cons (.int .i64) .unit))), fn := fun v => zbx v.1 v.2.1 }
def zbx_V : TEnv := { pure := [(18, zbe_T), (53, zax_T), (54, zbg_T), (56, zb0_T)], look := [(55, zat_T)], glob := G0T, ty := [(94, tT9)], raw := [], fresh := [] }
theorem zbx_eq : runY Tryz.prog zbx_E zbx_H zbx_V zbx_Y Tryz.f15 zbx_T.ps zbx_T.res = zbx_T.fn := by kernel_rfl
theorem zbx_Fok : SoundP Tryz.prog G0 15 zbx_F := closeF_sound (runF_sound ⟨same_ok, (envP_cons zbe_Fok (envP_cons zax_Fok (envP_cons zbg_Fok (envP_cons zb0_Fok envP_nil)))), envS_nil, (envP_cons zat_Fok envP_nil), envX_nil⟩ Tryz.func15 rfl (by kernel_rfl))
theorem zbx_ok : TOk zbx_F zbx_T := runY_ok (E := zbx_E) (ET := zbx_V) (EnvT.ofX (pure_of (pairs_cons zbe_ok (pairs_cons zax_ok (pairs_cons zbg_ok (pairs_cons zb0_ok pairs_nil))))) (looks_cons zat_ok rfl looks_nil) raws_nil G0_ok news_nil) zbx_eq rfl
def zaz_E : Env := (eZ [(13, zbh_F), (14, zcf_F)] [188])
def zaz_H : Hints := (hZ [] [])
def zaz_F : PFn := closeF (runF Tryz.prog zaz_E zaz_H Tryz.f12)
def zaz_Y : TH := yZ
def zaz : Option Bool :=
(zcf ([((0, 1, ()), 0, 1, false, ([(3, ([[97]] : List (List UInt8)), (0, 0, [], ()), 1, [], ())] : List vV0), ())] : List vV4) []).bind fun r1 =>
(zbh r1 (1, ([[97]] : List (List UInt8)), (1, 1, [], ()), 0, [], ())).bind fun r2 =>
(zbh r1 (1, ([[97], [107]] : List (List UInt8)), (1, 1, [], ()), 0, [], ())).bind fun r3 =>
(zbh r1 (1, ([[98]] : List (List UInt8)), (1, 1, [], ()), 0, [], ())).bind fun r4 =>
 cond (decide (r2.2.1 = 10)) (cond (decide (r3.2.1 = 10)) (some (decide (r4.2.1 = 0))) (some false)) (some false)
def zaz_T : TFn := { ps := .unit, res := .bool, fn := fun v => zaz  }
def zaz_V : TEnv := { pure := [(13, zbh_T), (14, zcf_T)], look := [], glob := G0T, ty := [(9, .str), (29, tT8), (51, tT11)], raw := [], fresh := [] }
theorem zaz_eq : runY Tryz.prog zaz_E zaz_H zaz_V zaz_Y Tryz.f12 zaz_T.ps zaz_T.res = zaz_T.fn := by kernel_rfl
theorem zaz_Fok : SoundP Tryz.prog G0 12 zaz_F := closeF_sound (runF_sound ⟨same_ok, (envP_cons zbh_Fok (envP_cons zcf_Fok envP_nil)), envS_nil, envP_nil, envX_nil⟩ Tryz.func12 rfl (by kernel_rfl))
theorem zaz_ok : TOk zaz_F zaz_T := runY_ok (E := zaz_E) (ET := zaz_V) (EnvT.ofX (pure_of (pairs_cons zbh_ok (pairs_cons zcf_ok pairs_nil))) looks_nil raws_nil G0_ok news_nil) zaz_eq rfl
def zaj_E : Env := (eZ [(10, zbk_F), (11, za3_F), (12, zaz_F), (13, zbh_F), (14, zcf_F), (15, zbx_F), (16, zb2_F), (17, zbp_F), (18, zbe_F), (19, zbu_F)] [188])
def zaj_H : Hints := { seqs := [], loops := [], own := [25, 33], frz := [(3, [5])] }
def zaj_F : PFn := closeF (runF Tryz.prog zaj_E zaj_H Tryz.f3)
def zaj_Y : TH := { loops := [], cuts := [(5, [(8, { keep := [(7, (.bx 1 0)), (44, .bool)], mem := [.gone, .box 29 tT8, .gone] })])], ro := [], news := [] }
def zaj (a0 : List vV4) (a1 : List vV1) (a2 : vV0) : Option Bool :=
(zbk a0 a1).bind fun r1 =>
 cond (!r1) ((zaz).bind fun r2 =>
 some r2) ((za3 a2).bind fun r3 =>
 cond (!r3) (
(zaz).bind fun r4 =>
 some r4) (
(zcf a0 a1).bind fun r5 =>
(zbh r5 a2).bind fun r6 =>
(zb2 a0 a1).bind fun r7 =>
(zbx r7 a2).bind fun r8 =>
((zbp r6.1 r8.1).bind fun r9 =>
 cond r9 (some ((decide (r6.2.1 = r8.2.1)), r6.1, ())) (some (false, r6.1, ())) : Option (Bool × vV0 × Unit)).bind fun v10 =>
 cond v10.1 (cond (decide (r6.2.1 = 0)) ((zbe v10.2.1).bind fun r11 =>
 cond (decide (r11 = 0)) ((zaz).bind fun r12 =>
 some r12) (cond (!decide (r6.2.1 = 0)) ((zbu v10.2.1).bind fun r13 =>
 cond r13 ((zaz).bind fun r14 =>
 some r14) (some false)) (some false))) (cond (!decide (r6.2.1 = 0)) ((zbu v10.2.1).bind fun r15 =>
 cond r15 ((zaz).bind fun r16 =>
 some r16) (some false)) (some false))) (some false)))
def zaj_T : TFn := { ps := (.cons (.sl tT11) (.cons (.sl tT9) (.cons tT8 .unit))), res := .bool, fn := fun v => zaj v.1 v.2.1 v.2.2.1 }
def zaj_V : TEnv := (vZ [(10, zbk_T), (11, za3_T), (12, zaz_T), (13, zbh_T), (14, zcf_T), (15, zbx_T), (16, zb2_T), (17, zbp_T), (18, zbe_T), (19, zbu_T)])
theorem zaj_eq : runY Tryz.prog zaj_E zaj_H zaj_V zaj_Y Tryz.f3 zaj_T.ps zaj_T.res = zaj_T.fn := by kernel_rfl
theorem zaj_Fok : SoundP Tryz.prog G0 3 zaj_F := closeF_sound (runF_sound ⟨same_ok, (envP_cons zbk_Fok (envP_cons za3_Fok (envP_cons zaz_Fok (envP_cons zbh_Fok (envP_cons zcf_Fok (envP_cons zbx_Fok (envP_cons zb2_Fok (envP_cons zbp_Fok (envP_cons zbe_Fok (envP_cons zbu_Fok envP_nil)))))))))), envS_nil, envP_nil, envX_nil⟩ Tryz.func3 rfl (by kernel_rfl))
theorem zaj_ok : TOk zaj_F zaj_T := runY_ok (E := zaj_E) (ET := zaj_V) (EnvT.ofX (pure_of (pairs_cons zbk_ok (pairs_cons za3_ok (pairs_cons zaz_ok (pairs_cons zbh_ok (pairs_cons zcf_ok (pairs_cons zbx_ok (pairs_cons zb2_ok (pairs_cons zbp_ok (pairs_cons zbe_ok (pairs_cons zbu_ok pairs_nil))))))))))) looks_nil raws_nil G0_ok news_nil) zaj_eq rfl
end
end Go.Proofs.YtgfpkhlabdcbmaaGreatDoor.Y
