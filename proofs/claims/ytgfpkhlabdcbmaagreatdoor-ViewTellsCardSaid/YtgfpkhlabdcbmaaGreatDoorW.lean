import Derived.Test.YtgfpkhlabdcbmaaGreatDoorS
import Derived.Test.YtgfpkhlabdcbmaaGreatDoorT29
set_option linter.unusedVariables false
set_option maxRecDepth 100000
namespace Go.Proofs.YtgfpkhlabdcbmaaGreatDoor.Y
open Go.EM Go.TY Go.Proofs
noncomputable section
def G0 : List (Nat × AVal) := [(3, .rptr (Lib.pow10Tab.map (AVal.int .u64)))]
def G0T : List (Nat × TV) := []
theorem G0_ok : GlobsOk G0 G0T := globs_nil
theorem same_ok : ∀ f, memN f [188] = true → Same Tryz.prog f := by
 intro f h
 by_cases e188 : f = 188
 · subst e188; exact ⟨Tryz.f188, Tryz.func188, by kernel_rfl, by kernel_rfl, by kernel_rfl, by kernel_rfl⟩
 simp_all [memN]
def eZ (l : List (Nat × PFn)) (s : List Nat) : Env := { pure := l, raw := [], glob := G0, same := s, look := [], ext := [] }
def vZ (l : List (Nat × TFn)) : TEnv := { pure := l, look := [], glob := G0T, ty := [], raw := [], fresh := [] }
def hZ (l : List (Nat × List Nat)) (o : List Nat) : Hints := { seqs := [], loops := l, own := o }
def yZ : TH := { joins := [], loops := [], cuts := [], ro := [], news := [] }
abbrev vV0 := (Int × List (List UInt8) × (Int × Int × List UInt8 × Unit) × Int × List ((Int × Int × Unit) × Int × Unit) × Unit)
abbrev vV1 := (List (List UInt8) × Int × List (Int × Int × List UInt8 × Unit) × Int × Unit)
abbrev vV2 := ((Int × Int × Unit) × Int × Unit)
abbrev vV3 := (Int × Int × List UInt8 × Unit)
abbrev vV4 := (List (List UInt8) × Int × Unit)
abbrev vV5 := ((Int × Int × Unit) × Int × Int × Bool × List vV0 × Unit)
abbrev vV6 := (vV2 × vV0 × Int × Unit)
abbrev vV7 := (Int × List (vV2 × Bool) × Unit)
abbrev tT8 : Ty := (.agg (.cons (.int .i64) (.cons (.sl .str) (.cons (.agg (.cons (.int .i64) (.cons (.int .i64) (.cons .str .unit)))) (.cons (.int .i64) (.cons (.sl (.agg (.cons (.agg (.cons (.int .i64) (.cons (.int .i64) .unit))) (.cons (.int .i64) .unit)))) .unit))))))
abbrev tT9 : Ty := (.agg (.cons (.agg (.cons (.int .i64) (.cons (.int .i64) .unit))) (.cons (.int .i64) .unit)))
abbrev tT10 : Ty := (.agg (.cons (.int .i64) (.cons (.int .i64) (.cons .str .unit))))
abbrev tT11 : Ty := (.agg (.cons (.sl .str) (.cons (.int .i64) (.cons (.sl tT10) (.cons (.int .i64) .unit)))))
abbrev tT12 : Ty := (.cons (.int .i64) .unit)
abbrev tT13 : Ty := (.agg (.cons (.agg (.cons (.int .i64) tT12)) (.cons (.int .i64) (.cons (.int .i64) (.cons .bool (.cons (.sl tT8) .unit))))))
abbrev tT14 : Ty := (.agg (.cons tT9 (.cons tT8 tT12)))
abbrev tT15 : Ty := (.agg (.cons (.sl .str) tT12))
abbrev tT16 : Ty := (.agg (.cons (.op 0) (.cons (.own 1) .unit)))
abbrev tT17 : Ty := (.cons (.agg (.cons (.int .i64) tT12)) .unit)
abbrev tT18 : Ty := (.cons (.sl .str) .unit)
def zch_E : Env := (eZ [] [188])
def zch_H : Hints := (hZ [] [])
def zch_F : PFn := closeF (runF Tryz.prog zch_E zch_H Tryz.f111)
def zch_Y : TH := yZ
def zch (a0 : Int) (a1 : Int) : Option Int :=
 cond (decide (a0 < a1)) (
 some (-1)) (
 cond (decide (a0 > a1)) (
 some 1) (
 some 0))
def zch_T : TFn := { ps := (.cons (.int .i64) tT12), res := (.int .i64), fn := fun v => zch v.1 v.2.1 }
def zch_V : TEnv := (vZ [])
theorem zch_eq : runY Tryz.prog zch_E zch_H zch_V zch_Y Tryz.f111 zch_T.ps zch_T.res = zch_T.fn := by kernel_rfl
theorem zch_Fok : SoundP Tryz.prog G0 111 zch_F := closeF_sound (runF_sound ⟨same_ok, envP_nil, envS_nil, envP_nil, envX_nil⟩ Tryz.func111 rfl (by kernel_rfl))
theorem zch_ok : TOk zch_F zch_T := runY_ok (E := zch_E) (ET := zch_V) (EnvT.ofX (pure_of pairs_nil) looks_nil raws_nil G0_ok news_nil) zch_eq rfl
def za0_E : Env := (eZ [(111, zch_F)] [188])
def za0_H : Hints := (hZ [] [])
def za0_F : PFn := closeF (runF Tryz.prog za0_E za0_H Tryz.f110)
def za0_Y : TH := { loops := [], ro := [2, 3] }
def za0 (a0 : (Int × Int × Unit)) (a1 : (Int × Int × Unit)) : Option Int :=
 cond (!decide (a0.1 = a1.1)) (
(zch a0.1 a1.1).bind fun r1 =>
 some r1) (
(zch a0.2.1 a1.2.1).bind fun r2 =>
 some r2)
def za0_T : TFn := { ps := (.cons (.agg (.cons (.int .i64) tT12)) tT17), res := (.int .i64), fn := fun v => za0 v.1 v.2.1 }
def za0_V : TEnv := (vZ [(111, zch_T)])
theorem za0_eq : runY Tryz.prog za0_E za0_H za0_V za0_Y Tryz.f110 za0_T.ps za0_T.res = za0_T.fn := by kernel_rfl
theorem za0_Fok : SoundP Tryz.prog G0 110 za0_F := closeF_sound (runF_sound ⟨same_ok, (envP_cons zch_Fok envP_nil), envS_nil, envP_nil, envX_nil⟩ Tryz.func110 rfl (by kernel_rfl))
theorem za0_ok : TOk za0_F za0_T := runY_ok (E := za0_E) (ET := za0_V) (EnvT.ofX (pure_of (pairs_cons zch_ok pairs_nil)) looks_nil raws_nil G0_ok news_nil) za0_eq rfl
def zbt_E : Env := (eZ [(110, za0_F)] [188])
def zbt_H : Hints := (hZ [(2, [0, 3])] [])
def zbt_F : PFn := closeF (runF Tryz.prog zbt_E zbt_H Tryz.f93)
def zbt_Y : TH := { loops := [(2, { keep := [(3, (.int .i64))], mem := [] })], ro := [] }
def zbt_l2 (a0 : List vV5) (y2 : (Int × Unit)) : Option ((Int × Unit) ⊕ Bool) :=
 cond (decide (y2.1 < (a0.length : Int))) (
(atI a0 (IntKind.wrap .i64 (y2.1 - 1))).bind fun x1 =>
(atI a0 y2.1).bind fun x2 =>
(za0 x1.1 x2.1).bind fun r3 =>
 cond (!decide (r3 = (-1))) (
 some (.inr false)) (
 some (.inl ((IntKind.wrap .i64 (y2.1 + 1)), ())))) (
 some (.inr true))
def zbt (a0 : List vV5) : Option Bool :=
 loopT (zbt_l2 a0) (1, ())
def zbt_T : TFn := { ps := (.cons (.sl tT13) .unit), res := .bool, fn := fun v => zbt v.1 }
def zbt_V : TEnv := (vZ [(110, za0_T)])
theorem zbt_eq : runY Tryz.prog zbt_E zbt_H zbt_V zbt_Y Tryz.f93 zbt_T.ps zbt_T.res = zbt_T.fn := by kernel_rfl
theorem zbt_Fok : SoundP Tryz.prog G0 93 zbt_F := closeF_sound (runF_sound ⟨same_ok, (envP_cons za0_Fok envP_nil), envS_nil, envP_nil, envX_nil⟩ Tryz.func93 rfl (by kernel_rfl))
theorem zbt_ok : TOk zbt_F zbt_T := runY_ok (E := zbt_E) (ET := zbt_V) (EnvT.ofX (pure_of (pairs_cons za0_ok pairs_nil)) looks_nil raws_nil G0_ok news_nil) zbt_eq rfl
def zbr_E : Env := (eZ [] [188])
def zbr_H : Hints := (hZ [(4, [0, 3])] [])
def zbr_F : PFn := closeF (runF Tryz.prog zbr_E zbr_H Tryz.f24)
def zbr_Y : TH := { loops := [(4, { keep := [(3, (.int .i64))], mem := [] })], ro := [] }
def zbr_l4 (a0 : List (List UInt8)) (y4 : (Int × Unit)) : Option ((Int × Unit) ⊕ Bool) :=
 cond (decide (y4.1 < (a0.length : Int))) (
(atI a0 y4.1).bind fun x1 =>
 cond (decide ((x1.length : Int) > 120)) (
 some (.inr false)) (
 some (.inl ((IntKind.wrap .i64 (y4.1 + 1)), ())))) (
 some (.inr true))
def zbr (a0 : List (List UInt8)) : Option Bool :=
 cond (decide ((a0.length : Int) > 12)) (
 some false) (
 loopT (zbr_l4 a0) (0, ()))
def zbr_T : TFn := { ps := tT18, res := .bool, fn := fun v => zbr v.1 }
def zbr_V : TEnv := (vZ [])
theorem zbr_eq : runY Tryz.prog zbr_E zbr_H zbr_V zbr_Y Tryz.f24 zbr_T.ps zbr_T.res = zbr_T.fn := by kernel_rfl
theorem zbr_Fok : SoundP Tryz.prog G0 24 zbr_F := closeF_sound (runF_sound ⟨same_ok, envP_nil, envS_nil, envP_nil, envX_nil⟩ Tryz.func24 rfl (by kernel_rfl))
theorem zbr_ok : TOk zbr_F zbr_T := runY_ok (E := zbr_E) (ET := zbr_V) (EnvT.ofX (pure_of pairs_nil) looks_nil raws_nil G0_ok news_nil) zbr_eq rfl
def zbz_E : Env := (eZ [(24, zbr_F)] [188])
def zbz_H : Hints := (hZ [] [])
def zbz_F : PFn := closeF (runF Tryz.prog zbz_E zbz_H Tryz.f11)
def zbz_Y : TH := { loops := [], ro := [1] }
def zbz (a0 : vV0) : Option Bool :=
(zbr a0.2.1).bind fun r1 =>
 cond r1 (cond (decide ((a0.2.2.1.2.2.1.length : Int) ≤ 200)) (some (decide ((a0.2.2.2.2.1.length : Int) ≤ 300))) (some false)) (some false)
def zbz_T : TFn := { ps := (.cons tT8 .unit), res := .bool, fn := fun v => zbz v.1 }
def zbz_V : TEnv := (vZ [(24, zbr_T)])
theorem zbz_eq : runY Tryz.prog zbz_E zbz_H zbz_V zbz_Y Tryz.f11 zbz_T.ps zbz_T.res = zbz_T.fn := by kernel_rfl
theorem zbz_Fok : SoundP Tryz.prog G0 11 zbz_F := closeF_sound (runF_sound ⟨same_ok, (envP_cons zbr_Fok envP_nil), envS_nil, envP_nil, envX_nil⟩ Tryz.func11 rfl (by kernel_rfl))
theorem zbz_ok : TOk zbz_F zbz_T := runY_ok (E := zbz_E) (ET := zbz_V) (EnvT.ofX (pure_of (pairs_cons zbr_ok pairs_nil)) looks_nil raws_nil G0_ok news_nil) zbz_eq rfl
def zbm_E : Env := (eZ [(11, zbz_F)] [188])
def zbm_H : Hints := (hZ [(4, [1, 3])] [])
def zbm_F : PFn := closeF (runF Tryz.prog zbm_E zbm_H Tryz.f94)
def zbm_Y : TH := { loops := [(4, { keep := [(1, (.bx 0 0)), (3, (.int .i64))], mem := [.same] })], ro := [1] }
def zbm_l4 (a0 : vV5) (y4 : (Int × Unit)) : Option ((Int × Unit) ⊕ Bool) :=
 cond (decide (y4.1 < (a0.2.2.2.2.1.length : Int))) (
(atI a0.2.2.2.2.1 y4.1).bind fun x1 =>
(zbz x1).bind fun r2 =>
 cond (!r2) (
 some (.inr false)) (
 some (.inl ((IntKind.wrap .i64 (y4.1 + 1)), ())))) (
 some (.inr true))
def zbm (a0 : vV5) : Option Bool :=
 cond (decide ((a0.2.2.2.2.1.length : Int) > 20)) (
 some false) (
 loopT (zbm_l4 a0) (0, ()))
def zbm_T : TFn := { ps := (.cons tT13 .unit), res := .bool, fn := fun v => zbm v.1 }
def zbm_V : TEnv := (vZ [(11, zbz_T)])
theorem zbm_eq : runY Tryz.prog zbm_E zbm_H zbm_V zbm_Y Tryz.f94 zbm_T.ps zbm_T.res = zbm_T.fn := by kernel_rfl
theorem zbm_Fok : SoundP Tryz.prog G0 94 zbm_F := closeF_sound (runF_sound ⟨same_ok, (envP_cons zbz_Fok envP_nil), envS_nil, envP_nil, envX_nil⟩ Tryz.func94 rfl (by kernel_rfl))
theorem zbm_ok : TOk zbm_F zbm_T := runY_ok (E := zbm_E) (ET := zbm_V) (EnvT.ofX (pure_of (pairs_cons zbz_ok pairs_nil)) looks_nil raws_nil G0_ok news_nil) zbm_eq rfl
def zbx_E : Env := (eZ [] [188])
def zbx_H : Hints := (hZ [] [])
def zbx_F : PFn := closeF (runF Tryz.prog zbx_E zbx_H Tryz.f116)
def zbx_Y : TH := { loops := [], ro := [1] }
def zbx (a0 : (Int × Int × Unit)) : Option Bool :=
 cond (decide (a0.1 ≥ 0)) (cond (decide (a0.1 ≤ 15)) (cond (decide (a0.2.1 ≥ 1)) (some (decide (a0.2.1 ≤ 1048576))) (some false)) (some false)) (some false)
def zbx_T : TFn := { ps := tT17, res := .bool, fn := fun v => zbx v.1 }
def zbx_V : TEnv := (vZ [])
theorem zbx_eq : runY Tryz.prog zbx_E zbx_H zbx_V zbx_Y Tryz.f116 zbx_T.ps zbx_T.res = zbx_T.fn := by kernel_rfl
theorem zbx_Fok : SoundP Tryz.prog G0 116 zbx_F := closeF_sound (runF_sound ⟨same_ok, envP_nil, envS_nil, envP_nil, envX_nil⟩ Tryz.func116 rfl (by kernel_rfl))
theorem zbx_ok : TOk zbx_F zbx_T := runY_ok (E := zbx_E) (ET := zbx_V) (EnvT.ofX (pure_of pairs_nil) looks_nil raws_nil G0_ok news_nil) zbx_eq rfl
def zcm_E : Env := (eZ [] [188])
def zcm_H : Hints := (hZ [(17, [0, 4, 5, 6, 7])] [])
def zcm_F : PFn := closeF (runF Tryz.prog zcm_E zcm_H Tryz.f160)
def zcm_Y : TH := { joins := [(14, { keep := [(4, (.int .i64)), (5, (.int .i64)), (6, (.int .i64))], mem := [] }), (9, { keep := [(18, .bool)], mem := [] }), (22, { keep := [(4, (.int .i64))], mem := [] }), (24, { keep := [], mem := [] })], loops := [(17, { keep := [(4, (.int .i64)), (7, (.int .i64))], mem := [] })], ro := [] }
def zcm_l17 (a0 : List UInt8) (v3 : (Int × Int × Int × Unit)) (y17 : (Int × Int × Unit)) : Option ((Int × Int × Unit) ⊕ ((Int × Unit) ⊕ (Int × Int × Unit))) :=
 cond (decide (y17.2.1 < v3.2.1)) (
(atI a0 y17.2.1).bind fun b4 =>
 cond (decide ((b4.toNat : Int) < 128)) (some (.inr (.inr (0, 0, ())))) ((atI a0 y17.2.1).bind fun b5 =>
 cond (decide ((b5.toNat : Int) > 191)) (
 some (.inr (.inr (0, 0, ())))) (
(atI a0 y17.2.1).bind fun b6 =>
 some (.inl ((IntKind.wrap .i64 ((IntKind.wrap .i64 ((IntKind.wrap .i64 (64 * y17.1)) + (IntKind.wrap .i64 (b6.toNat : Int)))) - 128)), (IntKind.wrap .i64 (y17.2.1 + 1)), ()))))) (
 some (.inr (.inl (y17.1, ()))))
def zcm (a0 : List UInt8) : Option (Int × Int × Unit) :=
 cond (decide ((a0.length : Int) = 0)) (
 some (0, 0, ())) (
(atI a0 0).bind fun b1 =>
(cond (decide ((IntKind.wrap .i64 (b1.toNat : Int)) < 128)) (
 some (.inr ((IntKind.wrap .i64 (b1.toNat : Int)), 1, ()))) (
(cond (decide ((IntKind.wrap .i64 (b1.toNat : Int)) ≥ 194)) (some (.inl ((decide ((IntKind.wrap .i64 (b1.toNat : Int)) < 224)), ()))) (some (.inl (false, ()))) : Option ((Bool × Unit) ⊕ ((Int × Int × Int × Unit) ⊕ (Int × Int × Unit)))).bind (joinS fun v2 =>
 cond v2.1 (
 some (.inl ((IntKind.wrap .i64 ((IntKind.wrap .i64 (b1.toNat : Int)) - 192)), 2, 128, ()))) (
 cond (decide ((IntKind.wrap .i64 (b1.toNat : Int)) ≥ 224)) (cond (decide ((IntKind.wrap .i64 (b1.toNat : Int)) < 240)) (
 some (.inl ((IntKind.wrap .i64 ((IntKind.wrap .i64 (b1.toNat : Int)) - 224)), 3, 2048, ()))) (
 cond (decide ((IntKind.wrap .i64 (b1.toNat : Int)) ≥ 240)) (cond (decide ((IntKind.wrap .i64 (b1.toNat : Int)) < 245)) (
 some (.inl ((IntKind.wrap .i64 ((IntKind.wrap .i64 (b1.toNat : Int)) - 240)), 4, 65536, ()))) (
 some (.inr (0, 0, ())))) (some (.inr (0, 0, ()))))) (cond (decide ((IntKind.wrap .i64 (b1.toNat : Int)) ≥ 240)) (cond (decide ((IntKind.wrap .i64 (b1.toNat : Int)) < 245)) (
 some (.inl ((IntKind.wrap .i64 ((IntKind.wrap .i64 (b1.toNat : Int)) - 240)), 4, 65536, ()))) (
 some (.inr (0, 0, ())))) (some (.inr (0, 0, ()))))))) : Option ((Int × Int × Int × Unit) ⊕ (Int × Int × Unit))).bind (joinS fun v3 =>
 cond (decide ((a0.length : Int) < v3.2.1)) (
 some (0, 0, ())) (
(loopT (zcm_l17 a0 v3) (v3.1, 1, ()) : Option ((Int × Unit) ⊕ (Int × Int × Unit))).bind (joinS fun v7 =>
(cond (decide (v7.1 < v3.2.2.1)) (some (.inr (0, 0, ()))) (cond (decide (v7.1 > 1114111)) (some (.inr (0, 0, ()))) (cond (decide (v7.1 ≥ 55296)) (cond (decide (v7.1 ≤ 57343)) (
 some (.inr (0, 0, ()))) (
 some (.inl ()))) (some (.inl ())))) : Option (Unit ⊕ (Int × Int × Unit))).bind (joinS fun v8 =>
 some (v7.1, v3.2.1, ()))))))
def zcm_T : TFn := { ps := (.cons .str .unit), res := (.tup (.cons (.int .i64) tT12)), fn := fun v => zcm v.1 }
def zcm_V : TEnv := (vZ [])
theorem zcm_eq : runY Tryz.prog zcm_E zcm_H zcm_V zcm_Y Tryz.f160 zcm_T.ps zcm_T.res = zcm_T.fn := by kernel_rfl
theorem zcm_Fok : SoundP Tryz.prog G0 160 zcm_F := closeF_sound (runF_sound ⟨same_ok, envP_nil, envS_nil, envP_nil, envX_nil⟩ Tryz.func160 rfl (by kernel_rfl))
theorem zcm_ok : TOk zcm_F zcm_T := runY_ok (E := zcm_E) (ET := zcm_V) (EnvT.ofX (pure_of pairs_nil) looks_nil raws_nil G0_ok news_nil) zcm_eq rfl
def zbp_E : Env := (eZ [(160, zcm_F)] [188])
def zbp_H : Hints := (hZ [(3, [0, 4, 5])] [])
def zbp_F : PFn := closeF (runF Tryz.prog zbp_E zbp_H Tryz.f115)
def zbp_Y : TH := { loops := [(3, { keep := [(4, (.own 0)), (5, (.int .i64))], mem := [.row true 3 (.int .i64)] })], ro := [] }
def zbp_l3 (a0 : List UInt8) (y3 : (Int × List Int × Unit)) : Option ((Int × List Int × Unit) ⊕ (List Int × Bool × Unit)) :=
 cond (decide (y3.1 < (a0.length : Int))) (
(subI a0 y3.1 (a0.length : Int)).bind fun s1 =>
(zcm s1).bind fun r2 =>
 cond (decide (r2.2.1 = 0)) (
 some (.inr ([], false, ()))) (
(roomT (y3.2.1.length + ([r2.1] : List Int).length)).bind fun u3 =>
 some (.inl ((IntKind.wrap .i64 (y3.1 + r2.2.1)), (y3.2.1 ++ ([r2.1] : List Int)), ())))) (
 some (.inr (y3.2.1, true, ())))
def zbp (a0 : List UInt8) : Option (List Int × Bool × Unit) :=
 loopT (zbp_l3 a0) (0, [], ())
def zbp_T : TFn := { ps := (.cons .str .unit), res := (.tup (.cons (.sl (.int .i64)) (.cons .bool .unit))), fn := fun v => zbp v.1 }
def zbp_V : TEnv := { pure := [(160, zcm_T)], look := [], glob := G0T, ty := [(3, (.int .i64))], raw := [], fresh := [] }
theorem zbp_eq : runY Tryz.prog zbp_E zbp_H zbp_V zbp_Y Tryz.f115 zbp_T.ps zbp_T.res = zbp_T.fn := by kernel_rfl
theorem zbp_Fok : SoundP Tryz.prog G0 115 zbp_F := closeF_sound (runF_sound ⟨same_ok, (envP_cons zcm_Fok envP_nil), envS_nil, envP_nil, envX_nil⟩ Tryz.func115 rfl (by kernel_rfl))
theorem zbp_ok : TOk zbp_F zbp_T := runY_ok (E := zbp_E) (ET := zbp_V) (EnvT.ofX (pure_of (pairs_cons zcm_ok pairs_nil)) looks_nil raws_nil G0_ok news_nil) zbp_eq rfl
def zc3_E : Env := (eZ [] [188])
def zc3_H : Hints := (hZ [] [])
def zc3_F : PFn := closeF (runF Tryz.prog zc3_E zc3_H Tryz.f159)
def zc3_Y : TH := yZ
def zc3 (a0 : Int) : Option Bool :=
 cond (decide (a0 ≥ 32)) (cond (decide (a0 < 127)) (some (!decide (a0 = 65533))) (cond (decide (a0 > 159)) (some (!decide (a0 = 65533))) (some false))) (some false)
def zc3_T : TFn := { ps := tT12, res := .bool, fn := fun v => zc3 v.1 }
def zc3_V : TEnv := (vZ [])
theorem zc3_eq : runY Tryz.prog zc3_E zc3_H zc3_V zc3_Y Tryz.f159 zc3_T.ps zc3_T.res = zc3_T.fn := by kernel_rfl
theorem zc3_Fok : SoundP Tryz.prog G0 159 zc3_F := closeF_sound (runF_sound ⟨same_ok, envP_nil, envS_nil, envP_nil, envX_nil⟩ Tryz.func159 rfl (by kernel_rfl))
theorem zc3_ok : TOk zc3_F zc3_T := runY_ok (E := zc3_E) (ET := zc3_V) (EnvT.ofX (pure_of pairs_nil) looks_nil raws_nil G0_ok news_nil) zc3_eq rfl
def zby_E : Env := (eZ [(115, zbp_F), (159, zc3_F)] [188])
def zby_H : Hints := (hZ [(3, [3, 4, 5])] [])
def zby_F : PFn := closeF (runF Tryz.prog zby_E zby_H Tryz.f114)
def zby_Y : TH := { joins := [(7, { keep := [], mem := [] })], loops := [(3, { keep := [(5, (.int .i64))], mem := [] })], ro := [] }
def zby_l3 (r1 : (List Int × Bool × Unit)) (y3 : (Int × Unit)) : Option ((Int × Unit) ⊕ (Unit ⊕ Bool)) :=
 cond (decide (y3.1 < (r1.1.length : Int))) (
(atI r1.1 y3.1).bind fun x2 =>
(zc3 x2).bind fun r3 =>
 cond (!r3) (
 some (.inr (.inr false))) (
 some (.inl ((IntKind.wrap .i64 (y3.1 + 1)), ())))) (
 some (.inr (.inl ())))
def zby (a0 : List UInt8) : Option Bool :=
(zbp a0).bind fun r1 =>
(loopT (zby_l3 r1) (0, ()) : Option (Unit ⊕ Bool)).bind (joinS fun v4 =>
 cond r1.2.1 (cond (decide ((r1.1.length : Int) ≥ 1)) (some (decide ((r1.1.length : Int) ≤ 24))) (some false)) (some false))
def zby_T : TFn := { ps := (.cons .str .unit), res := .bool, fn := fun v => zby v.1 }
def zby_V : TEnv := (vZ [(115, zbp_T), (159, zc3_T)])
theorem zby_eq : runY Tryz.prog zby_E zby_H zby_V zby_Y Tryz.f114 zby_T.ps zby_T.res = zby_T.fn := by kernel_rfl
theorem zby_Fok : SoundP Tryz.prog G0 114 zby_F := closeF_sound (runF_sound ⟨same_ok, (envP_cons zbp_Fok (envP_cons zc3_Fok envP_nil)), envS_nil, envP_nil, envX_nil⟩ Tryz.func114 rfl (by kernel_rfl))
theorem zby_ok : TOk zby_F zby_T := runY_ok (E := zby_E) (ET := zby_V) (EnvT.ofX (pure_of (pairs_cons zbp_ok (pairs_cons zc3_ok pairs_nil))) looks_nil raws_nil G0_ok news_nil) zby_eq rfl
def zbv_E : Env := (eZ [(114, zby_F)] [188])
def zbv_H : Hints := (hZ [(6, [0, 3])] [])
def zbv_F : PFn := closeF (runF Tryz.prog zbv_E zbv_H Tryz.f59)
def zbv_Y : TH := { loops := [(6, { keep := [(3, (.int .i64))], mem := [] })], ro := [] }
def zbv_l6 (a0 : List (List UInt8)) (y6 : (Int × Unit)) : Option ((Int × Unit) ⊕ Int) :=
 cond (decide (y6.1 < (a0.length : Int))) (
(atI a0 y6.1).bind fun x1 =>
(zby x1).bind fun r2 =>
 cond (!r2) (
 some (.inr 8)) (
 some (.inl ((IntKind.wrap .i64 (y6.1 + 1)), ())))) (
 some (.inr 0))
def zbv (a0 : List (List UInt8)) : Option Int :=
 cond (decide ((a0.length : Int) = 0)) (
 some 8) (
 cond (decide ((a0.length : Int) > 8)) (
 some 9) (
 loopT (zbv_l6 a0) (0, ())))
def zbv_T : TFn := { ps := tT18, res := (.int .i64), fn := fun v => zbv v.1 }
def zbv_V : TEnv := (vZ [(114, zby_T)])
theorem zbv_eq : runY Tryz.prog zbv_E zbv_H zbv_V zbv_Y Tryz.f59 zbv_T.ps zbv_T.res = zbv_T.fn := by kernel_rfl
theorem zbv_Fok : SoundP Tryz.prog G0 59 zbv_F := closeF_sound (runF_sound ⟨same_ok, (envP_cons zby_Fok envP_nil), envS_nil, envP_nil, envX_nil⟩ Tryz.func59 rfl (by kernel_rfl))
theorem zbv_ok : TOk zbv_F zbv_T := runY_ok (E := zbv_E) (ET := zbv_V) (EnvT.ofX (pure_of (pairs_cons zby_ok pairs_nil)) looks_nil raws_nil G0_ok news_nil) zbv_eq rfl
def zbu_E : Env := (eZ [(115, zbp_F)] [188])
def zbu_H : Hints := (hZ [] [])
def zbu_F : PFn := closeF (runF Tryz.prog zbu_E zbu_H Tryz.f60)
def zbu_Y : TH := { loops := [], ro := [1] }
def zbu (a0 : vV3) : Option Bool :=
 cond (decide (a0.1 = 1)) (
 cond (decide (a0.2.2.1 = [])) (cond (decide (a0.2.1 ≥ (-2147483647))) (some (decide (a0.2.1 ≤ 2147483647))) (some false)) (some false)) (
 cond (decide (a0.1 = 2)) (
(zbp a0.2.2.1).bind fun r1 =>
 cond (decide (a0.2.1 = 0)) (cond r1.2.1 (some (decide ((a0.2.2.1.length : Int) ≤ 64))) (some false)) (some false)) (
 cond (decide (a0.1 = 3)) (cond (decide (a0.2.2.1 = [])) (cond (decide (a0.2.1 ≥ 0)) (some (decide (a0.2.1 ≤ 1))) (some false)) (some false)) (some false)))
def zbu_T : TFn := { ps := (.cons tT10 .unit), res := .bool, fn := fun v => zbu v.1 }
def zbu_V : TEnv := (vZ [(115, zbp_T)])
theorem zbu_eq : runY Tryz.prog zbu_E zbu_H zbu_V zbu_Y Tryz.f60 zbu_T.ps zbu_T.res = zbu_T.fn := by kernel_rfl
theorem zbu_Fok : SoundP Tryz.prog G0 60 zbu_F := closeF_sound (runF_sound ⟨same_ok, (envP_cons zbp_Fok envP_nil), envS_nil, envP_nil, envX_nil⟩ Tryz.func60 rfl (by kernel_rfl))
theorem zbu_ok : TOk zbu_F zbu_T := runY_ok (E := zbu_E) (ET := zbu_V) (EnvT.ofX (pure_of (pairs_cons zbp_ok pairs_nil)) looks_nil raws_nil G0_ok news_nil) zbu_eq rfl
def zcq_E : Env := (eZ [(110, za0_F), (111, zch_F)] [188])
def zcq_H : Hints := (hZ [] [])
def zcq_F : PFn := closeF (runF Tryz.prog zcq_E zcq_H Tryz.f56)
def zcq_Y : TH := { loops := [], ro := [2, 3] }
def zcq (a0 : vV2) (a1 : vV2) : Option Int :=
(za0 a0.1 a1.1).bind fun r1 =>
 cond (!decide (r1 = 0)) (
(za0 a0.1 a1.1).bind fun r2 =>
 some r2) (
(zch a0.2.1 a1.2.1).bind fun r3 =>
 some r3)
def zcq_T : TFn := { ps := (.cons tT9 (.cons tT9 .unit)), res := (.int .i64), fn := fun v => zcq v.1 v.2.1 }
def zcq_V : TEnv := (vZ [(110, za0_T), (111, zch_T)])
theorem zcq_eq : runY Tryz.prog zcq_E zcq_H zcq_V zcq_Y Tryz.f56 zcq_T.ps zcq_T.res = zcq_T.fn := by kernel_rfl
theorem zcq_Fok : SoundP Tryz.prog G0 56 zcq_F := closeF_sound (runF_sound ⟨same_ok, (envP_cons za0_Fok (envP_cons zch_Fok envP_nil)), envS_nil, envP_nil, envX_nil⟩ Tryz.func56 rfl (by kernel_rfl))
theorem zcq_ok : TOk zcq_F zcq_T := runY_ok (E := zcq_E) (ET := zcq_V) (EnvT.ofX (pure_of (pairs_cons za0_ok (pairs_cons zch_ok pairs_nil))) looks_nil raws_nil G0_ok news_nil) zcq_eq rfl
def zck_E : Env := (eZ [(56, zcq_F), (116, zbx_F)] [188])
def zck_H : Hints := (hZ [(2, [0, 3])] [])
def zck_F : PFn := closeF (runF Tryz.prog zck_E zck_H Tryz.f61)
def zck_Y : TH := { loops := [(2, { keep := [(3, (.int .i64))], mem := [] })], ro := [] }
def zck_l2 (a0 : List vV2) (y2 : (Int × Unit)) : Option ((Int × Unit) ⊕ Bool) :=
 cond (decide (y2.1 < (a0.length : Int))) (
(atI a0 y2.1).bind fun x1 =>
(zbx x1.1).bind fun r2 =>
 cond (!r2) (some (.inr false)) ((atI a0 y2.1).bind fun x3 =>
 cond (decide (x3.2.1 < 0)) (some (.inr false)) ((atI a0 y2.1).bind fun x4 =>
 cond (decide (x4.2.1 > 15)) (
 some (.inr false)) (
 cond (decide (y2.1 > 0)) ((atI a0 (IntKind.wrap .i64 (y2.1 - 1))).bind fun x5 =>
(atI a0 y2.1).bind fun x6 =>
(zcq x5 x6).bind fun r7 =>
 cond (!decide (r7 = (-1))) (
 some (.inr false)) (
 some (.inl ((IntKind.wrap .i64 (y2.1 + 1)), ())))) (some (.inl ((IntKind.wrap .i64 (y2.1 + 1)), ()))))))) (
 some (.inr true))
def zck (a0 : List vV2) : Option Bool :=
 loopT (zck_l2 a0) (0, ())
def zck_T : TFn := { ps := (.cons (.sl tT9) .unit), res := .bool, fn := fun v => zck v.1 }
def zck_V : TEnv := (vZ [(56, zcq_T), (116, zbx_T)])
theorem zck_eq : runY Tryz.prog zck_E zck_H zck_V zck_Y Tryz.f61 zck_T.ps zck_T.res = zck_T.fn := by kernel_rfl
theorem zck_Fok : SoundP Tryz.prog G0 61 zck_F := closeF_sound (runF_sound ⟨same_ok, (envP_cons zcq_Fok (envP_cons zbx_Fok envP_nil)), envS_nil, envP_nil, envX_nil⟩ Tryz.func61 rfl (by kernel_rfl))
theorem zck_ok : TOk zck_F zck_T := runY_ok (E := zck_E) (ET := zck_V) (EnvT.ofX (pure_of (pairs_cons zcq_ok (pairs_cons zbx_ok pairs_nil))) looks_nil raws_nil G0_ok news_nil) zck_eq rfl
def zbs_E : Env := (eZ [(59, zbv_F), (60, zbu_F), (61, zck_F)] [188])
def zbs_H : Hints := (hZ [] [])
def zbs_F : PFn := closeF (runF Tryz.prog zbs_E zbs_H Tryz.f18)
def zbs_Y : TH := { joins := [(9, { keep := [(1, (.bx 0 0))], mem := [.same, .gone] }), (11, { keep := [(1, (.bx 0 0))], mem := [.same, .gone] }), (13, { keep := [(1, (.bx 0 0))], mem := [.same, .gone] }), (15, { keep := [(1, (.bx 0 0))], mem := [.same, .gone] })], loops := [], cuts := [(11, [(8, { keep := [(1, (.bx 0 0)), (55, .bool)], mem := [.same, .gone] })])], ro := [1], news := [] }
def zbs (a0 : vV0) : Option Int :=
 cond (decide (a0.1 < 1)) (some 18) (cond (decide (a0.1 > 5)) (
 some 18) (
(zbv a0.2.1).bind fun r1 =>
 cond (!decide (r1 = 0)) (
 some r1) (
(cond (decide (a0.1 = 3)) (cond (!(eqV tT10 a0.2.2.1 (0, 0, [], ()))) (
 some (.inr 2)) (
 some (.inl ()))) (cond (decide (a0.1 = 5)) (cond (!(eqV tT10 a0.2.2.1 (0, 0, [], ()))) (
 some (.inr 2)) (
 some (.inl ()))) (some (.inl ()))) : Option (Unit ⊕ Int)).bind (joinS fun v2 =>
(cond (!decide (a0.1 = 3)) (cond (!decide (a0.1 = 5)) ((zbu a0.2.2.1).bind fun r3 =>
 cond (!r3) (
 some (.inr 2)) (
 some (.inl ()))) (some (.inl ()))) (some (.inl ())) : Option (Unit ⊕ Int)).bind (joinS fun v4 =>
((cond (!decide (a0.1 = 3)) (some ((!decide (a0.2.2.2.1 = 0)), ())) (some (false, ())) : Option (Bool × Unit)).bind fun v5 =>
 cond v5.1 (some (.inr 2)) (cond (decide (a0.1 = 3)) (cond (decide (a0.2.2.2.1 = 0)) (some (.inr 2)) (cond (decide (a0.2.2.2.1 > 2147483647)) (some (.inr 2)) (cond (decide (a0.2.2.2.1 < (-2147483647))) (
 some (.inr 2)) (
 some (.inl ()))))) (some (.inl ()))) : Option (Unit ⊕ Int)).bind (joinS fun v6 =>
(cond (decide (a0.1 = 2)) (cond (decide ((a0.2.2.2.2.1.length : Int) > 0)) (
 some (.inr 2)) (
 some (.inl ()))) (cond (decide (a0.1 = 3)) (cond (decide ((a0.2.2.2.2.1.length : Int) > 0)) (
 some (.inr 2)) (
 some (.inl ()))) (some (.inl ()))) : Option (Unit ⊕ Int)).bind (joinS fun v7 =>
 cond (decide ((a0.2.2.2.2.1.length : Int) > 256)) (
 some 7) (
(zck a0.2.2.2.2.1).bind fun r8 =>
 cond (!r8) (
 some 2) (
 some 0)))))))))
def zbs_T : TFn := { ps := (.cons tT8 .unit), res := (.int .i64), fn := fun v => zbs v.1 }
def zbs_V : TEnv := (vZ [(59, zbv_T), (60, zbu_T), (61, zck_T)])
theorem zbs_eq : runY Tryz.prog zbs_E zbs_H zbs_V zbs_Y Tryz.f18 zbs_T.ps zbs_T.res = zbs_T.fn := by kernel_rfl
theorem zbs_Fok : SoundP Tryz.prog G0 18 zbs_F := closeF_sound (runF_sound ⟨same_ok, (envP_cons zbv_Fok (envP_cons zbu_Fok (envP_cons zck_Fok envP_nil))), envS_nil, envP_nil, envX_nil⟩ Tryz.func18 rfl (by kernel_rfl))
theorem zbs_ok : TOk zbs_F zbs_T := runY_ok (E := zbs_E) (ET := zbs_V) (EnvT.ofX (pure_of (pairs_cons zbv_ok (pairs_cons zbu_ok (pairs_cons zck_ok pairs_nil)))) looks_nil raws_nil G0_ok news_nil) zbs_eq rfl
def zb7_E : Env := (eZ [] [188])
def zb7_H : Hints := (hZ [] [])
def zb7_F : PFn := closeF (runF Tryz.prog zb7_E zb7_H Tryz.f19)
def zb7_Y : TH := { loops := [], cuts := [(2, [(9, { keep := [(1, (.bx 0 0)), (3, (.bx 1 0)), (13, .bool)], mem := [.same, .box 26 tT10] })])], ro := [1], news := [] }
def zb7 (a0 : vV0) : Option Bool :=
(cond (decide (a0.1 = 0)) (some ((decide ((a0.2.1.length : Int) = 0)), (0, 0, [], ()), ())) (some (false, (0, 0, [], ()), ())) : Option (Bool × vV3 × Unit)).bind fun v1 =>
 cond v1.1 (cond (eqV tT10 a0.2.2.1 v1.2.1) (cond (decide (a0.2.2.2.1 = 0)) (some (decide ((a0.2.2.2.2.1.length : Int) = 0))) (some false)) (some false)) (some false)
def zb7_T : TFn := { ps := (.cons tT8 .unit), res := .bool, fn := fun v => zb7 v.1 }
def zb7_V : TEnv := (vZ [])
theorem zb7_eq : runY Tryz.prog zb7_E zb7_H zb7_V zb7_Y Tryz.f19 zb7_T.ps zb7_T.res = zb7_T.fn := by kernel_rfl
theorem zb7_Fok : SoundP Tryz.prog G0 19 zb7_F := closeF_sound (runF_sound ⟨same_ok, envP_nil, envS_nil, envP_nil, envX_nil⟩ Tryz.func19 rfl (by kernel_rfl))
theorem zb7_ok : TOk zb7_F zb7_T := runY_ok (E := zb7_E) (ET := zb7_V) (EnvT.ofX (pure_of pairs_nil) looks_nil raws_nil G0_ok news_nil) zb7_eq rfl
def zbw_E : Env := (eZ [(18, zbs_F), (19, zb7_F), (116, zbx_F)] [188])
def zbw_H : Hints := (hZ [(8, [1, 3])] [])
def zbw_F : PFn := closeF (runF Tryz.prog zbw_E zbw_H Tryz.f95)
def zbw_Y : TH := { loops := [(8, { keep := [(1, (.bx 0 0)), (3, (.int .i64))], mem := [.same] })], cuts := [(1, [(9, { keep := [(1, (.bx 0 0)), (13, .bool)], mem := [.same] })])], ro := [1], news := [] }
def zbw_l8 (a0 : vV5) (y8 : (Int × Unit)) : Option ((Int × Unit) ⊕ Int) :=
 cond (decide (y8.1 < (a0.2.2.2.2.1.length : Int))) (
(atI a0.2.2.2.2.1 y8.1).bind fun x3 =>
(zbs x3).bind fun r4 =>
 cond (!decide (r4 = 0)) (cond a0.2.2.2.1 ((atI a0.2.2.2.2.1 y8.1).bind fun x5 =>
(zb7 x5).bind fun r6 =>
 cond (!r6) (
 some (.inr r4)) (
 some (.inl ((IntKind.wrap .i64 (y8.1 + 1)), ())))) (some (.inr r4))) (some (.inl ((IntKind.wrap .i64 (y8.1 + 1)), ())))) (
 some (.inr 0))
def zbw (a0 : vV5) : Option Int :=
((zbx a0.1).bind fun r1 =>
 cond (!r1) (some (true, ())) (some ((decide (a0.2.1 < 0)), ())) : Option (Bool × Unit)).bind fun v2 =>
 cond v2.1 (some 2) (cond (decide (a0.2.1 > 7)) (some 2) (cond (decide (a0.2.2.1 < 1)) (some 2) (cond (decide (a0.2.2.1 > 1099511627776)) (
 some 2) (
 cond (decide ((a0.2.2.2.2.1.length : Int) = 0)) (
 some 11) (
 cond (decide ((a0.2.2.2.2.1.length : Int) > 16)) (
 some 7) (
 loopT (zbw_l8 a0) (0, ())))))))
def zbw_T : TFn := { ps := (.cons tT13 .unit), res := (.int .i64), fn := fun v => zbw v.1 }
def zbw_V : TEnv := (vZ [(18, zbs_T), (19, zb7_T), (116, zbx_T)])
theorem zbw_eq : runY Tryz.prog zbw_E zbw_H zbw_V zbw_Y Tryz.f95 zbw_T.ps zbw_T.res = zbw_T.fn := by kernel_rfl
theorem zbw_Fok : SoundP Tryz.prog G0 95 zbw_F := closeF_sound (runF_sound ⟨same_ok, (envP_cons zbs_Fok (envP_cons zb7_Fok (envP_cons zbx_Fok envP_nil))), envS_nil, envP_nil, envX_nil⟩ Tryz.func95 rfl (by kernel_rfl))
theorem zbw_ok : TOk zbw_F zbw_T := runY_ok (E := zbw_E) (ET := zbw_V) (EnvT.ofX (pure_of (pairs_cons zbs_ok (pairs_cons zb7_ok (pairs_cons zbx_ok pairs_nil)))) looks_nil raws_nil G0_ok news_nil) zbw_eq rfl
def zb5_E : Env := (eZ [(93, zbt_F), (94, zbm_F), (95, zbw_F)] [188])
def zb5_H : Hints := (hZ [(4, [0, 5])] [])
def zb5_F : PFn := closeF (runF Tryz.prog zb5_E zb5_H Tryz.f46)
def zb5_Y : TH := { loops := [(4, { keep := [(5, (.int .i64))], mem := [] })], ro := [] }
def zb5_l4 (a0 : List vV5) (y4 : (Int × Unit)) : Option ((Int × Unit) ⊕ Bool) :=
 cond (decide (y4.1 < (a0.length : Int))) (
(atI a0 y4.1).bind fun x2 =>
(zbm x2).bind fun r3 =>
 cond (!r3) (some (.inr false)) ((atI a0 y4.1).bind fun x4 =>
(zbw x4).bind fun r5 =>
 cond (!decide (r5 = 0)) (
 some (.inr false)) (
 some (.inl ((IntKind.wrap .i64 (y4.1 + 1)), ()))))) (
 some (.inr true))
def zb5 (a0 : List vV5) (a1 : Int) : Option Bool :=
 cond (decide ((a0.length : Int) > a1)) (some false) ((zbt a0).bind fun r1 =>
 cond (!r1) (
 some false) (
 loopT (zb5_l4 a0) (0, ())))
def zb5_T : TFn := { ps := (.cons (.sl tT13) tT12), res := .bool, fn := fun v => zb5 v.1 v.2.1 }
def zb5_V : TEnv := (vZ [(93, zbt_T), (94, zbm_T), (95, zbw_T)])
theorem zb5_eq : runY Tryz.prog zb5_E zb5_H zb5_V zb5_Y Tryz.f46 zb5_T.ps zb5_T.res = zb5_T.fn := by kernel_rfl
theorem zb5_Fok : SoundP Tryz.prog G0 46 zb5_F := closeF_sound (runF_sound ⟨same_ok, (envP_cons zbt_Fok (envP_cons zbm_Fok (envP_cons zbw_Fok envP_nil))), envS_nil, envP_nil, envX_nil⟩ Tryz.func46 rfl (by kernel_rfl))
theorem zb5_ok : TOk zb5_F zb5_T := runY_ok (E := zb5_E) (ET := zb5_V) (EnvT.ofX (pure_of (pairs_cons zbt_ok (pairs_cons zbm_ok (pairs_cons zbw_ok pairs_nil)))) looks_nil raws_nil G0_ok news_nil) zb5_eq rfl
def zc4_E : Env := (eZ [(116, zbx_F)] [188])
def zc4_H : Hints := (hZ [] [])
def zc4_F : PFn := closeF (runF Tryz.prog zc4_E zc4_H Tryz.f151)
def zc4_Y : TH := { loops := [], ro := [1] }
def zc4 (a0 : vV2) : Option Bool :=
(zbx a0.1).bind fun r1 =>
 cond r1 (cond (decide (a0.2.1 ≥ 1)) (some (decide (a0.2.1 ≤ 64))) (some false)) (some false)
def zc4_T : TFn := { ps := (.cons tT9 .unit), res := .bool, fn := fun v => zc4 v.1 }
def zc4_V : TEnv := (vZ [(116, zbx_T)])
theorem zc4_eq : runY Tryz.prog zc4_E zc4_H zc4_V zc4_Y Tryz.f151 zc4_T.ps zc4_T.res = zc4_T.fn := by kernel_rfl
theorem zc4_Fok : SoundP Tryz.prog G0 151 zc4_F := closeF_sound (runF_sound ⟨same_ok, (envP_cons zbx_Fok envP_nil), envS_nil, envP_nil, envX_nil⟩ Tryz.func151 rfl (by kernel_rfl))
theorem zc4_ok : TOk zc4_F zc4_T := runY_ok (E := zc4_E) (ET := zc4_V) (EnvT.ofX (pure_of (pairs_cons zbx_ok pairs_nil)) looks_nil raws_nil G0_ok news_nil) zc4_eq rfl
def zbl_E : Env := (eZ [(110, za0_F), (151, zc4_F)] [188])
def zbl_H : Hints := (hZ [(2, [0, 3])] [])
def zbl_F : PFn := closeF (runF Tryz.prog zbl_E zbl_H Tryz.f96)
def zbl_Y : TH := { loops := [(2, { keep := [(3, (.int .i64))], mem := [] })], ro := [] }
def zbl_l2 (a0 : List vV2) (y2 : (Int × Unit)) : Option ((Int × Unit) ⊕ Bool) :=
 cond (decide (y2.1 < (a0.length : Int))) (
(atI a0 y2.1).bind fun x1 =>
(zc4 x1).bind fun r2 =>
 cond (!r2) (some (.inr false)) (cond (decide (y2.1 > 0)) ((atI a0 (IntKind.wrap .i64 (y2.1 - 1))).bind fun x3 =>
(atI a0 y2.1).bind fun x4 =>
(za0 x3.1 x4.1).bind fun r5 =>
 cond (!decide (r5 = (-1))) (
 some (.inr false)) (
 some (.inl ((IntKind.wrap .i64 (y2.1 + 1)), ())))) (some (.inl ((IntKind.wrap .i64 (y2.1 + 1)), ()))))) (
 some (.inr true))
def zbl (a0 : List vV2) : Option Bool :=
 loopT (zbl_l2 a0) (0, ())
def zbl_T : TFn := { ps := (.cons (.sl tT9) .unit), res := .bool, fn := fun v => zbl v.1 }
def zbl_V : TEnv := (vZ [(110, za0_T), (151, zc4_T)])
theorem zbl_eq : runY Tryz.prog zbl_E zbl_H zbl_V zbl_Y Tryz.f96 zbl_T.ps zbl_T.res = zbl_T.fn := by kernel_rfl
theorem zbl_Fok : SoundP Tryz.prog G0 96 zbl_F := closeF_sound (runF_sound ⟨same_ok, (envP_cons za0_Fok (envP_cons zc4_Fok envP_nil)), envS_nil, envP_nil, envX_nil⟩ Tryz.func96 rfl (by kernel_rfl))
theorem zbl_ok : TOk zbl_F zbl_T := runY_ok (E := zbl_E) (ET := zbl_V) (EnvT.ofX (pure_of (pairs_cons za0_ok (pairs_cons zc4_ok pairs_nil))) looks_nil raws_nil G0_ok news_nil) zbl_eq rfl
def zca_E : Env := (eZ [(96, zbl_F)] [188])
def zca_H : Hints := (hZ [] [])
def zca_F : PFn := closeF (runF Tryz.prog zca_E zca_H Tryz.f47)
def zca_Y : TH := yZ
def zca (a0 : List vV2) : Option Bool :=
 cond (decide ((a0.length : Int) ≤ 100)) ((zbl a0).bind fun r1 =>
 some r1) (some false)
def zca_T : TFn := { ps := (.cons (.sl tT9) .unit), res := .bool, fn := fun v => zca v.1 }
def zca_V : TEnv := (vZ [(96, zbl_T)])
theorem zca_eq : runY Tryz.prog zca_E zca_H zca_V zca_Y Tryz.f47 zca_T.ps zca_T.res = zca_T.fn := by kernel_rfl
theorem zca_Fok : SoundP Tryz.prog G0 47 zca_F := closeF_sound (runF_sound ⟨same_ok, (envP_cons zbl_Fok envP_nil), envS_nil, envP_nil, envX_nil⟩ Tryz.func47 rfl (by kernel_rfl))
theorem zca_ok : TOk zca_F zca_T := runY_ok (E := zca_E) (ET := zca_V) (EnvT.ofX (pure_of (pairs_cons zbl_ok pairs_nil)) looks_nil raws_nil G0_ok news_nil) zca_eq rfl
def zcd_E : Env := (eZ [(46, zb5_F), (47, zca_F)] [188])
def zcd_H : Hints := (hZ [] [])
def zcd_F : PFn := closeF (runF Tryz.prog zcd_E zcd_H Tryz.f10)
def zcd_Y : TH := yZ
def zcd (a0 : List vV5) (a1 : List vV2) : Option Bool :=
(zb5 a0 20).bind fun r1 =>
 cond r1 ((zca a1).bind fun r2 =>
 some r2) (some false)
def zcd_T : TFn := { ps := (.cons (.sl tT13) (.cons (.sl tT9) .unit)), res := .bool, fn := fun v => zcd v.1 v.2.1 }
def zcd_V : TEnv := (vZ [(46, zb5_T), (47, zca_T)])
theorem zcd_eq : runY Tryz.prog zcd_E zcd_H zcd_V zcd_Y Tryz.f10 zcd_T.ps zcd_T.res = zcd_T.fn := by kernel_rfl
theorem zcd_Fok : SoundP Tryz.prog G0 10 zcd_F := closeF_sound (runF_sound ⟨same_ok, (envP_cons zb5_Fok (envP_cons zca_Fok envP_nil)), envS_nil, envP_nil, envX_nil⟩ Tryz.func10 rfl (by kernel_rfl))
theorem zcd_ok : TOk zcd_F zcd_T := runY_ok (E := zcd_E) (ET := zcd_V) (EnvT.ofX (pure_of (pairs_cons zb5_ok (pairs_cons zca_ok pairs_nil))) looks_nil raws_nil G0_ok news_nil) zcd_eq rfl
def za4_E : Env := (eZ [] [188])
def za4_H : Hints := (hZ [] [])
def za4_F : PFn := closeF (runF Tryz.prog za4_E za4_H Tryz.f174)
def za4_Y : TH := yZ
def za4 (a0 : Int) : Option Bool :=
 some (!decide (a0 = a0))
def za4_T : TFn := { ps := tT12, res := .bool, fn := fun v => za4 v.1 }
def za4_V : TEnv := (vZ [])
theorem za4_eq : runY Tryz.prog za4_E za4_H za4_V za4_Y Tryz.f174 za4_T.ps za4_T.res = za4_T.fn := by kernel_rfl
theorem za4_Fok : SoundP Tryz.prog G0 174 za4_F := closeF_sound (runF_sound ⟨same_ok, envP_nil, envS_nil, envP_nil, envX_nil⟩ Tryz.func174 rfl (by kernel_rfl))
theorem za4_ok : TOk za4_F za4_T := runY_ok (E := za4_E) (ET := za4_V) (EnvT.ofX (pure_of pairs_nil) looks_nil raws_nil G0_ok news_nil) za4_eq rfl
def zax_E : Env := (eZ [(174, za4_F)] [188])
def zax_H : Hints := (hZ [] [])
def zax_F : PFn := closeF (runF Tryz.prog zax_E zax_H Tryz.f126)
def zax_Y : TH := yZ
def zax (a0 : Int) (a1 : Int) : Option Int :=
(za4 a0).bind fun r1 =>
(za4 a1).bind fun r2 =>
 cond r1 (
 cond r2 (
 some 0) (
 some (-1))) (
 cond r2 (
 some 1) (
 cond (decide (a0 < a1)) (
 some (-1)) (
 cond (decide (a0 > a1)) (
 some 1) (
 some 0))))
def zax_T : TFn := { ps := (.cons (.int .i64) tT12), res := (.int .i64), fn := fun v => zax v.1 v.2.1 }
def zax_V : TEnv := (vZ [(174, za4_T)])
theorem zax_eq : runY Tryz.prog zax_E zax_H zax_V zax_Y Tryz.f126 zax_T.ps zax_T.res = zax_T.fn := by kernel_rfl
theorem zax_Fok : SoundP Tryz.prog G0 126 zax_F := closeF_sound (runF_sound ⟨same_ok, (envP_cons za4_Fok envP_nil), envS_nil, envP_nil, envX_nil⟩ Tryz.func126 rfl (by kernel_rfl))
theorem zax_ok : TOk zax_F zax_T := runY_ok (E := zax_E) (ET := zax_V) (EnvT.ofX (pure_of (pairs_cons za4_ok pairs_nil)) looks_nil raws_nil G0_ok news_nil) zax_eq rfl
def zcl_E : Env := (eZ [] [188])
def zcl_H : Hints := (hZ [(3, [3, 6, 7, 8])] [])
def zcl_F : PFn := closeF (runF Tryz.prog zcl_E zcl_H Tryz.f124)
def zcl_Y : TH := { loops := [(3, { keep := [(8, (.int .i64))], mem := [] })], ro := [] }
def zcl_l3 (a0 : List Int) (y3 : (Int × Unit)) : Option ((Int × Unit) ⊕ Int) :=
 cond (decide (y3.1 < (a0.length : Int))) (
(atI a0 y3.1).bind fun x1 =>
 cond (!decide (x1 = 0)) (
 some (.inr x1)) (
 some (.inl ((IntKind.wrap .i64 (y3.1 + 1)), ())))) (
 some (.inr 0))
def zcl (a0 : List Int) : Option Int :=
 loopT (zcl_l3 a0) (0, ())
def zcl_T : TFn := { ps := (.cons (.sl (.int .i64)) .unit), res := (.int .i64), fn := fun v => zcl v.1 }
def zcl_V : TEnv := (vZ [])
theorem zcl_eq : runY Tryz.prog zcl_E zcl_H zcl_V zcl_Y Tryz.f124 zcl_T.ps zcl_T.res = zcl_T.fn := by kernel_rfl
theorem zcl_Fok : SoundP Tryz.prog G0 124 zcl_F := closeF_sound (runF_sound ⟨same_ok, envP_nil, envS_nil, envP_nil, envX_nil⟩ Tryz.func124 rfl (by kernel_rfl))
theorem zcl_ok : TOk zcl_F zcl_T := runY_ok (E := zcl_E) (ET := zcl_V) (EnvT.ofX (pure_of pairs_nil) looks_nil raws_nil G0_ok news_nil) zcl_eq rfl
def zbo_E : Env := (eZ [(124, zcl_F), (126, zax_F)] [188])
def zbo_H : Hints := (hZ [] [])
def zbo_F : PFn := closeF (runF Tryz.prog zbo_E zbo_H Tryz.f119)
def zbo_Y : TH := { loops := [], ro := [2, 3] }
def zbo (a0 : (Int × Int × Unit)) (a1 : (Int × Int × Unit)) : Option Int :=
(zax a0.1 a1.1).bind fun r1 =>
(zax a0.2.1 a1.2.1).bind fun r2 =>
(zcl ([r1, r2] : List Int)).bind fun r3 =>
 some r3
def zbo_T : TFn := { ps := (.cons (.agg (.cons (.int .i64) tT12)) tT17), res := (.int .i64), fn := fun v => zbo v.1 v.2.1 }
def zbo_V : TEnv := { pure := [(124, zcl_T), (126, zax_T)], look := [], glob := G0T, ty := [(3, (.int .i64))], raw := [], fresh := [] }
theorem zbo_eq : runY Tryz.prog zbo_E zbo_H zbo_V zbo_Y Tryz.f119 zbo_T.ps zbo_T.res = zbo_T.fn := by kernel_rfl
theorem zbo_Fok : SoundP Tryz.prog G0 119 zbo_F := closeF_sound (runF_sound ⟨same_ok, (envP_cons zcl_Fok (envP_cons zax_Fok envP_nil)), envS_nil, envP_nil, envX_nil⟩ Tryz.func119 rfl (by kernel_rfl))
theorem zbo_ok : TOk zbo_F zbo_T := runY_ok (E := zbo_E) (ET := zbo_V) (EnvT.ofX (pure_of (pairs_cons zcl_ok (pairs_cons zax_ok pairs_nil))) looks_nil raws_nil G0_ok news_nil) zbo_eq rfl
def za2_E : Env := (eZ [(119, zbo_F)] [188])
def za2_H : Hints := (hZ [] [])
def za2_F : PFn := closeF (runF Tryz.prog za2_E za2_H Tryz.f191)
def za2_Y : TH := { loops := [], ro := [2, 3] }
def za2 (a0 : vV2) (a1 : vV2) : Option Int :=
(zbo a0.1 a1.1).bind fun r1 =>
 some r1
def za2_T : TFn := { ps := (.cons tT9 (.cons tT9 .unit)), res := (.int .i64), fn := fun v => za2 v.1 v.2.1 }
def za2_V : TEnv := (vZ [(119, zbo_T)])
theorem za2_eq : runY Tryz.prog za2_E za2_H za2_V za2_Y Tryz.f191 za2_T.ps za2_T.res = za2_T.fn := by kernel_rfl
theorem za2_Fok : SoundP Tryz.prog G0 191 za2_F := closeF_sound (runF_sound ⟨same_ok, (envP_cons zbo_Fok envP_nil), envS_nil, envP_nil, envX_nil⟩ Tryz.func191 rfl (by kernel_rfl))
theorem za2_ok : TOk za2_F za2_T := runY_ok (E := za2_E) (ET := za2_V) (EnvT.ofX (pure_of (pairs_cons zbo_ok pairs_nil)) looks_nil raws_nil G0_ok news_nil) za2_eq rfl
def zac_E : Env := (eZ [(191, za2_F)] [188])
def zac_H : Hints := (hZ [(3, [0, 2, 4, 8, 9, 10])] [])
def zac_F : PFn := closeF (runF Tryz.prog zac_E zac_H Tryz.f190)
def zac_Y : TH := { joins := [(8, { keep := [(4, (.bx 0 0)), (9, (.int .i64))], mem := [.same] })], loops := [(3, { keep := [(4, (.bx 0 0)), (9, (.int .i64)), (10, (.int .i64))], mem := [.same] })], ro := [4] }
def zac_l3 (a0 : List vV2) (a1 : vV2) (y3 : (Int × Int × Unit)) : Option ((Int × Int × Unit) ⊕ ((Int × Unit) ⊕ (Int × Bool × Unit))) :=
 cond (decide (y3.1 < y3.2.1)) (
(shrT .u64 (IntKind.wrap .u64 (IntKind.wrap .i64 (y3.1 + y3.2.1))) 1).bind fun t1 =>
(atI a0 (IntKind.wrap .i64 t1)).bind fun x2 =>
(za2 x2 a1).bind fun r3 =>
 cond (decide (r3 < 0)) (
 some (.inl ((IntKind.wrap .i64 ((IntKind.wrap .i64 t1) + 1)), y3.2.1, ()))) (
 some (.inl (y3.1, (IntKind.wrap .i64 t1), ())))) (
 some (.inr (.inl (y3.1, ()))))
def zac (a0 : List vV2) (a1 : vV2) (a2 : Unit) : Option (Int × Bool × Unit) :=
(loopT (zac_l3 a0 a1) (0, (a0.length : Int), ()) : Option ((Int × Unit) ⊕ (Int × Bool × Unit))).bind (joinS fun v4 =>
 cond (decide (v4.1 < (a0.length : Int))) ((atI a0 v4.1).bind fun x5 =>
(za2 x5 a1).bind fun r6 =>
 some (v4.1, (decide (r6 = 0)), ())) (some (v4.1, false, ())))
def zac_T : TFn := { ps := (.cons (.sl tT9) (.cons tT9 (.cons (.fn 191) .unit))), res := (.tup (.cons (.int .i64) (.cons .bool .unit))), fn := fun v => zac v.1 v.2.1 v.2.2.1 }
def zac_V : TEnv := (vZ [(191, za2_T)])
theorem zac_eq : runY Tryz.prog zac_E zac_H zac_V zac_Y Tryz.f190 zac_T.ps zac_T.res = zac_T.fn := by kernel_rfl
theorem zac_Fok : SoundP Tryz.prog G0 190 zac_F := closeF_sound (runF_sound ⟨same_ok, (envP_cons za2_Fok envP_nil), envS_nil, envP_nil, envX_nil⟩ Tryz.func190 rfl (by kernel_rfl))
theorem zac_ok : TOk zac_F zac_T := runY_ok (E := zac_E) (ET := zac_V) (EnvT.ofX (pure_of (pairs_cons za2_ok pairs_nil)) looks_nil raws_nil G0_ok news_nil) zac_eq rfl
def zc7_E : Env := (eZ [(190, zac_F)] [188])
def zc7_H : Hints := (hZ [] [])
def zc7_F : PFn := closeF (runF Tryz.prog zc7_E zc7_H Tryz.f150)
def zc7_Y : TH := { loops := [], ro := [3] }
def zc7 (a0 : List vV2) (a1 : (Int × Int × Unit)) : Option (Int × Bool × Unit) :=
(zac a0 (a1, 0, ()) ()).bind fun r1 =>
 some (r1.1, r1.2.1, ())
def zc7_T : TFn := { ps := (.cons (.sl tT9) tT17), res := (.tup (.cons (.int .i64) (.cons .bool .unit))), fn := fun v => zc7 v.1 v.2.1 }
def zc7_V : TEnv := (vZ [(190, zac_T)])
theorem zc7_eq : runY Tryz.prog zc7_E zc7_H zc7_V zc7_Y Tryz.f150 zc7_T.ps zc7_T.res = zc7_T.fn := by kernel_rfl
theorem zc7_Fok : SoundP Tryz.prog G0 150 zc7_F := closeF_sound (runF_sound ⟨same_ok, (envP_cons zac_Fok envP_nil), envS_nil, envP_nil, envX_nil⟩ Tryz.func150 rfl (by kernel_rfl))
theorem zc7_ok : TOk zc7_F zc7_T := runY_ok (E := zc7_E) (ET := zc7_V) (EnvT.ofX (pure_of (pairs_cons zac_ok pairs_nil)) looks_nil raws_nil G0_ok news_nil) zc7_eq rfl
def zcv_E : Env := (eZ [(150, zc7_F)] [188])
def zcv_H : Hints := (hZ [] [])
def zcv_F : PFn := closeF (runF Tryz.prog zcv_E zcv_H Tryz.f92)
def zcv_Y : TH := { loops := [], ro := [3] }
def zcv (a0 : List vV2) (a1 : (Int × Int × Unit)) : Option Int :=
(zc7 a0 a1).bind fun r1 =>
 cond r1.2.1 (
(atI a0 r1.1).bind fun x2 =>
 some x2.2.1) (
 some 0)
def zcv_T : TFn := { ps := (.cons (.sl tT9) tT17), res := (.int .i64), fn := fun v => zcv v.1 v.2.1 }
def zcv_V : TEnv := (vZ [(150, zc7_T)])
theorem zcv_eq : runY Tryz.prog zcv_E zcv_H zcv_V zcv_Y Tryz.f92 zcv_T.ps zcv_T.res = zcv_T.fn := by kernel_rfl
theorem zcv_Fok : SoundP Tryz.prog G0 92 zcv_F := closeF_sound (runF_sound ⟨same_ok, (envP_cons zc7_Fok envP_nil), envS_nil, envP_nil, envX_nil⟩ Tryz.func92 rfl (by kernel_rfl))
theorem zcv_ok : TOk zcv_F zcv_T := runY_ok (E := zcv_E) (ET := zcv_V) (EnvT.ofX (pure_of (pairs_cons zc7_ok pairs_nil)) looks_nil raws_nil G0_ok news_nil) zcv_eq rfl
def zcp_E : Env := (eZ [(92, zcv_F)] [188])
def zcp_H : Hints := (hZ [] [])
def zcp_F : PFn := closeF (runF Tryz.prog zcp_E zcp_H Tryz.f45)
def zcp_Y : TH := { loops := [], ro := [3] }
def zcp (a0 : List vV2) (a1 : (Int × Int × Unit)) : Option Bool :=
(zcv a0 a1).bind fun r1 =>
(remT r1 2).bind fun t2 =>
 some (decide (t2 = 0))
def zcp_T : TFn := { ps := (.cons (.sl tT9) tT17), res := .bool, fn := fun v => zcp v.1 v.2.1 }
def zcp_V : TEnv := (vZ [(92, zcv_T)])
theorem zcp_eq : runY Tryz.prog zcp_E zcp_H zcp_V zcp_Y Tryz.f45 zcp_T.ps zcp_T.res = zcp_T.fn := by kernel_rfl
theorem zcp_Fok : SoundP Tryz.prog G0 45 zcp_F := closeF_sound (runF_sound ⟨same_ok, (envP_cons zcv_Fok envP_nil), envS_nil, envP_nil, envX_nil⟩ Tryz.func45 rfl (by kernel_rfl))
theorem zcp_ok : TOk zcp_F zcp_T := runY_ok (E := zcp_E) (ET := zcp_V) (EnvT.ofX (pure_of (pairs_cons zcv_ok pairs_nil)) looks_nil raws_nil G0_ok news_nil) zcp_eq rfl
def zbh_E : Env := (eZ [(45, zcp_F)] [188])
def zbh_H : Hints := (hZ [(3, [1, 5, 13, 14, 15]), (7, [1, 5, 13, 14, 15, 25, 26, 27]), (10, [1, 5, 13, 14, 15, 25, 26, 27, 32, 33, 34])] [])
def zbh_S : SFn := runF Tryz.prog zbh_E zbh_H Tryz.f52
def zbh_Y : TH := { loops := [(3, { keep := [(5, (.mp 0)), (15, (.int .i64))], mem := [.map tT9 .bool] }), (7, { keep := [(5, (.mp 0)), (27, (.int .i64))], mem := [.map tT9 .bool, .gone] }), (10, { keep := [(5, (.mp 0)), (34, (.int .i64))], mem := [.map tT9 .bool, .gone, .gone] })], ro := [] }
def zbh_l10 (y7 : vV7) (x3 : vV0) (y10 : vV7) : Option (vV7 ⊕ (vV7 ⊕ (vV7 ⊕ (List (vV2 × Bool))))) :=
 cond (decide (y10.1 < (x3.2.2.2.2.1.length : Int))) (
(atI x3.2.2.2.2.1 y10.1).bind fun x4 =>
 some (.inl ((IntKind.wrap .i64 (y10.1 + 1)), (putK tT9 x4 true y10.2.1), ()))) (
 some (.inr (.inl ((IntKind.wrap .i64 (y7.1 + 1)), y10.2.1, ()))))
def zbh_l7 (y3 : vV7) (x1 : vV5) (y7 : vV7) : Option (vV7 ⊕ (vV7 ⊕ (List (vV2 × Bool)))) :=
 cond (decide (y7.1 < (x1.2.2.2.2.1.length : Int))) (
(atI x1.2.2.2.2.1 y7.1).bind fun x3 =>
 loopT (zbh_l10 y7 x3) (0, y7.2.1, ())) (
 some (.inr (.inl ((IntKind.wrap .i64 (y3.1 + 1)), y7.2.1, ()))))
def zbh_l3 (a0 : List vV5) (a1 : List vV2) (y3 : vV7) : Option (vV7 ⊕ (List (vV2 × Bool))) :=
 cond (decide (y3.1 < (a0.length : Int))) (
(atI a0 y3.1).bind fun x1 =>
(zcp a1 x1.1).bind fun r2 =>
 cond (!r2) (
 some (.inl ((IntKind.wrap .i64 (y3.1 + 1)), y3.2.1, ()))) (
 loopT (zbh_l7 y3 x1) (0, y3.2.1, ()))) (
 some (.inr y3.2.1))
def zbh (a0 : List vV5) (a1 : List vV2) : Option (List (vV2 × Bool)) :=
 loopT (zbh_l3 a0 a1) (0, [], ())
def zbh_N : TNew := { ps := (.cons (.sl tT13) (.cons (.sl tT9) .unit)), e := 91, t := (.sl (.cons tT9 .bool)), fn := fun v => zbh v.1 v.2.1, mp := true }
def zbh_V : TEnv := { pure := [(45, zcp_T)], look := [], glob := G0T, ty := [(4, .bool), (94, tT9)], raw := [], fresh := [] }
theorem zbh_eq : newMY Tryz.prog zbh_E zbh_H zbh_V zbh_Y Tryz.f52 zbh_N.ps tT9 .bool = zbh_N.fn := by kernel_rfl
theorem zbh_Sok : SoundS Tryz.prog G0 52 zbh_S := runF_sound ⟨same_ok, (envP_cons zcp_Fok envP_nil), envS_nil, envP_nil, envX_nil⟩ Tryz.func52 rfl (by kernel_rfl)
theorem zbh_ok : TNewOk zbh_S zbh_N := newMY_ok (E := zbh_E) (ET := zbh_V) (EnvT.ofX (pure_of (pairs_cons zcp_ok pairs_nil)) looks_nil raws_nil G0_ok news_nil) zbh_eq
def zc9_E : Env := { pure := [(45, zcp_F)], raw := [(52, zbh_S)], glob := G0, same := [188], look := [], ext := [] }
def zc9_H : Hints := (hZ [(4, [1, 5, 6, 15, 16, 17]), (8, [1, 5, 6, 8, 15, 16, 17, 27, 28, 29])] [])
def zc9_F : PFn := closeF (runF Tryz.prog zc9_E zc9_H Tryz.f14)
def zc9_Y : TH := { loops := [(4, { keep := [(5, (.mp 0)), (6, (.own 4)), (17, (.int .i64))], mem := [.map tT9 .bool, .gone, .gone, .gone, .row true 96 tT14] }), (8, { keep := [(5, (.mp 0)), (6, (.own 4)), (8, (.bx 5 0)), (29, (.int .i64))], mem := [.map tT9 .bool, .gone, .gone, .gone, .row true 96 tT14, .box 51 tT13] })], ro := [] }
def zc9_l8 (y4 : (Int × List (vV2 × Bool) × List vV6 × Unit)) (x2 : vV5) (y8 : (Int × List (vV2 × Bool) × List vV6 × vV5 × Unit)) : Option ((Int × List (vV2 × Bool) × List vV6 × vV5 × Unit) ⊕ ((Int × List (vV2 × Bool) × List vV6 × Unit) ⊕ List vV6)) :=
 cond (decide (y8.1 < (x2.2.2.2.2.1.length : Int))) (
(atI x2.2.2.2.2.1 y8.1).bind fun x4 =>
 cond (decide (x4.1 = 1)) (cond (!((getK tT9 false (y8.2.2.2.1.1, y8.1, ()) y8.2.1).1)) (
(roomT (y8.2.2.1.length + ([((y8.2.2.2.1.1, y8.1, ()), x4, y8.2.2.2.1.2.2.1, ())] : List vV6).length)).bind fun u5 =>
 some (.inl ((IntKind.wrap .i64 (y8.1 + 1)), y8.2.1, (y8.2.2.1 ++ ([((y8.2.2.2.1.1, y8.1, ()), x4, y8.2.2.2.1.2.2.1, ())] : List vV6)), y8.2.2.2.1, ()))) (
 some (.inl ((IntKind.wrap .i64 (y8.1 + 1)), y8.2.1, y8.2.2.1, y8.2.2.2.1, ())))) (cond (decide (x4.1 = 2)) (cond (!((getK tT9 false (y8.2.2.2.1.1, y8.1, ()) y8.2.1).1)) (
(roomT (y8.2.2.1.length + ([((y8.2.2.2.1.1, y8.1, ()), x4, y8.2.2.2.1.2.2.1, ())] : List vV6).length)).bind fun u6 =>
 some (.inl ((IntKind.wrap .i64 (y8.1 + 1)), y8.2.1, (y8.2.2.1 ++ ([((y8.2.2.2.1.1, y8.1, ()), x4, y8.2.2.2.1.2.2.1, ())] : List vV6)), y8.2.2.2.1, ()))) (
 some (.inl ((IntKind.wrap .i64 (y8.1 + 1)), y8.2.1, y8.2.2.1, y8.2.2.2.1, ())))) (cond (decide (x4.1 = 3)) (cond (!((getK tT9 false (y8.2.2.2.1.1, y8.1, ()) y8.2.1).1)) (
(roomT (y8.2.2.1.length + ([((y8.2.2.2.1.1, y8.1, ()), x4, y8.2.2.2.1.2.2.1, ())] : List vV6).length)).bind fun u7 =>
 some (.inl ((IntKind.wrap .i64 (y8.1 + 1)), y8.2.1, (y8.2.2.1 ++ ([((y8.2.2.2.1.1, y8.1, ()), x4, y8.2.2.2.1.2.2.1, ())] : List vV6)), y8.2.2.2.1, ()))) (
 some (.inl ((IntKind.wrap .i64 (y8.1 + 1)), y8.2.1, y8.2.2.1, y8.2.2.2.1, ())))) (some (.inl ((IntKind.wrap .i64 (y8.1 + 1)), y8.2.1, y8.2.2.1, y8.2.2.2.1, ())))))) (
 some (.inr (.inl ((IntKind.wrap .i64 (y4.1 + 1)), y8.2.1, y8.2.2.1, ()))))
def zc9_l4 (a0 : List vV5) (a1 : List vV2) (y4 : (Int × List (vV2 × Bool) × List vV6 × Unit)) : Option ((Int × List (vV2 × Bool) × List vV6 × Unit) ⊕ List vV6) :=
 cond (decide (y4.1 < (a0.length : Int))) (
(atI a0 y4.1).bind fun x2 =>
(zcp a1 x2.1).bind fun r3 =>
 cond (!r3) (
 some (.inl ((IntKind.wrap .i64 (y4.1 + 1)), y4.2.1, y4.2.2.1, ()))) (
 loopT (zc9_l8 y4 x2) (0, y4.2.1, y4.2.2.1, x2, ()))) (
 some (.inr y4.2.2.1))
def zc9 (a0 : List vV5) (a1 : List vV2) : Option (List vV6) :=
(zbh a0 a1).bind fun n1 =>
 loopT (zc9_l4 a0 a1) (0, n1, [], ())
def zc9_T : TFn := { ps := (.cons (.sl tT13) (.cons (.sl tT9) .unit)), res := (.sl tT14), fn := fun v => zc9 v.1 v.2.1 }
def zc9_V : TEnv := { pure := [(45, zcp_T)], look := [], glob := G0T, ty := [(96, tT14)], raw := [], fresh := [(52, zbh_N)] }
theorem zc9_eq : runY Tryz.prog zc9_E zc9_H zc9_V zc9_Y Tryz.f14 zc9_T.ps zc9_T.res = zc9_T.fn := by kernel_rfl
theorem zc9_Fok : SoundP Tryz.prog G0 14 zc9_F := closeF_sound (runF_sound ⟨same_ok, (envP_cons zcp_Fok envP_nil), (envS_cons zbh_Sok envS_nil), envP_nil, envX_nil⟩ Tryz.func14 rfl (by kernel_rfl))
theorem zc9_ok : TOk zc9_F zc9_T := runY_ok (E := zc9_E) (ET := zc9_V) (EnvT.ofX (pure_of (pairs_cons zcp_ok pairs_nil)) looks_nil (raws_more raws_nil rfl) G0_ok (news_cons zbh_ok rfl rfl rfl news_nil)) zc9_eq rfl
def zcx_E : Env := (eZ [] [188])
def zcx_H : Hints := (hZ [(2, [0, 3, 5])] [])
def zcx_F : PFn := closeF (runF Tryz.prog zcx_E zcx_H Tryz.f112)
def zcx_Y : TH := { loops := [(2, { keep := [(3, (.bx 0 0)), (5, (.int .i64))], mem := [.same] })], ro := [3] }
def zcx_l2 (a0 : List vV2) (a1 : (Int × Int × Unit)) (y2 : (Int × Unit)) : Option ((Int × Unit) ⊕ Int) :=
 cond (decide (y2.1 < (a0.length : Int))) (
(atI a0 y2.1).bind fun x1 =>
 cond (eqV (.agg (.cons (.int .i64) tT12)) x1.1 a1) (
(atI a0 y2.1).bind fun x2 =>
 some (.inr x2.2.1)) (
 some (.inl ((IntKind.wrap .i64 (y2.1 + 1)), ())))) (
 some (.inr 0))
def zcx (a0 : List vV2) (a1 : (Int × Int × Unit)) : Option Int :=
 loopT (zcx_l2 a0 a1) (0, ())
def zcx_T : TFn := { ps := (.cons (.sl tT9) tT17), res := (.int .i64), fn := fun v => zcx v.1 v.2.1 }
def zcx_V : TEnv := (vZ [])
theorem zcx_eq : runY Tryz.prog zcx_E zcx_H zcx_V zcx_Y Tryz.f112 zcx_T.ps zcx_T.res = zcx_T.fn := by kernel_rfl
theorem zcx_Fok : SoundP Tryz.prog G0 112 zcx_F := closeF_sound (runF_sound ⟨same_ok, envP_nil, envS_nil, envP_nil, envX_nil⟩ Tryz.func112 rfl (by kernel_rfl))
theorem zcx_ok : TOk zcx_F zcx_T := runY_ok (E := zcx_E) (ET := zcx_V) (EnvT.ofX (pure_of pairs_nil) looks_nil raws_nil G0_ok news_nil) zcx_eq rfl
def zb9_E : Env := (eZ [(112, zcx_F)] [188])
def zb9_H : Hints := (hZ [] [])
def zb9_F : PFn := closeF (runF Tryz.prog zb9_E zb9_H Tryz.f57)
def zb9_Y : TH := { loops := [], ro := [3] }
def zb9 (a0 : List vV2) (a1 : (Int × Int × Unit)) : Option Bool :=
(zcx a0 a1).bind fun r1 =>
(remT r1 2).bind fun t2 =>
 some (decide (t2 = 0))
def zb9_T : TFn := { ps := (.cons (.sl tT9) tT17), res := .bool, fn := fun v => zb9 v.1 v.2.1 }
def zb9_V : TEnv := (vZ [(112, zcx_T)])
theorem zb9_eq : runY Tryz.prog zb9_E zb9_H zb9_V zb9_Y Tryz.f57 zb9_T.ps zb9_T.res = zb9_T.fn := by kernel_rfl
theorem zb9_Fok : SoundP Tryz.prog G0 57 zb9_F := closeF_sound (runF_sound ⟨same_ok, (envP_cons zcx_Fok envP_nil), envS_nil, envP_nil, envX_nil⟩ Tryz.func57 rfl (by kernel_rfl))
theorem zb9_ok : TOk zb9_F zb9_T := runY_ok (E := zb9_E) (ET := zb9_V) (EnvT.ofX (pure_of (pairs_cons zcx_ok pairs_nil)) looks_nil raws_nil G0_ok news_nil) zb9_eq rfl
def zbk_E : Env := (eZ [] [188])
def zbk_H : Hints := (hZ [(2, [2, 3, 5])] [])
def zbk_F : PFn := closeF (runF Tryz.prog zbk_E zbk_H Tryz.f113)
def zbk_Y : TH := { loops := [(2, { keep := [(2, (.bx 0 0)), (3, (.bx 1 0)), (5, (.int .i64))], mem := [.same, .same] })], ro := [2, 3] }
def zbk_l2 (a0 : vV0) (a1 : vV2) (y2 : (Int × Unit)) : Option ((Int × Unit) ⊕ Bool) :=
 cond (decide (y2.1 < (a0.2.2.2.2.1.length : Int))) (
(atI a0.2.2.2.2.1 y2.1).bind fun x1 =>
 cond (eqV tT9 x1 a1) (
 some (.inr true)) (
 some (.inl ((IntKind.wrap .i64 (y2.1 + 1)), ())))) (
 some (.inr false))
def zbk (a0 : vV0) (a1 : vV2) : Option Bool :=
 loopT (zbk_l2 a0 a1) (0, ())
def zbk_T : TFn := { ps := (.cons tT8 (.cons tT9 .unit)), res := .bool, fn := fun v => zbk v.1 v.2.1 }
def zbk_V : TEnv := (vZ [])
theorem zbk_eq : runY Tryz.prog zbk_E zbk_H zbk_V zbk_Y Tryz.f113 zbk_T.ps zbk_T.res = zbk_T.fn := by kernel_rfl
theorem zbk_Fok : SoundP Tryz.prog G0 113 zbk_F := closeF_sound (runF_sound ⟨same_ok, envP_nil, envS_nil, envP_nil, envX_nil⟩ Tryz.func113 rfl (by kernel_rfl))
theorem zbk_ok : TOk zbk_F zbk_T := runY_ok (E := zbk_E) (ET := zbk_V) (EnvT.ofX (pure_of pairs_nil) looks_nil raws_nil G0_ok news_nil) zbk_eq rfl
def za3_E : Env := (eZ [(57, zb9_F), (113, zbk_F)] [188])
def za3_H : Hints := (hZ [(2, [0, 1, 5, 7]), (5, [0, 1, 5, 7, 8])] [])
def za3_F : PFn := closeF (runF Tryz.prog za3_E za3_H Tryz.f58)
def za3_Y : TH := { loops := [(2, { keep := [(5, (.bx 0 0)), (7, (.int .i64))], mem := [.same] }), (5, { keep := [(5, (.bx 0 0)), (8, (.int .i64))], mem := [.same] })], ro := [5] }
def za3_l5 (y2 : (Int × Unit)) (a0 : List vV5) (a1 : List vV2) (a2 : vV2) (y5 : (Int × Unit)) : Option ((Int × Unit) ⊕ ((Int × Unit) ⊕ Bool)) :=
(atI a0 y2.1).bind fun x1 =>
 cond (decide (y5.1 < (x1.2.2.2.2.1.length : Int))) (
(atI a0 y2.1).bind fun x2 =>
(atI x2.2.2.2.2.1 y5.1).bind fun x3 =>
(zbk x3 a2).bind fun r4 =>
 cond r4 ((atI a0 y2.1).bind fun x5 =>
(zb9 a1 x5.1).bind fun r6 =>
 cond r6 (
 some (.inr (.inr true))) (
 some (.inl ((IntKind.wrap .i64 (y5.1 + 1)), ())))) (some (.inl ((IntKind.wrap .i64 (y5.1 + 1)), ())))) (
 some (.inr (.inl ((IntKind.wrap .i64 (y2.1 + 1)), ()))))
def za3_l2 (a0 : List vV5) (a1 : List vV2) (a2 : vV2) (y2 : (Int × Unit)) : Option ((Int × Unit) ⊕ Bool) :=
 cond (decide (y2.1 < (a0.length : Int))) (
 loopT (za3_l5 y2 a0 a1 a2) (0, ())) (
 some (.inr false))
def za3 (a0 : List vV5) (a1 : List vV2) (a2 : vV2) : Option Bool :=
 loopT (za3_l2 a0 a1 a2) (0, ())
def za3_T : TFn := { ps := (.cons (.sl tT13) (.cons (.sl tT9) (.cons tT9 .unit))), res := .bool, fn := fun v => za3 v.1 v.2.1 v.2.2.1 }
def za3_V : TEnv := (vZ [(57, zb9_T), (113, zbk_T)])
theorem za3_eq : runY Tryz.prog za3_E za3_H za3_V za3_Y Tryz.f58 za3_T.ps za3_T.res = za3_T.fn := by kernel_rfl
theorem za3_Fok : SoundP Tryz.prog G0 58 za3_F := closeF_sound (runF_sound ⟨same_ok, (envP_cons zb9_Fok (envP_cons zbk_Fok envP_nil)), envS_nil, envP_nil, envX_nil⟩ Tryz.func58 rfl (by kernel_rfl))
theorem za3_ok : TOk za3_F za3_T := runY_ok (E := za3_E) (ET := za3_V) (EnvT.ofX (pure_of (pairs_cons zb9_ok (pairs_cons zbk_ok pairs_nil))) looks_nil raws_nil G0_ok news_nil) za3_eq rfl
def zcz_E : Env := (eZ [(57, zb9_F), (58, za3_F)] [188])
def zcz_H : Hints := (hZ [(3, [0, 1, 5, 6]), (6, [0, 1, 5, 6, 7])] [72])
def zcz_F : PFn := closeF (runF Tryz.prog zcz_E zcz_H Tryz.f16)
def zcz_Y : TH := { loops := [(3, { keep := [(5, (.own 2)), (6, (.int .i64))], mem := [.gone, .gone, .row true 99 tT14] }), (6, { keep := [(5, (.own 2)), (7, (.int .i64))], mem := [.gone, .gone, .row true 99 tT14] })], cuts := [(10, [(8, { keep := [(5, (.own 2)), (8, (.bx 3 0)), (9, (.bx 4 0)), (48, .bool)], mem := [.gone, .gone, .row true 99 tT14, .box 29 tT8, .box 94 tT9] })])], ro := [], news := [] }
def zcz_l6 (y3 : (Int × List vV6 × Unit)) (a0 : List vV5) (a1 : List vV2) (y6 : (Int × List vV6 × Unit)) : Option ((Int × List vV6 × Unit) ⊕ ((Int × List vV6 × Unit) ⊕ List vV6)) :=
(atI a0 y3.1).bind fun x1 =>
 cond (decide (y6.1 < (x1.2.2.2.2.1.length : Int))) (
(atI a0 y3.1).bind fun x2 =>
(atI x2.2.2.2.2.1 y6.1).bind fun x3 =>
(atI a0 y3.1).bind fun x4 =>
(cond (decide (x3.1 ≥ 1)) (some ((decide (x3.1 ≤ 3)), y6.2.1, x3, (x4.1, y6.1, ()), ())) (some (false, y6.2.1, x3, (x4.1, y6.1, ()), ())) : Option (Bool × List vV6 × vV0 × vV2 × Unit)).bind fun v5 =>
 cond v5.1 ((atI a0 y3.1).bind fun x6 =>
(zb9 a1 x6.1).bind fun r7 =>
 cond r7 ((za3 a0 a1 v5.2.2.2.1).bind fun r8 =>
 cond (!r8) (
(atI a0 y3.1).bind fun x9 =>
(roomT (v5.2.1.length + ([(v5.2.2.2.1, v5.2.2.1, x9.2.2.1, ())] : List vV6).length)).bind fun u10 =>
 some (.inl ((IntKind.wrap .i64 (y6.1 + 1)), (v5.2.1 ++ ([(v5.2.2.2.1, v5.2.2.1, x9.2.2.1, ())] : List vV6)), ()))) (
 some (.inl ((IntKind.wrap .i64 (y6.1 + 1)), v5.2.1, ())))) (some (.inl ((IntKind.wrap .i64 (y6.1 + 1)), v5.2.1, ())))) (some (.inl ((IntKind.wrap .i64 (y6.1 + 1)), v5.2.1, ())))) (
 some (.inr (.inl ((IntKind.wrap .i64 (y3.1 + 1)), y6.2.1, ()))))
def zcz_l3 (a0 : List vV5) (a1 : List vV2) (y3 : (Int × List vV6 × Unit)) : Option ((Int × List vV6 × Unit) ⊕ List vV6) :=
 cond (decide (y3.1 < (a0.length : Int))) (
 loopT (zcz_l6 y3 a0 a1) (0, y3.2.1, ())) (
 some (.inr y3.2.1))
def zcz (a0 : List vV5) (a1 : List vV2) : Option (List vV6) :=
 loopT (zcz_l3 a0 a1) (0, [], ())
def zcz_T : TFn := { ps := (.cons (.sl tT13) (.cons (.sl tT9) .unit)), res := (.sl tT14), fn := fun v => zcz v.1 v.2.1 }
def zcz_V : TEnv := { pure := [(57, zb9_T), (58, za3_T)], look := [], glob := G0T, ty := [(99, tT14)], raw := [], fresh := [] }
theorem zcz_eq : runY Tryz.prog zcz_E zcz_H zcz_V zcz_Y Tryz.f16 zcz_T.ps zcz_T.res = zcz_T.fn := by kernel_rfl
theorem zcz_Fok : SoundP Tryz.prog G0 16 zcz_F := closeF_sound (runF_sound ⟨same_ok, (envP_cons zb9_Fok (envP_cons za3_Fok envP_nil)), envS_nil, envP_nil, envX_nil⟩ Tryz.func16 rfl (by kernel_rfl))
theorem zcz_ok : TOk zcz_F zcz_T := runY_ok (E := zcz_E) (ET := zcz_V) (EnvT.ofX (pure_of (pairs_cons zb9_ok (pairs_cons za3_ok pairs_nil))) looks_nil raws_nil G0_ok news_nil) zcz_eq rfl
def zde_E : Env := (eZ [] [188])
def zde_H : Hints := (hZ [] [])
def zde_F : PFn := closeF (runF Tryz.prog zde_E zde_H Tryz.f63)
def zde_Y : TH := { joins := [(6, { keep := [(6, .bool)], mem := [] })], loops := [], ro := [] }
def zde (a0 : Int) : Option Int :=
 cond (decide (a0 = 1)) (
 some 1) (
(cond (decide (a0 = 2)) (
 some (.inl ((decide (a0 = 2)), ()))) (
 some (.inl ((decide (a0 = 4)), ()))) : Option ((Bool × Unit) ⊕ Int)).bind (joinS fun v1 =>
 cond v1.1 (
 some 2) (
 cond (decide (a0 = 3)) (
 some 3) (
 some 0))))
def zde_T : TFn := { ps := tT12, res := (.int .i64), fn := fun v => zde v.1 }
def zde_V : TEnv := (vZ [])
theorem zde_eq : runY Tryz.prog zde_E zde_H zde_V zde_Y Tryz.f63 zde_T.ps zde_T.res = zde_T.fn := by kernel_rfl
theorem zde_Fok : SoundP Tryz.prog G0 63 zde_F := closeF_sound (runF_sound ⟨same_ok, envP_nil, envS_nil, envP_nil, envX_nil⟩ Tryz.func63 rfl (by kernel_rfl))
theorem zde_ok : TOk zde_F zde_T := runY_ok (E := zde_E) (ET := zde_V) (EnvT.ofX (pure_of pairs_nil) looks_nil raws_nil G0_ok news_nil) zde_eq rfl
def zal_E : Env := (eZ [] [188])
def zal_H : Hints := (hZ [(4, [0, 1, 12, 13])] [])
def zal_F : PFn := closeF (runF Tryz.prog zal_E zal_H Tryz.f132)
def zal_Y : TH := { loops := [(4, { keep := [(13, (.int .i64))], mem := [] })], ro := [] }
def zal_l4 (a0 : List (List UInt8)) (a1 : List (List UInt8)) (y4 : (Int × Unit)) : Option ((Int × Unit) ⊕ Bool) :=
 cond (decide (y4.1 < (a0.length : Int))) (
(atI a0 y4.1).bind fun x1 =>
(atI a1 y4.1).bind fun x2 =>
 cond (!decide (x1 = x2)) (
 some (.inr false)) (
 some (.inl ((IntKind.wrap .i64 (y4.1 + 1)), ())))) (
 some (.inr true))
def zal (a0 : List (List UInt8)) (a1 : List (List UInt8)) : Option Bool :=
 cond (!decide ((a0.length : Int) = (a1.length : Int))) (
 some false) (
 loopT (zal_l4 a0 a1) (0, ()))
def zal_T : TFn := { ps := (.cons (.sl .str) tT18), res := .bool, fn := fun v => zal v.1 v.2.1 }
def zal_V : TEnv := (vZ [])
theorem zal_eq : runY Tryz.prog zal_E zal_H zal_V zal_Y Tryz.f132 zal_T.ps zal_T.res = zal_T.fn := by kernel_rfl
theorem zal_Fok : SoundP Tryz.prog G0 132 zal_F := closeF_sound (runF_sound ⟨same_ok, envP_nil, envS_nil, envP_nil, envX_nil⟩ Tryz.func132 rfl (by kernel_rfl))
theorem zal_ok : TOk zal_F zal_T := runY_ok (E := zal_E) (ET := zal_V) (EnvT.ofX (pure_of pairs_nil) looks_nil raws_nil G0_ok news_nil) zal_eq rfl
def zc5_E : Env := (eZ [(132, zal_F)] [188])
def zc5_H : Hints := (hZ [] [])
def zc5_F : PFn := closeF (runF Tryz.prog zc5_E zc5_H Tryz.f72)
def zc5_Y : TH := yZ
def zc5 (a0 : List (List UInt8)) (a1 : List (List UInt8)) : Option Bool :=
(zal a0 a1).bind fun r1 =>
 some r1
def zc5_T : TFn := { ps := (.cons (.sl .str) tT18), res := .bool, fn := fun v => zc5 v.1 v.2.1 }
def zc5_V : TEnv := (vZ [(132, zal_T)])
theorem zc5_eq : runY Tryz.prog zc5_E zc5_H zc5_V zc5_Y Tryz.f72 zc5_T.ps zc5_T.res = zc5_T.fn := by kernel_rfl
theorem zc5_Fok : SoundP Tryz.prog G0 72 zc5_F := closeF_sound (runF_sound ⟨same_ok, (envP_cons zal_Fok envP_nil), envS_nil, envP_nil, envX_nil⟩ Tryz.func72 rfl (by kernel_rfl))
theorem zc5_ok : TOk zc5_F zc5_T := runY_ok (E := zc5_E) (ET := zc5_V) (EnvT.ofX (pure_of (pairs_cons zal_ok pairs_nil)) looks_nil raws_nil G0_ok news_nil) zc5_eq rfl
def zdd_E : Env := (eZ [(63, zde_F), (72, zc5_F)] [188])
def zdd_H : Hints := (hZ [(3, [1, 2, 7, 10, 11, 12])] [])
def zdd_F : PFn := closeF (runF Tryz.prog zdd_E zdd_H Tryz.f32)
def zdd_Y : TH := { loops := [(3, { keep := [(7, (.own 1)), (12, (.int .i64))], mem := [.gone, .row true 96 tT14] })], ro := [] }
def zdd_l3 (a0 : List vV6) (a1 : List (List UInt8)) (a2 : Int) (y3 : (Int × List vV6 × Unit)) : Option ((Int × List vV6 × Unit) ⊕ List vV6) :=
 cond (decide (y3.1 < (a0.length : Int))) (
(atI a0 y3.1).bind fun x1 =>
(zde x1.2.1.1).bind fun r2 =>
 cond (decide (r2 = a2)) ((zc5 x1.2.1.2.1 a1).bind fun r3 =>
 cond r3 (
(roomT (y3.2.1.length + ([x1] : List vV6).length)).bind fun u4 =>
 some (.inl ((IntKind.wrap .i64 (y3.1 + 1)), (y3.2.1 ++ ([x1] : List vV6)), ()))) (
 some (.inl ((IntKind.wrap .i64 (y3.1 + 1)), y3.2.1, ())))) (some (.inl ((IntKind.wrap .i64 (y3.1 + 1)), y3.2.1, ())))) (
 some (.inr y3.2.1))
def zdd (a0 : List vV6) (a1 : List (List UInt8)) (a2 : Int) : Option (List vV6) :=
 loopT (zdd_l3 a0 a1 a2) (0, [], ())
def zdd_T : TFn := { ps := (.cons (.sl tT14) (.cons (.sl .str) tT12)), res := (.sl tT14), fn := fun v => zdd v.1 v.2.1 v.2.2.1 }
def zdd_V : TEnv := { pure := [(63, zde_T), (72, zc5_T)], look := [], glob := G0T, ty := [(96, tT14)], raw := [], fresh := [] }
theorem zdd_eq : runY Tryz.prog zdd_E zdd_H zdd_V zdd_Y Tryz.f32 zdd_T.ps zdd_T.res = zdd_T.fn := by kernel_rfl
theorem zdd_Fok : SoundP Tryz.prog G0 32 zdd_F := closeF_sound (runF_sound ⟨same_ok, (envP_cons zde_Fok (envP_cons zc5_Fok envP_nil)), envS_nil, envP_nil, envX_nil⟩ Tryz.func32 rfl (by kernel_rfl))
theorem zdd_ok : TOk zdd_F zdd_T := runY_ok (E := zdd_E) (ET := zdd_V) (EnvT.ofX (pure_of (pairs_cons zde_ok (pairs_cons zc5_ok pairs_nil))) looks_nil raws_nil G0_ok news_nil) zdd_eq rfl
def zav_E : Env := (eZ [] [188])
def zav_H : Hints := (hZ [] [])
def zav_F : PFn := closeF (runF Tryz.prog zav_E zav_H Tryz.f235)
def zav_Y : TH := yZ
def zav (a0 : List UInt8) : Option Bool :=
 some (!decide (a0 = a0))
def zav_T : TFn := { ps := (.cons .str .unit), res := .bool, fn := fun v => zav v.1 }
def zav_V : TEnv := (vZ [])
theorem zav_eq : runY Tryz.prog zav_E zav_H zav_V zav_Y Tryz.f235 zav_T.ps zav_T.res = zav_T.fn := by kernel_rfl
theorem zav_Fok : SoundP Tryz.prog G0 235 zav_F := closeF_sound (runF_sound ⟨same_ok, envP_nil, envS_nil, envP_nil, envX_nil⟩ Tryz.func235 rfl (by kernel_rfl))
theorem zav_ok : TOk zav_F zav_T := runY_ok (E := zav_E) (ET := zav_V) (EnvT.ofX (pure_of pairs_nil) looks_nil raws_nil G0_ok news_nil) zav_eq rfl
def zau_E : Env := (eZ [(235, zav_F)] [188])
def zau_H : Hints := (hZ [] [])
def zau_F : PFn := closeF (runF Tryz.prog zau_E zau_H Tryz.f209)
def zau_Y : TH := yZ
def zau (a0 : List UInt8) (a1 : List UInt8) : Option Int :=
(zav a0).bind fun r1 =>
(zav a1).bind fun r2 =>
 cond r1 (
 cond r2 (
 some 0) (
 some (-1))) (
 cond r2 (
 some 1) (
 cond (Op.bytesLess a0 a1) (
 some (-1)) (
 cond (!(Op.bytesLess a0 a1 || decide (a0 = a1))) (
 some 1) (
 some 0))))
def zau_T : TFn := { ps := (.cons .str (.cons .str .unit)), res := (.int .i64), fn := fun v => zau v.1 v.2.1 }
def zau_V : TEnv := (vZ [(235, zav_T)])
theorem zau_eq : runY Tryz.prog zau_E zau_H zau_V zau_Y Tryz.f209 zau_T.ps zau_T.res = zau_T.fn := by kernel_rfl
theorem zau_Fok : SoundP Tryz.prog G0 209 zau_F := closeF_sound (runF_sound ⟨same_ok, (envP_cons zav_Fok envP_nil), envS_nil, envP_nil, envX_nil⟩ Tryz.func209 rfl (by kernel_rfl))
theorem zau_ok : TOk zau_F zau_T := runY_ok (E := zau_E) (ET := zau_V) (EnvT.ofX (pure_of (pairs_cons zav_ok pairs_nil)) looks_nil raws_nil G0_ok news_nil) zau_eq rfl
def zaj_E : Env := (eZ [(209, zau_F)] [188])
def zaj_H : Hints := (hZ [(2, [0, 1, 9, 10, 11])] [])
def zaj_F : PFn := closeF (runF Tryz.prog zaj_E zaj_H Tryz.f173)
def zaj_Y : TH := { joins := [(11, { keep := [], mem := [] })], loops := [(2, { keep := [(11, (.int .i64))], mem := [] })], ro := [] }
def zaj_l2 (a0 : List (List UInt8)) (a1 : List (List UInt8)) (y2 : (Int × Unit)) : Option ((Int × Unit) ⊕ (Unit ⊕ Int)) :=
 cond (decide (y2.1 < (a0.length : Int))) (
(atI a0 y2.1).bind fun x1 =>
 cond (decide (y2.1 ≥ (a1.length : Int))) (
 some (.inr (.inr 1))) (
(atI a1 y2.1).bind fun x2 =>
(zau x1 x2).bind fun r3 =>
 cond (!decide (r3 = 0)) (
 some (.inr (.inr r3))) (
 some (.inl ((IntKind.wrap .i64 (y2.1 + 1)), ()))))) (
 some (.inr (.inl ())))
def zaj (a0 : List (List UInt8)) (a1 : List (List UInt8)) : Option Int :=
(loopT (zaj_l2 a0 a1) (0, ()) : Option (Unit ⊕ Int)).bind (joinS fun v4 =>
 cond (decide ((a0.length : Int) < (a1.length : Int))) (
 some (-1)) (
 some 0))
def zaj_T : TFn := { ps := (.cons (.sl .str) tT18), res := (.int .i64), fn := fun v => zaj v.1 v.2.1 }
def zaj_V : TEnv := (vZ [(209, zau_T)])
theorem zaj_eq : runY Tryz.prog zaj_E zaj_H zaj_V zaj_Y Tryz.f173 zaj_T.ps zaj_T.res = zaj_T.fn := by kernel_rfl
theorem zaj_Fok : SoundP Tryz.prog G0 173 zaj_F := closeF_sound (runF_sound ⟨same_ok, (envP_cons zau_Fok envP_nil), envS_nil, envP_nil, envX_nil⟩ Tryz.func173 rfl (by kernel_rfl))
theorem zaj_ok : TOk zaj_F zaj_T := runY_ok (E := zaj_E) (ET := zaj_V) (EnvT.ofX (pure_of (pairs_cons zau_ok pairs_nil)) looks_nil raws_nil G0_ok news_nil) zaj_eq rfl
def za9_E : Env := (eZ [(173, zaj_F)] [188])
def za9_H : Hints := (hZ [] [])
def za9_F : PFn := closeF (runF Tryz.prog za9_E za9_H Tryz.f125)
def za9_Y : TH := yZ
def za9 (a0 : List (List UInt8)) (a1 : List (List UInt8)) : Option Int :=
(zaj a0 a1).bind fun r1 =>
 some r1
def za9_T : TFn := { ps := (.cons (.sl .str) tT18), res := (.int .i64), fn := fun v => za9 v.1 v.2.1 }
def za9_V : TEnv := (vZ [(173, zaj_T)])
theorem za9_eq : runY Tryz.prog za9_E za9_H za9_V za9_Y Tryz.f125 za9_T.ps za9_T.res = za9_T.fn := by kernel_rfl
theorem za9_Fok : SoundP Tryz.prog G0 125 za9_F := closeF_sound (runF_sound ⟨same_ok, (envP_cons zaj_Fok envP_nil), envS_nil, envP_nil, envX_nil⟩ Tryz.func125 rfl (by kernel_rfl))
theorem za9_ok : TOk za9_F za9_T := runY_ok (E := za9_E) (ET := za9_V) (EnvT.ofX (pure_of (pairs_cons zaj_ok pairs_nil)) looks_nil raws_nil G0_ok news_nil) za9_eq rfl
def zbc_E : Env := (eZ [(124, zcl_F), (125, za9_F), (126, zax_F)] [188])
def zbc_H : Hints := (hZ [] [])
def zbc_F : PFn := closeF (runF Tryz.prog zbc_E zbc_H Tryz.f65)
def zbc_Y : TH := { loops := [], ro := [2, 3] }
def zbc (a0 : vV4) (a1 : vV4) : Option Int :=
(za9 a0.1 a1.1).bind fun r1 =>
(zax a0.2.1 a1.2.1).bind fun r2 =>
(zcl ([r1, r2] : List Int)).bind fun r3 =>
 some r3
def zbc_T : TFn := { ps := (.cons tT15 (.cons tT15 .unit)), res := (.int .i64), fn := fun v => zbc v.1 v.2.1 }
def zbc_V : TEnv := { pure := [(124, zcl_T), (125, za9_T), (126, zax_T)], look := [], glob := G0T, ty := [(3, (.int .i64))], raw := [], fresh := [] }
theorem zbc_eq : runY Tryz.prog zbc_E zbc_H zbc_V zbc_Y Tryz.f65 zbc_T.ps zbc_T.res = zbc_T.fn := by kernel_rfl
theorem zbc_Fok : SoundP Tryz.prog G0 65 zbc_F := closeF_sound (runF_sound ⟨same_ok, (envP_cons zcl_Fok (envP_cons za9_Fok (envP_cons zax_Fok envP_nil))), envS_nil, envP_nil, envX_nil⟩ Tryz.func65 rfl (by kernel_rfl))
theorem zbc_ok : TOk zbc_F zbc_T := runY_ok (E := zbc_E) (ET := zbc_V) (EnvT.ofX (pure_of (pairs_cons zcl_ok (pairs_cons za9_ok (pairs_cons zax_ok pairs_nil)))) looks_nil raws_nil G0_ok news_nil) zbc_eq rfl
theorem za4_FokD : @SoundP ⟨True⟩ Tryz.prog G0 174 za4_F := by
 letI : Drawn := ⟨True⟩
 exact closeF_sound (runF_sound ⟨same_ok, envP_nil, envS_nil, envP_nil, envX_nil⟩ Tryz.func174 rfl (by kernel_rfl))
theorem zax_FokD : @SoundP ⟨True⟩ Tryz.prog G0 126 zax_F := by
 letI : Drawn := ⟨True⟩
 exact closeF_sound (runF_sound ⟨same_ok, (envP_cons za4_FokD envP_nil), envS_nil, envP_nil, envX_nil⟩ Tryz.func126 rfl (by kernel_rfl))
theorem zcl_FokD : @SoundP ⟨True⟩ Tryz.prog G0 124 zcl_F := by
 letI : Drawn := ⟨True⟩
 exact closeF_sound (runF_sound ⟨same_ok, envP_nil, envS_nil, envP_nil, envX_nil⟩ Tryz.func124 rfl (by kernel_rfl))
theorem zav_FokD : @SoundP ⟨True⟩ Tryz.prog G0 235 zav_F := by
 letI : Drawn := ⟨True⟩
 exact closeF_sound (runF_sound ⟨same_ok, envP_nil, envS_nil, envP_nil, envX_nil⟩ Tryz.func235 rfl (by kernel_rfl))
theorem zau_FokD : @SoundP ⟨True⟩ Tryz.prog G0 209 zau_F := by
 letI : Drawn := ⟨True⟩
 exact closeF_sound (runF_sound ⟨same_ok, (envP_cons zav_FokD envP_nil), envS_nil, envP_nil, envX_nil⟩ Tryz.func209 rfl (by kernel_rfl))
theorem zaj_FokD : @SoundP ⟨True⟩ Tryz.prog G0 173 zaj_F := by
 letI : Drawn := ⟨True⟩
 exact closeF_sound (runF_sound ⟨same_ok, (envP_cons zau_FokD envP_nil), envS_nil, envP_nil, envX_nil⟩ Tryz.func173 rfl (by kernel_rfl))
theorem za9_FokD : @SoundP ⟨True⟩ Tryz.prog G0 125 za9_F := by
 letI : Drawn := ⟨True⟩
 exact closeF_sound (runF_sound ⟨same_ok, (envP_cons zaj_FokD envP_nil), envS_nil, envP_nil, envX_nil⟩ Tryz.func125 rfl (by kernel_rfl))
theorem zbc_FokD : @SoundP ⟨True⟩ Tryz.prog G0 65 zbc_F := by
 letI : Drawn := ⟨True⟩
 exact closeF_sound (runF_sound ⟨same_ok, (envP_cons zcl_FokD (envP_cons za9_FokD (envP_cons zax_FokD envP_nil))), envS_nil, envP_nil, envX_nil⟩ Tryz.func65 rfl (by kernel_rfl))
def zaf_ren : Go.Shelf.Ren := ⟨fun | 6 => 64 | 14 => 122 | 15 => 123 | 20 => 163 | 21 => 164 | 22 => 165 | 23 => 166 | 24 => 167 | 25 => 168 | 26 => 169 | 27 => 170 | 28 => 171 | 29 => 172 | 46 => 204 | 47 => 205 | 48 => 206 | 49 => 207 | 50 => 208 | 57 => 234 | n => n, fun | 0 => 0 | 3 => 3 | 4 => 4 | 5 => 5 | 9 => 9 | 22 => 53 | 24 => 65 | 25 => 107 | 39 => 162 | 45 => 194 | 46 => 195 | 50 => 155 | 53 => 201 | 55 => 203 | 66 => 223 | 70 => 227 | 76 => 249 | 77 => 189 | n => n, fun | n => n⟩
theorem zaf_lays : Go.Proofs.SlLaysF0.n6 Tryz.prog zaf_ren := {
 mixed := by kernel_rfl
 f6 := ⟨Tryz.f64.name, by decide, Tryz.func64.trans (congrArg some (by kernel_rfl))⟩
 f14 := ⟨Tryz.f122.name, by decide, Tryz.func122.trans (congrArg some (by kernel_rfl))⟩
 f15 := Tryz.func123.trans (congrArg some (by kernel_rfl))
 f20 := ⟨Tryz.f163.name, by decide, Tryz.func163.trans (congrArg some (by kernel_rfl))⟩
 f21 := ⟨Tryz.f164.name, by decide, Tryz.func164.trans (congrArg some (by kernel_rfl))⟩
 f22 := ⟨Tryz.f165.name, by decide, Tryz.func165.trans (congrArg some (by kernel_rfl))⟩
 f23 := ⟨Tryz.f166.name, by decide, Tryz.func166.trans (congrArg some (by kernel_rfl))⟩
 f24 := ⟨Tryz.f167.name, by decide, Tryz.func167.trans (congrArg some (by kernel_rfl))⟩
 f25 := ⟨Tryz.f168.name, by decide, Tryz.func168.trans (congrArg some (by kernel_rfl))⟩
 f26 := ⟨Tryz.f169.name, by decide, Tryz.func169.trans (congrArg some (by kernel_rfl))⟩
 f27 := ⟨Tryz.f170.name, by decide, Tryz.func170.trans (congrArg some (by kernel_rfl))⟩
 f28 := Tryz.func171.trans (congrArg some (by kernel_rfl))
 f29 := Tryz.func172.trans (congrArg some (by kernel_rfl))
 f46 := ⟨Tryz.f204.name, by decide, Tryz.func204.trans (congrArg some (by kernel_rfl))⟩
 f47 := Tryz.func205.trans (congrArg some (by kernel_rfl))
 f48 := Tryz.func206.trans (congrArg some (by kernel_rfl))
 f49 := ⟨Tryz.f207.name, by decide, Tryz.func207.trans (congrArg some (by kernel_rfl))⟩
 f50 := ⟨Tryz.f208.name, by decide, Tryz.func208.trans (congrArg some (by kernel_rfl))⟩
 f57 := ⟨Tryz.f234.name, by decide, Tryz.func234.trans (congrArg some (by kernel_rfl))⟩
 t0 := Tryz.underlying0
 a0 := Tryz.isAgg0
 z0 := Tryz.sizeOf0
 v0 := Tryz.zeroValue0
 t3 := Tryz.underlying3
 a3 := Tryz.isAgg3
 z3 := Tryz.sizeOf3
 v3 := Tryz.zeroValue3
 t4 := Tryz.underlying4
 a4 := Tryz.isAgg4
 z4 := Tryz.sizeOf4
 v4 := Tryz.zeroValue4
 t5 := Tryz.underlying5
 a5 := Tryz.isAgg5
 z5 := Tryz.sizeOf5
 v5 := Tryz.zeroValue5
 t9 := Tryz.underlying9
 a9 := Tryz.isAgg9
 z9 := Tryz.sizeOf9
 v9 := Tryz.zeroValue9
 t22 := Tryz.underlying53
 a22 := Tryz.isAgg53
 z22 := Tryz.sizeOf53
 v22 := Tryz.zeroValue53
 t25 := Tryz.underlying107
 a25 := Tryz.isAgg107
 z25 := Tryz.sizeOf107
 v25 := Tryz.zeroValue107
 t39 := Tryz.underlying162
 a39 := Tryz.isAgg162
 z39 := Tryz.sizeOf162
 v39 := Tryz.zeroValue162
 t45 := Tryz.underlying194
 a45 := Tryz.isAgg194
 z45 := Tryz.sizeOf194
 v45 := Tryz.zeroValue194
 t46 := Tryz.underlying195
 a46 := Tryz.isAgg195
 z46 := Tryz.sizeOf195
 v46 := Tryz.zeroValue195
 t50 := Tryz.underlying155
 a50 := Tryz.isAgg155
 z50 := Tryz.sizeOf155
 v50 := Tryz.zeroValue155
 t53 := Tryz.underlying201
 a53 := Tryz.isAgg201
 z53 := Tryz.sizeOf201
 v53 := Tryz.zeroValue201
 t55 := Tryz.underlying203
 a55 := Tryz.isAgg203
 z55 := Tryz.sizeOf203
 v55 := Tryz.zeroValue203
 t66 := Tryz.underlying223
 a66 := Tryz.isAgg223
 z66 := Tryz.sizeOf223
 v66 := Tryz.zeroValue223
 t70 := Tryz.underlying227
 a70 := Tryz.isAgg227
 z70 := Tryz.sizeOf227
 v70 := Tryz.zeroValue227
 t76 := Tryz.underlying249
 a76 := Tryz.isAgg249
 z76 := Tryz.sizeOf249
 v76 := Tryz.zeroValue249
 t77 := Tryz.underlying189
 a77 := Tryz.isAgg189
 z77 := Tryz.sizeOf189
 v77 := Tryz.zeroValue189 }
def zaf_S : SFn := sortS zbc_F 65 2 65
theorem zaf_Sok : SoundS Tryz.prog G0 64 zaf_S := sortS_sound (M := 2) (g := 65) zaf_lays (by decide) (fun w => Tryz.isAgg65 w) (fun w => Tryz.sizeOf65 w) zbc_FokD ⟨Tryz.f64, Tryz.func64, rfl, by kernel_rfl⟩
def zaf (w0 : List vV4) : Option (Unit × List vV4 × Unit) := (sortT (fun x y => zbc x y) w0).map fun l => ((), (l, ()))
def zaf_R : TRaw := sortR false 65 65 tT15 (fun x y => zbc x y)
theorem zaf_ok : TRawOk zaf_S zaf_R := sortR_ok rfl rfl rfl rfl zbc_ok
def za8_E : Env := (eZ [(65, zbc_F)] [188])
def za8_H : Hints := (hZ [] [])
def za8_F : PFn := closeF (runF Tryz.prog za8_E za8_H Tryz.f67)
def za8_Y : TH := { loops := [], ro := [2, 3] }
def za8 (a0 : vV4) (a1 : vV4) : Option Bool :=
(zbc a0 a1).bind fun r1 =>
 some (decide (r1 = 0))
def za8_T : TFn := { ps := (.cons tT15 (.cons tT15 .unit)), res := .bool, fn := fun v => za8 v.1 v.2.1 }
def za8_V : TEnv := (vZ [(65, zbc_T)])
theorem za8_eq : runY Tryz.prog za8_E za8_H za8_V za8_Y Tryz.f67 za8_T.ps za8_T.res = za8_T.fn := by kernel_rfl
theorem za8_Fok : SoundP Tryz.prog G0 67 za8_F := closeF_sound (runF_sound ⟨same_ok, (envP_cons zbc_Fok envP_nil), envS_nil, envP_nil, envX_nil⟩ Tryz.func67 rfl (by kernel_rfl))
theorem za8_ok : TOk za8_F za8_T := runY_ok (E := za8_E) (ET := za8_V) (EnvT.ofX (pure_of (pairs_cons zbc_ok pairs_nil)) looks_nil raws_nil G0_ok news_nil) za8_eq rfl
def zak_ren : Go.Shelf.Ren := ⟨fun | 41 => 50 | n => n, fun | 22 => 24 | 23 => 9 | 4 => 4 | n => n, fun | n => n⟩
theorem zak_lays : Go.Proofs.SlLaysE0.n41 Tryz.prog zak_ren := {
 mixed := by kernel_rfl
 f41 := ⟨Tryz.f50.name, by decide, Tryz.func50.trans (congrArg some (by kernel_rfl))⟩
 t4 := Tryz.underlying4
 a4 := Tryz.isAgg4
 z4 := Tryz.sizeOf4
 v4 := Tryz.zeroValue4
 t22 := Tryz.underlying24
 a22 := Tryz.isAgg24
 z22 := Tryz.sizeOf24
 v22 := Tryz.zeroValue24 }
def zak_F : PFn := (cloneF 1)
theorem zak_Fok : SoundP Tryz.prog G0 50 zak_F := clone_lays zak_lays 1 ⟨Tryz.f50, Tryz.func50, rfl, by kernel_rfl⟩ (by kernel_rfl) (by kernel_rfl) (by kernel_rfl) (by kernel_rfl) (by kernel_rfl) (by decide) (fun w => Tryz.sizeOf9 w)
def zak (a0 : List (List UInt8)) : Option (List (List UInt8)) := cloneT a0
def zak_T : TFn := cloneT_T .str
theorem zak_ok : TOk zak_F zak_T := cloneT_ok rfl rfl rfl
def zad_E : Env := (eZ [(67, za8_F)] [188])
def zad_H : Hints := (hZ [(4, [0, 1, 5]), (9, [0, 1, 5, 6, 7])] [])
def zad_S : SFn := giveS (runF Tryz.prog zad_E zad_H Tryz.f66)
def zad_Y : TH := { joins := [(14, { keep := [(0, (.own 0)), (5, (.int .i64))], mem := [.row false 65 tT15] })], loops := [(4, { keep := [(0, (.own 0)), (5, (.int .i64))], mem := [.row false 65 tT15] }), (9, { keep := [(0, (.own 0)), (5, (.int .i64)), (6, (.vw 0)), (7, (.int .i64))], mem := [.row false 65 tT15] })], ro := [] }
def zad_l9 (y9 : (Int × (Nat × Nat) × Int × List vV4 × Unit)) : Option ((Int × (Nat × Nat) × Int × List vV4 × Unit) ⊕ ((Int × List vV4 × Unit) ⊕ ((Int × List vV4 × Unit) ⊕ (List vV4)))) :=
 cond (decide (y9.2.2.1 < (y9.2.1.2 : Int))) (
 cond y9.2.2.2.1.isEmpty (none) ((inI y9.2.1.2 y9.2.2.1).bind fun i7 =>
(y9.2.2.2.1[(y9.2.1.1 + i7)]?).bind fun x8 =>
 cond y9.2.2.2.1.isEmpty (none) ((inI y9.2.1.2 (IntKind.wrap .i64 (y9.2.2.1 - 1))).bind fun i9 =>
(y9.2.2.2.1[(y9.2.1.1 + i9)]?).bind fun x10 =>
(za8 x8 x10).bind fun r11 =>
 cond (!r11) (
 cond y9.2.2.2.1.isEmpty (none) ((inI y9.2.1.2 y9.2.2.1).bind fun i12 =>
(y9.2.2.2.1[(y9.2.1.1 + i12)]?).bind fun x13 =>
(inI y9.2.2.2.1.length y9.1).bind fun i14 =>
(y9.2.2.2.1[i14]?).bind fun x15 =>
 some (.inl ((IntKind.wrap .i64 (y9.1 + 1)), y9.2.1, (IntKind.wrap .i64 (y9.2.2.1 + 1)), (y9.2.2.2.1.set i14 x13), ())))) (
 some (.inl (y9.1, y9.2.1, (IntKind.wrap .i64 (y9.2.2.1 + 1)), y9.2.2.2.1, ())))))) (
 some (.inr (.inl (y9.1, y9.2.2.2.1, ()))))
def zad_l4 (y4 : (Int × List vV4 × Unit)) : Option ((Int × List vV4 × Unit) ⊕ (List vV4)) :=
 cond (decide (y4.1 < (y4.2.1.length : Int))) (
(inI y4.2.1.length y4.1).bind fun i1 =>
(y4.2.1[i1]?).bind fun x2 =>
(inI y4.2.1.length (IntKind.wrap .i64 (y4.1 - 1))).bind fun i3 =>
(y4.2.1[i3]?).bind fun x4 =>
(za8 x2 x4).bind fun r5 =>
 cond r5 (
 cond y4.2.1.isEmpty (none) ((viewI (y4.2.1.length) y4.1 (y4.2.1.length : Int)).bind fun p6 =>
(loopT (zad_l9) (y4.1, p6, 1, y4.2.1, ()) : Option ((Int × List vV4 × Unit) ⊕ ((Int × List vV4 × Unit) ⊕ (List vV4)))).bind (joinS fun v16 =>
 cond v16.2.1.isEmpty (none) ((viewI (v16.2.1.length) v16.1 (v16.2.1.length : Int)).bind fun p17 =>
 cond v16.2.1.isEmpty (none) ((if p17.1 + p17.2 ≤ v16.2.1.length then some () else none).bind fun u18 =>
 cond (v16.2.1.take p17.1 ++ List.replicate p17.2 ([], 0, ()) ++ v16.2.1.drop (p17.1 + p17.2)).isEmpty (none) ((viewI ((v16.2.1.take p17.1 ++ List.replicate p17.2 ([], 0, ()) ++ v16.2.1.drop (p17.1 + p17.2)).length) 0 v16.1).bind fun p19 =>
(cond (v16.2.1.take p17.1 ++ List.replicate p17.2 ([], 0, ()) ++ v16.2.1.drop (p17.1 + p17.2)).isEmpty none (if p19.1 + p19.2 ≤ (v16.2.1.take p17.1 ++ List.replicate p17.2 ([], 0, ()) ++ v16.2.1.drop (p17.1 + p17.2)).length then some (((v16.2.1.take p17.1 ++ List.replicate p17.2 ([], 0, ()) ++ v16.2.1.drop (p17.1 + p17.2)).drop p19.1).take p19.2) else none)).map .inr)))))) (
 some (.inl ((IntKind.wrap .i64 (y4.1 + 1)), y4.2.1, ())))) (
 some (.inr y4.2.1))
def zad_g (w0 : List vV4) : Option (List vV4) :=
 cond (decide ((w0.length : Int) < 2)) (
 some w0) (
 loopT (zad_l4) (1, w0, ()))
def zad (w0 : List vV4) : Option (List vV4 × Unit) := (zad_g w0).map fun l => (l, ())
def zad_R : TRaw := { ps := (.cons (.own 0) (.cons (.fn 67) .unit)), ins := [.row false 65 tT15], res := (.sl tT15), outs := [.gone], fn := fun v w => zad w.1 }
def zad_V : TEnv := (vZ [(67, za8_T)])
theorem zad_eq : giveY Tryz.prog zad_E zad_H zad_V zad_Y Tryz.f66 (.cons (.own 0) (.cons (.fn 67) .unit)) false 65 tT15 = fun _ w => zad_g w := by kernel_rfl
theorem zad_Sok : SoundS Tryz.prog G0 66 zad_S := giveS_sound (runF_sound ⟨same_ok, (envP_cons za8_Fok envP_nil), envS_nil, envP_nil, envX_nil⟩ Tryz.func66 rfl (by kernel_rfl))
theorem zad_ok : TRawOk zad_S zad_R := giveY_ok (E := zad_E) (ET := zad_V) (EnvT.ofX (pure_of (pairs_cons za8_ok pairs_nil)) looks_nil raws_nil G0_ok news_nil) zad_eq
def zb0_E : Env := { pure := [(50, zak_F), (63, zde_F)], raw := [(64, zaf_S), (66, zad_S)], glob := G0, same := [188], look := [], ext := [] }
def zb0_H : Hints := (hZ [(3, [3, 6, 7, 8])] [])
def zb0_F : PFn := closeF (runF Tryz.prog zb0_E zb0_H Tryz.f23)
def zb0_Y : TH := { joins := [(7, { keep := [(3, (.own 1))], mem := [.gone, .row true 65 tT15] })], loops := [(3, { keep := [(3, (.own 1)), (8, (.int .i64))], mem := [.gone, .row true 65 tT15] })], ro := [] }
def zb0_l3 (a0 : List vV6) (y3 : (Int × List vV4 × Unit)) : Option ((Int × List vV4 × Unit) ⊕ ((List vV4 × Unit) ⊕ List vV4)) :=
 cond (decide (y3.1 < (a0.length : Int))) (
(atI a0 y3.1).bind fun x1 =>
(zak x1.2.1.2.1).bind fun r2 =>
(zde x1.2.1.1).bind fun r3 =>
(roomT (y3.2.1.length + ([(r2, r3, ())] : List vV4).length)).bind fun u4 =>
 some (.inl ((IntKind.wrap .i64 (y3.1 + 1)), (y3.2.1 ++ ([(r2, r3, ())] : List vV4)), ()))) (
 some (.inr (.inl (y3.2.1, ()))))
def zb0 (a0 : List vV6) : Option (List vV4) :=
(loopT (zb0_l3 a0) (0, [], ()) : Option ((List vV4 × Unit) ⊕ List vV4)).bind (joinS fun v5 =>
(zaf v5.1).bind fun q6 =>
(zad q6.2.1).bind fun q7 =>
 some q7.1)
def zb0_T : TFn := { ps := (.cons (.sl tT14) .unit), res := (.sl tT15), fn := fun v => zb0 v.1 }
def zb0_V : TEnv := { pure := [(50, zak_T), (63, zde_T)], look := [], glob := G0T, ty := [(65, tT15)], raw := [(64, zaf_R), (66, zad_R)], fresh := [] }
theorem zb0_eq : runY Tryz.prog zb0_E zb0_H zb0_V zb0_Y Tryz.f23 zb0_T.ps zb0_T.res = zb0_T.fn := by kernel_rfl
theorem zb0_Fok : SoundP Tryz.prog G0 23 zb0_F := closeF_sound (runF_sound ⟨same_ok, (envP_cons zak_Fok (envP_cons zde_Fok envP_nil)), (envS_cons zaf_Sok (envS_cons zad_Sok envS_nil)), envP_nil, envX_nil⟩ Tryz.func23 rfl (by kernel_rfl))
theorem zb0_ok : TOk zb0_F zb0_T := runY_ok (E := zb0_E) (ET := zb0_V) (EnvT.ofX (pure_of (pairs_cons zak_ok (pairs_cons zde_ok pairs_nil))) looks_nil (raws_cons zaf_ok rfl rfl (raws_cons zad_ok rfl rfl raws_nil)) G0_ok news_nil) zb0_eq rfl
def zcs_E : Env := (eZ [] [188])
def zcs_H : Hints := (hZ [] [])
def zcs_F : PFn := closeF (runF Tryz.prog zcs_E zcs_H Tryz.f54)
def zcs_Y : TH := yZ
def zcs (a0 : Int) : Option Int :=
 cond (decide (a0 = 1)) (
 some 1) (
 cond (decide (a0 = 2)) (some 2) (cond (decide (a0 = 4)) (
 some 2) (
 cond (decide (a0 = 3)) (
 some 3) (
 some 0))))
def zcs_T : TFn := { ps := tT12, res := (.int .i64), fn := fun v => zcs v.1 }
def zcs_V : TEnv := (vZ [])
theorem zcs_eq : runY Tryz.prog zcs_E zcs_H zcs_V zcs_Y Tryz.f54 zcs_T.ps zcs_T.res = zcs_T.fn := by kernel_rfl
theorem zcs_Fok : SoundP Tryz.prog G0 54 zcs_F := closeF_sound (runF_sound ⟨same_ok, envP_nil, envS_nil, envP_nil, envX_nil⟩ Tryz.func54 rfl (by kernel_rfl))
theorem zcs_ok : TOk zcs_F zcs_T := runY_ok (E := zcs_E) (ET := zcs_V) (EnvT.ofX (pure_of pairs_nil) looks_nil raws_nil G0_ok news_nil) zcs_eq rfl
def zci_E : Env := (eZ [] [188])
def zci_H : Hints := (hZ [] [])
def zci_F : PFn := closeF (runF Tryz.prog zci_E zci_H Tryz.f149)
def zci_Y : TH := yZ
def zci (a0 : Int) (a1 : Int) : Option Int :=
 cond (decide (a0 < a1)) (
 some (-1)) (
 cond (decide (a0 > a1)) (
 some 1) (
 some 0))
def zci_T : TFn := { ps := (.cons (.int .i64) tT12), res := (.int .i64), fn := fun v => zci v.1 v.2.1 }
def zci_V : TEnv := (vZ [])
theorem zci_eq : runY Tryz.prog zci_E zci_H zci_V zci_Y Tryz.f149 zci_T.ps zci_T.res = zci_T.fn := by kernel_rfl
theorem zci_Fok : SoundP Tryz.prog G0 149 zci_F := closeF_sound (runF_sound ⟨same_ok, envP_nil, envS_nil, envP_nil, envX_nil⟩ Tryz.func149 rfl (by kernel_rfl))
theorem zci_ok : TOk zci_F zci_T := runY_ok (E := zci_E) (ET := zci_V) (EnvT.ofX (pure_of pairs_nil) looks_nil raws_nil G0_ok news_nil) zci_eq rfl
def zb3_E : Env := (eZ [(149, zci_F)] [188])
def zb3_H : Hints := (hZ [(2, [0, 1, 5])] [])
def zb3_F : PFn := closeF (runF Tryz.prog zb3_E zb3_H Tryz.f91)
def zb3_Y : TH := { joins := [(6, { keep := [], mem := [] })], loops := [(2, { keep := [(5, (.int .i64))], mem := [] })], ro := [] }
def zb3_l2 (a0 : List UInt8) (a1 : List UInt8) (y2 : (Int × Unit)) : Option ((Int × Unit) ⊕ (Unit ⊕ Int)) :=
 cond (decide (y2.1 < (a0.length : Int))) (cond (decide (y2.1 < (a1.length : Int))) (
(atI a0 y2.1).bind fun b1 =>
(atI a1 y2.1).bind fun b2 =>
 cond (!decide ((b1.toNat : Int) = (b2.toNat : Int))) (
(atI a0 y2.1).bind fun b3 =>
(atI a1 y2.1).bind fun b4 =>
(zci (IntKind.wrap .i64 (b3.toNat : Int)) (IntKind.wrap .i64 (b4.toNat : Int))).bind fun r5 =>
 some (.inr (.inr r5))) (
 some (.inl ((IntKind.wrap .i64 (y2.1 + 1)), ())))) (
 some (.inr (.inl ())))) (some (.inr (.inl ())))
def zb3 (a0 : List UInt8) (a1 : List UInt8) : Option Int :=
(loopT (zb3_l2 a0 a1) (0, ()) : Option (Unit ⊕ Int)).bind (joinS fun v6 =>
(zci (a0.length : Int) (a1.length : Int)).bind fun r7 =>
 some r7)
def zb3_T : TFn := { ps := (.cons .str (.cons .str .unit)), res := (.int .i64), fn := fun v => zb3 v.1 v.2.1 }
def zb3_V : TEnv := (vZ [(149, zci_T)])
theorem zb3_eq : runY Tryz.prog zb3_E zb3_H zb3_V zb3_Y Tryz.f91 zb3_T.ps zb3_T.res = zb3_T.fn := by kernel_rfl
theorem zb3_Fok : SoundP Tryz.prog G0 91 zb3_F := closeF_sound (runF_sound ⟨same_ok, (envP_cons zci_Fok envP_nil), envS_nil, envP_nil, envX_nil⟩ Tryz.func91 rfl (by kernel_rfl))
theorem zb3_ok : TOk zb3_F zb3_T := runY_ok (E := zb3_E) (ET := zb3_V) (EnvT.ofX (pure_of (pairs_cons zci_ok pairs_nil)) looks_nil raws_nil G0_ok news_nil) zb3_eq rfl
def za1_E : Env := (eZ [(91, zb3_F)] [188])
def za1_H : Hints := (hZ [(2, [0, 1, 5])] [])
def za1_F : PFn := closeF (runF Tryz.prog za1_E za1_H Tryz.f44)
def za1_Y : TH := { joins := [(7, { keep := [], mem := [] })], loops := [(2, { keep := [(5, (.int .i64))], mem := [] })], ro := [] }
def za1_l2 (a0 : List (List UInt8)) (a1 : List (List UInt8)) (y2 : (Int × Unit)) : Option ((Int × Unit) ⊕ (Unit ⊕ Int)) :=
 cond (decide (y2.1 < (a0.length : Int))) (cond (decide (y2.1 < (a1.length : Int))) (
(atI a0 y2.1).bind fun x1 =>
(atI a1 y2.1).bind fun x2 =>
(zb3 x1 x2).bind fun r3 =>
 cond (!decide (r3 = 0)) (
 some (.inr (.inr r3))) (
 some (.inl ((IntKind.wrap .i64 (y2.1 + 1)), ())))) (
 some (.inr (.inl ())))) (some (.inr (.inl ())))
def za1 (a0 : List (List UInt8)) (a1 : List (List UInt8)) : Option Int :=
(loopT (za1_l2 a0 a1) (0, ()) : Option (Unit ⊕ Int)).bind (joinS fun v4 =>
 cond (decide ((a0.length : Int) < (a1.length : Int))) (
 some (-1)) (
 cond (decide ((a0.length : Int) > (a1.length : Int))) (
 some 1) (
 some 0)))
def za1_T : TFn := { ps := (.cons (.sl .str) tT18), res := (.int .i64), fn := fun v => za1 v.1 v.2.1 }
def za1_V : TEnv := (vZ [(91, zb3_T)])
theorem za1_eq : runY Tryz.prog za1_E za1_H za1_V za1_Y Tryz.f44 za1_T.ps za1_T.res = za1_T.fn := by kernel_rfl
theorem za1_Fok : SoundP Tryz.prog G0 44 za1_F := closeF_sound (runF_sound ⟨same_ok, (envP_cons zb3_Fok envP_nil), envS_nil, envP_nil, envX_nil⟩ Tryz.func44 rfl (by kernel_rfl))
theorem za1_ok : TOk za1_F za1_T := runY_ok (E := za1_E) (ET := za1_V) (EnvT.ofX (pure_of (pairs_cons zb3_ok pairs_nil)) looks_nil raws_nil G0_ok news_nil) za1_eq rfl
def za5_E : Env := (eZ [(44, za1_F)] [188])
def za5_H : Hints := (hZ [] [])
def za5_F : PFn := closeF (runF Tryz.prog za5_E za5_H Tryz.f129)
def za5_Y : TH := { loops := [], ro := [2, 3] }
def za5 (a0 : vV4) (a1 : vV4) : Option Int :=
(za1 a0.1 a1.1).bind fun r1 =>
 cond (!decide (r1 = 0)) (
 some r1) (
 some (IntKind.wrap .i64 (a0.2.1 - a1.2.1)))
def za5_T : TFn := { ps := (.cons tT15 (.cons tT15 .unit)), res := (.int .i64), fn := fun v => za5 v.1 v.2.1 }
def za5_V : TEnv := (vZ [(44, za1_T)])
theorem za5_eq : runY Tryz.prog za5_E za5_H za5_V za5_Y Tryz.f129 za5_T.ps za5_T.res = za5_T.fn := by kernel_rfl
theorem za5_Fok : SoundP Tryz.prog G0 129 za5_F := closeF_sound (runF_sound ⟨same_ok, (envP_cons za1_Fok envP_nil), envS_nil, envP_nil, envX_nil⟩ Tryz.func129 rfl (by kernel_rfl))
theorem za5_ok : TOk za5_F za5_T := runY_ok (E := za5_E) (ET := za5_V) (EnvT.ofX (pure_of (pairs_cons za1_ok pairs_nil)) looks_nil raws_nil G0_ok news_nil) za5_eq rfl
def zbd_E : Env := (eZ [(54, zcs_F), (129, za5_F)] [188])
def zbd_H : Hints := (hZ [(3, [0, 3, 4]), (7, [0, 3, 4, 5, 6]), (12, [0, 3, 4, 5, 6, 7])] [19, 25])
def zbd_F : PFn := closeF (runF Tryz.prog zbd_E zbd_H Tryz.f70)
def zbd_Y : TH := { joins := [(9, { keep := [(3, (.own 1)), (5, (.bx 2 0)), (6, (.int .i64))], mem := [.gone, .row true 113 tT15, .box 113 tT15] }), (10, { keep := [(3, (.own 1)), (5, (.bx 2 0))], mem := [.gone, .row true 113 tT15, .box 113 tT15] }), (15, { keep := [(3, (.own 1)), (5, (.bx 2 0))], mem := [.gone, .row true 113 tT15, .box 113 tT15] })], loops := [(3, { keep := [(3, (.own 1)), (4, (.int .i64))], mem := [.gone, .row true 113 tT15] }), (7, { keep := [(3, (.own 1)), (5, (.bx 2 0)), (6, (.int .i64))], mem := [.gone, .row true 113 tT15, .box 113 tT15] }), (12, { keep := [(3, (.own 1)), (5, (.bx 2 0)), (7, (.int .i64))], mem := [.gone, .row true 113 tT15, .box 113 tT15] })], ro := [] }
def zbd_l7 (y7 : (Int × List vV4 × vV4 × Unit)) : Option ((Int × List vV4 × vV4 × Unit) ⊕ ((Int × List vV4 × vV4 × Unit) ⊕ ((Int × List vV4 × Unit) ⊕ List vV4))) :=
 cond (decide (y7.1 < (y7.2.1.length : Int))) ((inI y7.2.1.length y7.1).bind fun i4 =>
(y7.2.1[i4]?).bind fun x5 =>
(za5 x5 y7.2.2.1).bind fun r6 =>
 cond (decide (r6 < 0)) (
 some (.inl ((IntKind.wrap .i64 (y7.1 + 1)), y7.2.1, y7.2.2.1, ()))) (
 some (.inr (.inl (y7.1, y7.2.1, y7.2.2.1, ()))))) (some (.inr (.inl (y7.1, y7.2.1, y7.2.2.1, ()))))
def zbd_l12 (v7 : (Int × List vV4 × vV4 × Unit)) (y12 : (Int × List vV4 × vV4 × Unit)) : Option ((Int × List vV4 × vV4 × Unit) ⊕ ((List vV4 × vV4 × Unit) ⊕ ((Int × List vV4 × Unit) ⊕ List vV4))) :=
 cond (decide (y12.1 > v7.1)) (
(inI y12.2.1.length (IntKind.wrap .i64 (y12.1 - 1))).bind fun i13 =>
(y12.2.1[i13]?).bind fun x14 =>
(inI y12.2.1.length y12.1).bind fun i15 =>
(y12.2.1[i15]?).bind fun x16 =>
 some (.inl ((IntKind.wrap .i64 (y12.1 - 1)), (y12.2.1.set i15 x14), y12.2.2.1, ()))) (
 some (.inr (.inl (y12.2.1, y12.2.2.1, ()))))
def zbd_l3 (a0 : List vV6) (y3 : (Int × List vV4 × Unit)) : Option ((Int × List vV4 × Unit) ⊕ List vV4) :=
 cond (decide (y3.1 < (a0.length : Int))) (
(atI a0 y3.1).bind fun x1 =>
(atI a0 y3.1).bind fun x2 =>
(zcs x2.2.1.1).bind fun r3 =>
(loopT (zbd_l7) (0, y3.2.1, (x1.2.1.2.1, r3, ()), ()) : Option ((Int × List vV4 × vV4 × Unit) ⊕ ((Int × List vV4 × Unit) ⊕ List vV4))).bind (joinS fun v7 =>
(cond (decide (v7.1 < (v7.2.1.length : Int))) ((inI v7.2.1.length v7.1).bind fun i8 =>
(v7.2.1[i8]?).bind fun x9 =>
(za5 x9 v7.2.2.1).bind fun r10 =>
 cond (decide (r10 = 0)) (
 some (.inr (.inl ((IntKind.wrap .i64 (y3.1 + 1)), v7.2.1, ())))) (
 some (.inl (v7.2.1, v7.2.2.1, ())))) (some (.inl (v7.2.1, v7.2.2.1, ()))) : Option ((List vV4 × vV4 × Unit) ⊕ ((Int × List vV4 × Unit) ⊕ List vV4))).bind (joinS fun v11 =>
(roomT (v11.1.length + ([v11.2.1] : List vV4).length)).bind fun u12 =>
(loopT (zbd_l12 v7) ((IntKind.wrap .i64 (((v11.1 ++ ([v11.2.1] : List vV4)).length : Int) - 1)), (v11.1 ++ ([v11.2.1] : List vV4)), v11.2.1, ()) : Option ((List vV4 × vV4 × Unit) ⊕ ((Int × List vV4 × Unit) ⊕ List vV4))).bind (joinS fun v17 =>
(inI v17.1.length v7.1).bind fun i18 =>
(v17.1[i18]?).bind fun x19 =>
 some (.inl ((IntKind.wrap .i64 (y3.1 + 1)), (v17.1.set i18 v17.2.1), ())))))) (
 some (.inr y3.2.1))
def zbd (a0 : List vV6) : Option (List vV4) :=
 loopT (zbd_l3 a0) (0, [], ())
def zbd_T : TFn := { ps := (.cons (.sl tT14) .unit), res := (.sl tT15), fn := fun v => zbd v.1 }
def zbd_V : TEnv := { pure := [(54, zcs_T), (129, za5_T)], look := [], glob := G0T, ty := [(113, tT15)], raw := [], fresh := [] }
theorem zbd_eq : runY Tryz.prog zbd_E zbd_H zbd_V zbd_Y Tryz.f70 zbd_T.ps zbd_T.res = zbd_T.fn := by kernel_rfl
theorem zbd_Fok : SoundP Tryz.prog G0 70 zbd_F := closeF_sound (runF_sound ⟨same_ok, (envP_cons zcs_Fok (envP_cons za5_Fok envP_nil)), envS_nil, envP_nil, envX_nil⟩ Tryz.func70 rfl (by kernel_rfl))
theorem zbd_ok : TOk zbd_F zbd_T := runY_ok (E := zbd_E) (ET := zbd_V) (EnvT.ofX (pure_of (pairs_cons zcs_ok (pairs_cons za5_ok pairs_nil))) looks_nil raws_nil G0_ok news_nil) zbd_eq rfl
def zay_F : PFn := cmpF
theorem zay_Fok : SoundP Tryz.prog G0 180 zay_F := cmp_sound ⟨Tryz.f180, Tryz.func180, rfl, by kernel_rfl⟩ Tryz.strings_Compare
def zay (a0 : List UInt8) (a1 : List UInt8) : Option Int := cmpT a0 a1
def zay_T : TFn := cmpT_T
theorem zay_ok : TOk zay_F zay_T := cmpT_ok
def za6_E : Env := (eZ [(124, zcl_F), (126, zax_F), (180, zay_F)] [188])
def za6_H : Hints := (hZ [] [])
def za6_F : PFn := closeF (runF Tryz.prog za6_E za6_H Tryz.f135)
def za6_Y : TH := { loops := [], ro := [2, 3] }
def za6 (a0 : vV3) (a1 : vV3) : Option Int :=
(zax a0.1 a1.1).bind fun r1 =>
(zax a0.2.1 a1.2.1).bind fun r2 =>
(zay a0.2.2.1 a1.2.2.1).bind fun r3 =>
(zcl ([r1, r2, r3] : List Int)).bind fun r4 =>
 some r4
def za6_T : TFn := { ps := (.cons tT10 (.cons tT10 .unit)), res := (.int .i64), fn := fun v => za6 v.1 v.2.1 }
def za6_V : TEnv := { pure := [(124, zcl_T), (126, zax_T), (180, zay_T)], look := [], glob := G0T, ty := [(3, (.int .i64))], raw := [], fresh := [] }
theorem za6_eq : runY Tryz.prog za6_E za6_H za6_V za6_Y Tryz.f135 za6_T.ps za6_T.res = za6_T.fn := by kernel_rfl
theorem za6_Fok : SoundP Tryz.prog G0 135 za6_F := closeF_sound (runF_sound ⟨same_ok, (envP_cons zcl_Fok (envP_cons zax_Fok (envP_cons zay_Fok envP_nil))), envS_nil, envP_nil, envX_nil⟩ Tryz.func135 rfl (by kernel_rfl))
theorem za6_ok : TOk za6_F za6_T := runY_ok (E := za6_E) (ET := za6_V) (EnvT.ofX (pure_of (pairs_cons zcl_ok (pairs_cons zax_ok (pairs_cons zay_ok pairs_nil)))) looks_nil raws_nil G0_ok news_nil) za6_eq rfl
theorem zay_FokD : @SoundP ⟨True⟩ Tryz.prog G0 180 zay_F := by
 letI : Drawn := ⟨True⟩
 exact cmp_sound ⟨Tryz.f180, Tryz.func180, rfl, by kernel_rfl⟩ Tryz.strings_Compare
theorem za6_FokD : @SoundP ⟨True⟩ Tryz.prog G0 135 za6_F := by
 letI : Drawn := ⟨True⟩
 exact closeF_sound (runF_sound ⟨same_ok, (envP_cons zcl_FokD (envP_cons zax_FokD (envP_cons zay_FokD envP_nil))), envS_nil, envP_nil, envX_nil⟩ Tryz.func135 rfl (by kernel_rfl))
def zae_ren : Go.Shelf.Ren := ⟨fun | 6 => 134 | 14 => 179 | 15 => 123 | 20 => 213 | 21 => 214 | 22 => 215 | 23 => 216 | 24 => 217 | 25 => 218 | 26 => 219 | 27 => 220 | 28 => 171 | 29 => 172 | 46 => 239 | 47 => 205 | 48 => 206 | 49 => 240 | 50 => 241 | 57 => 251 | n => n, fun | 0 => 0 | 3 => 3 | 4 => 4 | 5 => 5 | 9 => 9 | 22 => 66 | 24 => 26 | 25 => 168 | 39 => 162 | 45 => 194 | 46 => 195 | 50 => 155 | 53 => 201 | 55 => 203 | 66 => 223 | 70 => 227 | 76 => 249 | 77 => 189 | n => n, fun | n => n⟩
theorem zae_lays : Go.Proofs.SlLaysF0.n6 Tryz.prog zae_ren := {
 mixed := by kernel_rfl
 f6 := ⟨Tryz.f134.name, by decide, Tryz.func134.trans (congrArg some (by kernel_rfl))⟩
 f14 := ⟨Tryz.f179.name, by decide, Tryz.func179.trans (congrArg some (by kernel_rfl))⟩
 f15 := Tryz.func123.trans (congrArg some (by kernel_rfl))
 f20 := ⟨Tryz.f213.name, by decide, Tryz.func213.trans (congrArg some (by kernel_rfl))⟩
 f21 := ⟨Tryz.f214.name, by decide, Tryz.func214.trans (congrArg some (by kernel_rfl))⟩
 f22 := ⟨Tryz.f215.name, by decide, Tryz.func215.trans (congrArg some (by kernel_rfl))⟩
 f23 := ⟨Tryz.f216.name, by decide, Tryz.func216.trans (congrArg some (by kernel_rfl))⟩
 f24 := ⟨Tryz.f217.name, by decide, Tryz.func217.trans (congrArg some (by kernel_rfl))⟩
 f25 := ⟨Tryz.f218.name, by decide, Tryz.func218.trans (congrArg some (by kernel_rfl))⟩
 f26 := ⟨Tryz.f219.name, by decide, Tryz.func219.trans (congrArg some (by kernel_rfl))⟩
 f27 := ⟨Tryz.f220.name, by decide, Tryz.func220.trans (congrArg some (by kernel_rfl))⟩
 f28 := Tryz.func171.trans (congrArg some (by kernel_rfl))
 f29 := Tryz.func172.trans (congrArg some (by kernel_rfl))
 f46 := ⟨Tryz.f239.name, by decide, Tryz.func239.trans (congrArg some (by kernel_rfl))⟩
 f47 := Tryz.func205.trans (congrArg some (by kernel_rfl))
 f48 := Tryz.func206.trans (congrArg some (by kernel_rfl))
 f49 := ⟨Tryz.f240.name, by decide, Tryz.func240.trans (congrArg some (by kernel_rfl))⟩
 f50 := ⟨Tryz.f241.name, by decide, Tryz.func241.trans (congrArg some (by kernel_rfl))⟩
 f57 := ⟨Tryz.f251.name, by decide, Tryz.func251.trans (congrArg some (by kernel_rfl))⟩
 t0 := Tryz.underlying0
 a0 := Tryz.isAgg0
 z0 := Tryz.sizeOf0
 v0 := Tryz.zeroValue0
 t3 := Tryz.underlying3
 a3 := Tryz.isAgg3
 z3 := Tryz.sizeOf3
 v3 := Tryz.zeroValue3
 t4 := Tryz.underlying4
 a4 := Tryz.isAgg4
 z4 := Tryz.sizeOf4
 v4 := Tryz.zeroValue4
 t5 := Tryz.underlying5
 a5 := Tryz.isAgg5
 z5 := Tryz.sizeOf5
 v5 := Tryz.zeroValue5
 t9 := Tryz.underlying9
 a9 := Tryz.isAgg9
 z9 := Tryz.sizeOf9
 v9 := Tryz.zeroValue9
 t22 := Tryz.underlying66
 a22 := Tryz.isAgg66
 z22 := Tryz.sizeOf66
 v22 := Tryz.zeroValue66
 t25 := Tryz.underlying168
 a25 := Tryz.isAgg168
 z25 := Tryz.sizeOf168
 v25 := Tryz.zeroValue168
 t39 := Tryz.underlying162
 a39 := Tryz.isAgg162
 z39 := Tryz.sizeOf162
 v39 := Tryz.zeroValue162
 t45 := Tryz.underlying194
 a45 := Tryz.isAgg194
 z45 := Tryz.sizeOf194
 v45 := Tryz.zeroValue194
 t46 := Tryz.underlying195
 a46 := Tryz.isAgg195
 z46 := Tryz.sizeOf195
 v46 := Tryz.zeroValue195
 t50 := Tryz.underlying155
 a50 := Tryz.isAgg155
 z50 := Tryz.sizeOf155
 v50 := Tryz.zeroValue155
 t53 := Tryz.underlying201
 a53 := Tryz.isAgg201
 z53 := Tryz.sizeOf201
 v53 := Tryz.zeroValue201
 t55 := Tryz.underlying203
 a55 := Tryz.isAgg203
 z55 := Tryz.sizeOf203
 v55 := Tryz.zeroValue203
 t66 := Tryz.underlying223
 a66 := Tryz.isAgg223
 z66 := Tryz.sizeOf223
 v66 := Tryz.zeroValue223
 t70 := Tryz.underlying227
 a70 := Tryz.isAgg227
 z70 := Tryz.sizeOf227
 v70 := Tryz.zeroValue227
 t76 := Tryz.underlying249
 a76 := Tryz.isAgg249
 z76 := Tryz.sizeOf249
 v76 := Tryz.zeroValue249
 t77 := Tryz.underlying189
 a77 := Tryz.isAgg189
 z77 := Tryz.sizeOf189
 v77 := Tryz.zeroValue189 }
def zae_S : SFn := sortS za6_F 135 3 26
theorem zae_Sok : SoundS Tryz.prog G0 134 zae_S := sortS_sound (M := 3) (g := 135) zae_lays (by decide) (fun w => Tryz.isAgg26 w) (fun w => Tryz.sizeOf26 w) za6_FokD ⟨Tryz.f134, Tryz.func134, rfl, by kernel_rfl⟩
def zae (w0 : List vV3) : Option (Unit × List vV3 × Unit) := (sortT (fun x y => za6 x y) w0).map fun l => ((), (l, ()))
def zae_R : TRaw := sortR false 135 26 tT10 (fun x y => za6 x y)
theorem zae_ok : TRawOk zae_S zae_R := sortR_ok rfl rfl rfl rfl za6_ok
def zag_E : Env := (eZ [] [188])
def zag_H : Hints := (hZ [(4, [0, 3]), (9, [0, 3, 4, 5])] [])
def zag_S : SFn := giveS (runF Tryz.prog zag_E zag_H Tryz.f136)
def zag_Y : TH := { joins := [(14, { keep := [(0, (.own 0)), (3, (.int .i64))], mem := [.row false 26 tT10] })], loops := [(4, { keep := [(0, (.own 0)), (3, (.int .i64))], mem := [.row false 26 tT10] }), (9, { keep := [(0, (.own 0)), (3, (.int .i64)), (4, (.vw 0)), (5, (.int .i64))], mem := [.row false 26 tT10] })], ro := [] }
def zag_l9 (y9 : (Int × (Nat × Nat) × Int × List vV3 × Unit)) : Option ((Int × (Nat × Nat) × Int × List vV3 × Unit) ⊕ ((Int × List vV3 × Unit) ⊕ ((Int × List vV3 × Unit) ⊕ (List vV3)))) :=
 cond (decide (y9.2.2.1 < (y9.2.1.2 : Int))) (
 cond y9.2.2.2.1.isEmpty (none) ((inI y9.2.1.2 y9.2.2.1).bind fun i6 =>
(y9.2.2.2.1[(y9.2.1.1 + i6)]?).bind fun x7 =>
 cond y9.2.2.2.1.isEmpty (none) ((inI y9.2.1.2 (IntKind.wrap .i64 (y9.2.2.1 - 1))).bind fun i8 =>
(y9.2.2.2.1[(y9.2.1.1 + i8)]?).bind fun x9 =>
 cond (!(eqV tT10 x7 x9)) (
 cond y9.2.2.2.1.isEmpty (none) ((inI y9.2.1.2 y9.2.2.1).bind fun i10 =>
(y9.2.2.2.1[(y9.2.1.1 + i10)]?).bind fun x11 =>
(inI y9.2.2.2.1.length y9.1).bind fun i12 =>
(y9.2.2.2.1[i12]?).bind fun x13 =>
 some (.inl ((IntKind.wrap .i64 (y9.1 + 1)), y9.2.1, (IntKind.wrap .i64 (y9.2.2.1 + 1)), (y9.2.2.2.1.set i12 x11), ())))) (
 some (.inl (y9.1, y9.2.1, (IntKind.wrap .i64 (y9.2.2.1 + 1)), y9.2.2.2.1, ())))))) (
 some (.inr (.inl (y9.1, y9.2.2.2.1, ()))))
def zag_l4 (y4 : (Int × List vV3 × Unit)) : Option ((Int × List vV3 × Unit) ⊕ (List vV3)) :=
 cond (decide (y4.1 < (y4.2.1.length : Int))) (
(inI y4.2.1.length y4.1).bind fun i1 =>
(y4.2.1[i1]?).bind fun x2 =>
(inI y4.2.1.length (IntKind.wrap .i64 (y4.1 - 1))).bind fun i3 =>
(y4.2.1[i3]?).bind fun x4 =>
 cond (eqV tT10 x2 x4) (
 cond y4.2.1.isEmpty (none) ((viewI (y4.2.1.length) y4.1 (y4.2.1.length : Int)).bind fun p5 =>
(loopT (zag_l9) (y4.1, p5, 1, y4.2.1, ()) : Option ((Int × List vV3 × Unit) ⊕ ((Int × List vV3 × Unit) ⊕ (List vV3)))).bind (joinS fun v14 =>
 cond v14.2.1.isEmpty (none) ((viewI (v14.2.1.length) v14.1 (v14.2.1.length : Int)).bind fun p15 =>
 cond v14.2.1.isEmpty (none) ((if p15.1 + p15.2 ≤ v14.2.1.length then some () else none).bind fun u16 =>
 cond (v14.2.1.take p15.1 ++ List.replicate p15.2 (0, 0, [], ()) ++ v14.2.1.drop (p15.1 + p15.2)).isEmpty (none) ((viewI ((v14.2.1.take p15.1 ++ List.replicate p15.2 (0, 0, [], ()) ++ v14.2.1.drop (p15.1 + p15.2)).length) 0 v14.1).bind fun p17 =>
(cond (v14.2.1.take p15.1 ++ List.replicate p15.2 (0, 0, [], ()) ++ v14.2.1.drop (p15.1 + p15.2)).isEmpty none (if p17.1 + p17.2 ≤ (v14.2.1.take p15.1 ++ List.replicate p15.2 (0, 0, [], ()) ++ v14.2.1.drop (p15.1 + p15.2)).length then some (((v14.2.1.take p15.1 ++ List.replicate p15.2 (0, 0, [], ()) ++ v14.2.1.drop (p15.1 + p15.2)).drop p17.1).take p17.2) else none)).map .inr)))))) (
 some (.inl ((IntKind.wrap .i64 (y4.1 + 1)), y4.2.1, ())))) (
 some (.inr y4.2.1))
def zag_g (w0 : List vV3) : Option (List vV3) :=
 cond (decide ((w0.length : Int) < 2)) (
 some w0) (
 loopT (zag_l4) (1, w0, ()))
def zag (w0 : List vV3) : Option (List vV3 × Unit) := (zag_g w0).map fun l => (l, ())
def zag_R : TRaw := { ps := (.cons (.own 0) .unit), ins := [.row false 26 tT10], res := (.sl tT10), outs := [.gone], fn := fun v w => zag w.1 }
def zag_V : TEnv := (vZ [])
theorem zag_eq : giveY Tryz.prog zag_E zag_H zag_V zag_Y Tryz.f136 (.cons (.own 0) .unit) false 26 tT10 = fun _ w => zag_g w := by kernel_rfl
theorem zag_Sok : SoundS Tryz.prog G0 136 zag_S := giveS_sound (runF_sound ⟨same_ok, envP_nil, envS_nil, envP_nil, envX_nil⟩ Tryz.func136 rfl (by kernel_rfl))
theorem zag_ok : TRawOk zag_S zag_R := giveY_ok (E := zag_E) (ET := zag_V) (EnvT.ofX (pure_of pairs_nil) looks_nil raws_nil G0_ok news_nil) zag_eq
def zcf_E : Env := { pure := [(32, zdd_F)], raw := [(134, zae_S), (136, zag_S)], glob := G0, same := [188], look := [], ext := [] }
def zcf_H : Hints := (hZ [(3, [5, 10, 11, 12])] [])
def zcf_F : PFn := closeF (runF Tryz.prog zcf_E zcf_H Tryz.f76)
def zcf_Y : TH := { joins := [(7, { keep := [(5, (.own 1))], mem := [.gone, .row true 26 tT10] })], loops := [(3, { keep := [(5, (.own 1)), (12, (.int .i64))], mem := [.gone, .row true 26 tT10] })], ro := [] }
def zcf_l3 (r1 : List vV6) (y3 : (Int × List vV3 × Unit)) : Option ((Int × List vV3 × Unit) ⊕ ((List vV3 × Unit) ⊕ List vV3)) :=
 cond (decide (y3.1 < (r1.length : Int))) (
(atI r1 y3.1).bind fun x2 =>
(roomT (y3.2.1.length + ([x2.2.1.2.2.1] : List vV3).length)).bind fun u3 =>
 some (.inl ((IntKind.wrap .i64 (y3.1 + 1)), (y3.2.1 ++ ([x2.2.1.2.2.1] : List vV3)), ()))) (
 some (.inr (.inl (y3.2.1, ()))))
def zcf (a0 : List vV6) (a1 : List (List UInt8)) : Option (List vV3) :=
((zdd a0 a1 1).bind fun r1 =>
 loopT (zcf_l3 r1) (0, [], ()) : Option ((List vV3 × Unit) ⊕ List vV3)).bind (joinS fun v4 =>
(zae v4.1).bind fun q5 =>
(zag q5.2.1).bind fun q6 =>
 some q6.1)
def zcf_T : TFn := { ps := (.cons (.sl tT14) tT18), res := (.sl tT10), fn := fun v => zcf v.1 v.2.1 }
def zcf_V : TEnv := { pure := [(32, zdd_T)], look := [], glob := G0T, ty := [(26, tT10)], raw := [(134, zae_R), (136, zag_R)], fresh := [] }
theorem zcf_eq : runY Tryz.prog zcf_E zcf_H zcf_V zcf_Y Tryz.f76 zcf_T.ps zcf_T.res = zcf_T.fn := by kernel_rfl
theorem zcf_Fok : SoundP Tryz.prog G0 76 zcf_F := closeF_sound (runF_sound ⟨same_ok, (envP_cons zdd_Fok envP_nil), (envS_cons zae_Sok (envS_cons zag_Sok envS_nil)), envP_nil, envX_nil⟩ Tryz.func76 rfl (by kernel_rfl))
theorem zcf_ok : TOk zcf_F zcf_T := runY_ok (E := zcf_E) (ET := zcf_V) (EnvT.ofX (pure_of (pairs_cons zdd_ok pairs_nil)) looks_nil (raws_cons zae_ok rfl rfl (raws_cons zag_ok rfl rfl raws_nil)) G0_ok news_nil) zcf_eq rfl
def zah_ren : Go.Shelf.Ren := ⟨fun | 22 => 138 | 29 => 181 | 30 => 182 | n => n, fun | 24 => 66 | 9 => 26 | 0 => 0 | 3 => 3 | 4 => 4 | n => n, fun | n => n⟩
theorem zah_lays : InsL Tryz.prog zah_ren := {
 mixed := by kernel_rfl
 f22 := ⟨Tryz.f138.name, by decide, Tryz.func138.trans (congrArg some (by kernel_rfl))⟩
 f29 := ⟨Tryz.f181.name, by decide, by kernel_rfl, by kernel_rfl, Tryz.func181.trans (congrArg some (by kernel_rfl))⟩
 t0 := Tryz.underlying0
 a0 := Tryz.isAgg0
 z0 := Tryz.sizeOf0
 v0 := Tryz.zeroValue0
 t3 := Tryz.underlying3
 a3 := Tryz.isAgg3
 z3 := Tryz.sizeOf3
 v3 := Tryz.zeroValue3
 t4 := Tryz.underlying4
 a4 := Tryz.isAgg4
 z4 := Tryz.sizeOf4
 v4 := Tryz.zeroValue4
 t24 := Tryz.underlying66
 a24 := Tryz.isAgg66
 z24 := Tryz.sizeOf66
 v24 := Tryz.zeroValue66 }
def zah_S : SFn := insertS 3 26
theorem zah_Sok : SoundS Tryz.prog G0 138 zah_S := insert_own zah_lays rfl rfl rfl (elem_lays (P := Tryz.prog) (te := 26) (M := 3) (by kernel_rfl) (by kernel_rfl) (by kernel_rfl) (by kernel_rfl) (by kernel_rfl) (by kernel_rfl) (by kernel_rfl) (by kernel_rfl)) true Tryz.isAgg26 ⟨Tryz.f138, Tryz.func138, rfl, by kernel_rfl⟩
def zah (a1 : Int) (a2 : List vV3) (w0 : List vV3) : Option (Unit × List vV3 × Unit) := (insT w0 a1 a2).map fun l => ((), (l, ()))
def zah_R : TRaw := insR false 26 tT10
theorem zah_ok : TRawOk zah_S zah_R := insR_ok rfl rfl rfl rfl (by decide)
def zab_E : Env := (eZ [(135, za6_F)] [188])
def zab_H : Hints := (hZ [(3, [0, 2, 4, 8, 9, 10])] [])
def zab_F : PFn := closeF (runF Tryz.prog zab_E zab_H Tryz.f137)
def zab_Y : TH := { joins := [(8, { keep := [(4, (.bx 0 0)), (9, (.int .i64))], mem := [.same] })], loops := [(3, { keep := [(4, (.bx 0 0)), (9, (.int .i64)), (10, (.int .i64))], mem := [.same] })], ro := [4] }
def zab_l3 (a0 : List vV3) (a1 : vV3) (y3 : (Int × Int × Unit)) : Option ((Int × Int × Unit) ⊕ ((Int × Unit) ⊕ (Int × Bool × Unit))) :=
 cond (decide (y3.1 < y3.2.1)) (
(shrT .u64 (IntKind.wrap .u64 (IntKind.wrap .i64 (y3.1 + y3.2.1))) 1).bind fun t1 =>
(atI a0 (IntKind.wrap .i64 t1)).bind fun x2 =>
(za6 x2 a1).bind fun r3 =>
 cond (decide (r3 < 0)) (
 some (.inl ((IntKind.wrap .i64 ((IntKind.wrap .i64 t1) + 1)), y3.2.1, ()))) (
 some (.inl (y3.1, (IntKind.wrap .i64 t1), ())))) (
 some (.inr (.inl (y3.1, ()))))
def zab (a0 : List vV3) (a1 : vV3) (a2 : Unit) : Option (Int × Bool × Unit) :=
(loopT (zab_l3 a0 a1) (0, (a0.length : Int), ()) : Option ((Int × Unit) ⊕ (Int × Bool × Unit))).bind (joinS fun v4 =>
 cond (decide (v4.1 < (a0.length : Int))) ((atI a0 v4.1).bind fun x5 =>
(za6 x5 a1).bind fun r6 =>
 some (v4.1, (decide (r6 = 0)), ())) (some (v4.1, false, ())))
def zab_T : TFn := { ps := (.cons (.sl tT10) (.cons tT10 (.cons (.fn 135) .unit))), res := (.tup (.cons (.int .i64) (.cons .bool .unit))), fn := fun v => zab v.1 v.2.1 v.2.2.1 }
def zab_V : TEnv := (vZ [(135, za6_T)])
theorem zab_eq : runY Tryz.prog zab_E zab_H zab_V zab_Y Tryz.f137 zab_T.ps zab_T.res = zab_T.fn := by kernel_rfl
theorem zab_Fok : SoundP Tryz.prog G0 137 zab_F := closeF_sound (runF_sound ⟨same_ok, (envP_cons za6_Fok envP_nil), envS_nil, envP_nil, envX_nil⟩ Tryz.func137 rfl (by kernel_rfl))
theorem zab_ok : TOk zab_F zab_T := runY_ok (E := zab_E) (ET := zab_V) (EnvT.ofX (pure_of (pairs_cons za6_ok pairs_nil)) looks_nil raws_nil G0_ok news_nil) zab_eq rfl
def zcc_E : Env := { pure := [(32, zdd_F)], raw := [(138, zah_S)], glob := G0, same := [188], look := [(137, zab_F)], ext := [] }
def zcc_H : Hints := (hZ [(3, [5, 12, 13, 14])] [])
def zcc_F : PFn := closeF (runF Tryz.prog zcc_E zcc_H Tryz.f77)
def zcc_Y : TH := { loops := [(3, { keep := [(5, (.own 1)), (14, (.int .i64))], mem := [.gone, .row false 26 tT10] })], ro := [] }
def zcc_l3 (r1 : List vV6) (y3 : (Int × List vV3 × Unit)) : Option ((Int × List vV3 × Unit) ⊕ List vV3) :=
 cond (decide (y3.1 < (r1.length : Int))) (
(atI r1 y3.1).bind fun x2 =>
(zab y3.2.1 x2.2.1.2.2.1 ()).bind fun r3 =>
 cond (!r3.2.1) (
(zah r3.1 ([x2.2.1.2.2.1] : List vV3) y3.2.1).bind fun q4 =>
 some (.inl ((IntKind.wrap .i64 (y3.1 + 1)), q4.2.1, ()))) (
 some (.inl ((IntKind.wrap .i64 (y3.1 + 1)), y3.2.1, ())))) (
 some (.inr y3.2.1))
def zcc (a0 : List vV6) (a1 : List (List UInt8)) : Option (List vV3) :=
(zdd a0 a1 2).bind fun r1 =>
 loopT (zcc_l3 r1) (0, [], ())
def zcc_T : TFn := { ps := (.cons (.sl tT14) tT18), res := (.sl tT10), fn := fun v => zcc v.1 v.2.1 }
def zcc_V : TEnv := { pure := [(32, zdd_T)], look := [(137, zab_T)], glob := G0T, ty := [(26, tT10)], raw := [(138, zah_R)], fresh := [] }
theorem zcc_eq : runY Tryz.prog zcc_E zcc_H zcc_V zcc_Y Tryz.f77 zcc_T.ps zcc_T.res = zcc_T.fn := by kernel_rfl
theorem zcc_Fok : SoundP Tryz.prog G0 77 zcc_F := closeF_sound (runF_sound ⟨same_ok, (envP_cons zdd_Fok envP_nil), (envS_cons zah_Sok envS_nil), (envP_cons zab_Fok envP_nil), envX_nil⟩ Tryz.func77 rfl (by kernel_rfl))
theorem zcc_ok : TOk zcc_F zcc_T := runY_ok (E := zcc_E) (ET := zcc_V) (EnvT.ofX (pure_of (pairs_cons zdd_ok pairs_nil)) (looks_cons zab_ok rfl looks_nil) (raws_cons zah_ok rfl rfl raws_nil) G0_ok news_nil) zcc_eq rfl
def zcw_E : Env := (eZ [(32, zdd_F)] [188])
def zcw_H : Hints := (hZ [(3, [5, 10, 11, 12])] [])
def zcw_F : PFn := closeF (runF Tryz.prog zcw_E zcw_H Tryz.f78)
def zcw_Y : TH := { loops := [(3, { keep := [(5, (.int .i64)), (12, (.int .i64))], mem := [] })], ro := [] }
def zcw_l3 (r1 : List vV6) (y3 : (Int × Int × Unit)) : Option ((Int × Int × Unit) ⊕ Int) :=
 cond (decide (y3.2.1 < (r1.length : Int))) (
(atI r1 y3.2.1).bind fun x2 =>
 some (.inl ((IntKind.wrap .i64 (y3.1 + x2.2.1.2.2.2.1)), (IntKind.wrap .i64 (y3.2.1 + 1)), ()))) (
 some (.inr y3.1))
def zcw (a0 : List vV6) (a1 : List (List UInt8)) : Option Int :=
(zdd a0 a1 3).bind fun r1 =>
 loopT (zcw_l3 r1) (0, 0, ())
def zcw_T : TFn := { ps := (.cons (.sl tT14) tT18), res := (.int .i64), fn := fun v => zcw v.1 v.2.1 }
def zcw_V : TEnv := (vZ [(32, zdd_T)])
theorem zcw_eq : runY Tryz.prog zcw_E zcw_H zcw_V zcw_Y Tryz.f78 zcw_T.ps zcw_T.res = zcw_T.fn := by kernel_rfl
theorem zcw_Fok : SoundP Tryz.prog G0 78 zcw_F := closeF_sound (runF_sound ⟨same_ok, (envP_cons zdd_Fok envP_nil), envS_nil, envP_nil, envX_nil⟩ Tryz.func78 rfl (by kernel_rfl))
theorem zcw_ok : TOk zcw_F zcw_T := runY_ok (E := zcw_E) (ET := zcw_V) (EnvT.ofX (pure_of (pairs_cons zdd_ok pairs_nil)) looks_nil raws_nil G0_ok news_nil) zcw_eq rfl
def zdb_E : Env := (eZ [(50, zak_F), (76, zcf_F), (77, zcc_F), (78, zcw_F)] [188])
def zdb_H : Hints := (hZ [] [])
def zdb_F : PFn := closeF (runF Tryz.prog zdb_E zdb_H Tryz.f37)
def zdb_Y : TH := yZ
def zdb (a0 : List vV6) (a1 : List (List UInt8)) (a2 : Int) : Option vV1 :=
(zak a1).bind fun r1 =>
 cond (decide (a2 = 1)) (
(zcf a0 a1).bind fun r2 =>
 some (r1, a2, r2, 0, ())) (
 cond (decide (a2 = 2)) (
(zcc a0 a1).bind fun r3 =>
 some (r1, a2, r3, 0, ())) (
 cond (decide (a2 = 3)) (
(zcw a0 a1).bind fun r4 =>
 some (r1, a2, [], r4, ())) (
 some (r1, a2, [], 0, ()))))
def zdb_T : TFn := { ps := (.cons (.sl tT14) (.cons (.sl .str) tT12)), res := tT11, fn := fun v => zdb v.1 v.2.1 v.2.2.1 }
def zdb_V : TEnv := (vZ [(50, zak_T), (76, zcf_T), (77, zcc_T), (78, zcw_T)])
theorem zdb_eq : runY Tryz.prog zdb_E zdb_H zdb_V zdb_Y Tryz.f37 zdb_T.ps zdb_T.res = zdb_T.fn := by kernel_rfl
theorem zdb_Fok : SoundP Tryz.prog G0 37 zdb_F := closeF_sound (runF_sound ⟨same_ok, (envP_cons zak_Fok (envP_cons zcf_Fok (envP_cons zcc_Fok (envP_cons zcw_Fok envP_nil)))), envS_nil, envP_nil, envX_nil⟩ Tryz.func37 rfl (by kernel_rfl))
theorem zdb_ok : TOk zdb_F zdb_T := runY_ok (E := zdb_E) (ET := zdb_V) (EnvT.ofX (pure_of (pairs_cons zak_ok (pairs_cons zcf_ok (pairs_cons zcc_ok (pairs_cons zcw_ok pairs_nil))))) looks_nil raws_nil G0_ok news_nil) zdb_eq rfl
def zdc_E : Env := (eZ [(23, zb0_F), (37, zdb_F)] [188])
def zdc_H : Hints := (hZ [(3, [0, 3, 7, 8, 9])] [])
def zdc_F : PFn := closeF (runF Tryz.prog zdc_E zdc_H Tryz.f34)
def zdc_Y : TH := { loops := [(3, { keep := [(3, (.own 1)), (9, (.int .i64))], mem := [.gone, .row true 68 tT11] })], ro := [] }
def zdc_l3 (a0 : List vV6) (r1 : List vV4) (y3 : (Int × List vV1 × Unit)) : Option ((Int × List vV1 × Unit) ⊕ List vV1) :=
 cond (decide (y3.1 < (r1.length : Int))) (
(atI r1 y3.1).bind fun x2 =>
(zdb a0 x2.1 x2.2.1).bind fun r3 =>
(roomT (y3.2.1.length + ([r3] : List vV1).length)).bind fun u4 =>
 some (.inl ((IntKind.wrap .i64 (y3.1 + 1)), (y3.2.1 ++ ([r3] : List vV1)), ()))) (
 some (.inr y3.2.1))
def zdc (a0 : List vV6) : Option (List vV1) :=
(zb0 a0).bind fun r1 =>
 loopT (zdc_l3 a0 r1) (0, [], ())
def zdc_T : TFn := { ps := (.cons (.sl tT14) .unit), res := (.sl tT11), fn := fun v => zdc v.1 }
def zdc_V : TEnv := { pure := [(23, zb0_T), (37, zdb_T)], look := [], glob := G0T, ty := [(68, tT11)], raw := [], fresh := [] }
theorem zdc_eq : runY Tryz.prog zdc_E zdc_H zdc_V zdc_Y Tryz.f34 zdc_T.ps zdc_T.res = zdc_T.fn := by kernel_rfl
theorem zdc_Fok : SoundP Tryz.prog G0 34 zdc_F := closeF_sound (runF_sound ⟨same_ok, (envP_cons zb0_Fok (envP_cons zdb_Fok envP_nil)), envS_nil, envP_nil, envX_nil⟩ Tryz.func34 rfl (by kernel_rfl))
theorem zdc_ok : TOk zdc_F zdc_T := runY_ok (E := zdc_E) (ET := zdc_V) (EnvT.ofX (pure_of (pairs_cons zb0_ok (pairs_cons zdb_ok pairs_nil))) looks_nil raws_nil G0_ok news_nil) zdc_eq rfl
def zai_E : Env := (eZ [] [188])
def zai_H : Hints := (hZ [(4, [0, 1, 12, 13])] [])
def zai_F : PFn := closeF (runF Tryz.prog zai_E zai_H Tryz.f133)
def zai_Y : TH := { loops := [(4, { keep := [(13, (.int .i64))], mem := [] })], ro := [] }
def zai_l4 (a0 : List vV3) (a1 : List vV3) (y4 : (Int × Unit)) : Option ((Int × Unit) ⊕ Bool) :=
 cond (decide (y4.1 < (a0.length : Int))) (
(atI a0 y4.1).bind fun x1 =>
(atI a1 y4.1).bind fun x2 =>
 cond (!(eqV tT10 x1 x2)) (
 some (.inr false)) (
 some (.inl ((IntKind.wrap .i64 (y4.1 + 1)), ())))) (
 some (.inr true))
def zai (a0 : List vV3) (a1 : List vV3) : Option Bool :=
 cond (!decide ((a0.length : Int) = (a1.length : Int))) (
 some false) (
 loopT (zai_l4 a0 a1) (0, ()))
def zai_T : TFn := { ps := (.cons (.sl tT10) (.cons (.sl tT10) .unit)), res := .bool, fn := fun v => zai v.1 v.2.1 }
def zai_V : TEnv := (vZ [])
theorem zai_eq : runY Tryz.prog zai_E zai_H zai_V zai_Y Tryz.f133 zai_T.ps zai_T.res = zai_T.fn := by kernel_rfl
theorem zai_Fok : SoundP Tryz.prog G0 133 zai_F := closeF_sound (runF_sound ⟨same_ok, envP_nil, envS_nil, envP_nil, envX_nil⟩ Tryz.func133 rfl (by kernel_rfl))
theorem zai_ok : TOk zai_F zai_T := runY_ok (E := zai_E) (ET := zai_V) (EnvT.ofX (pure_of pairs_nil) looks_nil raws_nil G0_ok news_nil) zai_eq rfl
def zc0_E : Env := (eZ [(72, zc5_F), (133, zai_F)] [188])
def zc0_H : Hints := (hZ [] [])
def zc0_F : PFn := closeF (runF Tryz.prog zc0_E zc0_H Tryz.f74)
def zc0_Y : TH := { loops := [], cuts := [(1, [(12, { keep := [(2, (.bx 0 0)), (3, (.bx 1 0)), (16, .bool)], mem := [.same, .same] })])], ro := [2, 3], news := [] }
def zc0 (a0 : vV1) (a1 : vV1) : Option Bool :=
(cond (decide (a0.2.1 = a1.2.1)) (some ((decide (a0.2.2.2.1 = a1.2.2.2.1)), ())) (some (false, ())) : Option (Bool × Unit)).bind fun v1 =>
 cond v1.1 ((zc5 a0.1 a1.1).bind fun r2 =>
 cond r2 ((zai a0.2.2.1 a1.2.2.1).bind fun r3 =>
 some r3) (some false)) (some false)
def zc0_T : TFn := { ps := (.cons tT11 (.cons tT11 .unit)), res := .bool, fn := fun v => zc0 v.1 v.2.1 }
def zc0_V : TEnv := (vZ [(72, zc5_T), (133, zai_T)])
theorem zc0_eq : runY Tryz.prog zc0_E zc0_H zc0_V zc0_Y Tryz.f74 zc0_T.ps zc0_T.res = zc0_T.fn := by kernel_rfl
theorem zc0_Fok : SoundP Tryz.prog G0 74 zc0_F := closeF_sound (runF_sound ⟨same_ok, (envP_cons zc5_Fok (envP_cons zai_Fok envP_nil)), envS_nil, envP_nil, envX_nil⟩ Tryz.func74 rfl (by kernel_rfl))
theorem zc0_ok : TOk zc0_F zc0_T := runY_ok (E := zc0_E) (ET := zc0_V) (EnvT.ofX (pure_of (pairs_cons zc5_ok (pairs_cons zai_ok pairs_nil))) looks_nil raws_nil G0_ok news_nil) zc0_eq rfl
def zaa_E : Env := (eZ [(74, zc0_F)] [188])
def zaa_H : Hints := (hZ [(4, [1, 2, 15, 16, 17])] [])
def zaa_F : PFn := closeF (runF Tryz.prog zaa_E zaa_H Tryz.f73)
def zaa_Y : TH := { loops := [(4, { keep := [(17, (.int .i64))], mem := [] })], ro := [] }
def zaa_l4 (a0 : List vV1) (a1 : List vV1) (y4 : (Int × Unit)) : Option ((Int × Unit) ⊕ Bool) :=
 cond (decide (y4.1 < (a0.length : Int))) (
(atI a0 y4.1).bind fun x1 =>
(atI a1 y4.1).bind fun x2 =>
(zc0 x1 x2).bind fun r3 =>
 cond (!r3) (
 some (.inr false)) (
 some (.inl ((IntKind.wrap .i64 (y4.1 + 1)), ())))) (
 some (.inr true))
def zaa (a0 : List vV1) (a1 : List vV1) (a2 : Unit) : Option Bool :=
 cond (!decide ((a0.length : Int) = (a1.length : Int))) (
 some false) (
 loopT (zaa_l4 a0 a1) (0, ()))
def zaa_T : TFn := { ps := (.cons (.sl tT11) (.cons (.sl tT11) (.cons (.fn 74) .unit))), res := .bool, fn := fun v => zaa v.1 v.2.1 v.2.2.1 }
def zaa_V : TEnv := (vZ [(74, zc0_T)])
theorem zaa_eq : runY Tryz.prog zaa_E zaa_H zaa_V zaa_Y Tryz.f73 zaa_T.ps zaa_T.res = zaa_T.fn := by kernel_rfl
theorem zaa_Fok : SoundP Tryz.prog G0 73 zaa_F := closeF_sound (runF_sound ⟨same_ok, (envP_cons zc0_Fok envP_nil), envS_nil, envP_nil, envX_nil⟩ Tryz.func73 rfl (by kernel_rfl))
theorem zaa_ok : TOk zaa_F zaa_T := runY_ok (E := zaa_E) (ET := zaa_V) (EnvT.ofX (pure_of (pairs_cons zc0_ok pairs_nil)) looks_nil raws_nil G0_ok news_nil) zaa_eq rfl
def zcu_E : Env := (eZ [(73, zaa_F)] [188])
def zcu_H : Hints := (hZ [] [])
def zcu_F : PFn := closeF (runF Tryz.prog zcu_E zcu_H Tryz.f33)
def zcu_Y : TH := yZ
def zcu (a0 : List vV1) (a1 : List vV1) : Option Bool :=
(zaa a0 a1 ()).bind fun r1 =>
 some r1
def zcu_T : TFn := { ps := (.cons (.sl tT11) (.cons (.sl tT11) .unit)), res := .bool, fn := fun v => zcu v.1 v.2.1 }
def zcu_V : TEnv := (vZ [(73, zaa_T)])
theorem zcu_eq : runY Tryz.prog zcu_E zcu_H zcu_V zcu_Y Tryz.f33 zcu_T.ps zcu_T.res = zcu_T.fn := by kernel_rfl
theorem zcu_Fok : SoundP Tryz.prog G0 33 zcu_F := closeF_sound (runF_sound ⟨same_ok, (envP_cons zaa_Fok envP_nil), envS_nil, envP_nil, envX_nil⟩ Tryz.func33 rfl (by kernel_rfl))
theorem zcu_ok : TOk zcu_F zcu_T := runY_ok (E := zcu_E) (ET := zcu_V) (EnvT.ofX (pure_of (pairs_cons zaa_ok pairs_nil)) looks_nil raws_nil G0_ok news_nil) zcu_eq rfl
def zc8_E : Env := (eZ [(44, za1_F), (54, zcs_F)] [188])
def zc8_H : Hints := (hZ [(3, [0, 1, 2, 7, 8])] [])
def zc8_F : PFn := closeF (runF Tryz.prog zc8_E zc8_H Tryz.f147)
def zc8_Y : TH := { loops := [(3, { keep := [(7, (.own 0)), (8, (.int .i64))], mem := [.row true 99 tT14] })], ro := [] }
def zc8_l3 (a0 : List vV6) (a1 : List (List UInt8)) (a2 : Int) (y3 : (Int × List vV6 × Unit)) : Option ((Int × List vV6 × Unit) ⊕ List vV6) :=
 cond (decide (y3.1 < (a0.length : Int))) (
(atI a0 y3.1).bind fun x1 =>
(zcs x1.2.1.1).bind fun r2 =>
 cond (decide (r2 = a2)) ((atI a0 y3.1).bind fun x3 =>
(za1 x3.2.1.2.1 a1).bind fun r4 =>
 cond (decide (r4 = 0)) (
(atI a0 y3.1).bind fun x5 =>
(roomT (y3.2.1.length + ([x5] : List vV6).length)).bind fun u6 =>
 some (.inl ((IntKind.wrap .i64 (y3.1 + 1)), (y3.2.1 ++ ([x5] : List vV6)), ()))) (
 some (.inl ((IntKind.wrap .i64 (y3.1 + 1)), y3.2.1, ())))) (some (.inl ((IntKind.wrap .i64 (y3.1 + 1)), y3.2.1, ())))) (
 some (.inr y3.2.1))
def zc8 (a0 : List vV6) (a1 : List (List UInt8)) (a2 : Int) : Option (List vV6) :=
 loopT (zc8_l3 a0 a1 a2) (0, [], ())
def zc8_T : TFn := { ps := (.cons (.sl tT14) (.cons (.sl .str) tT12)), res := (.sl tT14), fn := fun v => zc8 v.1 v.2.1 v.2.2.1 }
def zc8_V : TEnv := { pure := [(44, za1_T), (54, zcs_T)], look := [], glob := G0T, ty := [(99, tT14)], raw := [], fresh := [] }
theorem zc8_eq : runY Tryz.prog zc8_E zc8_H zc8_V zc8_Y Tryz.f147 zc8_T.ps zc8_T.res = zc8_T.fn := by kernel_rfl
theorem zc8_Fok : SoundP Tryz.prog G0 147 zc8_F := closeF_sound (runF_sound ⟨same_ok, (envP_cons za1_Fok (envP_cons zcs_Fok envP_nil)), envS_nil, envP_nil, envX_nil⟩ Tryz.func147 rfl (by kernel_rfl))
theorem zc8_ok : TOk zc8_F zc8_T := runY_ok (E := zc8_E) (ET := zc8_V) (EnvT.ofX (pure_of (pairs_cons za1_ok (pairs_cons zcs_ok pairs_nil))) looks_nil raws_nil G0_ok news_nil) zc8_eq rfl
def za7_E : Env := (eZ [(91, zb3_F), (149, zci_F)] [188])
def za7_H : Hints := (hZ [] [])
def za7_F : PFn := closeF (runF Tryz.prog za7_E za7_H Tryz.f189)
def za7_Y : TH := { loops := [], ro := [2, 3] }
def za7 (a0 : vV3) (a1 : vV3) : Option Int :=
 cond (!decide (a0.1 = a1.1)) (
(zci a0.1 a1.1).bind fun r1 =>
 some r1) (
 cond (!decide (a0.2.1 = a1.2.1)) (
(zci a0.2.1 a1.2.1).bind fun r2 =>
 some r2) (
(zb3 a0.2.2.1 a1.2.2.1).bind fun r3 =>
 some r3))
def za7_T : TFn := { ps := (.cons tT10 (.cons tT10 .unit)), res := (.int .i64), fn := fun v => za7 v.1 v.2.1 }
def za7_V : TEnv := (vZ [(91, zb3_T), (149, zci_T)])
theorem za7_eq : runY Tryz.prog za7_E za7_H za7_V za7_Y Tryz.f189 za7_T.ps za7_T.res = za7_T.fn := by kernel_rfl
theorem za7_Fok : SoundP Tryz.prog G0 189 za7_F := closeF_sound (runF_sound ⟨same_ok, (envP_cons zb3_Fok (envP_cons zci_Fok envP_nil)), envS_nil, envP_nil, envX_nil⟩ Tryz.func189 rfl (by kernel_rfl))
theorem za7_ok : TOk za7_F za7_T := runY_ok (E := za7_E) (ET := za7_V) (EnvT.ofX (pure_of (pairs_cons zb3_ok (pairs_cons zci_ok pairs_nil))) looks_nil raws_nil G0_ok news_nil) za7_eq rfl
def zbj_E : Env := (eZ [(189, za7_F)] [188])
def zbj_H : Hints := (hZ [(4, [0, 3, 5, 6, 7])] [])
def zbj_F : PFn := closeF (runF Tryz.prog zbj_E zbj_H Tryz.f148)
def zbj_Y : TH := { joins := [(13, { keep := [(3, (.bx 0 0)), (5, (.own 1)), (6, .bool)], mem := [.same, .row true 26 tT10] }), (12, { keep := [(3, (.bx 0 0)), (5, (.own 1)), (6, .bool)], mem := [.same, .row true 26 tT10] })], loops := [(4, { keep := [(3, (.bx 0 0)), (5, (.own 1)), (6, .bool), (7, (.int .i64))], mem := [.same, .row true 26 tT10] })], ro := [3] }
def zbj_l4 (a0 : List vV3) (a1 : vV3) (y4 : (Bool × Int × List vV3 × Unit)) : Option ((Bool × Int × List vV3 × Unit) ⊕ ((Bool × List vV3 × Unit) ⊕ List vV3)) :=
 cond (decide (y4.2.1 < (a0.length : Int))) (
(atI a0 y4.2.1).bind fun x1 =>
(za7 a1 x1).bind fun r2 =>
 cond (decide (r2 = 0)) (
 some (.inr (.inr a0))) (
(cond (decide (r2 < 0)) (cond (!y4.1) (
(roomT (y4.2.2.1.length + ([a1] : List vV3).length)).bind fun u3 =>
 some (.inl (true, (y4.2.2.1 ++ ([a1] : List vV3)), ()))) (
 some (.inl (y4.1, y4.2.2.1, ())))) (some (.inl (y4.1, y4.2.2.1, ()))) : Option ((Bool × List vV3 × Unit) ⊕ ((Bool × Int × List vV3 × Unit) ⊕ ((Bool × List vV3 × Unit) ⊕ List vV3)))).bind (joinS fun v4 =>
(atI a0 y4.2.1).bind fun x5 =>
(roomT (v4.2.1.length + ([x5] : List vV3).length)).bind fun u6 =>
 some (.inl (v4.1, (IntKind.wrap .i64 (y4.2.1 + 1)), (v4.2.1 ++ ([x5] : List vV3)), ()))))) (
 some (.inr (.inl (y4.1, y4.2.2.1, ()))))
def zbj (a0 : List vV3) (a1 : vV3) : Option (List vV3) :=
(loopT (zbj_l4 a0 a1) (false, 0, [], ()) : Option ((Bool × List vV3 × Unit) ⊕ List vV3)).bind (joinS fun v7 =>
 cond (!v7.1) (
(roomT (v7.2.1.length + ([a1] : List vV3).length)).bind fun u8 =>
 some (v7.2.1 ++ ([a1] : List vV3))) (
 some v7.2.1))
def zbj_T : TFn := { ps := (.cons (.sl tT10) (.cons tT10 .unit)), res := (.sl tT10), fn := fun v => zbj v.1 v.2.1 }
def zbj_V : TEnv := { pure := [(189, za7_T)], look := [], glob := G0T, ty := [(26, tT10)], raw := [], fresh := [] }
theorem zbj_eq : runY Tryz.prog zbj_E zbj_H zbj_V zbj_Y Tryz.f148 zbj_T.ps zbj_T.res = zbj_T.fn := by kernel_rfl
theorem zbj_Fok : SoundP Tryz.prog G0 148 zbj_F := closeF_sound (runF_sound ⟨same_ok, (envP_cons za7_Fok envP_nil), envS_nil, envP_nil, envX_nil⟩ Tryz.func148 rfl (by kernel_rfl))
theorem zbj_ok : TOk zbj_F zbj_T := runY_ok (E := zbj_E) (ET := zbj_V) (EnvT.ofX (pure_of (pairs_cons za7_ok pairs_nil)) looks_nil raws_nil G0_ok news_nil) zbj_eq rfl
def zbi_E : Env := (eZ [(147, zc8_F), (148, zbj_F)] [188])
def zbi_H : Hints := (hZ [(4, [5, 6, 7])] [])
def zbi_F : PFn := closeF (runF Tryz.prog zbi_E zbi_H Tryz.f88)
def zbi_Y : TH := { loops := [(4, { keep := [(5, (.sl tT10)), (7, (.int .i64))], mem := [] })], ro := [] }
def zbi_l4 (r1 : List vV6) (y4 : (List vV3 × Int × Unit)) : Option ((List vV3 × Int × Unit) ⊕ List vV3) :=
 cond (decide (y4.2.1 < (r1.length : Int))) (
(atI r1 y4.2.1).bind fun x2 =>
(zbj y4.1 x2.2.1.2.2.1).bind fun r3 =>
 some (.inl (r3, (IntKind.wrap .i64 (y4.2.1 + 1)), ()))) (
 some (.inr y4.1))
def zbi (a0 : List vV6) (a1 : List (List UInt8)) : Option (List vV3) :=
(zc8 a0 a1 1).bind fun r1 =>
 loopT (zbi_l4 r1) ([], 0, ())
def zbi_T : TFn := { ps := (.cons (.sl tT14) tT18), res := (.sl tT10), fn := fun v => zbi v.1 v.2.1 }
def zbi_V : TEnv := (vZ [(147, zc8_T), (148, zbj_T)])
theorem zbi_eq : runY Tryz.prog zbi_E zbi_H zbi_V zbi_Y Tryz.f88 zbi_T.ps zbi_T.res = zbi_T.fn := by kernel_rfl
theorem zbi_Fok : SoundP Tryz.prog G0 88 zbi_F := closeF_sound (runF_sound ⟨same_ok, (envP_cons zc8_Fok (envP_cons zbj_Fok envP_nil)), envS_nil, envP_nil, envX_nil⟩ Tryz.func88 rfl (by kernel_rfl))
theorem zbi_ok : TOk zbi_F zbi_T := runY_ok (E := zbi_E) (ET := zbi_V) (EnvT.ofX (pure_of (pairs_cons zc8_ok (pairs_cons zbj_ok pairs_nil))) looks_nil raws_nil G0_ok news_nil) zbi_eq rfl
def zba_E : Env := (eZ [(147, zc8_F), (148, zbj_F)] [188])
def zba_H : Hints := (hZ [(4, [5, 6, 7])] [])
def zba_F : PFn := closeF (runF Tryz.prog zba_E zba_H Tryz.f89)
def zba_Y : TH := { loops := [(4, { keep := [(5, (.sl tT10)), (7, (.int .i64))], mem := [] })], ro := [] }
def zba_l4 (r1 : List vV6) (y4 : (List vV3 × Int × Unit)) : Option ((List vV3 × Int × Unit) ⊕ List vV3) :=
 cond (decide (y4.2.1 < (r1.length : Int))) (
(atI r1 y4.2.1).bind fun x2 =>
(zbj y4.1 x2.2.1.2.2.1).bind fun r3 =>
 some (.inl (r3, (IntKind.wrap .i64 (y4.2.1 + 1)), ()))) (
 some (.inr y4.1))
def zba (a0 : List vV6) (a1 : List (List UInt8)) : Option (List vV3) :=
(zc8 a0 a1 2).bind fun r1 =>
 loopT (zba_l4 r1) ([], 0, ())
def zba_T : TFn := { ps := (.cons (.sl tT14) tT18), res := (.sl tT10), fn := fun v => zba v.1 v.2.1 }
def zba_V : TEnv := (vZ [(147, zc8_T), (148, zbj_T)])
theorem zba_eq : runY Tryz.prog zba_E zba_H zba_V zba_Y Tryz.f89 zba_T.ps zba_T.res = zba_T.fn := by kernel_rfl
theorem zba_Fok : SoundP Tryz.prog G0 89 zba_F := closeF_sound (runF_sound ⟨same_ok, (envP_cons zc8_Fok (envP_cons zbj_Fok envP_nil)), envS_nil, envP_nil, envX_nil⟩ Tryz.func89 rfl (by kernel_rfl))
theorem zba_ok : TOk zba_F zba_T := runY_ok (E := zba_E) (ET := zba_V) (EnvT.ofX (pure_of (pairs_cons zc8_ok (pairs_cons zbj_ok pairs_nil))) looks_nil raws_nil G0_ok news_nil) zba_eq rfl
def zb4_E : Env := (eZ [(147, zc8_F)] [188])
def zb4_H : Hints := (hZ [(4, [7, 8, 9, 10])] [])
def zb4_F : PFn := closeF (runF Tryz.prog zb4_E zb4_H Tryz.f90)
def zb4_Y : TH := { joins := [(11, { keep := [(7, (.int .i64)), (8, (.int .i64))], mem := [] }), (9, { keep := [(7, (.int .i64))], mem := [] })], loops := [(4, { keep := [(7, (.int .i64)), (8, (.int .i64)), (10, (.int .i64))], mem := [] })], ro := [] }
def zb4_l4 (r1 : List vV6) (y4 : (Int × Int × Int × Unit)) : Option ((Int × Int × Int × Unit) ⊕ ((Int × Int × Unit) ⊕ (Int × Int × Int × Unit))) :=
 cond (decide (y4.2.2.1 < (r1.length : Int))) (
(atI r1 y4.2.2.1).bind fun x2 =>
(cond (decide (x2.2.1.2.2.2.1 > 0)) (
 some (.inl ((IntKind.wrap .i64 (y4.1 + x2.2.1.2.2.2.1)), ()))) (
 some (.inl (y4.1, ()))) : Option ((Int × Unit) ⊕ ((Int × Int × Int × Unit) ⊕ ((Int × Int × Unit) ⊕ (Int × Int × Int × Unit))))).bind (joinS fun v3 =>
 cond (decide (x2.2.1.2.2.2.1 < 0)) (
 some (.inl (v3.1, (IntKind.wrap .i64 (y4.2.1 - x2.2.1.2.2.2.1)), (IntKind.wrap .i64 (y4.2.2.1 + 1)), ()))) (
 some (.inl (v3.1, y4.2.1, (IntKind.wrap .i64 (y4.2.2.1 + 1)), ()))))) (
 some (.inr (.inl (y4.1, y4.2.1, ()))))
def zb4 (a0 : List vV6) (a1 : List (List UInt8)) : Option (Int × Int × Int × Unit) :=
(zc8 a0 a1 3).bind fun r1 =>
(loopT (zb4_l4 r1) (0, 0, 0, ()) : Option ((Int × Int × Unit) ⊕ (Int × Int × Int × Unit))).bind (joinS fun v4 =>
 some (v4.1, v4.2.1, (r1.length : Int), ()))
def zb4_T : TFn := { ps := (.cons (.sl tT14) tT18), res := (.tup (.cons (.int .i64) (.cons (.int .i64) tT12))), fn := fun v => zb4 v.1 v.2.1 }
def zb4_V : TEnv := (vZ [(147, zc8_T)])
theorem zb4_eq : runY Tryz.prog zb4_E zb4_H zb4_V zb4_Y Tryz.f90 zb4_T.ps zb4_T.res = zb4_T.fn := by kernel_rfl
theorem zb4_Fok : SoundP Tryz.prog G0 90 zb4_F := closeF_sound (runF_sound ⟨same_ok, (envP_cons zc8_Fok envP_nil), envS_nil, envP_nil, envX_nil⟩ Tryz.func90 rfl (by kernel_rfl))
theorem zb4_ok : TOk zb4_F zb4_T := runY_ok (E := zb4_E) (ET := zb4_V) (EnvT.ofX (pure_of (pairs_cons zc8_ok pairs_nil)) looks_nil raws_nil G0_ok news_nil) zb4_eq rfl
def zda_E : Env := (eZ [(88, zbi_F), (89, zba_F), (90, zb4_F)] [188])
def zda_H : Hints := (hZ [] [])
def zda_F : PFn := closeF (runF Tryz.prog zda_E zda_H Tryz.f43)
def zda_Y : TH := { joins := [(4, { keep := [(6, (.bx 0 0)), (7, (.bx 1 0))], mem := [.box 77 (.agg (.cons .nilsl (.cons (.int .i64) (.cons .nilsl tT12)))), .box 77 tT11] }), (6, { keep := [(6, (.bx 0 0)), (7, (.bx 1 0))], mem := [.box 77 (.agg (.cons .nilsl (.cons (.int .i64) (.cons .nilsl tT12)))), .box 77 tT11] })], loops := [], ro := [] }
def zda (a0 : List vV6) (a1 : List (List UInt8)) (a2 : Int) : Option vV1 :=
(cond (decide (a2 = 1)) (
(zbi a0 a1).bind fun r1 =>
 some (.inl (((), 0, (), 0, ()), (a1, a2, r1, 0, ()), ()))) (
 some (.inl (((), 0, (), 0, ()), (a1, a2, [], 0, ()), ()))) : Option (((Unit × Int × Unit × Int × Unit) × vV1 × Unit) ⊕ vV1)).bind (joinS fun v2 =>
(cond (decide (a2 = 2)) (
(zba a0 a1).bind fun r3 =>
 some (.inl (v2.1, (v2.2.1.1, v2.2.1.2.1, r3, v2.2.1.2.2.2.1, ()), ()))) (
 some (.inl (v2.1, v2.2.1, ()))) : Option (((Unit × Int × Unit × Int × Unit) × vV1 × Unit) ⊕ vV1)).bind (joinS fun v4 =>
 cond (decide (a2 = 3)) (
(zb4 a0 a1).bind fun r5 =>
 some (v4.2.1.1, v4.2.1.2.1, v4.2.1.2.2.1, (IntKind.wrap .i64 (r5.1 - r5.2.1)), ())) (
 some v4.2.1)))
def zda_T : TFn := { ps := (.cons (.sl tT14) (.cons (.sl .str) tT12)), res := tT11, fn := fun v => zda v.1 v.2.1 v.2.2.1 }
def zda_V : TEnv := (vZ [(88, zbi_T), (89, zba_T), (90, zb4_T)])
theorem zda_eq : runY Tryz.prog zda_E zda_H zda_V zda_Y Tryz.f43 zda_T.ps zda_T.res = zda_T.fn := by kernel_rfl
theorem zda_Fok : SoundP Tryz.prog G0 43 zda_F := closeF_sound (runF_sound ⟨same_ok, (envP_cons zbi_Fok (envP_cons zba_Fok (envP_cons zb4_Fok envP_nil))), envS_nil, envP_nil, envX_nil⟩ Tryz.func43 rfl (by kernel_rfl))
theorem zda_ok : TOk zda_F zda_T := runY_ok (E := zda_E) (ET := zda_V) (EnvT.ofX (pure_of (pairs_cons zbi_ok (pairs_cons zba_ok (pairs_cons zb4_ok pairs_nil)))) looks_nil raws_nil G0_ok news_nil) zda_eq rfl
def zc6_E : Env := (eZ [(43, zda_F), (70, zbd_F)] [188])
def zc6_H : Hints := (hZ [(4, [0, 3, 4, 5])] [20, 25])
def zc6_F : PFn := closeF (runF Tryz.prog zc6_E zc6_H Tryz.f36)
def zc6_Y : TH := { loops := [(4, { keep := [(4, (.own 0)), (5, (.int .i64))], mem := [.row true 77 tT11] })], ro := [] }
def zc6_l4 (a0 : List vV6) (r1 : List vV4) (y4 : (Int × List vV1 × Unit)) : Option ((Int × List vV1 × Unit) ⊕ List vV1) :=
 cond (decide (y4.1 < (r1.length : Int))) (
(atI r1 y4.1).bind fun x2 =>
(atI r1 y4.1).bind fun x3 =>
(zda a0 x2.1 x3.2.1).bind fun r4 =>
(roomT (y4.2.1.length + ([r4] : List vV1).length)).bind fun u5 =>
 some (.inl ((IntKind.wrap .i64 (y4.1 + 1)), (y4.2.1 ++ ([r4] : List vV1)), ()))) (
 some (.inr y4.2.1))
def zc6 (a0 : List vV6) : Option (List vV1) :=
(zbd a0).bind fun r1 =>
 loopT (zc6_l4 a0 r1) (0, [], ())
def zc6_T : TFn := { ps := (.cons (.sl tT14) .unit), res := (.sl tT11), fn := fun v => zc6 v.1 }
def zc6_V : TEnv := { pure := [(43, zda_T), (70, zbd_T)], look := [], glob := G0T, ty := [(77, tT11)], raw := [], fresh := [] }
theorem zc6_eq : runY Tryz.prog zc6_E zc6_H zc6_V zc6_Y Tryz.f36 zc6_T.ps zc6_T.res = zc6_T.fn := by kernel_rfl
theorem zc6_Fok : SoundP Tryz.prog G0 36 zc6_F := closeF_sound (runF_sound ⟨same_ok, (envP_cons zda_Fok (envP_cons zbd_Fok envP_nil)), envS_nil, envP_nil, envX_nil⟩ Tryz.func36 rfl (by kernel_rfl))
theorem zc6_ok : TOk zc6_F zc6_T := runY_ok (E := zc6_E) (ET := zc6_V) (EnvT.ofX (pure_of (pairs_cons zda_ok (pairs_cons zbd_ok pairs_nil))) looks_nil raws_nil G0_ok news_nil) zc6_eq rfl
def zce_E : Env := (eZ [] [188])
def zce_H : Hints := (hZ [(4, [0, 1, 5])] [])
def zce_F : PFn := closeF (runF Tryz.prog zce_E zce_H Tryz.f31)
def zce_Y : TH := { loops := [(4, { keep := [(5, (.int .i64))], mem := [] })], ro := [] }
def zce_l4 (a0 : List (List UInt8)) (a1 : List (List UInt8)) (y4 : (Int × Unit)) : Option ((Int × Unit) ⊕ Bool) :=
 cond (decide (y4.1 < (a0.length : Int))) (
(atI a0 y4.1).bind fun x1 =>
(atI a1 y4.1).bind fun x2 =>
 cond (!decide (x1 = x2)) (
 some (.inr false)) (
 some (.inl ((IntKind.wrap .i64 (y4.1 + 1)), ())))) (
 some (.inr true))
def zce (a0 : List (List UInt8)) (a1 : List (List UInt8)) : Option Bool :=
 cond (!decide ((a0.length : Int) = (a1.length : Int))) (
 some false) (
 loopT (zce_l4 a0 a1) (0, ()))
def zce_T : TFn := { ps := (.cons (.sl .str) tT18), res := .bool, fn := fun v => zce v.1 v.2.1 }
def zce_V : TEnv := (vZ [])
theorem zce_eq : runY Tryz.prog zce_E zce_H zce_V zce_Y Tryz.f31 zce_T.ps zce_T.res = zce_T.fn := by kernel_rfl
theorem zce_Fok : SoundP Tryz.prog G0 31 zce_F := closeF_sound (runF_sound ⟨same_ok, envP_nil, envS_nil, envP_nil, envX_nil⟩ Tryz.func31 rfl (by kernel_rfl))
theorem zce_ok : TOk zce_F zce_T := runY_ok (E := zce_E) (ET := zce_V) (EnvT.ofX (pure_of pairs_nil) looks_nil raws_nil G0_ok news_nil) zce_eq rfl
def zcg_E : Env := (eZ [] [188])
def zcg_H : Hints := (hZ [(4, [0, 1, 5])] [])
def zcg_F : PFn := closeF (runF Tryz.prog zcg_E zcg_H Tryz.f69)
def zcg_Y : TH := { loops := [(4, { keep := [(5, (.int .i64))], mem := [] })], ro := [] }
def zcg_l4 (a0 : List vV3) (a1 : List vV3) (y4 : (Int × Unit)) : Option ((Int × Unit) ⊕ Bool) :=
 cond (decide (y4.1 < (a0.length : Int))) (
(atI a0 y4.1).bind fun x1 =>
(atI a1 y4.1).bind fun x2 =>
 cond (!(eqV tT10 x1 x2)) (
 some (.inr false)) (
 some (.inl ((IntKind.wrap .i64 (y4.1 + 1)), ())))) (
 some (.inr true))
def zcg (a0 : List vV3) (a1 : List vV3) : Option Bool :=
 cond (!decide ((a0.length : Int) = (a1.length : Int))) (
 some false) (
 loopT (zcg_l4 a0 a1) (0, ()))
def zcg_T : TFn := { ps := (.cons (.sl tT10) (.cons (.sl tT10) .unit)), res := .bool, fn := fun v => zcg v.1 v.2.1 }
def zcg_V : TEnv := (vZ [])
theorem zcg_eq : runY Tryz.prog zcg_E zcg_H zcg_V zcg_Y Tryz.f69 zcg_T.ps zcg_T.res = zcg_T.fn := by kernel_rfl
theorem zcg_Fok : SoundP Tryz.prog G0 69 zcg_F := closeF_sound (runF_sound ⟨same_ok, envP_nil, envS_nil, envP_nil, envX_nil⟩ Tryz.func69 rfl (by kernel_rfl))
theorem zcg_ok : TOk zcg_F zcg_T := runY_ok (E := zcg_E) (ET := zcg_V) (EnvT.ofX (pure_of pairs_nil) looks_nil raws_nil G0_ok news_nil) zcg_eq rfl
def zb6_E : Env := (eZ [(31, zce_F), (69, zcg_F)] [188])
def zb6_H : Hints := (hZ [(4, [0, 1, 5])] [])
def zb6_F : PFn := closeF (runF Tryz.prog zb6_E zb6_H Tryz.f28)
def zb6_Y : TH := { loops := [(4, { keep := [(5, (.int .i64))], mem := [] })], cuts := [(6, [(24, { keep := [(40, .bool)], mem := [] }), (14, { keep := [(54, .bool)], mem := [] })])], ro := [], news := [] }
def zb6_l4 (a0 : List vV1) (a1 : List vV1) (y4 : (Int × Unit)) : Option ((Int × Unit) ⊕ Bool) :=
 cond (decide (y4.1 < (a0.length : Int))) (
((atI a0 y4.1).bind fun x1 =>
(atI a1 y4.1).bind fun x2 =>
 cond (!decide (x1.2.1 = x2.2.1)) (some (true, ())) ((atI a0 y4.1).bind fun x3 =>
(atI a1 y4.1).bind fun x4 =>
 some ((!decide (x3.2.2.2.1 = x4.2.2.2.1)), ())) : Option (Bool × Unit)).bind fun v5 =>
(cond v5.1 (some (true, ())) ((atI a0 y4.1).bind fun x6 =>
(atI a1 y4.1).bind fun x7 =>
(zce x6.1 x7.1).bind fun r8 =>
 some ((!r8), ())) : Option (Bool × Unit)).bind fun v9 =>
 cond v9.1 (some (.inr false)) ((atI a0 y4.1).bind fun x10 =>
(atI a1 y4.1).bind fun x11 =>
(zcg x10.2.2.1 x11.2.2.1).bind fun r12 =>
 cond (!r12) (
 some (.inr false)) (
 some (.inl ((IntKind.wrap .i64 (y4.1 + 1)), ()))))) (
 some (.inr true))
def zb6 (a0 : List vV1) (a1 : List vV1) : Option Bool :=
 cond (!decide ((a0.length : Int) = (a1.length : Int))) (
 some false) (
 loopT (zb6_l4 a0 a1) (0, ()))
def zb6_T : TFn := { ps := (.cons (.sl tT11) (.cons (.sl tT11) .unit)), res := .bool, fn := fun v => zb6 v.1 v.2.1 }
def zb6_V : TEnv := (vZ [(31, zce_T), (69, zcg_T)])
theorem zb6_eq : runY Tryz.prog zb6_E zb6_H zb6_V zb6_Y Tryz.f28 zb6_T.ps zb6_T.res = zb6_T.fn := by kernel_rfl
theorem zb6_Fok : SoundP Tryz.prog G0 28 zb6_F := closeF_sound (runF_sound ⟨same_ok, (envP_cons zce_Fok (envP_cons zcg_Fok envP_nil)), envS_nil, envP_nil, envX_nil⟩ Tryz.func28 rfl (by kernel_rfl))
theorem zb6_ok : TOk zb6_F zb6_T := runY_ok (E := zb6_E) (ET := zb6_V) (EnvT.ofX (pure_of (pairs_cons zce_ok (pairs_cons zcg_ok pairs_nil))) looks_nil raws_nil G0_ok news_nil) zb6_eq rfl
def zbg_E : Env := (eZ [] [188])
def zbg_H : Hints := (hZ [(3, [0, 3, 4])] [16, 21, 26, 31])
def zbg_F : PFn := closeF (runF Tryz.prog zbg_E zbg_H Tryz.f40)
def zbg_Y : TH := { loops := [(3, { keep := [(3, (.own 0)), (4, (.int .i64))], mem := [.row true 77 tT11] })], ro := [] }
def zbg_l3 (a0 : List vV1) (y3 : (Int × List vV1 × Unit)) : Option ((Int × List vV1 × Unit) ⊕ List vV1) :=
 cond (decide (y3.1 < (a0.length : Int))) (
(atI a0 y3.1).bind fun x1 =>
(atI a0 y3.1).bind fun x2 =>
(atI a0 y3.1).bind fun x3 =>
(atI a0 y3.1).bind fun x4 =>
(roomT (y3.2.1.length + ([(x1.1, x2.2.1, x3.2.2.1, x4.2.2.2.1, ())] : List vV1).length)).bind fun u5 =>
 some (.inl ((IntKind.wrap .i64 (y3.1 + 1)), (y3.2.1 ++ ([(x1.1, x2.2.1, x3.2.2.1, x4.2.2.2.1, ())] : List vV1)), ()))) (
 some (.inr y3.2.1))
def zbg (a0 : List vV1) : Option (List vV1) :=
 loopT (zbg_l3 a0) (0, [], ())
def zbg_T : TFn := { ps := (.cons (.sl tT11) .unit), res := (.sl tT11), fn := fun v => zbg v.1 }
def zbg_V : TEnv := { pure := [], look := [], glob := G0T, ty := [(77, tT11)], raw := [], fresh := [] }
theorem zbg_eq : runY Tryz.prog zbg_E zbg_H zbg_V zbg_Y Tryz.f40 zbg_T.ps zbg_T.res = zbg_T.fn := by kernel_rfl
theorem zbg_Fok : SoundP Tryz.prog G0 40 zbg_F := closeF_sound (runF_sound ⟨same_ok, envP_nil, envS_nil, envP_nil, envX_nil⟩ Tryz.func40 rfl (by kernel_rfl))
theorem zbg_ok : TOk zbg_F zbg_T := runY_ok (E := zbg_E) (ET := zbg_V) (EnvT.ofX (pure_of pairs_nil) looks_nil raws_nil G0_ok news_nil) zbg_eq rfl
def zb2_E : Env := (eZ [] [188])
def zb2_H : Hints := (hZ [] [])
def zb2_F : PFn := closeF (runF Tryz.prog zb2_E zb2_H Tryz.f139)
theorem zb2_Fok : SoundP Tryz.prog G0 139 zb2_F := closeF_sound (runF_sound ⟨same_ok, envP_nil, envS_nil, envP_nil, envX_nil⟩ Tryz.func139 rfl (by kernel_rfl))
def zan_E : Env := (eZ [] [188])
def zan_H : Hints := (hZ [] [6, 9, 11, 19])
def zan_S : SFn := runF Tryz.prog zan_E zan_H Tryz.f146
def zan_Y : TH := yZ
def zan (w0 : (Bool × Unit × Unit)) (w1 : List Int) : Option (Unit × (Bool × Unit × Unit) × List Int × Unit) :=
 cond (!w0.1) (
 some ((), (true, w0.2.1, ()), w1, ())) (
 cond (!w0.1) (
 none) (
 some ((), w0, w1, ())))
def zan_R : TRaw := { ps := (.cons (.bx 0 0) .unit), ins := [.box 126 tT16, .row true 5 (.int .u8)], res := (.tup .unit), outs := [.box 126 tT16, .row true 5 (.int .u8)], fn := fun v w => zan w.1 w.2.1 }
def zan_V : TEnv := (vZ [])
theorem zan_eq : rawY Tryz.prog zan_E zan_H zan_V zan_Y [(0, 0)] Tryz.f146 zan_R.ps zan_R.ins zan_R.res zan_R.outs = zan_R.fn := by kernel_rfl
theorem zan_Sok : SoundS Tryz.prog G0 146 zan_S := runF_sound ⟨same_ok, envP_nil, envS_nil, envP_nil, envX_nil⟩ Tryz.func146 rfl (by kernel_rfl)
theorem zan_ok : TRawOk zan_S zan_R := rawY_ok (E := zan_E) (ET := zan_V) (EnvT.ofX (pure_of pairs_nil) looks_nil raws_nil G0_ok news_nil) zan_eq
def zap_E : Env := { pure := [], raw := [(146, zan_S)], glob := G0, same := [188], look := [], ext := [] }
def zap_H : Hints := (hZ [] [])
def zap_S : SFn := runF Tryz.prog zap_E zap_H Tryz.f183
def zap_Y : TH := yZ
def zap (a1 : Int) (w0 : (Bool × Unit × Unit)) (w1 : List Int) : Option (Bool × (Bool × Unit × Unit) × List Int × Unit) :=
(zan w0 w1).bind fun q1 =>
(roomT (q1.2.2.1.length + ([a1] : List Int).length)).bind fun u2 =>
 some (false, (q1.2.1.1, (), ()), (q1.2.2.1 ++ ([a1] : List Int)), ())
def zap_R : TRaw := { ps := (.cons (.bx 0 0) (.cons (.int .u8) .unit)), ins := [.box 126 tT16, .row true 5 (.int .u8)], res := .err, outs := [.box 126 tT16, .row true 5 (.int .u8)], fn := fun v w => zap v.2.1 w.1 w.2.1 }
def zap_V : TEnv := { pure := [], look := [], glob := G0T, ty := [(5, (.int .u8))], raw := [(146, zan_R)], fresh := [] }
theorem zap_eq : rawY Tryz.prog zap_E zap_H zap_V zap_Y [(0, 0)] Tryz.f183 zap_R.ps zap_R.ins zap_R.res zap_R.outs = zap_R.fn := by kernel_rfl
theorem zap_Sok : SoundS Tryz.prog G0 183 zap_S := runF_sound ⟨same_ok, envP_nil, (envS_cons zan_Sok envS_nil), envP_nil, envX_nil⟩ Tryz.func183 rfl (by kernel_rfl)
theorem zap_ok : TRawOk zap_S zap_R := rawY_ok (E := zap_E) (ET := zap_V) (EnvT.ofX (pure_of pairs_nil) looks_nil (raws_cons zan_ok rfl rfl raws_nil) G0_ok news_nil) zap_eq
def zaq_E : Env := (eZ [] [188])
def zaq_H : Hints := (hZ [] [])
def zaq_S : SFn := runF Tryz.prog zaq_E zaq_H Tryz.f244
def zaq_Y : TH := { joins := [(7, { keep := [(0, (.own 0)), (25, .bool)], mem := [.row true 5 (.int .u8)] })], loops := [], cuts := [(6, [(6, { keep := [(0, (.own 0)), (33, .bool)], mem := [.row true 5 (.int .u8)] })])], ro := [], news := [] }
def zaq (a1 : Int) (w0 : List Int) : Option (Unit × List Int × Unit) :=
 cond (decide ((IntKind.wrap .u32 a1) ≤ 2047)) (
(shrT .i32 a1 6).bind fun t1 =>
(roomT (w0.length + ([(IntKind.wrap .u8 ((BitVec.ofInt (IntKind.bits .u8) 192 ||| BitVec.ofInt (IntKind.bits .u8) (IntKind.wrap .u8 t1)).toNat)), (IntKind.wrap .u8 ((BitVec.ofInt (IntKind.bits .u8) 128 ||| BitVec.ofInt (IntKind.bits .u8) (IntKind.wrap .u8 ((BitVec.ofInt (IntKind.bits .u8) (IntKind.wrap .u8 a1) &&& BitVec.ofInt (IntKind.bits .u8) 63).toNat))).toNat))] : List Int).length)).bind fun u2 =>
 some ((), (w0 ++ ([(IntKind.wrap .u8 ((BitVec.ofInt (IntKind.bits .u8) 192 ||| BitVec.ofInt (IntKind.bits .u8) (IntKind.wrap .u8 t1)).toNat)), (IntKind.wrap .u8 ((BitVec.ofInt (IntKind.bits .u8) 128 ||| BitVec.ofInt (IntKind.bits .u8) (IntKind.wrap .u8 ((BitVec.ofInt (IntKind.bits .u8) (IntKind.wrap .u8 a1) &&& BitVec.ofInt (IntKind.bits .u8) 63).toNat))).toNat))] : List Int)), ())) (
(cond (decide ((IntKind.wrap .u32 a1) < 55296)) (
 some (.inl ((decide ((IntKind.wrap .u32 a1) < 55296)), w0, ()))) (
(cond (decide (57343 < (IntKind.wrap .u32 a1))) (some ((decide ((IntKind.wrap .u32 a1) ≤ 65535)), w0, ())) (some (false, w0, ())) : Option (Bool × List Int × Unit)).bind fun v3 =>
 some (.inl (v3.1, v3.2.1, ()))) : Option ((Bool × List Int × Unit) ⊕ (Unit × List Int × Unit))).bind (joinS fun v4 =>
 cond v4.1 (
(shrT .i32 a1 12).bind fun t5 =>
(shrT .i32 a1 6).bind fun t6 =>
(roomT (v4.2.1.length + ([(IntKind.wrap .u8 ((BitVec.ofInt (IntKind.bits .u8) 224 ||| BitVec.ofInt (IntKind.bits .u8) (IntKind.wrap .u8 t5)).toNat)), (IntKind.wrap .u8 ((BitVec.ofInt (IntKind.bits .u8) 128 ||| BitVec.ofInt (IntKind.bits .u8) (IntKind.wrap .u8 ((BitVec.ofInt (IntKind.bits .u8) (IntKind.wrap .u8 t6) &&& BitVec.ofInt (IntKind.bits .u8) 63).toNat))).toNat)), (IntKind.wrap .u8 ((BitVec.ofInt (IntKind.bits .u8) 128 ||| BitVec.ofInt (IntKind.bits .u8) (IntKind.wrap .u8 ((BitVec.ofInt (IntKind.bits .u8) (IntKind.wrap .u8 a1) &&& BitVec.ofInt (IntKind.bits .u8) 63).toNat))).toNat))] : List Int).length)).bind fun u7 =>
 some ((), (v4.2.1 ++ ([(IntKind.wrap .u8 ((BitVec.ofInt (IntKind.bits .u8) 224 ||| BitVec.ofInt (IntKind.bits .u8) (IntKind.wrap .u8 t5)).toNat)), (IntKind.wrap .u8 ((BitVec.ofInt (IntKind.bits .u8) 128 ||| BitVec.ofInt (IntKind.bits .u8) (IntKind.wrap .u8 ((BitVec.ofInt (IntKind.bits .u8) (IntKind.wrap .u8 t6) &&& BitVec.ofInt (IntKind.bits .u8) 63).toNat))).toNat)), (IntKind.wrap .u8 ((BitVec.ofInt (IntKind.bits .u8) 128 ||| BitVec.ofInt (IntKind.bits .u8) (IntKind.wrap .u8 ((BitVec.ofInt (IntKind.bits .u8) (IntKind.wrap .u8 a1) &&& BitVec.ofInt (IntKind.bits .u8) 63).toNat))).toNat))] : List Int)), ())) (
 cond (decide ((IntKind.wrap .u32 a1) > 65535)) (cond (decide ((IntKind.wrap .u32 a1) ≤ 1114111)) (
(shrT .i32 a1 18).bind fun t8 =>
(shrT .i32 a1 12).bind fun t9 =>
(shrT .i32 a1 6).bind fun t10 =>
(roomT (v4.2.1.length + ([(IntKind.wrap .u8 ((BitVec.ofInt (IntKind.bits .u8) 240 ||| BitVec.ofInt (IntKind.bits .u8) (IntKind.wrap .u8 t8)).toNat)), (IntKind.wrap .u8 ((BitVec.ofInt (IntKind.bits .u8) 128 ||| BitVec.ofInt (IntKind.bits .u8) (IntKind.wrap .u8 ((BitVec.ofInt (IntKind.bits .u8) (IntKind.wrap .u8 t9) &&& BitVec.ofInt (IntKind.bits .u8) 63).toNat))).toNat)), (IntKind.wrap .u8 ((BitVec.ofInt (IntKind.bits .u8) 128 ||| BitVec.ofInt (IntKind.bits .u8) (IntKind.wrap .u8 ((BitVec.ofInt (IntKind.bits .u8) (IntKind.wrap .u8 t10) &&& BitVec.ofInt (IntKind.bits .u8) 63).toNat))).toNat)), (IntKind.wrap .u8 ((BitVec.ofInt (IntKind.bits .u8) 128 ||| BitVec.ofInt (IntKind.bits .u8) (IntKind.wrap .u8 ((BitVec.ofInt (IntKind.bits .u8) (IntKind.wrap .u8 a1) &&& BitVec.ofInt (IntKind.bits .u8) 63).toNat))).toNat))] : List Int).length)).bind fun u11 =>
 some ((), (v4.2.1 ++ ([(IntKind.wrap .u8 ((BitVec.ofInt (IntKind.bits .u8) 240 ||| BitVec.ofInt (IntKind.bits .u8) (IntKind.wrap .u8 t8)).toNat)), (IntKind.wrap .u8 ((BitVec.ofInt (IntKind.bits .u8) 128 ||| BitVec.ofInt (IntKind.bits .u8) (IntKind.wrap .u8 ((BitVec.ofInt (IntKind.bits .u8) (IntKind.wrap .u8 t9) &&& BitVec.ofInt (IntKind.bits .u8) 63).toNat))).toNat)), (IntKind.wrap .u8 ((BitVec.ofInt (IntKind.bits .u8) 128 ||| BitVec.ofInt (IntKind.bits .u8) (IntKind.wrap .u8 ((BitVec.ofInt (IntKind.bits .u8) (IntKind.wrap .u8 t10) &&& BitVec.ofInt (IntKind.bits .u8) 63).toNat))).toNat)), (IntKind.wrap .u8 ((BitVec.ofInt (IntKind.bits .u8) 128 ||| BitVec.ofInt (IntKind.bits .u8) (IntKind.wrap .u8 ((BitVec.ofInt (IntKind.bits .u8) (IntKind.wrap .u8 a1) &&& BitVec.ofInt (IntKind.bits .u8) 63).toNat))).toNat))] : List Int)), ())) (
(roomT (v4.2.1.length + ([239, 191, 189] : List Int).length)).bind fun u12 =>
 some ((), (v4.2.1 ++ ([239, 191, 189] : List Int)), ()))) ((roomT (v4.2.1.length + ([239, 191, 189] : List Int).length)).bind fun u13 =>
 some ((), (v4.2.1 ++ ([239, 191, 189] : List Int)), ())))))
def zaq_R : TRaw := { ps := (.cons (.own 0) (.cons (.int .i32) .unit)), ins := [.row true 5 (.int .u8)], res := (.own 0), outs := [.row true 5 (.int .u8)], fn := fun v w => zaq v.2.1 w.1 }
def zaq_V : TEnv := { pure := [], look := [], glob := G0T, ty := [(5, (.int .u8))], raw := [], fresh := [] }
theorem zaq_eq : rawY Tryz.prog zaq_E zaq_H zaq_V zaq_Y [] Tryz.f244 zaq_R.ps zaq_R.ins zaq_R.res zaq_R.outs = zaq_R.fn := by kernel_rfl
theorem zaq_Sok : SoundS Tryz.prog G0 244 zaq_S := runF_sound ⟨same_ok, envP_nil, envS_nil, envP_nil, envX_nil⟩ Tryz.func244 rfl (by kernel_rfl)
theorem zaq_ok : TRawOk zaq_S zaq_R := rawY_ok (E := zaq_E) (ET := zaq_V) (EnvT.ofX (pure_of pairs_nil) looks_nil raws_nil G0_ok news_nil) zaq_eq
def zaz_E : Env := { pure := [], raw := [(244, zaq_S)], glob := G0, same := [188], look := [], ext := [] }
def zaz_H : Hints := (hZ [] [])
def zaz_S : SFn := runF Tryz.prog zaz_E zaz_H Tryz.f223
def zaz_Y : TH := yZ
def zaz (a1 : Int) (w0 : List Int) : Option (Unit × List Int × Unit) :=
 cond (decide ((IntKind.wrap .u32 a1) ≤ 127)) (
(roomT (w0.length + ([(IntKind.wrap .u8 a1)] : List Int).length)).bind fun u1 =>
 some ((), (w0 ++ ([(IntKind.wrap .u8 a1)] : List Int)), ())) (
(zaq a1 w0).bind fun q2 =>
 some (q2.1, q2.2.1, ()))
def zaz_R : TRaw := { ps := (.cons (.own 0) (.cons (.int .i32) .unit)), ins := [.row true 5 (.int .u8)], res := (.own 0), outs := [.row true 5 (.int .u8)], fn := fun v w => zaz v.2.1 w.1 }
def zaz_V : TEnv := { pure := [], look := [], glob := G0T, ty := [(5, (.int .u8))], raw := [(244, zaq_R)], fresh := [] }
theorem zaz_eq : rawY Tryz.prog zaz_E zaz_H zaz_V zaz_Y [] Tryz.f223 zaz_R.ps zaz_R.ins zaz_R.res zaz_R.outs = zaz_R.fn := by kernel_rfl
theorem zaz_Sok : SoundS Tryz.prog G0 223 zaz_S := runF_sound ⟨same_ok, envP_nil, (envS_cons zaq_Sok envS_nil), envP_nil, envX_nil⟩ Tryz.func223 rfl (by kernel_rfl)
theorem zaz_ok : TRawOk zaz_S zaz_R := rawY_ok (E := zaz_E) (ET := zaz_V) (EnvT.ofX (pure_of pairs_nil) looks_nil (raws_cons zaq_ok rfl rfl raws_nil) G0_ok news_nil) zaz_eq
def zao_E : Env := { pure := [], raw := [(146, zan_S), (223, zaz_S)], glob := G0, same := [188], look := [], ext := [] }
def zao_H : Hints := (hZ [] [])
def zao_S : SFn := runF Tryz.prog zao_E zao_H Tryz.f184
def zao_Y : TH := yZ
def zao (a1 : Int) (w0 : (Bool × Unit × Unit)) (w1 : List Int) : Option ((Int × Bool × Unit) × (Bool × Unit × Unit) × List Int × Unit) :=
(zan w0 w1).bind fun q1 =>
(zaz a1 q1.2.2.1).bind fun q2 =>
 some (((IntKind.wrap .i64 ((q2.2.1.length : Int) - (q1.2.2.1.length : Int))), false, ()), (q1.2.1.1, q2.1, ()), q2.2.1, ())
def zao_R : TRaw := { ps := (.cons (.bx 0 0) (.cons (.int .i32) .unit)), ins := [.box 126 tT16, .row true 5 (.int .u8)], res := (.tup (.cons (.int .i64) (.cons .err .unit))), outs := [.box 126 tT16, .row true 5 (.int .u8)], fn := fun v w => zao v.2.1 w.1 w.2.1 }
def zao_V : TEnv := { pure := [], look := [], glob := G0T, ty := [], raw := [(146, zan_R), (223, zaz_R)], fresh := [] }
theorem zao_eq : rawY Tryz.prog zao_E zao_H zao_V zao_Y [(0, 0)] Tryz.f184 zao_R.ps zao_R.ins zao_R.res zao_R.outs = zao_R.fn := by kernel_rfl
theorem zao_Sok : SoundS Tryz.prog G0 184 zao_S := runF_sound ⟨same_ok, envP_nil, (envS_cons zan_Sok (envS_cons zaz_Sok envS_nil)), envP_nil, envX_nil⟩ Tryz.func184 rfl (by kernel_rfl)
theorem zao_ok : TRawOk zao_S zao_R := rawY_ok (E := zao_E) (ET := zao_V) (EnvT.ofX (pure_of pairs_nil) looks_nil (raws_cons zan_ok rfl rfl (raws_cons zaz_ok rfl rfl raws_nil)) G0_ok news_nil) zao_eq
def zar_E : Env := (eZ [] [188])
def zar_H : Hints := (hZ [] [])
def zar_S : SFn := runF Tryz.prog zar_E zar_H Tryz.f87
def zar_Y : TH := yZ
def zar (w0 : (Bool × Unit × Unit)) (w1 : List Int) : Option (List UInt8 × (Bool × Unit × Unit) × Unit) :=
 cond w1.isEmpty ((zeroN (w1.length : Int)).bind fun u1 =>
 some ([], w0, ())) ((wholeN 0 w1.length (w1.length : Int)).bind fun u2 =>
 some ((w1.map fun n => UInt8.ofNat n.toNat), w0, ()))
def zar_R : TRaw := { ps := (.cons (.bx 0 0) .unit), ins := [.box 126 tT16, .row true 5 (.int .u8)], res := .str, outs := [.box 126 tT16, .gone], fn := fun v w => zar w.1 w.2.1 }
def zar_V : TEnv := (vZ [])
theorem zar_eq : rawY Tryz.prog zar_E zar_H zar_V zar_Y [(0, 0)] Tryz.f87 zar_R.ps zar_R.ins zar_R.res zar_R.outs = zar_R.fn := by kernel_rfl
theorem zar_Sok : SoundS Tryz.prog G0 87 zar_S := runF_sound ⟨same_ok, envP_nil, envS_nil, envP_nil, envX_nil⟩ Tryz.func87 rfl (by kernel_rfl)
theorem zar_ok : TRawOk zar_S zar_R := rawY_ok (E := zar_E) (ET := zar_V) (EnvT.ofX (pure_of pairs_nil) looks_nil raws_nil G0_ok news_nil) zar_eq
def zbn_E : Env := { pure := [], raw := [(87, zar_S), (183, zap_S), (184, zao_S)], glob := G0, same := [188], look := [], ext := [] }
def zbn_H : Hints := (hZ [(4, [3, 8])] [])
def zbn_F : PFn := closeF (runF Tryz.prog zbn_E zbn_H Tryz.f140)
def zbn_Y : TH := { loops := [(4, { keep := [(3, (.bx 1 0)), (8, (.it 2))], mem := [.row true 5 (.int .u8), .box 126 (.agg (.cons (.op 1) (.cons (.own 0) .unit))), .iter] })], cuts := [], ro := [], news := [(3, ((.agg (.cons (.op 1) (.cons (.own 0) .unit))), [(5, (.int .u8))]))] }
def zbn_l4 (a0 : List UInt8) (y4 : (List Int × (Bool × Unit × Unit) × Nat × Unit)) : Option ((List Int × (Bool × Unit × Unit) × Nat × Unit) ⊕ List UInt8) :=
 cond (decide (y4.2.2.1 < a0.length)) (cond (decide (((Utf8.decode ⟨a0.toArray⟩ y4.2.2.1).1 : Int) = 34)) ((zap 92 (y4.2.1.1, (), ()) y4.1).bind fun q2 =>
(zao ((Utf8.decode ⟨a0.toArray⟩ y4.2.2.1).1 : Int) (q2.2.1.1, (), ()) q2.2.2.1).bind fun q3 =>
 some (.inl (q3.2.2.1, q3.2.1, (y4.2.2.1 + (Utf8.decode ⟨a0.toArray⟩ y4.2.2.1).2), ()))) (cond (decide (((Utf8.decode ⟨a0.toArray⟩ y4.2.2.1).1 : Int) = 92)) (
(zap 92 (y4.2.1.1, (), ()) y4.1).bind fun q4 =>
(zao ((Utf8.decode ⟨a0.toArray⟩ y4.2.2.1).1 : Int) (q4.2.1.1, (), ()) q4.2.2.1).bind fun q5 =>
 some (.inl (q5.2.2.1, q5.2.1, (y4.2.2.1 + (Utf8.decode ⟨a0.toArray⟩ y4.2.2.1).2), ()))) (
(zao ((Utf8.decode ⟨a0.toArray⟩ y4.2.2.1).1 : Int) (y4.2.1.1, (), ()) y4.1).bind fun q6 =>
 some (.inl (q6.2.2.1, q6.2.1, (y4.2.2.1 + (Utf8.decode ⟨a0.toArray⟩ y4.2.2.1).2), ()))))) (((zap 34 (y4.2.1.1, (), ()) y4.1).bind fun q7 =>
(zar (q7.2.1.1, (), ()) q7.2.2.1).bind fun q8 =>
 some q8.1).map .inr)
def zbn (a0 : List UInt8) : Option (List UInt8) :=
(zap 34 (false, (), ()) []).bind fun q1 =>
 loopT (zbn_l4 a0) (q1.2.2.1, q1.2.1, 0, ())
def zbn_T : TFn := { ps := (.cons .str .unit), res := .str, fn := fun v => zbn v.1 }
def zbn_V : TEnv := { pure := [], look := [], glob := G0T, ty := [], raw := [(87, zar_R), (183, zap_R), (184, zao_R)], fresh := [] }
theorem zbn_eq : runY Tryz.prog zbn_E zbn_H zbn_V zbn_Y Tryz.f140 zbn_T.ps zbn_T.res = zbn_T.fn := by kernel_rfl
theorem zbn_Fok : SoundP Tryz.prog G0 140 zbn_F := closeF_sound (runF_sound ⟨same_ok, envP_nil, (envS_cons zar_Sok (envS_cons zap_Sok (envS_cons zao_Sok envS_nil))), envP_nil, envX_nil⟩ Tryz.func140 rfl (by kernel_rfl))
theorem zbn_ok : TOk zbn_F zbn_T := runY_ok (E := zbn_E) (ET := zbn_V) (EnvT.ofX (pure_of pairs_nil) looks_nil (raws_cons zar_ok rfl rfl (raws_cons zap_ok rfl rfl (raws_cons zao_ok rfl rfl raws_nil))) G0_ok news_nil) zbn_eq rfl
def zas_E : Env := (eZ [] [188])
def zas_H : Hints := (hZ [] [])
def zas_F : PFn := closeF (runF Tryz.prog zas_E zas_H Tryz.f185)
def zas_Y : TH := yZ
def zas (a0 : Bool) : Option (List UInt8) :=
 cond a0 (
 some [116, 114, 117, 101]) (
 some [102, 97, 108, 115, 101])
def zas_T : TFn := { ps := (.cons .bool .unit), res := .str, fn := fun v => zas v.1 }
def zas_V : TEnv := (vZ [])
theorem zas_eq : runY Tryz.prog zas_E zas_H zas_V zas_Y Tryz.f185 zas_T.ps zas_T.res = zas_T.fn := by kernel_rfl
theorem zas_Fok : SoundP Tryz.prog G0 185 zas_F := closeF_sound (runF_sound ⟨same_ok, envP_nil, envS_nil, envP_nil, envX_nil⟩ Tryz.func185 rfl (by kernel_rfl))
theorem zas_ok : TOk zas_F zas_T := runY_ok (E := zas_E) (ET := zas_V) (EnvT.ofX (pure_of pairs_nil) looks_nil raws_nil G0_ok news_nil) zas_eq rfl
def zat_E : Env := (eZ [(185, zas_F)] [188])
def zat_H : Hints := (hZ [] [])
def zat_F : PFn := closeF (runF Tryz.prog zat_E zat_H Tryz.f141)
def zat_Y : TH := yZ
def zat (a0 : Bool) : Option (List UInt8) :=
(zas a0).bind fun r1 =>
 some r1
def zat_T : TFn := { ps := (.cons .bool .unit), res := .str, fn := fun v => zat v.1 }
def zat_V : TEnv := (vZ [(185, zas_T)])
theorem zat_eq : runY Tryz.prog zat_E zat_H zat_V zat_Y Tryz.f141 zat_T.ps zat_T.res = zat_T.fn := by kernel_rfl
theorem zat_Fok : SoundP Tryz.prog G0 141 zat_F := closeF_sound (runF_sound ⟨same_ok, (envP_cons zas_Fok envP_nil), envS_nil, envP_nil, envX_nil⟩ Tryz.func141 rfl (by kernel_rfl))
theorem zat_ok : TOk zat_F zat_T := runY_ok (E := zat_E) (ET := zat_V) (EnvT.ofX (pure_of (pairs_cons zas_ok pairs_nil)) looks_nil raws_nil G0_ok news_nil) zat_eq rfl
def zbe_F : PFn := itoaF
theorem zbe_Fok : SoundP Tryz.prog G0 82 zbe_F := itoa_sound (g := 3) ⟨Tryz.f82, Tryz.func82, rfl, by kernel_rfl⟩ (by kernel_rfl) (by kernel_rfl) Tryz.strconv_Itoa
def zbe (a0 : Int) : Option (List UInt8) := itoa a0
def zbe_T : TFn := itoa_T
theorem zbe_ok : TOk zbe_F zbe_T := itoa_ok
def zb8_E : Env := (eZ [(139, zb2_F), (140, zbn_F), (141, zat_F), (82, zbe_F)] [188])
def zb8_H : Hints := (hZ [] [])
def zb8_F : PFn := closeF (runF Tryz.prog zb8_E zb8_H Tryz.f79)
theorem zb8_Fok : SoundP Tryz.prog G0 79 zb8_F := closeF_sound (runF_sound ⟨same_ok, (envP_cons zb2_Fok (envP_cons zbn_Fok (envP_cons zat_Fok (envP_cons zbe_Fok envP_nil)))), envS_nil, envP_nil, envX_nil⟩ Tryz.func79 rfl (by kernel_rfl))
def value_Text_G (Fq Fb Fs : PFn) : PFn := closeF (runF Tryz.prog (eZ [(139, zb2_F), (140, Fq), (141, Fb), (82, Fs)] [188]) zb8_H Tryz.f79)
theorem value_Text_G_eq : zb8_F = value_Text_G zbn_F zat_F zbe_F := rfl
theorem value_Text_2 (Fq Fb Fs : PFn) (n : Int) (s : List UInt8) : value_Text_G Fq Fb Fs [.agg [.int .i64 2, .int .i64 n, .str s]] = ((Fq [.str s]).bind fun t => some (t, [AReg.row 26 3 [.agg [.int .i64 2, .int .i64 n, .str s]]])).bind fun p => packV p.2 p.1 := by kernel_rfl
theorem value_Text_3 (Fq Fb Fs : PFn) (n : Int) (s : List UInt8) : value_Text_G Fq Fb Fs [.agg [.int .i64 3, .int .i64 n, .str s]] = ((Fb [.bool (n == 1)]).bind fun t => some (t, [AReg.row 26 3 [.agg [.int .i64 3, .int .i64 n, .str s]]])).bind fun p => packV p.2 p.1 := by kernel_rfl
theorem value_Text_0 (Fq Fb Fs : PFn) (n : Int) (s : List UInt8) : value_Text_G Fq Fb Fs [.agg [.int .i64 (Int.ofNat 0), .int .i64 n, .str s]] = ((Fs [.int .i64 n]).bind fun t => some (t, [AReg.row 26 3 [.agg [.int .i64 (Int.ofNat 0), .int .i64 n, .str s]]])).bind fun p => packV p.2 p.1 := by kernel_rfl
theorem value_Text_1 (Fq Fb Fs : PFn) (n : Int) (s : List UInt8) : value_Text_G Fq Fb Fs [.agg [.int .i64 (Int.ofNat 1), .int .i64 n, .str s]] = ((Fs [.int .i64 n]).bind fun t => some (t, [AReg.row 26 3 [.agg [.int .i64 (Int.ofNat 1), .int .i64 n, .str s]]])).bind fun p => packV p.2 p.1 := by kernel_rfl
theorem value_Text_4 (Fq Fb Fs : PFn) (k : Nat) (n : Int) (s : List UInt8) : value_Text_G Fq Fb Fs [.agg [.int .i64 (Int.ofNat (k + 4)), .int .i64 n, .str s]] = ((Fs [.int .i64 n]).bind fun t => some (t, [AReg.row 26 3 [.agg [.int .i64 (Int.ofNat (k + 4)), .int .i64 n, .str s]]])).bind fun p => packV p.2 p.1 := by kernel_rfl
theorem value_Text_5 (Fq Fb Fs : PFn) (k : Nat) (n : Int) (s : List UInt8) : value_Text_G Fq Fb Fs [.agg [.int .i64 (Int.negSucc k), .int .i64 n, .str s]] = ((Fs [.int .i64 n]).bind fun t => some (t, [AReg.row 26 3 [.agg [.int .i64 (Int.negSucc k), .int .i64 n, .str s]]])).bind fun p => packV p.2 p.1 := by kernel_rfl
theorem value_Text_6 (Fq Fb Fs : PFn) (k n : Int) (s : List UInt8) (h2 : k ≠ 2) (h3 : k ≠ 3) : value_Text_G Fq Fb Fs [.agg [.int .i64 k, .int .i64 n, .str s]] = ((Fs [.int .i64 n]).bind fun t => some (t, [AReg.row 26 3 [.agg [.int .i64 k, .int .i64 n, .str s]]])).bind fun p => packV p.2 p.1 := by
 match k, h2, h3 with
 | .ofNat 0, _, _ => exact value_Text_0 Fq Fb Fs n s
 | .ofNat 1, _, _ => exact value_Text_1 Fq Fb Fs n s
 | .ofNat 2, h, _ => exact absurd rfl h
 | .ofNat 3, _, h => exact absurd rfl h
 | .ofNat (k + 4), _, _ => exact value_Text_4 Fq Fb Fs k n s
 | .negSucc k, _, _ => exact value_Text_5 Fq Fb Fs k n s
def zb8 (a0 : Int × Int × List UInt8 × Unit) : Option (List UInt8) := if a0.1 = 2 then zbn a0.2.2.1 else if a0.1 = 3 then zat (a0.2.1 == 1) else zbe a0.2.1
def zb8_T : TFn := { ps := .cons tT10 .unit, res := .str, fn := fun v => zb8 v.1 }
theorem zb8_ok : TOk zb8_F zb8_T := ⟨rfl, rfl, rfl, fun v r xs hr hps => by
 obtain ⟨⟨k, n, s, ⟨⟩⟩, ⟨⟩⟩ := v
 simp only [R, zb8_T] at hps
 obtain ⟨l1, l2, rfl, ⟨cs, rfl, a1, a2, rfl, rfl, a3, a4, rfl, rfl, a5, a6, rfl, rfl, rfl⟩, rfl⟩ := hps
 rw [value_Text_G_eq]
 simp only [zb8_T, zb8] at hr
 have done : ∀ {o : Option AVal} {t : List UInt8} {st : Store}, o = some (.str t) → ((o.bind fun t => some (t, st)).bind fun p => packV p.2 p.1) = some (.str t) := fun h => by rw [h]; rfl
 simp only [List.cons_append, List.nil_append, List.append_nil]
 split at hr
 · rename_i h; subst h
   obtain ⟨a, h1, h2⟩ := zbn_ok.run (s, ()) r [.str s] hr ⟨[.str s], [], rfl, rfl, rfl⟩
   have h2 := R_str h2; subst h2
   exact ⟨_, (value_Text_2 _ _ _ n s).trans (done h1), rfl⟩
 · split at hr
   · rename_i h; subst h
     obtain ⟨a, h1, h2⟩ := zat_ok.run ((n == 1), ()) r [.bool (n == 1)] hr ⟨[.bool (n == 1)], [], rfl, rfl, rfl⟩
     have h2 := R_str h2; subst h2
     exact ⟨_, (value_Text_3 _ _ _ n s).trans (done h1), rfl⟩
   · rename_i h g
     obtain ⟨a, h1, h2⟩ := zbe_ok.run (n, ()) r [.int .i64 n] hr ⟨[.int .i64 n], [], rfl, rfl, rfl⟩
     have h2 := R_str h2; subst h2
     exact ⟨_, (value_Text_6 _ _ _ k n s h g).trans (done h1), rfl⟩⟩
def zbb_F : PFn := joinF
theorem zbb_Fok : SoundP Tryz.prog G0 80 zbb_F := join_sound ⟨Tryz.f80, Tryz.func80, rfl, by kernel_rfl⟩ Tryz.strings_Join_none Tryz.strings_Join
def zbb (a0 : List (List UInt8)) (a1 : List UInt8) : Option (List UInt8) := joinT a0 a1
def zbb_T : TFn := joinT_T
theorem zbb_ok : TOk zbb_F zbb_T := joinT_ok
def zcn_E : Env := { pure := [], raw := [(87, zar_S), (183, zap_S)], glob := G0, same := [188], look := [], ext := [] }
def zcn_H : Hints := (hZ [(3, [0, 3, 6, 7])] [])
def zcn_F : PFn := closeF (runF Tryz.prog zcn_E zcn_H Tryz.f143)
def zcn_Y : TH := { joins := [(7, { keep := [(3, (.bx 1 0))], mem := [.row true 5 (.int .u8), .box 126 (.agg (.cons (.op 1) (.cons (.own 0) .unit)))] })], loops := [(3, { keep := [(3, (.bx 1 0)), (7, (.int .i64))], mem := [.row true 5 (.int .u8), .box 126 (.agg (.cons (.op 1) (.cons (.own 0) .unit)))] })], cuts := [], ro := [], news := [(3, ((.agg (.cons (.op 1) (.cons (.own 0) .unit))), [(5, (.int .u8))]))] }
def zcn_l3 (a0 : List UInt8) (y3 : (Int × List Int × (Bool × Unit × Unit) × Unit)) : Option ((Int × List Int × (Bool × Unit × Unit) × Unit) ⊕ List UInt8) :=
 cond (decide (y3.1 < (a0.length : Int))) (
((atI a0 y3.1).bind fun b1 =>
 cond (decide ((b1.toNat : Int) = 47)) ((zap 92 (y3.2.2.1.1, (), ()) y3.2.1).bind fun q2 =>
 some (.inl (q2.2.2.1, q2.2.1, ()))) ((atI a0 y3.1).bind fun b3 =>
 cond (decide ((b3.toNat : Int) = 92)) (
(zap 92 (y3.2.2.1.1, (), ()) y3.2.1).bind fun q4 =>
 some (.inl (q4.2.2.1, q4.2.1, ()))) (
 some (.inl (y3.2.1, y3.2.2.1, ())))) : Option ((List Int × (Bool × Unit × Unit) × Unit) ⊕ ((Int × List Int × (Bool × Unit × Unit) × Unit) ⊕ List UInt8))).bind (joinS fun v5 =>
(atI a0 y3.1).bind fun b6 =>
(zap (b6.toNat : Int) (v5.2.1.1, (), ()) v5.1).bind fun q7 =>
 some (.inl ((IntKind.wrap .i64 (y3.1 + 1)), q7.2.2.1, q7.2.1, ())))) (
((zar (y3.2.2.1.1, (), ()) y3.2.1).bind fun q8 =>
 some q8.1).map .inr)
def zcn (a0 : List UInt8) : Option (List UInt8) :=
 loopT (zcn_l3 a0) (0, [], (false, (), ()), ())
def zcn_T : TFn := { ps := (.cons .str .unit), res := .str, fn := fun v => zcn v.1 }
def zcn_V : TEnv := { pure := [], look := [], glob := G0T, ty := [], raw := [(87, zar_R), (183, zap_R)], fresh := [] }
theorem zcn_eq : runY Tryz.prog zcn_E zcn_H zcn_V zcn_Y Tryz.f143 zcn_T.ps zcn_T.res = zcn_T.fn := by kernel_rfl
theorem zcn_Fok : SoundP Tryz.prog G0 143 zcn_F := closeF_sound (runF_sound ⟨same_ok, envP_nil, (envS_cons zar_Sok (envS_cons zap_Sok envS_nil)), envP_nil, envX_nil⟩ Tryz.func143 rfl (by kernel_rfl))
theorem zcn_ok : TOk zcn_F zcn_T := runY_ok (E := zcn_E) (ET := zcn_V) (EnvT.ofX (pure_of pairs_nil) looks_nil (raws_cons zar_ok rfl rfl (raws_cons zap_ok rfl rfl raws_nil)) G0_ok news_nil) zcn_eq rfl
def zcy_E : Env := { pure := [(143, zcn_F)], raw := [], glob := G0, same := [188], look := [(80, zbb_F)], ext := [] }
def zcy_H : Hints := (hZ [(3, [3, 6, 7, 8])] [])
def zcy_F : PFn := closeF (runF Tryz.prog zcy_E zcy_H Tryz.f81)
def zcy_Y : TH := { loops := [(3, { keep := [(3, (.own 0)), (8, (.int .i64))], mem := [.row true 9 .str] })], ro := [] }
def zcy_l3 (a0 : List (List UInt8)) (y3 : (Int × List (List UInt8) × Unit)) : Option ((Int × List (List UInt8) × Unit) ⊕ List UInt8) :=
 cond (decide (y3.1 < (a0.length : Int))) (
(atI a0 y3.1).bind fun x1 =>
(zcn x1).bind fun r2 =>
(roomT (y3.2.1.length + ([r2] : List (List UInt8)).length)).bind fun u3 =>
 some (.inl ((IntKind.wrap .i64 (y3.1 + 1)), (y3.2.1 ++ ([r2] : List (List UInt8))), ()))) (
((zbb y3.2.1 [47]).bind fun r4 =>
 some r4).map .inr)
def zcy (a0 : List (List UInt8)) : Option (List UInt8) :=
 loopT (zcy_l3 a0) (0, [], ())
def zcy_T : TFn := { ps := tT18, res := .str, fn := fun v => zcy v.1 }
def zcy_V : TEnv := { pure := [(143, zcn_T)], look := [(80, zbb_T)], glob := G0T, ty := [(9, .str)], raw := [], fresh := [] }
theorem zcy_eq : runY Tryz.prog zcy_E zcy_H zcy_V zcy_Y Tryz.f81 zcy_T.ps zcy_T.res = zcy_T.fn := by kernel_rfl
theorem zcy_Fok : SoundP Tryz.prog G0 81 zcy_F := closeF_sound (runF_sound ⟨same_ok, (envP_cons zcn_Fok envP_nil), envS_nil, (envP_cons zbb_Fok envP_nil), envX_nil⟩ Tryz.func81 rfl (by kernel_rfl))
theorem zcy_ok : TOk zcy_F zcy_T := runY_ok (E := zcy_E) (ET := zcy_V) (EnvT.ofX (pure_of (pairs_cons zcn_ok pairs_nil)) (looks_cons zbb_ok rfl looks_nil) raws_nil G0_ok news_nil) zcy_eq rfl
def zct_E : Env := { pure := [(79, zb8_F), (81, zcy_F), (82, zbe_F)], raw := [], glob := G0, same := [188], look := [(80, zbb_F)], ext := [] }
def zct_H : Hints := (hZ [(3, [1, 3, 8, 9, 10])] [])
def zct_F : PFn := closeF (runF Tryz.prog zct_E zct_H Tryz.f38)
def zct_Y : TH := { joins := [(7, { keep := [(1, (.bx 0 0)), (3, (.own 2))], mem := [.same, .gone, .row true 9 .str] })], loops := [(3, { keep := [(1, (.bx 0 0)), (3, (.own 2)), (10, (.int .i64))], mem := [.same, .gone, .row true 9 .str] })], ro := [1] }
def zct_l3 (a0 : vV1) (y3 : (Int × List (List UInt8) × Unit)) : Option ((Int × List (List UInt8) × Unit) ⊕ ((List (List UInt8) × Unit) ⊕ List UInt8)) :=
 cond (decide (y3.1 < (a0.2.2.1.length : Int))) (
(atI a0.2.2.1 y3.1).bind fun x1 =>
(zb8 x1).bind fun r2 =>
(roomT (y3.2.1.length + ([r2] : List (List UInt8)).length)).bind fun u3 =>
 some (.inl ((IntKind.wrap .i64 (y3.1 + 1)), (y3.2.1 ++ ([r2] : List (List UInt8))), ()))) (
 some (.inr (.inl (y3.2.1, ()))))
def zct (a0 : vV1) : Option (List UInt8) :=
(loopT (zct_l3 a0) (0, [], ()) : Option ((List (List UInt8) × Unit) ⊕ List UInt8)).bind (joinS fun v4 =>
(zbb v4.1 [32]).bind fun r5 =>
 cond (decide (a0.2.1 = 1)) (
(zcy a0.1).bind fun r6 =>
(catT r6 [32, 61, 32]).bind fun s7 =>
(catT s7 r5).bind fun s8 =>
 some s8) (
 cond (decide (a0.2.1 = 2)) (
(zcy a0.1).bind fun r9 =>
(catT r9 [32, 58, 32]).bind fun s10 =>
(catT s10 r5).bind fun s11 =>
 some s11) (
(zcy a0.1).bind fun r12 =>
(catT r12 [32, 35, 32]).bind fun s13 =>
(zbe a0.2.2.2.1).bind fun r14 =>
(catT s13 r14).bind fun s15 =>
 some s15)))
def zct_T : TFn := { ps := (.cons tT11 .unit), res := .str, fn := fun v => zct v.1 }
def zct_V : TEnv := { pure := [(79, zb8_T), (81, zcy_T), (82, zbe_T)], look := [(80, zbb_T)], glob := G0T, ty := [(9, .str)], raw := [], fresh := [] }
theorem zct_eq : runY Tryz.prog zct_E zct_H zct_V zct_Y Tryz.f38 zct_T.ps zct_T.res = zct_T.fn := by kernel_rfl
theorem zct_Fok : SoundP Tryz.prog G0 38 zct_F := closeF_sound (runF_sound ⟨same_ok, (envP_cons zb8_Fok (envP_cons zcy_Fok (envP_cons zbe_Fok envP_nil))), envS_nil, (envP_cons zbb_Fok envP_nil), envX_nil⟩ Tryz.func38 rfl (by kernel_rfl))
theorem zct_ok : TOk zct_F zct_T := runY_ok (E := zct_E) (ET := zct_V) (EnvT.ofX (pure_of (pairs_cons zb8_ok (pairs_cons zcy_ok (pairs_cons zbe_ok pairs_nil)))) (looks_cons zbb_ok rfl looks_nil) raws_nil G0_ok news_nil) zct_eq rfl
def zbf_E (F : PFn) : Env := (eZ [(85, F)] [188])
def zbf_H : Hints := (hZ [] [])
def ref04_Digits_K (F : PFn) : PFn := closeF (runF Tryz.prog (zbf_E F) zbf_H Tryz.f85)
def zbf_Y : TH := yZ
def zbf_step (rec : ((Int × Unit) → Option (List UInt8))) (a0 : Int) : Option (List UInt8) :=
 cond (decide (a0 < 0)) (
 cond (decide (a0 > (-10))) (
(rec ((IntKind.wrap .i64 (0 - a0)), ())).bind fun r1 =>
(catT [45] r1).bind fun s2 =>
 some s2) (
(quoT .i64 a0 10).bind fun t3 =>
(rec ((IntKind.wrap .i64 (0 - t3)), ())).bind fun r4 =>
(catT [45] r4).bind fun s5 =>
(remT a0 10).bind fun t6 =>
(rec ((IntKind.wrap .i64 (0 - t6)), ())).bind fun r7 =>
(catT s5 r7).bind fun s8 =>
 some s8)) (
 cond (decide (a0 < 10)) (
(subI [48, 49, 50, 51, 52, 53, 54, 55, 56, 57] a0 (IntKind.wrap .i64 (a0 + 1))).bind fun s9 =>
 some s9) (
(quoT .i64 a0 10).bind fun t10 =>
(rec (t10, ())).bind fun r11 =>
(remT a0 10).bind fun t12 =>
(remT a0 10).bind fun t13 =>
(subI [48, 49, 50, 51, 52, 53, 54, 55, 56, 57] t12 (IntKind.wrap .i64 (t13 + 1))).bind fun s14 =>
(catT r11 s14).bind fun s15 =>
 some s15))
def ref04_Digits_fix : ((Int × Unit) → Option (List UInt8)) := fixT fun rec v => zbf_step rec v.1
def zbf (a0 : Int) : Option (List UInt8) := ref04_Digits_fix (a0, ())
def zbf_T : TFn := { ps := tT12, res := .str, fn := fixT fun (rec : ((Int × Unit) → Option (List UInt8))) v => zbf_step rec v.1 }
def zbf_F : PFn := fixF ref04_Digits_K zbf_T
def zbf_V (rec : ((Int × Unit) → Option (List UInt8))) : TEnv := (vZ [(85, { ps := tT12, res := .str, fn := rec })])
theorem zbf_eq (F : PFn) (rec : ((Int × Unit) → Option (List UInt8))) : runY Tryz.prog (zbf_E F) zbf_H (zbf_V rec) zbf_Y Tryz.f85 zbf_T.ps zbf_T.res = fun v => zbf_step rec v.1 := by kernel_rfl
theorem zbf_Fok : SoundP Tryz.prog G0 85 zbf_F := rec_sound ⟨Tryz.f85, Tryz.func85, rfl, by kernel_rfl⟩ fun F hF => closeF_sound (runF_sound (P := Tryz.prog) (E := zbf_E F) (h := zbf_H) (f := 85) (fn := Tryz.f85) ⟨same_ok, (envP_cons hF envP_nil), envS_nil, envP_nil, envX_nil⟩ Tryz.func85 rfl (by kernel_rfl))
theorem zbf_ok : TOk zbf_F zbf_T := rec_ok rfl fun F rec hF => runY_ok (E := zbf_E F) (ET := zbf_V rec) (EnvT.ofX (E := zbf_E F) (ET := zbf_V rec) (pure_of (pairs_cons hF pairs_nil)) looks_nil raws_nil G0_ok news_nil) (zbf_eq F rec) rfl
def zcj_E : Env := (eZ [(85, zbf_F)] [188])
def zcj_H : Hints := (hZ [(9, [1, 3, 4])] [])
def zcj_F : PFn := closeF (runF Tryz.prog zcj_E zcj_H Tryz.f83)
def zcj_Y : TH := { joins := [(13, { keep := [(1, (.bx 0 0)), (3, .str)], mem := [.same] })], loops := [(9, { keep := [(1, (.bx 0 0)), (3, .str), (4, (.int .i64))], mem := [.same] })], ro := [1] }
def zcj_l9 (a0 : vV3) (y9 : (List UInt8 × Int × Unit)) : Option ((List UInt8 × Int × Unit) ⊕ List UInt8) :=
 cond (decide (y9.2.1 < (a0.2.2.1.length : Int))) (
((atI a0.2.2.1 y9.2.1).bind fun b2 =>
 cond (decide ((b2.toNat : Int) = 34)) ((catT y9.1 [92]).bind fun s3 =>
 some (.inl (s3, ()))) ((atI a0.2.2.1 y9.2.1).bind fun b4 =>
 cond (decide ((b4.toNat : Int) = 92)) (
(catT y9.1 [92]).bind fun s5 =>
 some (.inl (s5, ()))) (
 some (.inl (y9.1, ())))) : Option ((List UInt8 × Unit) ⊕ ((List UInt8 × Int × Unit) ⊕ List UInt8))).bind (joinS fun v6 =>
(subI a0.2.2.1 y9.2.1 (IntKind.wrap .i64 (y9.2.1 + 1))).bind fun s7 =>
(catT v6.1 s7).bind fun s8 =>
 some (.inl (s8, (IntKind.wrap .i64 (y9.2.1 + 1)), ())))) (
((catT y9.1 [34]).bind fun s9 =>
 some s9).map .inr)
def zcj (a0 : vV3) : Option (List UInt8) :=
 cond (decide (a0.1 = 1)) (
(zbf a0.2.1).bind fun r1 =>
 some r1) (
 cond (decide (a0.1 = 3)) (
 cond (decide (a0.2.1 = 1)) (
 some [116, 114, 117, 101]) (
 some [102, 97, 108, 115, 101])) (
 loopT (zcj_l9 a0) ([34], 0, ())))
def zcj_T : TFn := { ps := (.cons tT10 .unit), res := .str, fn := fun v => zcj v.1 }
def zcj_V : TEnv := (vZ [(85, zbf_T)])
theorem zcj_eq : runY Tryz.prog zcj_E zcj_H zcj_V zcj_Y Tryz.f83 zcj_T.ps zcj_T.res = zcj_T.fn := by kernel_rfl
theorem zcj_Fok : SoundP Tryz.prog G0 83 zcj_F := closeF_sound (runF_sound ⟨same_ok, (envP_cons zbf_Fok envP_nil), envS_nil, envP_nil, envX_nil⟩ Tryz.func83 rfl (by kernel_rfl))
theorem zcj_ok : TOk zcj_F zcj_T := runY_ok (E := zcj_E) (ET := zcj_V) (EnvT.ofX (pure_of (pairs_cons zbf_ok pairs_nil)) looks_nil raws_nil G0_ok news_nil) zcj_eq rfl
def zbq_E : Env := (eZ [] [188])
def zbq_H : Hints := (hZ [(3, [0, 3, 4])] [])
def zbq_F : PFn := closeF (runF Tryz.prog zbq_E zbq_H Tryz.f145)
def zbq_Y : TH := { joins := [(7, { keep := [(3, .str)], mem := [] })], loops := [(3, { keep := [(3, .str), (4, (.int .i64))], mem := [] })], ro := [] }
def zbq_l3 (a0 : List UInt8) (y3 : (List UInt8 × Int × Unit)) : Option ((List UInt8 × Int × Unit) ⊕ List UInt8) :=
 cond (decide (y3.2.1 < (a0.length : Int))) (
((atI a0 y3.2.1).bind fun b1 =>
 cond (decide ((b1.toNat : Int) = 47)) ((catT y3.1 [92]).bind fun s2 =>
 some (.inl (s2, ()))) ((atI a0 y3.2.1).bind fun b3 =>
 cond (decide ((b3.toNat : Int) = 92)) (
(catT y3.1 [92]).bind fun s4 =>
 some (.inl (s4, ()))) (
 some (.inl (y3.1, ())))) : Option ((List UInt8 × Unit) ⊕ ((List UInt8 × Int × Unit) ⊕ List UInt8))).bind (joinS fun v5 =>
(subI a0 y3.2.1 (IntKind.wrap .i64 (y3.2.1 + 1))).bind fun s6 =>
(catT v5.1 s6).bind fun s7 =>
 some (.inl (s7, (IntKind.wrap .i64 (y3.2.1 + 1)), ())))) (
 some (.inr y3.1))
def zbq (a0 : List UInt8) : Option (List UInt8) :=
 loopT (zbq_l3 a0) ([], 0, ())
def zbq_T : TFn := { ps := (.cons .str .unit), res := .str, fn := fun v => zbq v.1 }
def zbq_V : TEnv := (vZ [])
theorem zbq_eq : runY Tryz.prog zbq_E zbq_H zbq_V zbq_Y Tryz.f145 zbq_T.ps zbq_T.res = zbq_T.fn := by kernel_rfl
theorem zbq_Fok : SoundP Tryz.prog G0 145 zbq_F := closeF_sound (runF_sound ⟨same_ok, envP_nil, envS_nil, envP_nil, envX_nil⟩ Tryz.func145 rfl (by kernel_rfl))
theorem zbq_ok : TOk zbq_F zbq_T := runY_ok (E := zbq_E) (ET := zbq_V) (EnvT.ofX (pure_of pairs_nil) looks_nil raws_nil G0_ok news_nil) zbq_eq rfl
def zcr_E : Env := (eZ [(145, zbq_F)] [188])
def zcr_H : Hints := (hZ [(3, [0, 3, 4])] [])
def zcr_F : PFn := closeF (runF Tryz.prog zcr_E zcr_H Tryz.f84)
def zcr_Y : TH := { joins := [(7, { keep := [(3, .str)], mem := [] })], loops := [(3, { keep := [(3, .str), (4, (.int .i64))], mem := [] })], ro := [] }
def zcr_l3 (a0 : List (List UInt8)) (y3 : (List UInt8 × Int × Unit)) : Option ((List UInt8 × Int × Unit) ⊕ List UInt8) :=
 cond (decide (y3.2.1 < (a0.length : Int))) (
(cond (decide (y3.2.1 > 0)) (
(catT y3.1 [47]).bind fun s1 =>
 some (.inl (s1, ()))) (
 some (.inl (y3.1, ()))) : Option ((List UInt8 × Unit) ⊕ ((List UInt8 × Int × Unit) ⊕ List UInt8))).bind (joinS fun v2 =>
(atI a0 y3.2.1).bind fun x3 =>
(zbq x3).bind fun r4 =>
(catT v2.1 r4).bind fun s5 =>
 some (.inl (s5, (IntKind.wrap .i64 (y3.2.1 + 1)), ())))) (
 some (.inr y3.1))
def zcr (a0 : List (List UInt8)) : Option (List UInt8) :=
 loopT (zcr_l3 a0) ([], 0, ())
def zcr_T : TFn := { ps := tT18, res := .str, fn := fun v => zcr v.1 }
def zcr_V : TEnv := (vZ [(145, zbq_T)])
theorem zcr_eq : runY Tryz.prog zcr_E zcr_H zcr_V zcr_Y Tryz.f84 zcr_T.ps zcr_T.res = zcr_T.fn := by kernel_rfl
theorem zcr_Fok : SoundP Tryz.prog G0 84 zcr_F := closeF_sound (runF_sound ⟨same_ok, (envP_cons zbq_Fok envP_nil), envS_nil, envP_nil, envX_nil⟩ Tryz.func84 rfl (by kernel_rfl))
theorem zcr_ok : TOk zcr_F zcr_T := runY_ok (E := zcr_E) (ET := zcr_V) (EnvT.ofX (pure_of (pairs_cons zbq_ok pairs_nil)) looks_nil raws_nil G0_ok news_nil) zcr_eq rfl
def zcb_E : Env := (eZ [(83, zcj_F), (84, zcr_F), (85, zbf_F)] [188])
def zcb_H : Hints := (hZ [(3, [1, 3, 4])] [])
def zcb_F : PFn := closeF (runF Tryz.prog zcb_E zcb_H Tryz.f39)
def zcb_Y : TH := { joins := [(8, { keep := [(1, (.bx 0 0)), (3, .str)], mem := [.same] }), (7, { keep := [(1, (.bx 0 0)), (3, .str)], mem := [.same] })], loops := [(3, { keep := [(1, (.bx 0 0)), (3, .str), (4, (.int .i64))], mem := [.same] })], ro := [1] }
def zcb_l3 (a0 : vV1) (y3 : (List UInt8 × Int × Unit)) : Option ((List UInt8 × Int × Unit) ⊕ ((List UInt8 × Unit) ⊕ List UInt8)) :=
 cond (decide (y3.2.1 < (a0.2.2.1.length : Int))) (
(cond (decide (y3.2.1 > 0)) (
(catT y3.1 [32]).bind fun s1 =>
 some (.inl (s1, ()))) (
 some (.inl (y3.1, ()))) : Option ((List UInt8 × Unit) ⊕ ((List UInt8 × Int × Unit) ⊕ ((List UInt8 × Unit) ⊕ List UInt8)))).bind (joinS fun v2 =>
(atI a0.2.2.1 y3.2.1).bind fun x3 =>
(zcj x3).bind fun r4 =>
(catT v2.1 r4).bind fun s5 =>
 some (.inl (s5, (IntKind.wrap .i64 (y3.2.1 + 1)), ())))) (
 some (.inr (.inl (y3.1, ()))))
def zcb (a0 : vV1) : Option (List UInt8) :=
(loopT (zcb_l3 a0) ([], 0, ()) : Option ((List UInt8 × Unit) ⊕ List UInt8)).bind (joinS fun v6 =>
 cond (decide (a0.2.1 = 1)) (
(zcr a0.1).bind fun r7 =>
(catT r7 [32, 61, 32]).bind fun s8 =>
(catT s8 v6.1).bind fun s9 =>
 some s9) (
 cond (decide (a0.2.1 = 2)) (
(zcr a0.1).bind fun r10 =>
(catT r10 [32, 58, 32]).bind fun s11 =>
(catT s11 v6.1).bind fun s12 =>
 some s12) (
(zcr a0.1).bind fun r13 =>
(catT r13 [32, 35, 32]).bind fun s14 =>
(zbf a0.2.2.2.1).bind fun r15 =>
(catT s14 r15).bind fun s16 =>
 some s16)))
def zcb_T : TFn := { ps := (.cons tT11 .unit), res := .str, fn := fun v => zcb v.1 }
def zcb_V : TEnv := (vZ [(83, zcj_T), (84, zcr_T), (85, zbf_T)])
theorem zcb_eq : runY Tryz.prog zcb_E zcb_H zcb_V zcb_Y Tryz.f39 zcb_T.ps zcb_T.res = zcb_T.fn := by kernel_rfl
theorem zcb_Fok : SoundP Tryz.prog G0 39 zcb_F := closeF_sound (runF_sound ⟨same_ok, (envP_cons zcj_Fok (envP_cons zcr_Fok (envP_cons zbf_Fok envP_nil))), envS_nil, envP_nil, envX_nil⟩ Tryz.func39 rfl (by kernel_rfl))
theorem zcb_ok : TOk zcb_F zcb_T := runY_ok (E := zcb_E) (ET := zcb_V) (EnvT.ofX (pure_of (pairs_cons zcj_ok (pairs_cons zcr_ok (pairs_cons zbf_ok pairs_nil)))) looks_nil raws_nil G0_ok news_nil) zcb_eq rfl
def zam_E : Env := { pure := [], raw := [(146, zan_S)], glob := G0, same := [188], look := [], ext := [] }
def zam_H : Hints := (hZ [] [])
def zam_S : SFn := runF Tryz.prog zam_E zam_H Tryz.f86
def zam_Y : TH := yZ
def zam (a1 : List UInt8) (w0 : (Bool × Unit × Unit)) (w1 : List Int) : Option ((Int × Bool × Unit) × (Bool × Unit × Unit) × List Int × Unit) :=
(zan w0 w1).bind fun q1 =>
(roomT (q1.2.2.1.length + (a1.map fun b => (b.toNat : Int)).length)).bind fun u2 =>
 some (((a1.length : Int), false, ()), (q1.2.1.1, (), ()), (q1.2.2.1 ++ (a1.map fun b => (b.toNat : Int))), ())
def zam_R : TRaw := { ps := (.cons (.bx 0 0) (.cons .str .unit)), ins := [.box 126 tT16, .row true 5 (.int .u8)], res := (.tup (.cons (.int .i64) (.cons .err .unit))), outs := [.box 126 tT16, .row true 5 (.int .u8)], fn := fun v w => zam v.2.1 w.1 w.2.1 }
def zam_V : TEnv := { pure := [], look := [], glob := G0T, ty := [(5, (.int .u8))], raw := [(146, zan_R)], fresh := [] }
theorem zam_eq : rawY Tryz.prog zam_E zam_H zam_V zam_Y [(0, 0)] Tryz.f86 zam_R.ps zam_R.ins zam_R.res zam_R.outs = zam_R.fn := by kernel_rfl
theorem zam_Sok : SoundS Tryz.prog G0 86 zam_S := runF_sound ⟨same_ok, envP_nil, (envS_cons zan_Sok envS_nil), envP_nil, envX_nil⟩ Tryz.func86 rfl (by kernel_rfl)
theorem zam_ok : TRawOk zam_S zam_R := rawY_ok (E := zam_E) (ET := zam_V) (EnvT.ofX (pure_of pairs_nil) looks_nil (raws_cons zan_ok rfl rfl raws_nil) G0_ok news_nil) zam_eq
def zc1_E : Env := { pure := [(38, zct_F)], raw := [(86, zam_S), (87, zar_S)], glob := G0, same := [188], look := [], ext := [] }
def zc1_H : Hints := (hZ [(3, [3, 6, 7, 8])] [])
def zc1_F : PFn := closeF (runF Tryz.prog zc1_E zc1_H Tryz.f41)
def zc1_Y : TH := { loops := [(3, { keep := [(3, (.bx 1 0)), (8, (.int .i64))], mem := [.row true 5 (.int .u8), .box 126 (.agg (.cons (.op 1) (.cons (.own 0) .unit)))] })], cuts := [], ro := [], news := [(3, ((.agg (.cons (.op 1) (.cons (.own 0) .unit))), [(5, (.int .u8))]))] }
def zc1_l3 (a0 : List vV1) (y3 : (Int × List Int × (Bool × Unit × Unit) × Unit)) : Option ((Int × List Int × (Bool × Unit × Unit) × Unit) ⊕ List UInt8) :=
 cond (decide (y3.1 < (a0.length : Int))) (
(atI a0 y3.1).bind fun x1 =>
(zct x1).bind fun r2 =>
(catT r2 [10]).bind fun s3 =>
(zam s3 (y3.2.2.1.1, (), ()) y3.2.1).bind fun q4 =>
 some (.inl ((IntKind.wrap .i64 (y3.1 + 1)), q4.2.2.1, q4.2.1, ()))) (
((zar (y3.2.2.1.1, (), ()) y3.2.1).bind fun q5 =>
 some q5.1).map .inr)
def zc1 (a0 : List vV1) : Option (List UInt8) :=
 loopT (zc1_l3 a0) (0, [], (false, (), ()), ())
def zc1_T : TFn := { ps := (.cons (.sl tT11) .unit), res := .str, fn := fun v => zc1 v.1 }
def zc1_V : TEnv := { pure := [(38, zct_T)], look := [], glob := G0T, ty := [], raw := [(86, zam_R), (87, zar_R)], fresh := [] }
theorem zc1_eq : runY Tryz.prog zc1_E zc1_H zc1_V zc1_Y Tryz.f41 zc1_T.ps zc1_T.res = zc1_T.fn := by kernel_rfl
theorem zc1_Fok : SoundP Tryz.prog G0 41 zc1_F := closeF_sound (runF_sound ⟨same_ok, (envP_cons zct_Fok envP_nil), (envS_cons zam_Sok (envS_cons zar_Sok envS_nil)), envP_nil, envX_nil⟩ Tryz.func41 rfl (by kernel_rfl))
theorem zc1_ok : TOk zc1_F zc1_T := runY_ok (E := zc1_E) (ET := zc1_V) (EnvT.ofX (pure_of (pairs_cons zct_ok pairs_nil)) looks_nil (raws_cons zam_ok rfl rfl (raws_cons zar_ok rfl rfl raws_nil)) G0_ok news_nil) zc1_eq rfl
def zco_E : Env := (eZ [(39, zcb_F)] [188])
def zco_H : Hints := (hZ [(3, [0, 3, 4])] [])
def zco_F : PFn := closeF (runF Tryz.prog zco_E zco_H Tryz.f42)
def zco_Y : TH := { loops := [(3, { keep := [(3, .str), (4, (.int .i64))], mem := [] })], ro := [] }
def zco_l3 (a0 : List vV1) (y3 : (List UInt8 × Int × Unit)) : Option ((List UInt8 × Int × Unit) ⊕ List UInt8) :=
 cond (decide (y3.2.1 < (a0.length : Int))) (
(atI a0 y3.2.1).bind fun x1 =>
(zcb x1).bind fun r2 =>
(catT y3.1 r2).bind fun s3 =>
(catT s3 [10]).bind fun s4 =>
 some (.inl (s4, (IntKind.wrap .i64 (y3.2.1 + 1)), ()))) (
 some (.inr y3.1))
def zco (a0 : List vV1) : Option (List UInt8) :=
 loopT (zco_l3 a0) ([], 0, ())
def zco_T : TFn := { ps := (.cons (.sl tT11) .unit), res := .str, fn := fun v => zco v.1 }
def zco_V : TEnv := (vZ [(39, zcb_T)])
theorem zco_eq : runY Tryz.prog zco_E zco_H zco_V zco_Y Tryz.f42 zco_T.ps zco_T.res = zco_T.fn := by kernel_rfl
theorem zco_Fok : SoundP Tryz.prog G0 42 zco_F := closeF_sound (runF_sound ⟨same_ok, (envP_cons zcb_Fok envP_nil), envS_nil, envP_nil, envX_nil⟩ Tryz.func42 rfl (by kernel_rfl))
theorem zco_ok : TOk zco_F zco_T := runY_ok (E := zco_E) (ET := zco_V) (EnvT.ofX (pure_of (pairs_cons zcb_ok pairs_nil)) looks_nil raws_nil G0_ok news_nil) zco_eq rfl
def zc2_E : Env := (eZ [] [188])
def zc2_H : Hints := (hZ [] [])
def zc2_F : PFn := closeF (runF Tryz.prog zc2_E zc2_H Tryz.f75)
def zc2_Y : TH := yZ
def zc2 (a0 : Int) : Option vV3 :=
 some (1, a0, [], ())
def zc2_T : TFn := { ps := tT12, res := tT10, fn := fun v => zc2 v.1 }
def zc2_V : TEnv := (vZ [])
theorem zc2_eq : runY Tryz.prog zc2_E zc2_H zc2_V zc2_Y Tryz.f75 zc2_T.ps zc2_T.res = zc2_T.fn := by kernel_rfl
theorem zc2_Fok : SoundP Tryz.prog G0 75 zc2_F := closeF_sound (runF_sound ⟨same_ok, envP_nil, envS_nil, envP_nil, envX_nil⟩ Tryz.func75 rfl (by kernel_rfl))
theorem zc2_ok : TOk zc2_F zc2_T := runY_ok (E := zc2_E) (ET := zc2_V) (EnvT.ofX (pure_of pairs_nil) looks_nil raws_nil G0_ok news_nil) zc2_eq rfl
def zb1_E : Env := (eZ [(14, zc9_F), (34, zdc_F), (41, zc1_F), (75, zc2_F)] [188])
def zb1_H : Hints := (hZ [] [])
def zb1_F : PFn := closeF (runF Tryz.prog zb1_E zb1_H Tryz.f35)
def zb1_Y : TH := yZ
def zb1 : Option Bool :=
(zc2 2).bind fun r1 =>
(zc2 1).bind fun r2 =>
(zc9 ([((0, 1, ()), 0, 1, false, ([(1, ([[97]] : List (List UInt8)), (r1.1, r1.2.1, r1.2.2.1, ()), 0, [], ()), (1, ([[97]] : List (List UInt8)), (r2.1, r2.2.1, r2.2.2.1, ()), 0, [], ())] : List vV0), ())] : List vV5) []).bind fun r3 =>
(zdc r3).bind fun r4 =>
(zc1 r4).bind fun r5 =>
 some (decide (r5 = [97, 32, 61, 32, 49, 32, 50, 10]))
def zb1_T : TFn := { ps := .unit, res := .bool, fn := fun v => zb1  }
def zb1_V : TEnv := { pure := [(14, zc9_T), (34, zdc_T), (41, zc1_T), (75, zc2_T)], look := [], glob := G0T, ty := [(9, .str), (29, tT8), (51, tT13)], raw := [], fresh := [] }
theorem zb1_eq : runY Tryz.prog zb1_E zb1_H zb1_V zb1_Y Tryz.f35 zb1_T.ps zb1_T.res = zb1_T.fn := by kernel_rfl
theorem zb1_Fok : SoundP Tryz.prog G0 35 zb1_F := closeF_sound (runF_sound ⟨same_ok, (envP_cons zc9_Fok (envP_cons zdc_Fok (envP_cons zc1_Fok (envP_cons zc2_Fok envP_nil)))), envS_nil, envP_nil, envX_nil⟩ Tryz.func35 rfl (by kernel_rfl))
theorem zb1_ok : TOk zb1_F zb1_T := runY_ok (E := zb1_E) (ET := zb1_V) (EnvT.ofX (pure_of (pairs_cons zc9_ok (pairs_cons zdc_ok (pairs_cons zc1_ok (pairs_cons zc2_ok pairs_nil))))) looks_nil raws_nil G0_ok news_nil) zb1_eq rfl
def zaw_E : Env := (eZ [(10, zcd_F), (14, zc9_F), (16, zcz_F), (24, zbr_F), (28, zb6_F), (33, zcu_F), (34, zdc_F), (35, zb1_F), (36, zc6_F), (37, zdb_F), (38, zct_F), (39, zcb_F), (40, zbg_F), (41, zc1_F), (42, zco_F), (43, zda_F)] [188])
def zaw_H : Hints := (hZ [(7, [2, 3, 10, 11, 12, 13, 14])] [])
def zaw_F : PFn := closeF (runF Tryz.prog zaw_E zaw_H Tryz.f7)
def zaw_Y : TH := { joins := [(11, { keep := [(13, (.bx 0 0))], mem := [.box 68 tT11] })], loops := [(7, { keep := [(13, (.bx 0 0)), (14, (.int .i64))], mem := [.box 68 tT11] })], cuts := [(11, [(11, { keep := [(13, (.bx 0 0)), (72, .bool)], mem := [.box 68 tT11] }), (5, { keep := [(13, (.bx 0 0)), (77, .bool)], mem := [.box 68 tT11] })])], ro := [], news := [] }
def zaw_l7 (r7 : List vV1) (r8 : List vV1) (y7 : (Int × vV1 × Unit)) : Option ((Int × vV1 × Unit) ⊕ ((vV1 × Unit) ⊕ Bool)) :=
 cond (decide (y7.1 < (r7.length : Int))) (cond (decide (y7.1 < (r8.length : Int))) (
(atI r7 y7.1).bind fun x10 =>
(zct x10).bind fun r11 =>
(atI r8 y7.1).bind fun x12 =>
(zcb x12).bind fun r13 =>
 cond (!decide (r11 = r13)) (
 some (.inr (.inr false))) (
 some (.inl ((IntKind.wrap .i64 (y7.1 + 1)), y7.2.1, ())))) (
 some (.inr (.inl (y7.2.1, ()))))) (some (.inr (.inl (y7.2.1, ()))))
def zaw (a0 : List vV5) (a1 : List vV2) (a2 : List (List UInt8)) (a3 : Int) : Option Bool :=
(zcd a0 a1).bind fun r1 =>
 cond (!r1) ((zb1).bind fun r2 =>
 some r2) ((zbr a2).bind fun r3 =>
 cond (!r3) (
(zb1).bind fun r4 =>
 some r4) (
(zc9 a0 a1).bind fun r5 =>
(zcz a0 a1).bind fun r6 =>
(zdc r5).bind fun r7 =>
(zc6 r6).bind fun r8 =>
(zdb r5 a2 a3).bind fun r9 =>
(loopT (zaw_l7 r7 r8) (0, r9, ()) : Option ((vV1 × Unit) ⊕ Bool)).bind (joinS fun v14 =>
((zbg r7).bind fun r15 =>
(zb6 r15 r8).bind fun r16 =>
 cond r16 ((zc1 r7).bind fun r17 =>
(zco r8).bind fun r18 =>
 some ((decide (r17 = r18)), v14.1, ())) (some (false, v14.1, ())) : Option (Bool × vV1 × Unit)).bind fun v19 =>
(cond v19.1 ((zcu r7 r7).bind fun r20 =>
 some (r20, v19.2.1, ())) (some (false, v19.2.1, ())) : Option (Bool × vV1 × Unit)).bind fun v21 =>
 cond v21.1 ((zbg ([v21.2.1] : List vV1)).bind fun r22 =>
(zda r6 a2 a3).bind fun r23 =>
(zb6 r22 ([r23] : List vV1)).bind fun r24 =>
 cond r24 ((zb1).bind fun r25 =>
 some r25) (some false)) (some false))))
def zaw_T : TFn := { ps := (.cons (.sl tT13) (.cons (.sl tT9) (.cons (.sl .str) tT12))), res := .bool, fn := fun v => zaw v.1 v.2.1 v.2.2.1 v.2.2.2.1 }
def zaw_V : TEnv := { pure := [(10, zcd_T), (14, zc9_T), (16, zcz_T), (24, zbr_T), (28, zb6_T), (33, zcu_T), (34, zdc_T), (35, zb1_T), (36, zc6_T), (37, zdb_T), (38, zct_T), (39, zcb_T), (40, zbg_T), (41, zc1_T), (42, zco_T), (43, zda_T)], look := [], glob := G0T, ty := [(68, tT11), (77, tT11)], raw := [], fresh := [] }
theorem zaw_eq : runY Tryz.prog zaw_E zaw_H zaw_V zaw_Y Tryz.f7 zaw_T.ps zaw_T.res = zaw_T.fn := by kernel_rfl
theorem zaw_Fok : SoundP Tryz.prog G0 7 zaw_F := closeF_sound (runF_sound ⟨same_ok, (envP_cons zcd_Fok (envP_cons zc9_Fok (envP_cons zcz_Fok (envP_cons zbr_Fok (envP_cons zb6_Fok (envP_cons zcu_Fok (envP_cons zdc_Fok (envP_cons zb1_Fok (envP_cons zc6_Fok (envP_cons zdb_Fok (envP_cons zct_Fok (envP_cons zcb_Fok (envP_cons zbg_Fok (envP_cons zc1_Fok (envP_cons zco_Fok (envP_cons zda_Fok envP_nil)))))))))))))))), envS_nil, envP_nil, envX_nil⟩ Tryz.func7 rfl (by kernel_rfl))
theorem zaw_ok : TOk zaw_F zaw_T := runY_ok (E := zaw_E) (ET := zaw_V) (EnvT.ofX (pure_of (pairs_cons zcd_ok (pairs_cons zc9_ok (pairs_cons zcz_ok (pairs_cons zbr_ok (pairs_cons zb6_ok (pairs_cons zcu_ok (pairs_cons zdc_ok (pairs_cons zb1_ok (pairs_cons zc6_ok (pairs_cons zdb_ok (pairs_cons zct_ok (pairs_cons zcb_ok (pairs_cons zbg_ok (pairs_cons zc1_ok (pairs_cons zco_ok (pairs_cons zda_ok pairs_nil))))))))))))))))) looks_nil raws_nil G0_ok news_nil) zaw_eq rfl
end
end Go.Proofs.YtgfpkhlabdcbmaaGreatDoor.Y
