import Derived.Test.YtgfpkhlabdcbmaaGreatDoorS
import Derived.Test.YtgfpkhlabdcbmaaGreatDoorT29
import GoSem.PinnedTables
set_option linter.unusedVariables false
set_option maxRecDepth 100000
namespace Go.Proofs.YtgfpkhlabdcbmaaGreatDoor.Y
open Go.EM Go.TY Go.Proofs
theorem zb.{u, v} {A : Type u} {B : Type v} (a : A) (f : A → Option B) : (some a).bind f = f a := rfl
theorem zg.{u} {A : Type u} {l : List A} {i : Nat} (h : i < l.length) : l[i]? = some l[i] := List.getElem?_eq_getElem h
theorem zl.{u} {A : Type u} {a : A} {l : List A} : (a :: l).length = l.length + 1 := rfl
theorem zf {p : Prop} [Decidable p] (h : ¬p) : decide p = false := decide_eq_false h
theorem zn.{u} {c : Prop} {h : Decidable c} (hc : ¬c) {A : Sort u} {t e : A} : ite c t e = e := if_neg hc
theorem zp.{u} {c : Prop} {h : Decidable c} (hc : c) {A : Sort u} {t e : A} : ite c t e = t := if_pos hc
theorem zm.{u} {A : Type u} {l : List A} {n : Nat} (h : n < l.length) : l[n] ∈ l := List.getElem_mem h
theorem zt {p : Prop} [Decidable p] (h : p) : decide p = true := decide_eq_true h
noncomputable section
def tabFirst : List Int := Go.Pinned.utf8FirstZ.map fun (n : Nat) => (n : Int)
def tabAccept : List (Int × Int × Unit) := [(128, 191, ()), (160, 191, ()), (128, 159, ()), (144, 191, ()), (128, 143, ()), (0, 0, ()), (0, 0, ()), (0, 0, ()), (0, 0, ()), (0, 0, ()), (0, 0, ()), (0, 0, ()), (0, 0, ()), (0, 0, ()), (0, 0, ()), (0, 0, ())]
def G0 : List (Nat × AVal) := [(0, .rptr (tabFirst.map (AVal.int .u8))), (1, .rptr (tabAccept.flatMap fun p => [AVal.int .u8 p.1, AVal.int .u8 p.2.1]))]
def G0T : List (Nat × TV) := [(0, ⟨.rp (.arr 256 (.int .u8)) 0, tabFirst⟩), (1, ⟨.rp (.arr 16 (.agg (.cons (.int .u8) (.cons (.int .u8) .unit)))) 0, tabAccept⟩)]
theorem G0_ok : GlobsOk G0 G0T := globs_cons rfl rfl (glob_ints (by kernel_rfl)) (globs_cons rfl rfl (glob_pairs (by kernel_rfl)) globs_nil)
theorem same_ok : ∀ f, memN f [188] = true → Same Tryz.prog f := by
 intro f h
 by_cases e188 : f = 188
 · subst e188; exact ⟨Tryz.f188, Tryz.func188, by kernel_rfl, by kernel_rfl, by kernel_rfl, by kernel_rfl⟩
 simp_all [memN]
def eZ (l : List (Nat × PFn)) (s : List Nat) : Env := { pure := l, raw := [], glob := G0, same := s, look := [], ext := [] }
def vZ (l : List (Nat × TFn)) : TEnv := { pure := l, look := [], glob := G0T, ty := [], raw := [], fresh := [] }
def hZ (l : List (Nat × List Nat)) (o : List Nat) : Hints := { seqs := [], loops := l, own := o }
def yZ : TH := { joins := [], loops := [], cuts := [], ro := [], news := [] }
abbrev vV0 := (((Int × Int × Unit) × Int × Unit) × (Int × List (List UInt8) × (Int × Int × List UInt8 × Unit) × Int × List ((Int × Int × Unit) × Int × Unit) × Unit) × Int × Unit)
abbrev vV1 := ((Int × Int × Unit) × Int × Int × Bool × List (Int × List (List UInt8) × (Int × Int × List UInt8 × Unit) × Int × List ((Int × Int × Unit) × Int × Unit) × Unit) × Unit)
abbrev vV2 := (Int × Int × List UInt8 × Unit)
abbrev vV3 := (List (List UInt8) × Int × Unit)
abbrev vV4 := ((Int × Int × Unit) × Int × Unit)
abbrev vV5 := (List (List UInt8) × Int × List vV2 × Int × Unit)
abbrev vV6 := (List (List UInt8) × List (List UInt8) × Unit)
abbrev vV7 := (Int × List (List UInt8) × vV2 × Int × List vV4 × Unit)
abbrev vV8 := (Int × List vV3 × Unit)
abbrev vV9 := (Int × List (vV4 × Bool) × Unit)
abbrev tT10 : Ty := (.agg (.cons (.agg (.cons (.agg (.cons (.int .i64) (.cons (.int .i64) .unit))) (.cons (.int .i64) .unit))) (.cons (.agg (.cons (.int .i64) (.cons (.sl .str) (.cons (.agg (.cons (.int .i64) (.cons (.int .i64) (.cons .str .unit)))) (.cons (.int .i64) (.cons (.sl (.agg (.cons (.agg (.cons (.int .i64) (.cons (.int .i64) .unit))) (.cons (.int .i64) .unit)))) .unit)))))) (.cons (.int .i64) .unit))))
abbrev tT11 : Ty := (.agg (.cons (.agg (.cons (.int .i64) (.cons (.int .i64) .unit))) (.cons (.int .i64) .unit)))
abbrev tT12 : Ty := (.agg (.cons (.int .i64) (.cons (.int .i64) (.cons .str .unit))))
abbrev tT13 : Ty := (.agg (.cons (.agg (.cons (.int .i64) (.cons (.int .i64) .unit))) (.cons (.int .i64) (.cons (.int .i64) (.cons .bool (.cons (.sl (.agg (.cons (.int .i64) (.cons (.sl .str) (.cons tT12 (.cons (.int .i64) (.cons (.sl tT11) .unit))))))) .unit))))))
abbrev tT14 : Ty := (.agg (.cons (.sl .str) (.cons (.int .i64) .unit)))
abbrev tT15 : Ty := (.agg (.cons (.sl .str) (.cons (.int .i64) (.cons (.sl tT12) (.cons (.int .i64) .unit)))))
abbrev tT16 : Ty := (.cons (.int .i64) (.cons (.int .i64) .unit))
abbrev tT17 : Ty := (.cons (.sl .str) .unit)
abbrev tT18 : Ty := (.agg (.cons (.int .i64) (.cons (.sl .str) (.cons tT12 (.cons (.int .i64) (.cons (.sl tT11) .unit))))))
def zcf_E : Env := (eZ [] [188])
def zcf_H : Hints := (hZ [] [])
def zcf_F : PFn := closeF (runF Tryz.prog zcf_E zcf_H Tryz.f111)
def zcf_Y : TH := yZ
def zcf (a0 : Int) (a1 : Int) : Option Int :=
 cond (decide (a0 < a1)) (
 some (-1)) (
 cond (decide (a0 > a1)) (
 some 1) (
 some 0))
def zcf_T : TFn := { ps := tT16, res := (.int .i64), fn := fun v => zcf v.1 v.2.1 }
def zcf_V : TEnv := (vZ [])
theorem zcf_eq : runY Tryz.prog zcf_E zcf_H zcf_V zcf_Y Tryz.f111 zcf_T.ps zcf_T.res = zcf_T.fn := by kernel_rfl
theorem zcf_Fok : SoundP Tryz.prog G0 111 zcf_F := closeF_sound (runF_sound ⟨same_ok, envP_nil, envS_nil, envP_nil, envX_nil⟩ Tryz.func111 rfl (by kernel_rfl))
theorem zcf_ok : TOk zcf_F zcf_T := runY_ok (E := zcf_E) (ET := zcf_V) (EnvT.ofX (pure_of pairs_nil) looks_nil raws_nil G0_ok news_nil) zcf_eq rfl
def zaw_E : Env := (eZ [(111, zcf_F)] [188])
def zaw_H : Hints := (hZ [] [])
def zaw_F : PFn := closeF (runF Tryz.prog zaw_E zaw_H Tryz.f110)
def zaw_Y : TH := { loops := [], ro := [2, 3] }
def zaw (a0 : (Int × Int × Unit)) (a1 : (Int × Int × Unit)) : Option Int :=
 cond (!decide (a0.1 = a1.1)) (
(zcf a0.1 a1.1).bind fun r1 =>
 some r1) (
(zcf a0.2.1 a1.2.1).bind fun r2 =>
 some r2)
def zaw_T : TFn := { ps := (.cons (.agg tT16) (.cons (.agg tT16) .unit)), res := (.int .i64), fn := fun v => zaw v.1 v.2.1 }
def zaw_V : TEnv := (vZ [(111, zcf_T)])
theorem zaw_eq : runY Tryz.prog zaw_E zaw_H zaw_V zaw_Y Tryz.f110 zaw_T.ps zaw_T.res = zaw_T.fn := by kernel_rfl
theorem zaw_Fok : SoundP Tryz.prog G0 110 zaw_F := closeF_sound (runF_sound ⟨same_ok, (envP_cons zcf_Fok envP_nil), envS_nil, envP_nil, envX_nil⟩ Tryz.func110 rfl (by kernel_rfl))
theorem zaw_ok : TOk zaw_F zaw_T := runY_ok (E := zaw_E) (ET := zaw_V) (EnvT.ofX (pure_of (pairs_cons zcf_ok pairs_nil)) looks_nil raws_nil G0_ok news_nil) zaw_eq rfl
def zbz_E : Env := (eZ [(110, zaw_F)] [188])
def zbz_H : Hints := (hZ [(2, [0, 3])] [])
def zbz_F : PFn := closeF (runF Tryz.prog zbz_E zbz_H Tryz.f93)
def zbz_Y : TH := { loops := [(2, { keep := [(3, (.int .i64))], mem := [] })], ro := [] }
def zbz_l2 (a0 : List vV1) (y2 : (Int × Unit)) : Option ((Int × Unit) ⊕ Bool) :=
 cond (decide (y2.1 < (a0.length : Int))) (
(atI a0 (IntKind.wrap .i64 (y2.1 - 1))).bind fun x1 =>
(atI a0 y2.1).bind fun x2 =>
(zaw x1.1 x2.1).bind fun r3 =>
 cond (!decide (r3 = (-1))) (
 some (.inr false)) (
 some (.inl ((IntKind.wrap .i64 (y2.1 + 1)), ())))) (
 some (.inr true))
def zbz (a0 : List vV1) : Option Bool :=
 loopT (zbz_l2 a0) (1, ())
def zbz_T : TFn := { ps := (.cons (.sl tT13) .unit), res := .bool, fn := fun v => zbz v.1 }
def zbz_V : TEnv := (vZ [(110, zaw_T)])
theorem zbz_eq : runY Tryz.prog zbz_E zbz_H zbz_V zbz_Y Tryz.f93 zbz_T.ps zbz_T.res = zbz_T.fn := by kernel_rfl
theorem zbz_Fok : SoundP Tryz.prog G0 93 zbz_F := closeF_sound (runF_sound ⟨same_ok, (envP_cons zaw_Fok envP_nil), envS_nil, envP_nil, envX_nil⟩ Tryz.func93 rfl (by kernel_rfl))
theorem zbz_ok : TOk zbz_F zbz_T := runY_ok (E := zbz_E) (ET := zbz_V) (EnvT.ofX (pure_of (pairs_cons zaw_ok pairs_nil)) looks_nil raws_nil G0_ok news_nil) zbz_eq rfl
def zbj_E : Env := (eZ [] [188])
def zbj_H : Hints := (hZ [(4, [0, 3])] [])
def zbj_F : PFn := closeF (runF Tryz.prog zbj_E zbj_H Tryz.f24)
def zbj_Y : TH := { loops := [(4, { keep := [(3, (.int .i64))], mem := [] })], ro := [] }
def zbj_l4 (a0 : List (List UInt8)) (y4 : (Int × Unit)) : Option ((Int × Unit) ⊕ Bool) :=
 cond (decide (y4.1 < (a0.length : Int))) (
(atI a0 y4.1).bind fun x1 =>
 cond (decide ((x1.length : Int) > 120)) (
 some (.inr false)) (
 some (.inl ((IntKind.wrap .i64 (y4.1 + 1)), ())))) (
 some (.inr true))
def zbj (a0 : List (List UInt8)) : Option Bool :=
 cond (decide ((a0.length : Int) > 12)) (
 some false) (
 loopT (zbj_l4 a0) (0, ()))
def zbj_T : TFn := { ps := tT17, res := .bool, fn := fun v => zbj v.1 }
def zbj_V : TEnv := (vZ [])
theorem zbj_eq : runY Tryz.prog zbj_E zbj_H zbj_V zbj_Y Tryz.f24 zbj_T.ps zbj_T.res = zbj_T.fn := by kernel_rfl
theorem zbj_Fok : SoundP Tryz.prog G0 24 zbj_F := closeF_sound (runF_sound ⟨same_ok, envP_nil, envS_nil, envP_nil, envX_nil⟩ Tryz.func24 rfl (by kernel_rfl))
theorem zbj_ok : TOk zbj_F zbj_T := runY_ok (E := zbj_E) (ET := zbj_V) (EnvT.ofX (pure_of pairs_nil) looks_nil raws_nil G0_ok news_nil) zbj_eq rfl
def zbp_E : Env := (eZ [(24, zbj_F)] [188])
def zbp_H : Hints := (hZ [] [])
def zbp_F : PFn := closeF (runF Tryz.prog zbp_E zbp_H Tryz.f11)
def zbp_Y : TH := { loops := [], ro := [1] }
def zbp (a0 : vV7) : Option Bool :=
(zbj a0.2.1).bind fun r1 =>
 cond r1 (cond (decide ((a0.2.2.1.2.2.1.length : Int) ≤ 200)) (some (decide ((a0.2.2.2.2.1.length : Int) ≤ 300))) (some false)) (some false)
def zbp_T : TFn := { ps := (.cons tT18 .unit), res := .bool, fn := fun v => zbp v.1 }
def zbp_V : TEnv := (vZ [(24, zbj_T)])
theorem zbp_eq : runY Tryz.prog zbp_E zbp_H zbp_V zbp_Y Tryz.f11 zbp_T.ps zbp_T.res = zbp_T.fn := by kernel_rfl
theorem zbp_Fok : SoundP Tryz.prog G0 11 zbp_F := closeF_sound (runF_sound ⟨same_ok, (envP_cons zbj_Fok envP_nil), envS_nil, envP_nil, envX_nil⟩ Tryz.func11 rfl (by kernel_rfl))
theorem zbp_ok : TOk zbp_F zbp_T := runY_ok (E := zbp_E) (ET := zbp_V) (EnvT.ofX (pure_of (pairs_cons zbj_ok pairs_nil)) looks_nil raws_nil G0_ok news_nil) zbp_eq rfl
def zbl_E : Env := (eZ [(11, zbp_F)] [188])
def zbl_H : Hints := (hZ [(4, [1, 3])] [])
def zbl_F : PFn := closeF (runF Tryz.prog zbl_E zbl_H Tryz.f94)
def zbl_Y : TH := { loops := [(4, { keep := [(1, (.bx 0 0)), (3, (.int .i64))], mem := [.same] })], ro := [1] }
def zbl_l4 (a0 : vV1) (y4 : (Int × Unit)) : Option ((Int × Unit) ⊕ Bool) :=
 cond (decide (y4.1 < (a0.2.2.2.2.1.length : Int))) (
(atI a0.2.2.2.2.1 y4.1).bind fun x1 =>
(zbp x1).bind fun r2 =>
 cond (!r2) (
 some (.inr false)) (
 some (.inl ((IntKind.wrap .i64 (y4.1 + 1)), ())))) (
 some (.inr true))
def zbl (a0 : vV1) : Option Bool :=
 cond (decide ((a0.2.2.2.2.1.length : Int) > 20)) (
 some false) (
 loopT (zbl_l4 a0) (0, ()))
def zbl_T : TFn := { ps := (.cons tT13 .unit), res := .bool, fn := fun v => zbl v.1 }
def zbl_V : TEnv := (vZ [(11, zbp_T)])
theorem zbl_eq : runY Tryz.prog zbl_E zbl_H zbl_V zbl_Y Tryz.f94 zbl_T.ps zbl_T.res = zbl_T.fn := by kernel_rfl
theorem zbl_Fok : SoundP Tryz.prog G0 94 zbl_F := closeF_sound (runF_sound ⟨same_ok, (envP_cons zbp_Fok envP_nil), envS_nil, envP_nil, envX_nil⟩ Tryz.func94 rfl (by kernel_rfl))
theorem zbl_ok : TOk zbl_F zbl_T := runY_ok (E := zbl_E) (ET := zbl_V) (EnvT.ofX (pure_of (pairs_cons zbp_ok pairs_nil)) looks_nil raws_nil G0_ok news_nil) zbl_eq rfl
def zbr_E : Env := (eZ [] [188])
def zbr_H : Hints := (hZ [] [])
def zbr_F : PFn := closeF (runF Tryz.prog zbr_E zbr_H Tryz.f116)
def zbr_Y : TH := { loops := [], ro := [1] }
def zbr (a0 : (Int × Int × Unit)) : Option Bool :=
 cond (decide (a0.1 ≥ 0)) (cond (decide (a0.1 ≤ 15)) (cond (decide (a0.2.1 ≥ 1)) (some (decide (a0.2.1 ≤ 1048576))) (some false)) (some false)) (some false)
def zbr_T : TFn := { ps := (.cons (.agg tT16) .unit), res := .bool, fn := fun v => zbr v.1 }
def zbr_V : TEnv := (vZ [])
theorem zbr_eq : runY Tryz.prog zbr_E zbr_H zbr_V zbr_Y Tryz.f116 zbr_T.ps zbr_T.res = zbr_T.fn := by kernel_rfl
theorem zbr_Fok : SoundP Tryz.prog G0 116 zbr_F := closeF_sound (runF_sound ⟨same_ok, envP_nil, envS_nil, envP_nil, envX_nil⟩ Tryz.func116 rfl (by kernel_rfl))
theorem zbr_ok : TOk zbr_F zbr_T := runY_ok (E := zbr_E) (ET := zbr_V) (EnvT.ofX (pure_of pairs_nil) looks_nil raws_nil G0_ok news_nil) zbr_eq rfl
def zcb_E : Env := (eZ [] [188])
def zcb_H : Hints := (hZ [(17, [0, 4, 5, 6, 7])] [])
def zcb_F : PFn := closeF (runF Tryz.prog zcb_E zcb_H Tryz.f160)
def zcb_Y : TH := { joins := [(14, { keep := [(4, (.int .i64)), (5, (.int .i64)), (6, (.int .i64))], mem := [] }), (9, { keep := [(18, .bool)], mem := [] }), (22, { keep := [(4, (.int .i64))], mem := [] }), (24, { keep := [], mem := [] })], loops := [(17, { keep := [(4, (.int .i64)), (7, (.int .i64))], mem := [] })], ro := [] }
def zcb_l17 (a0 : List UInt8) (v3 : (Int × Int × Int × Unit)) (y17 : (Int × Int × Unit)) : Option ((Int × Int × Unit) ⊕ ((Int × Unit) ⊕ (Int × Int × Unit))) :=
 cond (decide (y17.2.1 < v3.2.1)) (
(atI a0 y17.2.1).bind fun b4 =>
 cond (decide ((b4.toNat : Int) < 128)) (some (.inr (.inr (0, 0, ())))) ((atI a0 y17.2.1).bind fun b5 =>
 cond (decide ((b5.toNat : Int) > 191)) (
 some (.inr (.inr (0, 0, ())))) (
(atI a0 y17.2.1).bind fun b6 =>
 some (.inl ((IntKind.wrap .i64 ((IntKind.wrap .i64 ((IntKind.wrap .i64 (64 * y17.1)) + (IntKind.wrap .i64 (b6.toNat : Int)))) - 128)), (IntKind.wrap .i64 (y17.2.1 + 1)), ()))))) (
 some (.inr (.inl (y17.1, ()))))
def zcb (a0 : List UInt8) : Option (Int × Int × Unit) :=
 cond (decide ((a0.length : Int) = 0)) (
 some (0, 0, ())) (
(atI a0 0).bind fun b1 =>
(cond (decide ((IntKind.wrap .i64 (b1.toNat : Int)) < 128)) (
 some (.inr ((IntKind.wrap .i64 (b1.toNat : Int)), 1, ()))) (
(cond (decide ((IntKind.wrap .i64 (b1.toNat : Int)) ≥ 194)) (some (.inl ((decide ((IntKind.wrap .i64 (b1.toNat : Int)) < 224)), ()))) (some (.inl (false, ()))) : Option ((Bool × Unit) ⊕ ((Int × Int × Int × Unit) ⊕ (Int × Int × Unit)))).bind (joinS fun v2 =>
 cond v2.1 (
 some (.inl ((IntKind.wrap .i64 ((IntKind.wrap .i64 (b1.toNat : Int)) - 192)), 2, 128, ()))) (
 cond (decide ((IntKind.wrap .i64 (b1.toNat : Int)) ≥ 224)) (cond (decide ((IntKind.wrap .i64 (b1.toNat : Int)) < 240)) (
 some (.inl ((IntKind.wrap .i64 ((IntKind.wrap .i64 (b1.toNat : Int)) - 224)), 3, 2048, ()))) (
 cond (decide ((IntKind.wrap .i64 (b1.toNat : Int)) ≥ 240)) (cond (decide ((IntKind.wrap .i64 (b1.toNat : Int)) < 245)) (
 some (.inl ((IntKind.wrap .i64 ((IntKind.wrap .i64 (b1.toNat : Int)) - 240)), 4, 65536, ()))) (
 some (.inr (0, 0, ())))) (some (.inr (0, 0, ()))))) (cond (decide ((IntKind.wrap .i64 (b1.toNat : Int)) ≥ 240)) (cond (decide ((IntKind.wrap .i64 (b1.toNat : Int)) < 245)) (
 some (.inl ((IntKind.wrap .i64 ((IntKind.wrap .i64 (b1.toNat : Int)) - 240)), 4, 65536, ()))) (
 some (.inr (0, 0, ())))) (some (.inr (0, 0, ()))))))) : Option ((Int × Int × Int × Unit) ⊕ (Int × Int × Unit))).bind (joinS fun v3 =>
 cond (decide ((a0.length : Int) < v3.2.1)) (
 some (0, 0, ())) (
(loopT (zcb_l17 a0 v3) (v3.1, 1, ()) : Option ((Int × Unit) ⊕ (Int × Int × Unit))).bind (joinS fun v7 =>
(cond (decide (v7.1 < v3.2.2.1)) (some (.inr (0, 0, ()))) (cond (decide (v7.1 > 1114111)) (some (.inr (0, 0, ()))) (cond (decide (v7.1 ≥ 55296)) (cond (decide (v7.1 ≤ 57343)) (
 some (.inr (0, 0, ()))) (
 some (.inl ()))) (some (.inl ())))) : Option (Unit ⊕ (Int × Int × Unit))).bind (joinS fun v8 =>
 some (v7.1, v3.2.1, ()))))))
def zcb_T : TFn := { ps := (.cons .str .unit), res := (.tup tT16), fn := fun v => zcb v.1 }
def zcb_V : TEnv := (vZ [])
theorem zcb_eq : runY Tryz.prog zcb_E zcb_H zcb_V zcb_Y Tryz.f160 zcb_T.ps zcb_T.res = zcb_T.fn := by kernel_rfl
theorem zcb_Fok : SoundP Tryz.prog G0 160 zcb_F := closeF_sound (runF_sound ⟨same_ok, envP_nil, envS_nil, envP_nil, envX_nil⟩ Tryz.func160 rfl (by kernel_rfl))
theorem zcb_ok : TOk zcb_F zcb_T := runY_ok (E := zcb_E) (ET := zcb_V) (EnvT.ofX (pure_of pairs_nil) looks_nil raws_nil G0_ok news_nil) zcb_eq rfl
def zbt_E : Env := (eZ [(160, zcb_F)] [188])
def zbt_H : Hints := (hZ [(3, [0, 4, 5])] [])
def zbt_F : PFn := closeF (runF Tryz.prog zbt_E zbt_H Tryz.f115)
def zbt_Y : TH := { loops := [(3, { keep := [(4, (.own 0)), (5, (.int .i64))], mem := [.row true 3 (.int .i64)] })], ro := [] }
def zbt_l3 (a0 : List UInt8) (y3 : (Int × List Int × Unit)) : Option ((Int × List Int × Unit) ⊕ (List Int × Bool × Unit)) :=
 cond (decide (y3.1 < (a0.length : Int))) (
(subI a0 y3.1 (a0.length : Int)).bind fun s1 =>
(zcb s1).bind fun r2 =>
 cond (decide (r2.2.1 = 0)) (
 some (.inr ([], false, ()))) (
(roomT (y3.2.1.length + ([r2.1] : List Int).length)).bind fun u3 =>
 some (.inl ((IntKind.wrap .i64 (y3.1 + r2.2.1)), (y3.2.1 ++ ([r2.1] : List Int)), ())))) (
 some (.inr (y3.2.1, true, ())))
def zbt (a0 : List UInt8) : Option (List Int × Bool × Unit) :=
 loopT (zbt_l3 a0) (0, [], ())
def zbt_T : TFn := { ps := (.cons .str .unit), res := (.tup (.cons (.sl (.int .i64)) (.cons .bool .unit))), fn := fun v => zbt v.1 }
def zbt_V : TEnv := { pure := [(160, zcb_T)], look := [], glob := G0T, ty := [(3, (.int .i64))], raw := [], fresh := [] }
theorem zbt_eq : runY Tryz.prog zbt_E zbt_H zbt_V zbt_Y Tryz.f115 zbt_T.ps zbt_T.res = zbt_T.fn := by kernel_rfl
theorem zbt_Fok : SoundP Tryz.prog G0 115 zbt_F := closeF_sound (runF_sound ⟨same_ok, (envP_cons zcb_Fok envP_nil), envS_nil, envP_nil, envX_nil⟩ Tryz.func115 rfl (by kernel_rfl))
theorem zbt_ok : TOk zbt_F zbt_T := runY_ok (E := zbt_E) (ET := zbt_V) (EnvT.ofX (pure_of (pairs_cons zcb_ok pairs_nil)) looks_nil raws_nil G0_ok news_nil) zbt_eq rfl
def zcu_E : Env := (eZ [] [188])
def zcu_H : Hints := (hZ [] [])
def zcu_F : PFn := closeF (runF Tryz.prog zcu_E zcu_H Tryz.f159)
def zcu_Y : TH := yZ
def zcu (a0 : Int) : Option Bool :=
 cond (decide (a0 ≥ 32)) (cond (decide (a0 < 127)) (some (!decide (a0 = 65533))) (cond (decide (a0 > 159)) (some (!decide (a0 = 65533))) (some false))) (some false)
def zcu_T : TFn := { ps := (.cons (.int .i64) .unit), res := .bool, fn := fun v => zcu v.1 }
def zcu_V : TEnv := (vZ [])
theorem zcu_eq : runY Tryz.prog zcu_E zcu_H zcu_V zcu_Y Tryz.f159 zcu_T.ps zcu_T.res = zcu_T.fn := by kernel_rfl
theorem zcu_Fok : SoundP Tryz.prog G0 159 zcu_F := closeF_sound (runF_sound ⟨same_ok, envP_nil, envS_nil, envP_nil, envX_nil⟩ Tryz.func159 rfl (by kernel_rfl))
theorem zcu_ok : TOk zcu_F zcu_T := runY_ok (E := zcu_E) (ET := zcu_V) (EnvT.ofX (pure_of pairs_nil) looks_nil raws_nil G0_ok news_nil) zcu_eq rfl
def zbn_E : Env := (eZ [(115, zbt_F), (159, zcu_F)] [188])
def zbn_H : Hints := (hZ [(3, [3, 4, 5])] [])
def zbn_F : PFn := closeF (runF Tryz.prog zbn_E zbn_H Tryz.f114)
def zbn_Y : TH := { joins := [(7, { keep := [], mem := [] })], loops := [(3, { keep := [(5, (.int .i64))], mem := [] })], ro := [] }
def zbn_l3 (r1 : (List Int × Bool × Unit)) (y3 : (Int × Unit)) : Option ((Int × Unit) ⊕ (Unit ⊕ Bool)) :=
 cond (decide (y3.1 < (r1.1.length : Int))) (
(atI r1.1 y3.1).bind fun x2 =>
(zcu x2).bind fun r3 =>
 cond (!r3) (
 some (.inr (.inr false))) (
 some (.inl ((IntKind.wrap .i64 (y3.1 + 1)), ())))) (
 some (.inr (.inl ())))
def zbn (a0 : List UInt8) : Option Bool :=
(zbt a0).bind fun r1 =>
(loopT (zbn_l3 r1) (0, ()) : Option (Unit ⊕ Bool)).bind (joinS fun v4 =>
 cond r1.2.1 (cond (decide ((r1.1.length : Int) ≥ 1)) (some (decide ((r1.1.length : Int) ≤ 24))) (some false)) (some false))
def zbn_T : TFn := { ps := (.cons .str .unit), res := .bool, fn := fun v => zbn v.1 }
def zbn_V : TEnv := (vZ [(115, zbt_T), (159, zcu_T)])
theorem zbn_eq : runY Tryz.prog zbn_E zbn_H zbn_V zbn_Y Tryz.f114 zbn_T.ps zbn_T.res = zbn_T.fn := by kernel_rfl
theorem zbn_Fok : SoundP Tryz.prog G0 114 zbn_F := closeF_sound (runF_sound ⟨same_ok, (envP_cons zbt_Fok (envP_cons zcu_Fok envP_nil)), envS_nil, envP_nil, envX_nil⟩ Tryz.func114 rfl (by kernel_rfl))
theorem zbn_ok : TOk zbn_F zbn_T := runY_ok (E := zbn_E) (ET := zbn_V) (EnvT.ofX (pure_of (pairs_cons zbt_ok (pairs_cons zcu_ok pairs_nil))) looks_nil raws_nil G0_ok news_nil) zbn_eq rfl
def zbg_E : Env := (eZ [(114, zbn_F)] [188])
def zbg_H : Hints := (hZ [(6, [0, 3])] [])
def zbg_F : PFn := closeF (runF Tryz.prog zbg_E zbg_H Tryz.f59)
def zbg_Y : TH := { loops := [(6, { keep := [(3, (.int .i64))], mem := [] })], ro := [] }
def zbg_l6 (a0 : List (List UInt8)) (y6 : (Int × Unit)) : Option ((Int × Unit) ⊕ Int) :=
 cond (decide (y6.1 < (a0.length : Int))) (
(atI a0 y6.1).bind fun x1 =>
(zbn x1).bind fun r2 =>
 cond (!r2) (
 some (.inr 8)) (
 some (.inl ((IntKind.wrap .i64 (y6.1 + 1)), ())))) (
 some (.inr 0))
def zbg (a0 : List (List UInt8)) : Option Int :=
 cond (decide ((a0.length : Int) = 0)) (
 some 8) (
 cond (decide ((a0.length : Int) > 8)) (
 some 9) (
 loopT (zbg_l6 a0) (0, ())))
def zbg_T : TFn := { ps := tT17, res := (.int .i64), fn := fun v => zbg v.1 }
def zbg_V : TEnv := (vZ [(114, zbn_T)])
theorem zbg_eq : runY Tryz.prog zbg_E zbg_H zbg_V zbg_Y Tryz.f59 zbg_T.ps zbg_T.res = zbg_T.fn := by kernel_rfl
theorem zbg_Fok : SoundP Tryz.prog G0 59 zbg_F := closeF_sound (runF_sound ⟨same_ok, (envP_cons zbn_Fok envP_nil), envS_nil, envP_nil, envX_nil⟩ Tryz.func59 rfl (by kernel_rfl))
theorem zbg_ok : TOk zbg_F zbg_T := runY_ok (E := zbg_E) (ET := zbg_V) (EnvT.ofX (pure_of (pairs_cons zbn_ok pairs_nil)) looks_nil raws_nil G0_ok news_nil) zbg_eq rfl
def zb1_E : Env := (eZ [(115, zbt_F)] [188])
def zb1_H : Hints := (hZ [] [])
def zb1_F : PFn := closeF (runF Tryz.prog zb1_E zb1_H Tryz.f60)
def zb1_Y : TH := { loops := [], ro := [1] }
def zb1 (a0 : vV2) : Option Bool :=
 cond (decide (a0.1 = 1)) (
 cond (decide (a0.2.2.1 = [])) (cond (decide (a0.2.1 ≥ (-2147483647))) (some (decide (a0.2.1 ≤ 2147483647))) (some false)) (some false)) (
 cond (decide (a0.1 = 2)) (
(zbt a0.2.2.1).bind fun r1 =>
 cond (decide (a0.2.1 = 0)) (cond r1.2.1 (some (decide ((a0.2.2.1.length : Int) ≤ 64))) (some false)) (some false)) (
 cond (decide (a0.1 = 3)) (cond (decide (a0.2.2.1 = [])) (cond (decide (a0.2.1 ≥ 0)) (some (decide (a0.2.1 ≤ 1))) (some false)) (some false)) (some false)))
def zb1_T : TFn := { ps := (.cons tT12 .unit), res := .bool, fn := fun v => zb1 v.1 }
def zb1_V : TEnv := (vZ [(115, zbt_T)])
theorem zb1_eq : runY Tryz.prog zb1_E zb1_H zb1_V zb1_Y Tryz.f60 zb1_T.ps zb1_T.res = zb1_T.fn := by kernel_rfl
theorem zb1_Fok : SoundP Tryz.prog G0 60 zb1_F := closeF_sound (runF_sound ⟨same_ok, (envP_cons zbt_Fok envP_nil), envS_nil, envP_nil, envX_nil⟩ Tryz.func60 rfl (by kernel_rfl))
theorem zb1_ok : TOk zb1_F zb1_T := runY_ok (E := zb1_E) (ET := zb1_V) (EnvT.ofX (pure_of (pairs_cons zbt_ok pairs_nil)) looks_nil raws_nil G0_ok news_nil) zb1_eq rfl
def zcc_E : Env := (eZ [(110, zaw_F), (111, zcf_F)] [188])
def zcc_H : Hints := (hZ [] [])
def zcc_F : PFn := closeF (runF Tryz.prog zcc_E zcc_H Tryz.f56)
def zcc_Y : TH := { loops := [], ro := [2, 3] }
def zcc (a0 : vV4) (a1 : vV4) : Option Int :=
(zaw a0.1 a1.1).bind fun r1 =>
 cond (!decide (r1 = 0)) (
(zaw a0.1 a1.1).bind fun r2 =>
 some r2) (
(zcf a0.2.1 a1.2.1).bind fun r3 =>
 some r3)
def zcc_T : TFn := { ps := (.cons tT11 (.cons tT11 .unit)), res := (.int .i64), fn := fun v => zcc v.1 v.2.1 }
def zcc_V : TEnv := (vZ [(110, zaw_T), (111, zcf_T)])
theorem zcc_eq : runY Tryz.prog zcc_E zcc_H zcc_V zcc_Y Tryz.f56 zcc_T.ps zcc_T.res = zcc_T.fn := by kernel_rfl
theorem zcc_Fok : SoundP Tryz.prog G0 56 zcc_F := closeF_sound (runF_sound ⟨same_ok, (envP_cons zaw_Fok (envP_cons zcf_Fok envP_nil)), envS_nil, envP_nil, envX_nil⟩ Tryz.func56 rfl (by kernel_rfl))
theorem zcc_ok : TOk zcc_F zcc_T := runY_ok (E := zcc_E) (ET := zcc_V) (EnvT.ofX (pure_of (pairs_cons zaw_ok (pairs_cons zcf_ok pairs_nil))) looks_nil raws_nil G0_ok news_nil) zcc_eq rfl
def zb5_E : Env := (eZ [(56, zcc_F), (116, zbr_F)] [188])
def zb5_H : Hints := (hZ [(2, [0, 3])] [])
def zb5_F : PFn := closeF (runF Tryz.prog zb5_E zb5_H Tryz.f61)
def zb5_Y : TH := { loops := [(2, { keep := [(3, (.int .i64))], mem := [] })], ro := [] }
def zb5_l2 (a0 : List vV4) (y2 : (Int × Unit)) : Option ((Int × Unit) ⊕ Bool) :=
 cond (decide (y2.1 < (a0.length : Int))) (
(atI a0 y2.1).bind fun x1 =>
(zbr x1.1).bind fun r2 =>
 cond (!r2) (some (.inr false)) ((atI a0 y2.1).bind fun x3 =>
 cond (decide (x3.2.1 < 0)) (some (.inr false)) ((atI a0 y2.1).bind fun x4 =>
 cond (decide (x4.2.1 > 15)) (
 some (.inr false)) (
 cond (decide (y2.1 > 0)) ((atI a0 (IntKind.wrap .i64 (y2.1 - 1))).bind fun x5 =>
(atI a0 y2.1).bind fun x6 =>
(zcc x5 x6).bind fun r7 =>
 cond (!decide (r7 = (-1))) (
 some (.inr false)) (
 some (.inl ((IntKind.wrap .i64 (y2.1 + 1)), ())))) (some (.inl ((IntKind.wrap .i64 (y2.1 + 1)), ()))))))) (
 some (.inr true))
def zb5 (a0 : List vV4) : Option Bool :=
 loopT (zb5_l2 a0) (0, ())
def zb5_T : TFn := { ps := (.cons (.sl tT11) .unit), res := .bool, fn := fun v => zb5 v.1 }
def zb5_V : TEnv := (vZ [(56, zcc_T), (116, zbr_T)])
theorem zb5_eq : runY Tryz.prog zb5_E zb5_H zb5_V zb5_Y Tryz.f61 zb5_T.ps zb5_T.res = zb5_T.fn := by kernel_rfl
theorem zb5_Fok : SoundP Tryz.prog G0 61 zb5_F := closeF_sound (runF_sound ⟨same_ok, (envP_cons zcc_Fok (envP_cons zbr_Fok envP_nil)), envS_nil, envP_nil, envX_nil⟩ Tryz.func61 rfl (by kernel_rfl))
theorem zb5_ok : TOk zb5_F zb5_T := runY_ok (E := zb5_E) (ET := zb5_V) (EnvT.ofX (pure_of (pairs_cons zcc_ok (pairs_cons zbr_ok pairs_nil))) looks_nil raws_nil G0_ok news_nil) zb5_eq rfl
def zbh_E : Env := (eZ [(59, zbg_F), (60, zb1_F), (61, zb5_F)] [188])
def zbh_H : Hints := (hZ [] [])
def zbh_F : PFn := closeF (runF Tryz.prog zbh_E zbh_H Tryz.f18)
def zbh_Y : TH := { joins := [(9, { keep := [(1, (.bx 0 0))], mem := [.same, .gone] }), (11, { keep := [(1, (.bx 0 0))], mem := [.same, .gone] }), (13, { keep := [(1, (.bx 0 0))], mem := [.same, .gone] }), (15, { keep := [(1, (.bx 0 0))], mem := [.same, .gone] })], loops := [], cuts := [(11, [(8, { keep := [(1, (.bx 0 0)), (55, .bool)], mem := [.same, .gone] })])], ro := [1], news := [] }
def zbh (a0 : vV7) : Option Int :=
 cond (decide (a0.1 < 1)) (some 18) (cond (decide (a0.1 > 5)) (
 some 18) (
(zbg a0.2.1).bind fun r1 =>
 cond (!decide (r1 = 0)) (
 some r1) (
(cond (decide (a0.1 = 3)) (cond (!(eqV tT12 a0.2.2.1 (0, 0, [], ()))) (
 some (.inr 2)) (
 some (.inl ()))) (cond (decide (a0.1 = 5)) (cond (!(eqV tT12 a0.2.2.1 (0, 0, [], ()))) (
 some (.inr 2)) (
 some (.inl ()))) (some (.inl ()))) : Option (Unit ⊕ Int)).bind (joinS fun v2 =>
(cond (!decide (a0.1 = 3)) (cond (!decide (a0.1 = 5)) ((zb1 a0.2.2.1).bind fun r3 =>
 cond (!r3) (
 some (.inr 2)) (
 some (.inl ()))) (some (.inl ()))) (some (.inl ())) : Option (Unit ⊕ Int)).bind (joinS fun v4 =>
((cond (!decide (a0.1 = 3)) (some ((!decide (a0.2.2.2.1 = 0)), ())) (some (false, ())) : Option (Bool × Unit)).bind fun v5 =>
 cond v5.1 (some (.inr 2)) (cond (decide (a0.1 = 3)) (cond (decide (a0.2.2.2.1 = 0)) (some (.inr 2)) (cond (decide (a0.2.2.2.1 > 2147483647)) (some (.inr 2)) (cond (decide (a0.2.2.2.1 < (-2147483647))) (
 some (.inr 2)) (
 some (.inl ()))))) (some (.inl ()))) : Option (Unit ⊕ Int)).bind (joinS fun v6 =>
(cond (decide (a0.1 = 2)) (cond (decide ((a0.2.2.2.2.1.length : Int) > 0)) (
 some (.inr 2)) (
 some (.inl ()))) (cond (decide (a0.1 = 3)) (cond (decide ((a0.2.2.2.2.1.length : Int) > 0)) (
 some (.inr 2)) (
 some (.inl ()))) (some (.inl ()))) : Option (Unit ⊕ Int)).bind (joinS fun v7 =>
 cond (decide ((a0.2.2.2.2.1.length : Int) > 256)) (
 some 7) (
(zb5 a0.2.2.2.2.1).bind fun r8 =>
 cond (!r8) (
 some 2) (
 some 0)))))))))
def zbh_T : TFn := { ps := (.cons tT18 .unit), res := (.int .i64), fn := fun v => zbh v.1 }
def zbh_V : TEnv := (vZ [(59, zbg_T), (60, zb1_T), (61, zb5_T)])
theorem zbh_eq : runY Tryz.prog zbh_E zbh_H zbh_V zbh_Y Tryz.f18 zbh_T.ps zbh_T.res = zbh_T.fn := by kernel_rfl
theorem zbh_Fok : SoundP Tryz.prog G0 18 zbh_F := closeF_sound (runF_sound ⟨same_ok, (envP_cons zbg_Fok (envP_cons zb1_Fok (envP_cons zb5_Fok envP_nil))), envS_nil, envP_nil, envX_nil⟩ Tryz.func18 rfl (by kernel_rfl))
theorem zbh_ok : TOk zbh_F zbh_T := runY_ok (E := zbh_E) (ET := zbh_V) (EnvT.ofX (pure_of (pairs_cons zbg_ok (pairs_cons zb1_ok (pairs_cons zb5_ok pairs_nil)))) looks_nil raws_nil G0_ok news_nil) zbh_eq rfl
def zch_E : Env := (eZ [] [188])
def zch_H : Hints := (hZ [] [])
def zch_F : PFn := closeF (runF Tryz.prog zch_E zch_H Tryz.f19)
def zch_Y : TH := { loops := [], cuts := [(2, [(9, { keep := [(1, (.bx 0 0)), (3, (.bx 1 0)), (13, .bool)], mem := [.same, .box 26 tT12] })])], ro := [1], news := [] }
def zch (a0 : vV7) : Option Bool :=
(cond (decide (a0.1 = 0)) (some ((decide ((a0.2.1.length : Int) = 0)), (0, 0, [], ()), ())) (some (false, (0, 0, [], ()), ())) : Option (Bool × vV2 × Unit)).bind fun v1 =>
 cond v1.1 (cond (eqV tT12 a0.2.2.1 v1.2.1) (cond (decide (a0.2.2.2.1 = 0)) (some (decide ((a0.2.2.2.2.1.length : Int) = 0))) (some false)) (some false)) (some false)
def zch_T : TFn := { ps := (.cons tT18 .unit), res := .bool, fn := fun v => zch v.1 }
def zch_V : TEnv := (vZ [])
theorem zch_eq : runY Tryz.prog zch_E zch_H zch_V zch_Y Tryz.f19 zch_T.ps zch_T.res = zch_T.fn := by kernel_rfl
theorem zch_Fok : SoundP Tryz.prog G0 19 zch_F := closeF_sound (runF_sound ⟨same_ok, envP_nil, envS_nil, envP_nil, envX_nil⟩ Tryz.func19 rfl (by kernel_rfl))
theorem zch_ok : TOk zch_F zch_T := runY_ok (E := zch_E) (ET := zch_V) (EnvT.ofX (pure_of pairs_nil) looks_nil raws_nil G0_ok news_nil) zch_eq rfl
def zb2_E : Env := (eZ [(18, zbh_F), (19, zch_F), (116, zbr_F)] [188])
def zb2_H : Hints := (hZ [(8, [1, 3])] [])
def zb2_F : PFn := closeF (runF Tryz.prog zb2_E zb2_H Tryz.f95)
def zb2_Y : TH := { loops := [(8, { keep := [(1, (.bx 0 0)), (3, (.int .i64))], mem := [.same] })], cuts := [(1, [(9, { keep := [(1, (.bx 0 0)), (13, .bool)], mem := [.same] })])], ro := [1], news := [] }
def zb2_l8 (a0 : vV1) (y8 : (Int × Unit)) : Option ((Int × Unit) ⊕ Int) :=
 cond (decide (y8.1 < (a0.2.2.2.2.1.length : Int))) (
(atI a0.2.2.2.2.1 y8.1).bind fun x3 =>
(zbh x3).bind fun r4 =>
 cond (!decide (r4 = 0)) (cond a0.2.2.2.1 ((atI a0.2.2.2.2.1 y8.1).bind fun x5 =>
(zch x5).bind fun r6 =>
 cond (!r6) (
 some (.inr r4)) (
 some (.inl ((IntKind.wrap .i64 (y8.1 + 1)), ())))) (some (.inr r4))) (some (.inl ((IntKind.wrap .i64 (y8.1 + 1)), ())))) (
 some (.inr 0))
def zb2 (a0 : vV1) : Option Int :=
((zbr a0.1).bind fun r1 =>
 cond (!r1) (some (true, ())) (some ((decide (a0.2.1 < 0)), ())) : Option (Bool × Unit)).bind fun v2 =>
 cond v2.1 (some 2) (cond (decide (a0.2.1 > 7)) (some 2) (cond (decide (a0.2.2.1 < 1)) (some 2) (cond (decide (a0.2.2.1 > 1099511627776)) (
 some 2) (
 cond (decide ((a0.2.2.2.2.1.length : Int) = 0)) (
 some 11) (
 cond (decide ((a0.2.2.2.2.1.length : Int) > 16)) (
 some 7) (
 loopT (zb2_l8 a0) (0, ())))))))
def zb2_T : TFn := { ps := (.cons tT13 .unit), res := (.int .i64), fn := fun v => zb2 v.1 }
def zb2_V : TEnv := (vZ [(18, zbh_T), (19, zch_T), (116, zbr_T)])
theorem zb2_eq : runY Tryz.prog zb2_E zb2_H zb2_V zb2_Y Tryz.f95 zb2_T.ps zb2_T.res = zb2_T.fn := by kernel_rfl
theorem zb2_Fok : SoundP Tryz.prog G0 95 zb2_F := closeF_sound (runF_sound ⟨same_ok, (envP_cons zbh_Fok (envP_cons zch_Fok (envP_cons zbr_Fok envP_nil))), envS_nil, envP_nil, envX_nil⟩ Tryz.func95 rfl (by kernel_rfl))
theorem zb2_ok : TOk zb2_F zb2_T := runY_ok (E := zb2_E) (ET := zb2_V) (EnvT.ofX (pure_of (pairs_cons zbh_ok (pairs_cons zch_ok (pairs_cons zbr_ok pairs_nil)))) looks_nil raws_nil G0_ok news_nil) zb2_eq rfl
def zcn_E : Env := (eZ [(93, zbz_F), (94, zbl_F), (95, zb2_F)] [188])
def zcn_H : Hints := (hZ [(4, [0, 5])] [])
def zcn_F : PFn := closeF (runF Tryz.prog zcn_E zcn_H Tryz.f46)
def zcn_Y : TH := { loops := [(4, { keep := [(5, (.int .i64))], mem := [] })], ro := [] }
def zcn_l4 (a0 : List vV1) (y4 : (Int × Unit)) : Option ((Int × Unit) ⊕ Bool) :=
 cond (decide (y4.1 < (a0.length : Int))) (
(atI a0 y4.1).bind fun x2 =>
(zbl x2).bind fun r3 =>
 cond (!r3) (some (.inr false)) ((atI a0 y4.1).bind fun x4 =>
(zb2 x4).bind fun r5 =>
 cond (!decide (r5 = 0)) (
 some (.inr false)) (
 some (.inl ((IntKind.wrap .i64 (y4.1 + 1)), ()))))) (
 some (.inr true))
def zcn (a0 : List vV1) (a1 : Int) : Option Bool :=
 cond (decide ((a0.length : Int) > a1)) (some false) ((zbz a0).bind fun r1 =>
 cond (!r1) (
 some false) (
 loopT (zcn_l4 a0) (0, ())))
def zcn_T : TFn := { ps := (.cons (.sl tT13) (.cons (.int .i64) .unit)), res := .bool, fn := fun v => zcn v.1 v.2.1 }
def zcn_V : TEnv := (vZ [(93, zbz_T), (94, zbl_T), (95, zb2_T)])
theorem zcn_eq : runY Tryz.prog zcn_E zcn_H zcn_V zcn_Y Tryz.f46 zcn_T.ps zcn_T.res = zcn_T.fn := by kernel_rfl
theorem zcn_Fok : SoundP Tryz.prog G0 46 zcn_F := closeF_sound (runF_sound ⟨same_ok, (envP_cons zbz_Fok (envP_cons zbl_Fok (envP_cons zb2_Fok envP_nil))), envS_nil, envP_nil, envX_nil⟩ Tryz.func46 rfl (by kernel_rfl))
theorem zcn_ok : TOk zcn_F zcn_T := runY_ok (E := zcn_E) (ET := zcn_V) (EnvT.ofX (pure_of (pairs_cons zbz_ok (pairs_cons zbl_ok (pairs_cons zb2_ok pairs_nil)))) looks_nil raws_nil G0_ok news_nil) zcn_eq rfl
def zct_E : Env := (eZ [(116, zbr_F)] [188])
def zct_H : Hints := (hZ [] [])
def zct_F : PFn := closeF (runF Tryz.prog zct_E zct_H Tryz.f151)
def zct_Y : TH := { loops := [], ro := [1] }
def zct (a0 : vV4) : Option Bool :=
(zbr a0.1).bind fun r1 =>
 cond r1 (cond (decide (a0.2.1 ≥ 1)) (some (decide (a0.2.1 ≤ 64))) (some false)) (some false)
def zct_T : TFn := { ps := (.cons tT11 .unit), res := .bool, fn := fun v => zct v.1 }
def zct_V : TEnv := (vZ [(116, zbr_T)])
theorem zct_eq : runY Tryz.prog zct_E zct_H zct_V zct_Y Tryz.f151 zct_T.ps zct_T.res = zct_T.fn := by kernel_rfl
theorem zct_Fok : SoundP Tryz.prog G0 151 zct_F := closeF_sound (runF_sound ⟨same_ok, (envP_cons zbr_Fok envP_nil), envS_nil, envP_nil, envX_nil⟩ Tryz.func151 rfl (by kernel_rfl))
theorem zct_ok : TOk zct_F zct_T := runY_ok (E := zct_E) (ET := zct_V) (EnvT.ofX (pure_of (pairs_cons zbr_ok pairs_nil)) looks_nil raws_nil G0_ok news_nil) zct_eq rfl
def zbw_E : Env := (eZ [(110, zaw_F), (151, zct_F)] [188])
def zbw_H : Hints := (hZ [(2, [0, 3])] [])
def zbw_F : PFn := closeF (runF Tryz.prog zbw_E zbw_H Tryz.f96)
def zbw_Y : TH := { loops := [(2, { keep := [(3, (.int .i64))], mem := [] })], ro := [] }
def zbw_l2 (a0 : List vV4) (y2 : (Int × Unit)) : Option ((Int × Unit) ⊕ Bool) :=
 cond (decide (y2.1 < (a0.length : Int))) (
(atI a0 y2.1).bind fun x1 =>
(zct x1).bind fun r2 =>
 cond (!r2) (some (.inr false)) (cond (decide (y2.1 > 0)) ((atI a0 (IntKind.wrap .i64 (y2.1 - 1))).bind fun x3 =>
(atI a0 y2.1).bind fun x4 =>
(zaw x3.1 x4.1).bind fun r5 =>
 cond (!decide (r5 = (-1))) (
 some (.inr false)) (
 some (.inl ((IntKind.wrap .i64 (y2.1 + 1)), ())))) (some (.inl ((IntKind.wrap .i64 (y2.1 + 1)), ()))))) (
 some (.inr true))
def zbw (a0 : List vV4) : Option Bool :=
 loopT (zbw_l2 a0) (0, ())
def zbw_T : TFn := { ps := (.cons (.sl tT11) .unit), res := .bool, fn := fun v => zbw v.1 }
def zbw_V : TEnv := (vZ [(110, zaw_T), (151, zct_T)])
theorem zbw_eq : runY Tryz.prog zbw_E zbw_H zbw_V zbw_Y Tryz.f96 zbw_T.ps zbw_T.res = zbw_T.fn := by kernel_rfl
theorem zbw_Fok : SoundP Tryz.prog G0 96 zbw_F := closeF_sound (runF_sound ⟨same_ok, (envP_cons zaw_Fok (envP_cons zct_Fok envP_nil)), envS_nil, envP_nil, envX_nil⟩ Tryz.func96 rfl (by kernel_rfl))
theorem zbw_ok : TOk zbw_F zbw_T := runY_ok (E := zbw_E) (ET := zbw_V) (EnvT.ofX (pure_of (pairs_cons zaw_ok (pairs_cons zct_ok pairs_nil))) looks_nil raws_nil G0_ok news_nil) zbw_eq rfl
def zcm_E : Env := (eZ [(96, zbw_F)] [188])
def zcm_H : Hints := (hZ [] [])
def zcm_F : PFn := closeF (runF Tryz.prog zcm_E zcm_H Tryz.f47)
def zcm_Y : TH := yZ
def zcm (a0 : List vV4) : Option Bool :=
 cond (decide ((a0.length : Int) ≤ 100)) ((zbw a0).bind fun r1 =>
 some r1) (some false)
def zcm_T : TFn := { ps := (.cons (.sl tT11) .unit), res := .bool, fn := fun v => zcm v.1 }
def zcm_V : TEnv := (vZ [(96, zbw_T)])
theorem zcm_eq : runY Tryz.prog zcm_E zcm_H zcm_V zcm_Y Tryz.f47 zcm_T.ps zcm_T.res = zcm_T.fn := by kernel_rfl
theorem zcm_Fok : SoundP Tryz.prog G0 47 zcm_F := closeF_sound (runF_sound ⟨same_ok, (envP_cons zbw_Fok envP_nil), envS_nil, envP_nil, envX_nil⟩ Tryz.func47 rfl (by kernel_rfl))
theorem zcm_ok : TOk zcm_F zcm_T := runY_ok (E := zcm_E) (ET := zcm_V) (EnvT.ofX (pure_of (pairs_cons zbw_ok pairs_nil)) looks_nil raws_nil G0_ok news_nil) zcm_eq rfl
def zb3_E : Env := (eZ [(46, zcn_F), (47, zcm_F)] [188])
def zb3_H : Hints := (hZ [] [])
def zb3_F : PFn := closeF (runF Tryz.prog zb3_E zb3_H Tryz.f10)
def zb3_Y : TH := yZ
def zb3 (a0 : List vV1) (a1 : List vV4) : Option Bool :=
(zcn a0 20).bind fun r1 =>
 cond r1 ((zcm a1).bind fun r2 =>
 some r2) (some false)
def zb3_T : TFn := { ps := (.cons (.sl tT13) (.cons (.sl tT11) .unit)), res := .bool, fn := fun v => zb3 v.1 v.2.1 }
def zb3_V : TEnv := (vZ [(46, zcn_T), (47, zcm_T)])
theorem zb3_eq : runY Tryz.prog zb3_E zb3_H zb3_V zb3_Y Tryz.f10 zb3_T.ps zb3_T.res = zb3_T.fn := by kernel_rfl
theorem zb3_Fok : SoundP Tryz.prog G0 10 zb3_F := closeF_sound (runF_sound ⟨same_ok, (envP_cons zcn_Fok (envP_cons zcm_Fok envP_nil)), envS_nil, envP_nil, envX_nil⟩ Tryz.func10 rfl (by kernel_rfl))
theorem zb3_ok : TOk zb3_F zb3_T := runY_ok (E := zb3_E) (ET := zb3_V) (EnvT.ofX (pure_of (pairs_cons zcn_ok (pairs_cons zcm_ok pairs_nil))) looks_nil raws_nil G0_ok news_nil) zb3_eq rfl
def zaz_E : Env := (eZ [] [188])
def zaz_H : Hints := (hZ [] [])
def zaz_F : PFn := closeF (runF Tryz.prog zaz_E zaz_H Tryz.f174)
def zaz_Y : TH := yZ
def zaz (a0 : Int) : Option Bool :=
 some (!decide (a0 = a0))
def zaz_T : TFn := { ps := (.cons (.int .i64) .unit), res := .bool, fn := fun v => zaz v.1 }
def zaz_V : TEnv := (vZ [])
theorem zaz_eq : runY Tryz.prog zaz_E zaz_H zaz_V zaz_Y Tryz.f174 zaz_T.ps zaz_T.res = zaz_T.fn := by kernel_rfl
theorem zaz_Fok : SoundP Tryz.prog G0 174 zaz_F := closeF_sound (runF_sound ⟨same_ok, envP_nil, envS_nil, envP_nil, envX_nil⟩ Tryz.func174 rfl (by kernel_rfl))
theorem zaz_ok : TOk zaz_F zaz_T := runY_ok (E := zaz_E) (ET := zaz_V) (EnvT.ofX (pure_of pairs_nil) looks_nil raws_nil G0_ok news_nil) zaz_eq rfl
def zas_E : Env := (eZ [(174, zaz_F)] [188])
def zas_H : Hints := (hZ [] [])
def zas_F : PFn := closeF (runF Tryz.prog zas_E zas_H Tryz.f126)
def zas_Y : TH := yZ
def zas (a0 : Int) (a1 : Int) : Option Int :=
(zaz a0).bind fun r1 =>
(zaz a1).bind fun r2 =>
 cond r1 (
 cond r2 (
 some 0) (
 some (-1))) (
 cond r2 (
 some 1) (
 cond (decide (a0 < a1)) (
 some (-1)) (
 cond (decide (a0 > a1)) (
 some 1) (
 some 0))))
def zas_T : TFn := { ps := tT16, res := (.int .i64), fn := fun v => zas v.1 v.2.1 }
def zas_V : TEnv := (vZ [(174, zaz_T)])
theorem zas_eq : runY Tryz.prog zas_E zas_H zas_V zas_Y Tryz.f126 zas_T.ps zas_T.res = zas_T.fn := by kernel_rfl
theorem zas_Fok : SoundP Tryz.prog G0 126 zas_F := closeF_sound (runF_sound ⟨same_ok, (envP_cons zaz_Fok envP_nil), envS_nil, envP_nil, envX_nil⟩ Tryz.func126 rfl (by kernel_rfl))
theorem zas_ok : TOk zas_F zas_T := runY_ok (E := zas_E) (ET := zas_V) (EnvT.ofX (pure_of (pairs_cons zaz_ok pairs_nil)) looks_nil raws_nil G0_ok news_nil) zas_eq rfl
def zcd_E : Env := (eZ [] [188])
def zcd_H : Hints := (hZ [(3, [3, 6, 7, 8])] [])
def zcd_F : PFn := closeF (runF Tryz.prog zcd_E zcd_H Tryz.f124)
def zcd_Y : TH := { loops := [(3, { keep := [(8, (.int .i64))], mem := [] })], ro := [] }
def zcd_l3 (a0 : List Int) (y3 : (Int × Unit)) : Option ((Int × Unit) ⊕ Int) :=
 cond (decide (y3.1 < (a0.length : Int))) (
(atI a0 y3.1).bind fun x1 =>
 cond (!decide (x1 = 0)) (
 some (.inr x1)) (
 some (.inl ((IntKind.wrap .i64 (y3.1 + 1)), ())))) (
 some (.inr 0))
def zcd (a0 : List Int) : Option Int :=
 loopT (zcd_l3 a0) (0, ())
def zcd_T : TFn := { ps := (.cons (.sl (.int .i64)) .unit), res := (.int .i64), fn := fun v => zcd v.1 }
def zcd_V : TEnv := (vZ [])
theorem zcd_eq : runY Tryz.prog zcd_E zcd_H zcd_V zcd_Y Tryz.f124 zcd_T.ps zcd_T.res = zcd_T.fn := by kernel_rfl
theorem zcd_Fok : SoundP Tryz.prog G0 124 zcd_F := closeF_sound (runF_sound ⟨same_ok, envP_nil, envS_nil, envP_nil, envX_nil⟩ Tryz.func124 rfl (by kernel_rfl))
theorem zcd_ok : TOk zcd_F zcd_T := runY_ok (E := zcd_E) (ET := zcd_V) (EnvT.ofX (pure_of pairs_nil) looks_nil raws_nil G0_ok news_nil) zcd_eq rfl
def zb0_E : Env := (eZ [(124, zcd_F), (126, zas_F)] [188])
def zb0_H : Hints := (hZ [] [])
def zb0_F : PFn := closeF (runF Tryz.prog zb0_E zb0_H Tryz.f119)
def zb0_Y : TH := { loops := [], ro := [2, 3] }
def zb0 (a0 : (Int × Int × Unit)) (a1 : (Int × Int × Unit)) : Option Int :=
(zas a0.1 a1.1).bind fun r1 =>
(zas a0.2.1 a1.2.1).bind fun r2 =>
(zcd ([r1, r2] : List Int)).bind fun r3 =>
 some r3
def zb0_T : TFn := { ps := (.cons (.agg tT16) (.cons (.agg tT16) .unit)), res := (.int .i64), fn := fun v => zb0 v.1 v.2.1 }
def zb0_V : TEnv := { pure := [(124, zcd_T), (126, zas_T)], look := [], glob := G0T, ty := [(3, (.int .i64))], raw := [], fresh := [] }
theorem zb0_eq : runY Tryz.prog zb0_E zb0_H zb0_V zb0_Y Tryz.f119 zb0_T.ps zb0_T.res = zb0_T.fn := by kernel_rfl
theorem zb0_Fok : SoundP Tryz.prog G0 119 zb0_F := closeF_sound (runF_sound ⟨same_ok, (envP_cons zcd_Fok (envP_cons zas_Fok envP_nil)), envS_nil, envP_nil, envX_nil⟩ Tryz.func119 rfl (by kernel_rfl))
theorem zb0_ok : TOk zb0_F zb0_T := runY_ok (E := zb0_E) (ET := zb0_V) (EnvT.ofX (pure_of (pairs_cons zcd_ok (pairs_cons zas_ok pairs_nil))) looks_nil raws_nil G0_ok news_nil) zb0_eq rfl
def za1_E : Env := (eZ [(119, zb0_F)] [188])
def za1_H : Hints := (hZ [] [])
def za1_F : PFn := closeF (runF Tryz.prog za1_E za1_H Tryz.f191)
def za1_Y : TH := { loops := [], ro := [2, 3] }
def za1 (a0 : vV4) (a1 : vV4) : Option Int :=
(zb0 a0.1 a1.1).bind fun r1 =>
 some r1
def za1_T : TFn := { ps := (.cons tT11 (.cons tT11 .unit)), res := (.int .i64), fn := fun v => za1 v.1 v.2.1 }
def za1_V : TEnv := (vZ [(119, zb0_T)])
theorem za1_eq : runY Tryz.prog za1_E za1_H za1_V za1_Y Tryz.f191 za1_T.ps za1_T.res = za1_T.fn := by kernel_rfl
theorem za1_Fok : SoundP Tryz.prog G0 191 za1_F := closeF_sound (runF_sound ⟨same_ok, (envP_cons zb0_Fok envP_nil), envS_nil, envP_nil, envX_nil⟩ Tryz.func191 rfl (by kernel_rfl))
theorem za1_ok : TOk za1_F za1_T := runY_ok (E := za1_E) (ET := za1_V) (EnvT.ofX (pure_of (pairs_cons zb0_ok pairs_nil)) looks_nil raws_nil G0_ok news_nil) za1_eq rfl
def zab_E : Env := (eZ [(191, za1_F)] [188])
def zab_H : Hints := (hZ [(3, [0, 2, 4, 8, 9, 10])] [])
def zab_F : PFn := closeF (runF Tryz.prog zab_E zab_H Tryz.f190)
def zab_Y : TH := { joins := [(8, { keep := [(4, (.bx 0 0)), (9, (.int .i64))], mem := [.same] })], loops := [(3, { keep := [(4, (.bx 0 0)), (9, (.int .i64)), (10, (.int .i64))], mem := [.same] })], ro := [4] }
def zab_l3 (a0 : List vV4) (a1 : vV4) (y3 : (Int × Int × Unit)) : Option ((Int × Int × Unit) ⊕ ((Int × Unit) ⊕ (Int × Bool × Unit))) :=
 cond (decide (y3.1 < y3.2.1)) (
(shrT .u64 (IntKind.wrap .u64 (IntKind.wrap .i64 (y3.1 + y3.2.1))) 1).bind fun t1 =>
(atI a0 (IntKind.wrap .i64 t1)).bind fun x2 =>
(za1 x2 a1).bind fun r3 =>
 cond (decide (r3 < 0)) (
 some (.inl ((IntKind.wrap .i64 ((IntKind.wrap .i64 t1) + 1)), y3.2.1, ()))) (
 some (.inl (y3.1, (IntKind.wrap .i64 t1), ())))) (
 some (.inr (.inl (y3.1, ()))))
def zab (a0 : List vV4) (a1 : vV4) (a2 : Unit) : Option (Int × Bool × Unit) :=
(loopT (zab_l3 a0 a1) (0, (a0.length : Int), ()) : Option ((Int × Unit) ⊕ (Int × Bool × Unit))).bind (joinS fun v4 =>
 cond (decide (v4.1 < (a0.length : Int))) ((atI a0 v4.1).bind fun x5 =>
(za1 x5 a1).bind fun r6 =>
 some (v4.1, (decide (r6 = 0)), ())) (some (v4.1, false, ())))
def zab_T : TFn := { ps := (.cons (.sl tT11) (.cons tT11 (.cons (.fn 191) .unit))), res := (.tup (.cons (.int .i64) (.cons .bool .unit))), fn := fun v => zab v.1 v.2.1 v.2.2.1 }
def zab_V : TEnv := (vZ [(191, za1_T)])
theorem zab_eq : runY Tryz.prog zab_E zab_H zab_V zab_Y Tryz.f190 zab_T.ps zab_T.res = zab_T.fn := by kernel_rfl
theorem zab_Fok : SoundP Tryz.prog G0 190 zab_F := closeF_sound (runF_sound ⟨same_ok, (envP_cons za1_Fok envP_nil), envS_nil, envP_nil, envX_nil⟩ Tryz.func190 rfl (by kernel_rfl))
theorem zab_ok : TOk zab_F zab_T := runY_ok (E := zab_E) (ET := zab_V) (EnvT.ofX (pure_of (pairs_cons za1_ok pairs_nil)) looks_nil raws_nil G0_ok news_nil) zab_eq rfl
def zc0_E : Env := (eZ [(190, zab_F)] [188])
def zc0_H : Hints := (hZ [] [])
def zc0_F : PFn := closeF (runF Tryz.prog zc0_E zc0_H Tryz.f150)
def zc0_Y : TH := { loops := [], ro := [3] }
def zc0 (a0 : List vV4) (a1 : (Int × Int × Unit)) : Option (Int × Bool × Unit) :=
(zab a0 (a1, 0, ()) ()).bind fun r1 =>
 some (r1.1, r1.2.1, ())
def zc0_T : TFn := { ps := (.cons (.sl tT11) (.cons (.agg tT16) .unit)), res := (.tup (.cons (.int .i64) (.cons .bool .unit))), fn := fun v => zc0 v.1 v.2.1 }
def zc0_V : TEnv := (vZ [(190, zab_T)])
theorem zc0_eq : runY Tryz.prog zc0_E zc0_H zc0_V zc0_Y Tryz.f150 zc0_T.ps zc0_T.res = zc0_T.fn := by kernel_rfl
theorem zc0_Fok : SoundP Tryz.prog G0 150 zc0_F := closeF_sound (runF_sound ⟨same_ok, (envP_cons zab_Fok envP_nil), envS_nil, envP_nil, envX_nil⟩ Tryz.func150 rfl (by kernel_rfl))
theorem zc0_ok : TOk zc0_F zc0_T := runY_ok (E := zc0_E) (ET := zc0_V) (EnvT.ofX (pure_of (pairs_cons zab_ok pairs_nil)) looks_nil raws_nil G0_ok news_nil) zc0_eq rfl
def zcw_E : Env := (eZ [(150, zc0_F)] [188])
def zcw_H : Hints := (hZ [] [])
def zcw_F : PFn := closeF (runF Tryz.prog zcw_E zcw_H Tryz.f92)
def zcw_Y : TH := { loops := [], ro := [3] }
def zcw (a0 : List vV4) (a1 : (Int × Int × Unit)) : Option Int :=
(zc0 a0 a1).bind fun r1 =>
 cond r1.2.1 (
(atI a0 r1.1).bind fun x2 =>
 some x2.2.1) (
 some 0)
def zcw_T : TFn := { ps := (.cons (.sl tT11) (.cons (.agg tT16) .unit)), res := (.int .i64), fn := fun v => zcw v.1 v.2.1 }
def zcw_V : TEnv := (vZ [(150, zc0_T)])
theorem zcw_eq : runY Tryz.prog zcw_E zcw_H zcw_V zcw_Y Tryz.f92 zcw_T.ps zcw_T.res = zcw_T.fn := by kernel_rfl
theorem zcw_Fok : SoundP Tryz.prog G0 92 zcw_F := closeF_sound (runF_sound ⟨same_ok, (envP_cons zc0_Fok envP_nil), envS_nil, envP_nil, envX_nil⟩ Tryz.func92 rfl (by kernel_rfl))
theorem zcw_ok : TOk zcw_F zcw_T := runY_ok (E := zcw_E) (ET := zcw_V) (EnvT.ofX (pure_of (pairs_cons zc0_ok pairs_nil)) looks_nil raws_nil G0_ok news_nil) zcw_eq rfl
def zcl_E : Env := (eZ [(92, zcw_F)] [188])
def zcl_H : Hints := (hZ [] [])
def zcl_F : PFn := closeF (runF Tryz.prog zcl_E zcl_H Tryz.f45)
def zcl_Y : TH := { loops := [], ro := [3] }
def zcl (a0 : List vV4) (a1 : (Int × Int × Unit)) : Option Bool :=
(zcw a0 a1).bind fun r1 =>
(remT r1 2).bind fun t2 =>
 some (decide (t2 = 0))
def zcl_T : TFn := { ps := (.cons (.sl tT11) (.cons (.agg tT16) .unit)), res := .bool, fn := fun v => zcl v.1 v.2.1 }
def zcl_V : TEnv := (vZ [(92, zcw_T)])
theorem zcl_eq : runY Tryz.prog zcl_E zcl_H zcl_V zcl_Y Tryz.f45 zcl_T.ps zcl_T.res = zcl_T.fn := by kernel_rfl
theorem zcl_Fok : SoundP Tryz.prog G0 45 zcl_F := closeF_sound (runF_sound ⟨same_ok, (envP_cons zcw_Fok envP_nil), envS_nil, envP_nil, envX_nil⟩ Tryz.func45 rfl (by kernel_rfl))
theorem zcl_ok : TOk zcl_F zcl_T := runY_ok (E := zcl_E) (ET := zcl_V) (EnvT.ofX (pure_of (pairs_cons zcw_ok pairs_nil)) looks_nil raws_nil G0_ok news_nil) zcl_eq rfl
def zbe_E : Env := (eZ [(45, zcl_F)] [188])
def zbe_H : Hints := (hZ [(3, [1, 5, 13, 14, 15]), (7, [1, 5, 13, 14, 15, 25, 26, 27]), (10, [1, 5, 13, 14, 15, 25, 26, 27, 32, 33, 34])] [])
def zbe_S : SFn := runF Tryz.prog zbe_E zbe_H Tryz.f52
def zbe_Y : TH := { loops := [(3, { keep := [(5, (.mp 0)), (15, (.int .i64))], mem := [.map tT11 .bool] }), (7, { keep := [(5, (.mp 0)), (27, (.int .i64))], mem := [.map tT11 .bool, .gone] }), (10, { keep := [(5, (.mp 0)), (34, (.int .i64))], mem := [.map tT11 .bool, .gone, .gone] })], ro := [] }
def zbe_l10 (y7 : vV9) (x3 : vV7) (y10 : vV9) : Option (vV9 ⊕ (vV9 ⊕ (vV9 ⊕ (List (vV4 × Bool))))) :=
 cond (decide (y10.1 < (x3.2.2.2.2.1.length : Int))) (
(atI x3.2.2.2.2.1 y10.1).bind fun x4 =>
 some (.inl ((IntKind.wrap .i64 (y10.1 + 1)), (putK tT11 x4 true y10.2.1), ()))) (
 some (.inr (.inl ((IntKind.wrap .i64 (y7.1 + 1)), y10.2.1, ()))))
def zbe_l7 (y3 : vV9) (x1 : vV1) (y7 : vV9) : Option (vV9 ⊕ (vV9 ⊕ (List (vV4 × Bool)))) :=
 cond (decide (y7.1 < (x1.2.2.2.2.1.length : Int))) (
(atI x1.2.2.2.2.1 y7.1).bind fun x3 =>
 loopT (zbe_l10 y7 x3) (0, y7.2.1, ())) (
 some (.inr (.inl ((IntKind.wrap .i64 (y3.1 + 1)), y7.2.1, ()))))
def zbe_l3 (a0 : List vV1) (a1 : List vV4) (y3 : vV9) : Option (vV9 ⊕ (List (vV4 × Bool))) :=
 cond (decide (y3.1 < (a0.length : Int))) (
(atI a0 y3.1).bind fun x1 =>
(zcl a1 x1.1).bind fun r2 =>
 cond (!r2) (
 some (.inl ((IntKind.wrap .i64 (y3.1 + 1)), y3.2.1, ()))) (
 loopT (zbe_l7 y3 x1) (0, y3.2.1, ()))) (
 some (.inr y3.2.1))
def zbe (a0 : List vV1) (a1 : List vV4) : Option (List (vV4 × Bool)) :=
 loopT (zbe_l3 a0 a1) (0, [], ())
def zbe_N : TNew := { ps := (.cons (.sl tT13) (.cons (.sl tT11) .unit)), e := 91, t := (.sl (.cons tT11 .bool)), fn := fun v => zbe v.1 v.2.1, mp := true }
def zbe_V : TEnv := { pure := [(45, zcl_T)], look := [], glob := G0T, ty := [(4, .bool), (94, tT11)], raw := [], fresh := [] }
theorem zbe_eq : newMY Tryz.prog zbe_E zbe_H zbe_V zbe_Y Tryz.f52 zbe_N.ps tT11 .bool = zbe_N.fn := by kernel_rfl
theorem zbe_Sok : SoundS Tryz.prog G0 52 zbe_S := runF_sound ⟨same_ok, (envP_cons zcl_Fok envP_nil), envS_nil, envP_nil, envX_nil⟩ Tryz.func52 rfl (by kernel_rfl)
theorem zbe_ok : TNewOk zbe_S zbe_N := newMY_ok (E := zbe_E) (ET := zbe_V) (EnvT.ofX (pure_of (pairs_cons zcl_ok pairs_nil)) looks_nil raws_nil G0_ok news_nil) zbe_eq
def zc1_E : Env := { pure := [(45, zcl_F)], raw := [(52, zbe_S)], glob := G0, same := [188], look := [], ext := [] }
def zc1_H : Hints := (hZ [(4, [1, 5, 6, 15, 16, 17]), (8, [1, 5, 6, 8, 15, 16, 17, 27, 28, 29])] [])
def zc1_F : PFn := closeF (runF Tryz.prog zc1_E zc1_H Tryz.f14)
def zc1_Y : TH := { loops := [(4, { keep := [(5, (.mp 0)), (6, (.own 4)), (17, (.int .i64))], mem := [.map tT11 .bool, .gone, .gone, .gone, .row true 96 tT10] }), (8, { keep := [(5, (.mp 0)), (6, (.own 4)), (8, (.bx 5 0)), (29, (.int .i64))], mem := [.map tT11 .bool, .gone, .gone, .gone, .row true 96 tT10, .box 51 tT13] })], ro := [] }
def zc1_l8 (y4 : (Int × List (vV4 × Bool) × List vV0 × Unit)) (x2 : vV1) (y8 : (Int × List (vV4 × Bool) × List vV0 × vV1 × Unit)) : Option ((Int × List (vV4 × Bool) × List vV0 × vV1 × Unit) ⊕ ((Int × List (vV4 × Bool) × List vV0 × Unit) ⊕ List vV0)) :=
 cond (decide (y8.1 < (x2.2.2.2.2.1.length : Int))) (
(atI x2.2.2.2.2.1 y8.1).bind fun x4 =>
 cond (decide (x4.1 = 1)) (cond (!((getK tT11 false (y8.2.2.2.1.1, y8.1, ()) y8.2.1).1)) (
(roomT (y8.2.2.1.length + ([((y8.2.2.2.1.1, y8.1, ()), x4, y8.2.2.2.1.2.2.1, ())] : List vV0).length)).bind fun u5 =>
 some (.inl ((IntKind.wrap .i64 (y8.1 + 1)), y8.2.1, (y8.2.2.1 ++ ([((y8.2.2.2.1.1, y8.1, ()), x4, y8.2.2.2.1.2.2.1, ())] : List vV0)), y8.2.2.2.1, ()))) (
 some (.inl ((IntKind.wrap .i64 (y8.1 + 1)), y8.2.1, y8.2.2.1, y8.2.2.2.1, ())))) (cond (decide (x4.1 = 2)) (cond (!((getK tT11 false (y8.2.2.2.1.1, y8.1, ()) y8.2.1).1)) (
(roomT (y8.2.2.1.length + ([((y8.2.2.2.1.1, y8.1, ()), x4, y8.2.2.2.1.2.2.1, ())] : List vV0).length)).bind fun u6 =>
 some (.inl ((IntKind.wrap .i64 (y8.1 + 1)), y8.2.1, (y8.2.2.1 ++ ([((y8.2.2.2.1.1, y8.1, ()), x4, y8.2.2.2.1.2.2.1, ())] : List vV0)), y8.2.2.2.1, ()))) (
 some (.inl ((IntKind.wrap .i64 (y8.1 + 1)), y8.2.1, y8.2.2.1, y8.2.2.2.1, ())))) (cond (decide (x4.1 = 3)) (cond (!((getK tT11 false (y8.2.2.2.1.1, y8.1, ()) y8.2.1).1)) (
(roomT (y8.2.2.1.length + ([((y8.2.2.2.1.1, y8.1, ()), x4, y8.2.2.2.1.2.2.1, ())] : List vV0).length)).bind fun u7 =>
 some (.inl ((IntKind.wrap .i64 (y8.1 + 1)), y8.2.1, (y8.2.2.1 ++ ([((y8.2.2.2.1.1, y8.1, ()), x4, y8.2.2.2.1.2.2.1, ())] : List vV0)), y8.2.2.2.1, ()))) (
 some (.inl ((IntKind.wrap .i64 (y8.1 + 1)), y8.2.1, y8.2.2.1, y8.2.2.2.1, ())))) (some (.inl ((IntKind.wrap .i64 (y8.1 + 1)), y8.2.1, y8.2.2.1, y8.2.2.2.1, ())))))) (
 some (.inr (.inl ((IntKind.wrap .i64 (y4.1 + 1)), y8.2.1, y8.2.2.1, ()))))
def zc1_l4 (a0 : List vV1) (a1 : List vV4) (y4 : (Int × List (vV4 × Bool) × List vV0 × Unit)) : Option ((Int × List (vV4 × Bool) × List vV0 × Unit) ⊕ List vV0) :=
 cond (decide (y4.1 < (a0.length : Int))) (
(atI a0 y4.1).bind fun x2 =>
(zcl a1 x2.1).bind fun r3 =>
 cond (!r3) (
 some (.inl ((IntKind.wrap .i64 (y4.1 + 1)), y4.2.1, y4.2.2.1, ()))) (
 loopT (zc1_l8 y4 x2) (0, y4.2.1, y4.2.2.1, x2, ()))) (
 some (.inr y4.2.2.1))
def zc1 (a0 : List vV1) (a1 : List vV4) : Option (List vV0) :=
(zbe a0 a1).bind fun n1 =>
 loopT (zc1_l4 a0 a1) (0, n1, [], ())
def zc1_T : TFn := { ps := (.cons (.sl tT13) (.cons (.sl tT11) .unit)), res := (.sl tT10), fn := fun v => zc1 v.1 v.2.1 }
def zc1_V : TEnv := { pure := [(45, zcl_T)], look := [], glob := G0T, ty := [(96, tT10)], raw := [], fresh := [(52, zbe_N)] }
theorem zc1_eq : runY Tryz.prog zc1_E zc1_H zc1_V zc1_Y Tryz.f14 zc1_T.ps zc1_T.res = zc1_T.fn := by kernel_rfl
theorem zc1_Fok : SoundP Tryz.prog G0 14 zc1_F := closeF_sound (runF_sound ⟨same_ok, (envP_cons zcl_Fok envP_nil), (envS_cons zbe_Sok envS_nil), envP_nil, envX_nil⟩ Tryz.func14 rfl (by kernel_rfl))
theorem zc1_ok : TOk zc1_F zc1_T := runY_ok (E := zc1_E) (ET := zc1_V) (EnvT.ofX (pure_of (pairs_cons zcl_ok pairs_nil)) looks_nil (raws_more raws_nil rfl) G0_ok (news_cons zbe_ok rfl rfl rfl news_nil)) zc1_eq rfl
def zcr_E : Env := (eZ [] [188])
def zcr_H : Hints := (hZ [(2, [0, 3, 5])] [])
def zcr_F : PFn := closeF (runF Tryz.prog zcr_E zcr_H Tryz.f112)
def zcr_Y : TH := { loops := [(2, { keep := [(3, (.bx 0 0)), (5, (.int .i64))], mem := [.same] })], ro := [3] }
def zcr_l2 (a0 : List vV4) (a1 : (Int × Int × Unit)) (y2 : (Int × Unit)) : Option ((Int × Unit) ⊕ Int) :=
 cond (decide (y2.1 < (a0.length : Int))) (
(atI a0 y2.1).bind fun x1 =>
 cond (eqV (.agg tT16) x1.1 a1) (
(atI a0 y2.1).bind fun x2 =>
 some (.inr x2.2.1)) (
 some (.inl ((IntKind.wrap .i64 (y2.1 + 1)), ())))) (
 some (.inr 0))
def zcr (a0 : List vV4) (a1 : (Int × Int × Unit)) : Option Int :=
 loopT (zcr_l2 a0 a1) (0, ())
def zcr_T : TFn := { ps := (.cons (.sl tT11) (.cons (.agg tT16) .unit)), res := (.int .i64), fn := fun v => zcr v.1 v.2.1 }
def zcr_V : TEnv := (vZ [])
theorem zcr_eq : runY Tryz.prog zcr_E zcr_H zcr_V zcr_Y Tryz.f112 zcr_T.ps zcr_T.res = zcr_T.fn := by kernel_rfl
theorem zcr_Fok : SoundP Tryz.prog G0 112 zcr_F := closeF_sound (runF_sound ⟨same_ok, envP_nil, envS_nil, envP_nil, envX_nil⟩ Tryz.func112 rfl (by kernel_rfl))
theorem zcr_ok : TOk zcr_F zcr_T := runY_ok (E := zcr_E) (ET := zcr_V) (EnvT.ofX (pure_of pairs_nil) looks_nil raws_nil G0_ok news_nil) zcr_eq rfl
def zca_E : Env := (eZ [(112, zcr_F)] [188])
def zca_H : Hints := (hZ [] [])
def zca_F : PFn := closeF (runF Tryz.prog zca_E zca_H Tryz.f57)
def zca_Y : TH := { loops := [], ro := [3] }
def zca (a0 : List vV4) (a1 : (Int × Int × Unit)) : Option Bool :=
(zcr a0 a1).bind fun r1 =>
(remT r1 2).bind fun t2 =>
 some (decide (t2 = 0))
def zca_T : TFn := { ps := (.cons (.sl tT11) (.cons (.agg tT16) .unit)), res := .bool, fn := fun v => zca v.1 v.2.1 }
def zca_V : TEnv := (vZ [(112, zcr_T)])
theorem zca_eq : runY Tryz.prog zca_E zca_H zca_V zca_Y Tryz.f57 zca_T.ps zca_T.res = zca_T.fn := by kernel_rfl
theorem zca_Fok : SoundP Tryz.prog G0 57 zca_F := closeF_sound (runF_sound ⟨same_ok, (envP_cons zcr_Fok envP_nil), envS_nil, envP_nil, envX_nil⟩ Tryz.func57 rfl (by kernel_rfl))
theorem zca_ok : TOk zca_F zca_T := runY_ok (E := zca_E) (ET := zca_V) (EnvT.ofX (pure_of (pairs_cons zcr_ok pairs_nil)) looks_nil raws_nil G0_ok news_nil) zca_eq rfl
def zbb_E : Env := (eZ [] [188])
def zbb_H : Hints := (hZ [(2, [2, 3, 5])] [])
def zbb_F : PFn := closeF (runF Tryz.prog zbb_E zbb_H Tryz.f113)
def zbb_Y : TH := { loops := [(2, { keep := [(2, (.bx 0 0)), (3, (.bx 1 0)), (5, (.int .i64))], mem := [.same, .same] })], ro := [2, 3] }
def zbb_l2 (a0 : vV7) (a1 : vV4) (y2 : (Int × Unit)) : Option ((Int × Unit) ⊕ Bool) :=
 cond (decide (y2.1 < (a0.2.2.2.2.1.length : Int))) (
(atI a0.2.2.2.2.1 y2.1).bind fun x1 =>
 cond (eqV tT11 x1 a1) (
 some (.inr true)) (
 some (.inl ((IntKind.wrap .i64 (y2.1 + 1)), ())))) (
 some (.inr false))
def zbb (a0 : vV7) (a1 : vV4) : Option Bool :=
 loopT (zbb_l2 a0 a1) (0, ())
def zbb_T : TFn := { ps := (.cons tT18 (.cons tT11 .unit)), res := .bool, fn := fun v => zbb v.1 v.2.1 }
def zbb_V : TEnv := (vZ [])
theorem zbb_eq : runY Tryz.prog zbb_E zbb_H zbb_V zbb_Y Tryz.f113 zbb_T.ps zbb_T.res = zbb_T.fn := by kernel_rfl
theorem zbb_Fok : SoundP Tryz.prog G0 113 zbb_F := closeF_sound (runF_sound ⟨same_ok, envP_nil, envS_nil, envP_nil, envX_nil⟩ Tryz.func113 rfl (by kernel_rfl))
theorem zbb_ok : TOk zbb_F zbb_T := runY_ok (E := zbb_E) (ET := zbb_V) (EnvT.ofX (pure_of pairs_nil) looks_nil raws_nil G0_ok news_nil) zbb_eq rfl
def zax_E : Env := (eZ [(57, zca_F), (113, zbb_F)] [188])
def zax_H : Hints := (hZ [(2, [0, 1, 5, 7]), (5, [0, 1, 5, 7, 8])] [])
def zax_F : PFn := closeF (runF Tryz.prog zax_E zax_H Tryz.f58)
def zax_Y : TH := { loops := [(2, { keep := [(5, (.bx 0 0)), (7, (.int .i64))], mem := [.same] }), (5, { keep := [(5, (.bx 0 0)), (8, (.int .i64))], mem := [.same] })], ro := [5] }
def zax_l5 (y2 : (Int × Unit)) (a0 : List vV1) (a1 : List vV4) (a2 : vV4) (y5 : (Int × Unit)) : Option ((Int × Unit) ⊕ ((Int × Unit) ⊕ Bool)) :=
(atI a0 y2.1).bind fun x1 =>
 cond (decide (y5.1 < (x1.2.2.2.2.1.length : Int))) (
(atI a0 y2.1).bind fun x2 =>
(atI x2.2.2.2.2.1 y5.1).bind fun x3 =>
(zbb x3 a2).bind fun r4 =>
 cond r4 ((atI a0 y2.1).bind fun x5 =>
(zca a1 x5.1).bind fun r6 =>
 cond r6 (
 some (.inr (.inr true))) (
 some (.inl ((IntKind.wrap .i64 (y5.1 + 1)), ())))) (some (.inl ((IntKind.wrap .i64 (y5.1 + 1)), ())))) (
 some (.inr (.inl ((IntKind.wrap .i64 (y2.1 + 1)), ()))))
def zax_l2 (a0 : List vV1) (a1 : List vV4) (a2 : vV4) (y2 : (Int × Unit)) : Option ((Int × Unit) ⊕ Bool) :=
 cond (decide (y2.1 < (a0.length : Int))) (
 loopT (zax_l5 y2 a0 a1 a2) (0, ())) (
 some (.inr false))
def zax (a0 : List vV1) (a1 : List vV4) (a2 : vV4) : Option Bool :=
 loopT (zax_l2 a0 a1 a2) (0, ())
def zax_T : TFn := { ps := (.cons (.sl tT13) (.cons (.sl tT11) (.cons tT11 .unit))), res := .bool, fn := fun v => zax v.1 v.2.1 v.2.2.1 }
def zax_V : TEnv := (vZ [(57, zca_T), (113, zbb_T)])
theorem zax_eq : runY Tryz.prog zax_E zax_H zax_V zax_Y Tryz.f58 zax_T.ps zax_T.res = zax_T.fn := by kernel_rfl
theorem zax_Fok : SoundP Tryz.prog G0 58 zax_F := closeF_sound (runF_sound ⟨same_ok, (envP_cons zca_Fok (envP_cons zbb_Fok envP_nil)), envS_nil, envP_nil, envX_nil⟩ Tryz.func58 rfl (by kernel_rfl))
theorem zax_ok : TOk zax_F zax_T := runY_ok (E := zax_E) (ET := zax_V) (EnvT.ofX (pure_of (pairs_cons zca_ok (pairs_cons zbb_ok pairs_nil))) looks_nil raws_nil G0_ok news_nil) zax_eq rfl
def zcs_E : Env := (eZ [(57, zca_F), (58, zax_F)] [188])
def zcs_H : Hints := (hZ [(3, [0, 1, 5, 6]), (6, [0, 1, 5, 6, 7])] [72])
def zcs_F : PFn := closeF (runF Tryz.prog zcs_E zcs_H Tryz.f16)
def zcs_Y : TH := { loops := [(3, { keep := [(5, (.own 2)), (6, (.int .i64))], mem := [.gone, .gone, .row true 99 tT10] }), (6, { keep := [(5, (.own 2)), (7, (.int .i64))], mem := [.gone, .gone, .row true 99 tT10] })], cuts := [(10, [(8, { keep := [(5, (.own 2)), (8, (.bx 3 0)), (9, (.bx 4 0)), (48, .bool)], mem := [.gone, .gone, .row true 99 tT10, .box 29 tT18, .box 94 tT11] })])], ro := [], news := [] }
def zcs_l6 (y3 : (Int × List vV0 × Unit)) (a0 : List vV1) (a1 : List vV4) (y6 : (Int × List vV0 × Unit)) : Option ((Int × List vV0 × Unit) ⊕ ((Int × List vV0 × Unit) ⊕ List vV0)) :=
(atI a0 y3.1).bind fun x1 =>
 cond (decide (y6.1 < (x1.2.2.2.2.1.length : Int))) (
(atI a0 y3.1).bind fun x2 =>
(atI x2.2.2.2.2.1 y6.1).bind fun x3 =>
(atI a0 y3.1).bind fun x4 =>
(cond (decide (x3.1 ≥ 1)) (some ((decide (x3.1 ≤ 3)), y6.2.1, x3, (x4.1, y6.1, ()), ())) (some (false, y6.2.1, x3, (x4.1, y6.1, ()), ())) : Option (Bool × List vV0 × vV7 × vV4 × Unit)).bind fun v5 =>
 cond v5.1 ((atI a0 y3.1).bind fun x6 =>
(zca a1 x6.1).bind fun r7 =>
 cond r7 ((zax a0 a1 v5.2.2.2.1).bind fun r8 =>
 cond (!r8) (
(atI a0 y3.1).bind fun x9 =>
(roomT (v5.2.1.length + ([(v5.2.2.2.1, v5.2.2.1, x9.2.2.1, ())] : List vV0).length)).bind fun u10 =>
 some (.inl ((IntKind.wrap .i64 (y6.1 + 1)), (v5.2.1 ++ ([(v5.2.2.2.1, v5.2.2.1, x9.2.2.1, ())] : List vV0)), ()))) (
 some (.inl ((IntKind.wrap .i64 (y6.1 + 1)), v5.2.1, ())))) (some (.inl ((IntKind.wrap .i64 (y6.1 + 1)), v5.2.1, ())))) (some (.inl ((IntKind.wrap .i64 (y6.1 + 1)), v5.2.1, ())))) (
 some (.inr (.inl ((IntKind.wrap .i64 (y3.1 + 1)), y6.2.1, ()))))
def zcs_l3 (a0 : List vV1) (a1 : List vV4) (y3 : (Int × List vV0 × Unit)) : Option ((Int × List vV0 × Unit) ⊕ List vV0) :=
 cond (decide (y3.1 < (a0.length : Int))) (
 loopT (zcs_l6 y3 a0 a1) (0, y3.2.1, ())) (
 some (.inr y3.2.1))
def zcs (a0 : List vV1) (a1 : List vV4) : Option (List vV0) :=
 loopT (zcs_l3 a0 a1) (0, [], ())
def zcs_T : TFn := { ps := (.cons (.sl tT13) (.cons (.sl tT11) .unit)), res := (.sl tT10), fn := fun v => zcs v.1 v.2.1 }
def zcs_V : TEnv := { pure := [(57, zca_T), (58, zax_T)], look := [], glob := G0T, ty := [(99, tT10)], raw := [], fresh := [] }
theorem zcs_eq : runY Tryz.prog zcs_E zcs_H zcs_V zcs_Y Tryz.f16 zcs_T.ps zcs_T.res = zcs_T.fn := by kernel_rfl
theorem zcs_Fok : SoundP Tryz.prog G0 16 zcs_F := closeF_sound (runF_sound ⟨same_ok, (envP_cons zca_Fok (envP_cons zax_Fok envP_nil)), envS_nil, envP_nil, envX_nil⟩ Tryz.func16 rfl (by kernel_rfl))
theorem zcs_ok : TOk zcs_F zcs_T := runY_ok (E := zcs_E) (ET := zcs_V) (EnvT.ofX (pure_of (pairs_cons zca_ok (pairs_cons zax_ok pairs_nil))) looks_nil raws_nil G0_ok news_nil) zcs_eq rfl
def zc2_E : Env := (eZ [] [188])
def zc2_H : Hints := (hZ [] [])
def zc2_F : PFn := closeF (runF Tryz.prog zc2_E zc2_H Tryz.f63)
def zc2_Y : TH := { joins := [(6, { keep := [(6, .bool)], mem := [] })], loops := [], ro := [] }
def zc2 (a0 : Int) : Option Int :=
 cond (decide (a0 = 1)) (
 some 1) (
(cond (decide (a0 = 2)) (
 some (.inl ((decide (a0 = 2)), ()))) (
 some (.inl ((decide (a0 = 4)), ()))) : Option ((Bool × Unit) ⊕ Int)).bind (joinS fun v1 =>
 cond v1.1 (
 some 2) (
 cond (decide (a0 = 3)) (
 some 3) (
 some 0))))
def zc2_T : TFn := { ps := (.cons (.int .i64) .unit), res := (.int .i64), fn := fun v => zc2 v.1 }
def zc2_V : TEnv := (vZ [])
theorem zc2_eq : runY Tryz.prog zc2_E zc2_H zc2_V zc2_Y Tryz.f63 zc2_T.ps zc2_T.res = zc2_T.fn := by kernel_rfl
theorem zc2_Fok : SoundP Tryz.prog G0 63 zc2_F := closeF_sound (runF_sound ⟨same_ok, envP_nil, envS_nil, envP_nil, envX_nil⟩ Tryz.func63 rfl (by kernel_rfl))
theorem zc2_ok : TOk zc2_F zc2_T := runY_ok (E := zc2_E) (ET := zc2_V) (EnvT.ofX (pure_of pairs_nil) looks_nil raws_nil G0_ok news_nil) zc2_eq rfl
def zak_E : Env := (eZ [] [188])
def zak_H : Hints := (hZ [(4, [0, 1, 12, 13])] [])
def zak_F : PFn := closeF (runF Tryz.prog zak_E zak_H Tryz.f132)
def zak_Y : TH := { loops := [(4, { keep := [(13, (.int .i64))], mem := [] })], ro := [] }
def zak_l4 (a0 : List (List UInt8)) (a1 : List (List UInt8)) (y4 : (Int × Unit)) : Option ((Int × Unit) ⊕ Bool) :=
 cond (decide (y4.1 < (a0.length : Int))) (
(atI a0 y4.1).bind fun x1 =>
(atI a1 y4.1).bind fun x2 =>
 cond (!decide (x1 = x2)) (
 some (.inr false)) (
 some (.inl ((IntKind.wrap .i64 (y4.1 + 1)), ())))) (
 some (.inr true))
def zak (a0 : List (List UInt8)) (a1 : List (List UInt8)) : Option Bool :=
 cond (!decide ((a0.length : Int) = (a1.length : Int))) (
 some false) (
 loopT (zak_l4 a0 a1) (0, ()))
def zak_T : TFn := { ps := (.cons (.sl .str) tT17), res := .bool, fn := fun v => zak v.1 v.2.1 }
def zak_V : TEnv := (vZ [])
theorem zak_eq : runY Tryz.prog zak_E zak_H zak_V zak_Y Tryz.f132 zak_T.ps zak_T.res = zak_T.fn := by kernel_rfl
theorem zak_Fok : SoundP Tryz.prog G0 132 zak_F := closeF_sound (runF_sound ⟨same_ok, envP_nil, envS_nil, envP_nil, envX_nil⟩ Tryz.func132 rfl (by kernel_rfl))
theorem zak_ok : TOk zak_F zak_T := runY_ok (E := zak_E) (ET := zak_V) (EnvT.ofX (pure_of pairs_nil) looks_nil raws_nil G0_ok news_nil) zak_eq rfl
def zcx_E : Env := (eZ [(132, zak_F)] [188])
def zcx_H : Hints := (hZ [] [])
def zcx_F : PFn := closeF (runF Tryz.prog zcx_E zcx_H Tryz.f72)
def zcx_Y : TH := yZ
def zcx (a0 : List (List UInt8)) (a1 : List (List UInt8)) : Option Bool :=
(zak a0 a1).bind fun r1 =>
 some r1
def zcx_T : TFn := { ps := (.cons (.sl .str) tT17), res := .bool, fn := fun v => zcx v.1 v.2.1 }
def zcx_V : TEnv := (vZ [(132, zak_T)])
theorem zcx_eq : runY Tryz.prog zcx_E zcx_H zcx_V zcx_Y Tryz.f72 zcx_T.ps zcx_T.res = zcx_T.fn := by kernel_rfl
theorem zcx_Fok : SoundP Tryz.prog G0 72 zcx_F := closeF_sound (runF_sound ⟨same_ok, (envP_cons zak_Fok envP_nil), envS_nil, envP_nil, envX_nil⟩ Tryz.func72 rfl (by kernel_rfl))
theorem zcx_ok : TOk zcx_F zcx_T := runY_ok (E := zcx_E) (ET := zcx_V) (EnvT.ofX (pure_of (pairs_cons zak_ok pairs_nil)) looks_nil raws_nil G0_ok news_nil) zcx_eq rfl
def zc3_E : Env := (eZ [(63, zc2_F), (72, zcx_F)] [188])
def zc3_H : Hints := (hZ [(3, [1, 2, 7, 10, 11, 12])] [])
def zc3_F : PFn := closeF (runF Tryz.prog zc3_E zc3_H Tryz.f32)
def zc3_Y : TH := { loops := [(3, { keep := [(7, (.own 1)), (12, (.int .i64))], mem := [.gone, .row true 96 tT10] })], ro := [] }
def zc3_l3 (a0 : List vV0) (a1 : List (List UInt8)) (a2 : Int) (y3 : (Int × List vV0 × Unit)) : Option ((Int × List vV0 × Unit) ⊕ List vV0) :=
 cond (decide (y3.1 < (a0.length : Int))) (
(atI a0 y3.1).bind fun x1 =>
(zc2 x1.2.1.1).bind fun r2 =>
 cond (decide (r2 = a2)) ((zcx x1.2.1.2.1 a1).bind fun r3 =>
 cond r3 (
(roomT (y3.2.1.length + ([x1] : List vV0).length)).bind fun u4 =>
 some (.inl ((IntKind.wrap .i64 (y3.1 + 1)), (y3.2.1 ++ ([x1] : List vV0)), ()))) (
 some (.inl ((IntKind.wrap .i64 (y3.1 + 1)), y3.2.1, ())))) (some (.inl ((IntKind.wrap .i64 (y3.1 + 1)), y3.2.1, ())))) (
 some (.inr y3.2.1))
def zc3 (a0 : List vV0) (a1 : List (List UInt8)) (a2 : Int) : Option (List vV0) :=
 loopT (zc3_l3 a0 a1 a2) (0, [], ())
def zc3_T : TFn := { ps := (.cons (.sl tT10) (.cons (.sl .str) (.cons (.int .i64) .unit))), res := (.sl tT10), fn := fun v => zc3 v.1 v.2.1 v.2.2.1 }
def zc3_V : TEnv := { pure := [(63, zc2_T), (72, zcx_T)], look := [], glob := G0T, ty := [(96, tT10)], raw := [], fresh := [] }
theorem zc3_eq : runY Tryz.prog zc3_E zc3_H zc3_V zc3_Y Tryz.f32 zc3_T.ps zc3_T.res = zc3_T.fn := by kernel_rfl
theorem zc3_Fok : SoundP Tryz.prog G0 32 zc3_F := closeF_sound (runF_sound ⟨same_ok, (envP_cons zc2_Fok (envP_cons zcx_Fok envP_nil)), envS_nil, envP_nil, envX_nil⟩ Tryz.func32 rfl (by kernel_rfl))
theorem zc3_ok : TOk zc3_F zc3_T := runY_ok (E := zc3_E) (ET := zc3_V) (EnvT.ofX (pure_of (pairs_cons zc2_ok (pairs_cons zcx_ok pairs_nil))) looks_nil raws_nil G0_ok news_nil) zc3_eq rfl
def zar_E : Env := (eZ [] [188])
def zar_H : Hints := (hZ [] [])
def zar_F : PFn := closeF (runF Tryz.prog zar_E zar_H Tryz.f235)
def zar_Y : TH := yZ
def zar (a0 : List UInt8) : Option Bool :=
 some (!decide (a0 = a0))
def zar_T : TFn := { ps := (.cons .str .unit), res := .bool, fn := fun v => zar v.1 }
def zar_V : TEnv := (vZ [])
theorem zar_eq : runY Tryz.prog zar_E zar_H zar_V zar_Y Tryz.f235 zar_T.ps zar_T.res = zar_T.fn := by kernel_rfl
theorem zar_Fok : SoundP Tryz.prog G0 235 zar_F := closeF_sound (runF_sound ⟨same_ok, envP_nil, envS_nil, envP_nil, envX_nil⟩ Tryz.func235 rfl (by kernel_rfl))
theorem zar_ok : TOk zar_F zar_T := runY_ok (E := zar_E) (ET := zar_V) (EnvT.ofX (pure_of pairs_nil) looks_nil raws_nil G0_ok news_nil) zar_eq rfl
def zan_E : Env := (eZ [(235, zar_F)] [188])
def zan_H : Hints := (hZ [] [])
def zan_F : PFn := closeF (runF Tryz.prog zan_E zan_H Tryz.f209)
def zan_Y : TH := yZ
def zan (a0 : List UInt8) (a1 : List UInt8) : Option Int :=
(zar a0).bind fun r1 =>
(zar a1).bind fun r2 =>
 cond r1 (
 cond r2 (
 some 0) (
 some (-1))) (
 cond r2 (
 some 1) (
 cond (Op.bytesLess a0 a1) (
 some (-1)) (
 cond (!(Op.bytesLess a0 a1 || decide (a0 = a1))) (
 some 1) (
 some 0))))
def zan_T : TFn := { ps := (.cons .str (.cons .str .unit)), res := (.int .i64), fn := fun v => zan v.1 v.2.1 }
def zan_V : TEnv := (vZ [(235, zar_T)])
theorem zan_eq : runY Tryz.prog zan_E zan_H zan_V zan_Y Tryz.f209 zan_T.ps zan_T.res = zan_T.fn := by kernel_rfl
theorem zan_Fok : SoundP Tryz.prog G0 209 zan_F := closeF_sound (runF_sound ⟨same_ok, (envP_cons zar_Fok envP_nil), envS_nil, envP_nil, envX_nil⟩ Tryz.func209 rfl (by kernel_rfl))
theorem zan_ok : TOk zan_F zan_T := runY_ok (E := zan_E) (ET := zan_V) (EnvT.ofX (pure_of (pairs_cons zar_ok pairs_nil)) looks_nil raws_nil G0_ok news_nil) zan_eq rfl
def zaj_E : Env := (eZ [(209, zan_F)] [188])
def zaj_H : Hints := (hZ [(2, [0, 1, 9, 10, 11])] [])
def zaj_F : PFn := closeF (runF Tryz.prog zaj_E zaj_H Tryz.f173)
def zaj_Y : TH := { joins := [(11, { keep := [], mem := [] })], loops := [(2, { keep := [(11, (.int .i64))], mem := [] })], ro := [] }
def zaj_l2 (a0 : List (List UInt8)) (a1 : List (List UInt8)) (y2 : (Int × Unit)) : Option ((Int × Unit) ⊕ (Unit ⊕ Int)) :=
 cond (decide (y2.1 < (a0.length : Int))) (
(atI a0 y2.1).bind fun x1 =>
 cond (decide (y2.1 ≥ (a1.length : Int))) (
 some (.inr (.inr 1))) (
(atI a1 y2.1).bind fun x2 =>
(zan x1 x2).bind fun r3 =>
 cond (!decide (r3 = 0)) (
 some (.inr (.inr r3))) (
 some (.inl ((IntKind.wrap .i64 (y2.1 + 1)), ()))))) (
 some (.inr (.inl ())))
def zaj (a0 : List (List UInt8)) (a1 : List (List UInt8)) : Option Int :=
(loopT (zaj_l2 a0 a1) (0, ()) : Option (Unit ⊕ Int)).bind (joinS fun v4 =>
 cond (decide ((a0.length : Int) < (a1.length : Int))) (
 some (-1)) (
 some 0))
def zaj_T : TFn := { ps := (.cons (.sl .str) tT17), res := (.int .i64), fn := fun v => zaj v.1 v.2.1 }
def zaj_V : TEnv := (vZ [(209, zan_T)])
theorem zaj_eq : runY Tryz.prog zaj_E zaj_H zaj_V zaj_Y Tryz.f173 zaj_T.ps zaj_T.res = zaj_T.fn := by kernel_rfl
theorem zaj_Fok : SoundP Tryz.prog G0 173 zaj_F := closeF_sound (runF_sound ⟨same_ok, (envP_cons zan_Fok envP_nil), envS_nil, envP_nil, envX_nil⟩ Tryz.func173 rfl (by kernel_rfl))
theorem zaj_ok : TOk zaj_F zaj_T := runY_ok (E := zaj_E) (ET := zaj_V) (EnvT.ofX (pure_of (pairs_cons zan_ok pairs_nil)) looks_nil raws_nil G0_ok news_nil) zaj_eq rfl
def za4_E : Env := (eZ [(173, zaj_F)] [188])
def za4_H : Hints := (hZ [] [])
def za4_F : PFn := closeF (runF Tryz.prog za4_E za4_H Tryz.f125)
def za4_Y : TH := yZ
def za4 (a0 : List (List UInt8)) (a1 : List (List UInt8)) : Option Int :=
(zaj a0 a1).bind fun r1 =>
 some r1
def za4_T : TFn := { ps := (.cons (.sl .str) tT17), res := (.int .i64), fn := fun v => za4 v.1 v.2.1 }
def za4_V : TEnv := (vZ [(173, zaj_T)])
theorem za4_eq : runY Tryz.prog za4_E za4_H za4_V za4_Y Tryz.f125 za4_T.ps za4_T.res = za4_T.fn := by kernel_rfl
theorem za4_Fok : SoundP Tryz.prog G0 125 za4_F := closeF_sound (runF_sound ⟨same_ok, (envP_cons zaj_Fok envP_nil), envS_nil, envP_nil, envX_nil⟩ Tryz.func125 rfl (by kernel_rfl))
theorem za4_ok : TOk za4_F za4_T := runY_ok (E := za4_E) (ET := za4_V) (EnvT.ofX (pure_of (pairs_cons zaj_ok pairs_nil)) looks_nil raws_nil G0_ok news_nil) za4_eq rfl
def za7_E : Env := (eZ [(124, zcd_F), (125, za4_F), (126, zas_F)] [188])
def za7_H : Hints := (hZ [] [])
def za7_F : PFn := closeF (runF Tryz.prog za7_E za7_H Tryz.f65)
def za7_Y : TH := { loops := [], ro := [2, 3] }
def za7 (a0 : vV3) (a1 : vV3) : Option Int :=
(za4 a0.1 a1.1).bind fun r1 =>
(zas a0.2.1 a1.2.1).bind fun r2 =>
(zcd ([r1, r2] : List Int)).bind fun r3 =>
 some r3
def za7_T : TFn := { ps := (.cons tT14 (.cons tT14 .unit)), res := (.int .i64), fn := fun v => za7 v.1 v.2.1 }
def za7_V : TEnv := { pure := [(124, zcd_T), (125, za4_T), (126, zas_T)], look := [], glob := G0T, ty := [(3, (.int .i64))], raw := [], fresh := [] }
theorem za7_eq : runY Tryz.prog za7_E za7_H za7_V za7_Y Tryz.f65 za7_T.ps za7_T.res = za7_T.fn := by kernel_rfl
theorem za7_Fok : SoundP Tryz.prog G0 65 za7_F := closeF_sound (runF_sound ⟨same_ok, (envP_cons zcd_Fok (envP_cons za4_Fok (envP_cons zas_Fok envP_nil))), envS_nil, envP_nil, envX_nil⟩ Tryz.func65 rfl (by kernel_rfl))
theorem za7_ok : TOk za7_F za7_T := runY_ok (E := za7_E) (ET := za7_V) (EnvT.ofX (pure_of (pairs_cons zcd_ok (pairs_cons za4_ok (pairs_cons zas_ok pairs_nil)))) looks_nil raws_nil G0_ok news_nil) za7_eq rfl
theorem zaz_FokD : @SoundP ⟨True⟩ Tryz.prog G0 174 zaz_F := by
 letI : Drawn := ⟨True⟩
 exact closeF_sound (runF_sound ⟨same_ok, envP_nil, envS_nil, envP_nil, envX_nil⟩ Tryz.func174 rfl (by kernel_rfl))
theorem zas_FokD : @SoundP ⟨True⟩ Tryz.prog G0 126 zas_F := by
 letI : Drawn := ⟨True⟩
 exact closeF_sound (runF_sound ⟨same_ok, (envP_cons zaz_FokD envP_nil), envS_nil, envP_nil, envX_nil⟩ Tryz.func126 rfl (by kernel_rfl))
theorem zcd_FokD : @SoundP ⟨True⟩ Tryz.prog G0 124 zcd_F := by
 letI : Drawn := ⟨True⟩
 exact closeF_sound (runF_sound ⟨same_ok, envP_nil, envS_nil, envP_nil, envX_nil⟩ Tryz.func124 rfl (by kernel_rfl))
theorem zar_FokD : @SoundP ⟨True⟩ Tryz.prog G0 235 zar_F := by
 letI : Drawn := ⟨True⟩
 exact closeF_sound (runF_sound ⟨same_ok, envP_nil, envS_nil, envP_nil, envX_nil⟩ Tryz.func235 rfl (by kernel_rfl))
theorem zan_FokD : @SoundP ⟨True⟩ Tryz.prog G0 209 zan_F := by
 letI : Drawn := ⟨True⟩
 exact closeF_sound (runF_sound ⟨same_ok, (envP_cons zar_FokD envP_nil), envS_nil, envP_nil, envX_nil⟩ Tryz.func209 rfl (by kernel_rfl))
theorem zaj_FokD : @SoundP ⟨True⟩ Tryz.prog G0 173 zaj_F := by
 letI : Drawn := ⟨True⟩
 exact closeF_sound (runF_sound ⟨same_ok, (envP_cons zan_FokD envP_nil), envS_nil, envP_nil, envX_nil⟩ Tryz.func173 rfl (by kernel_rfl))
theorem za4_FokD : @SoundP ⟨True⟩ Tryz.prog G0 125 za4_F := by
 letI : Drawn := ⟨True⟩
 exact closeF_sound (runF_sound ⟨same_ok, (envP_cons zaj_FokD envP_nil), envS_nil, envP_nil, envX_nil⟩ Tryz.func125 rfl (by kernel_rfl))
theorem za7_FokD : @SoundP ⟨True⟩ Tryz.prog G0 65 za7_F := by
 letI : Drawn := ⟨True⟩
 exact closeF_sound (runF_sound ⟨same_ok, (envP_cons zcd_FokD (envP_cons za4_FokD (envP_cons zas_FokD envP_nil))), envS_nil, envP_nil, envX_nil⟩ Tryz.func65 rfl (by kernel_rfl))
def zae_ren : Go.Shelf.Ren := ⟨fun | 6 => 64 | 14 => 122 | 15 => 123 | 20 => 163 | 21 => 164 | 22 => 165 | 23 => 166 | 24 => 167 | 25 => 168 | 26 => 169 | 27 => 170 | 28 => 171 | 29 => 172 | 46 => 204 | 47 => 205 | 48 => 206 | 49 => 207 | 50 => 208 | 57 => 234 | n => n, fun | 0 => 0 | 3 => 3 | 4 => 4 | 5 => 5 | 9 => 9 | 22 => 53 | 24 => 65 | 25 => 107 | 39 => 162 | 45 => 194 | 46 => 195 | 50 => 155 | 53 => 201 | 55 => 203 | 66 => 223 | 70 => 227 | 76 => 249 | 77 => 189 | n => n, fun | n => n⟩
theorem zae_lays : Go.Proofs.SlLaysF0.n6 Tryz.prog zae_ren := {
 mixed := by kernel_rfl
 f6 := ⟨Tryz.f64.name, by decide, Tryz.func64.trans (congrArg some (by kernel_rfl))⟩
 f14 := ⟨Tryz.f122.name, by decide, Tryz.func122.trans (congrArg some (by kernel_rfl))⟩
 f15 := Tryz.func123.trans (congrArg some (by kernel_rfl))
 f20 := ⟨Tryz.f163.name, by decide, Tryz.func163.trans (congrArg some (by kernel_rfl))⟩
 f21 := ⟨Tryz.f164.name, by decide, Tryz.func164.trans (congrArg some (by kernel_rfl))⟩
 f22 := ⟨Tryz.f165.name, by decide, Tryz.func165.trans (congrArg some (by kernel_rfl))⟩
 f23 := ⟨Tryz.f166.name, by decide, Tryz.func166.trans (congrArg some (by kernel_rfl))⟩
 f24 := ⟨Tryz.f167.name, by decide, Tryz.func167.trans (congrArg some (by kernel_rfl))⟩
 f25 := ⟨Tryz.f168.name, by decide, Tryz.func168.trans (congrArg some (by kernel_rfl))⟩
 f26 := ⟨Tryz.f169.name, by decide, Tryz.func169.trans (congrArg some (by kernel_rfl))⟩
 f27 := ⟨Tryz.f170.name, by decide, Tryz.func170.trans (congrArg some (by kernel_rfl))⟩
 f28 := Tryz.func171.trans (congrArg some (by kernel_rfl))
 f29 := Tryz.func172.trans (congrArg some (by kernel_rfl))
 f46 := ⟨Tryz.f204.name, by decide, Tryz.func204.trans (congrArg some (by kernel_rfl))⟩
 f47 := Tryz.func205.trans (congrArg some (by kernel_rfl))
 f48 := Tryz.func206.trans (congrArg some (by kernel_rfl))
 f49 := ⟨Tryz.f207.name, by decide, Tryz.func207.trans (congrArg some (by kernel_rfl))⟩
 f50 := ⟨Tryz.f208.name, by decide, Tryz.func208.trans (congrArg some (by kernel_rfl))⟩
 f57 := ⟨Tryz.f234.name, by decide, Tryz.func234.trans (congrArg some (by kernel_rfl))⟩
 t0 := Tryz.underlying0
 a0 := Tryz.isAgg0
 z0 := Tryz.sizeOf0
 v0 := Tryz.zeroValue0
 t3 := Tryz.underlying3
 a3 := Tryz.isAgg3
 z3 := Tryz.sizeOf3
 v3 := Tryz.zeroValue3
 t4 := Tryz.underlying4
 a4 := Tryz.isAgg4
 z4 := Tryz.sizeOf4
 v4 := Tryz.zeroValue4
 t5 := Tryz.underlying5
 a5 := Tryz.isAgg5
 z5 := Tryz.sizeOf5
 v5 := Tryz.zeroValue5
 t9 := Tryz.underlying9
 a9 := Tryz.isAgg9
 z9 := Tryz.sizeOf9
 v9 := Tryz.zeroValue9
 t22 := Tryz.underlying53
 a22 := Tryz.isAgg53
 z22 := Tryz.sizeOf53
 v22 := Tryz.zeroValue53
 t25 := Tryz.underlying107
 a25 := Tryz.isAgg107
 z25 := Tryz.sizeOf107
 v25 := Tryz.zeroValue107
 t39 := Tryz.underlying162
 a39 := Tryz.isAgg162
 z39 := Tryz.sizeOf162
 v39 := Tryz.zeroValue162
 t45 := Tryz.underlying194
 a45 := Tryz.isAgg194
 z45 := Tryz.sizeOf194
 v45 := Tryz.zeroValue194
 t46 := Tryz.underlying195
 a46 := Tryz.isAgg195
 z46 := Tryz.sizeOf195
 v46 := Tryz.zeroValue195
 t50 := Tryz.underlying155
 a50 := Tryz.isAgg155
 z50 := Tryz.sizeOf155
 v50 := Tryz.zeroValue155
 t53 := Tryz.underlying201
 a53 := Tryz.isAgg201
 z53 := Tryz.sizeOf201
 v53 := Tryz.zeroValue201
 t55 := Tryz.underlying203
 a55 := Tryz.isAgg203
 z55 := Tryz.sizeOf203
 v55 := Tryz.zeroValue203
 t66 := Tryz.underlying223
 a66 := Tryz.isAgg223
 z66 := Tryz.sizeOf223
 v66 := Tryz.zeroValue223
 t70 := Tryz.underlying227
 a70 := Tryz.isAgg227
 z70 := Tryz.sizeOf227
 v70 := Tryz.zeroValue227
 t76 := Tryz.underlying249
 a76 := Tryz.isAgg249
 z76 := Tryz.sizeOf249
 v76 := Tryz.zeroValue249
 t77 := Tryz.underlying189
 a77 := Tryz.isAgg189
 z77 := Tryz.sizeOf189
 v77 := Tryz.zeroValue189 }
def zae_S : SFn := sortS za7_F 65 2 65
theorem zae_Sok : SoundS Tryz.prog G0 64 zae_S := sortS_sound (M := 2) (g := 65) zae_lays (by decide) (fun w => Tryz.isAgg65 w) (fun w => Tryz.sizeOf65 w) za7_FokD ⟨Tryz.f64, Tryz.func64, rfl, by kernel_rfl⟩
def zae (w0 : List vV3) : Option (Unit × List vV3 × Unit) := (sortT (fun x y => za7 x y) w0).map fun l => ((), (l, ()))
def zae_R : TRaw := sortR false 65 65 tT14 (fun x y => za7 x y)
theorem zae_ok : TRawOk zae_S zae_R := sortR_ok rfl rfl rfl rfl za7_ok
def zau_E : Env := (eZ [(65, za7_F)] [188])
def zau_H : Hints := (hZ [] [])
def zau_F : PFn := closeF (runF Tryz.prog zau_E zau_H Tryz.f67)
def zau_Y : TH := { loops := [], ro := [2, 3] }
def zau (a0 : vV3) (a1 : vV3) : Option Bool :=
(za7 a0 a1).bind fun r1 =>
 some (decide (r1 = 0))
def zau_T : TFn := { ps := (.cons tT14 (.cons tT14 .unit)), res := .bool, fn := fun v => zau v.1 v.2.1 }
def zau_V : TEnv := (vZ [(65, za7_T)])
theorem zau_eq : runY Tryz.prog zau_E zau_H zau_V zau_Y Tryz.f67 zau_T.ps zau_T.res = zau_T.fn := by kernel_rfl
theorem zau_Fok : SoundP Tryz.prog G0 67 zau_F := closeF_sound (runF_sound ⟨same_ok, (envP_cons za7_Fok envP_nil), envS_nil, envP_nil, envX_nil⟩ Tryz.func67 rfl (by kernel_rfl))
theorem zau_ok : TOk zau_F zau_T := runY_ok (E := zau_E) (ET := zau_V) (EnvT.ofX (pure_of (pairs_cons za7_ok pairs_nil)) looks_nil raws_nil G0_ok news_nil) zau_eq rfl
def zal_ren : Go.Shelf.Ren := ⟨fun | 41 => 50 | n => n, fun | 22 => 24 | 23 => 9 | 4 => 4 | n => n, fun | n => n⟩
theorem zal_lays : Go.Proofs.SlLaysE0.n41 Tryz.prog zal_ren := {
 mixed := by kernel_rfl
 f41 := ⟨Tryz.f50.name, by decide, Tryz.func50.trans (congrArg some (by kernel_rfl))⟩
 t4 := Tryz.underlying4
 a4 := Tryz.isAgg4
 z4 := Tryz.sizeOf4
 v4 := Tryz.zeroValue4
 t22 := Tryz.underlying24
 a22 := Tryz.isAgg24
 z22 := Tryz.sizeOf24
 v22 := Tryz.zeroValue24 }
def zal_F : PFn := (cloneF 1)
theorem zal_Fok : SoundP Tryz.prog G0 50 zal_F := clone_lays zal_lays 1 ⟨Tryz.f50, Tryz.func50, rfl, by kernel_rfl⟩ (by kernel_rfl) (by kernel_rfl) (by kernel_rfl) (by kernel_rfl) (by kernel_rfl) (by decide) (fun w => Tryz.sizeOf9 w)
def zal (a0 : List (List UInt8)) : Option (List (List UInt8)) := cloneT a0
def zal_T : TFn := cloneT_T .str
theorem zal_ok : TOk zal_F zal_T := cloneT_ok rfl rfl rfl
def zac_E : Env := (eZ [(67, zau_F)] [188])
def zac_H : Hints := (hZ [(4, [0, 1, 5]), (9, [0, 1, 5, 6, 7])] [])
def zac_S : SFn := giveS (runF Tryz.prog zac_E zac_H Tryz.f66)
def zac_Y : TH := { joins := [(14, { keep := [(0, (.own 0)), (5, (.int .i64))], mem := [.row false 65 tT14] })], loops := [(4, { keep := [(0, (.own 0)), (5, (.int .i64))], mem := [.row false 65 tT14] }), (9, { keep := [(0, (.own 0)), (5, (.int .i64)), (6, (.vw 0)), (7, (.int .i64))], mem := [.row false 65 tT14] })], ro := [] }
def zac_l9 (y9 : (Int × (Nat × Nat) × Int × List vV3 × Unit)) : Option ((Int × (Nat × Nat) × Int × List vV3 × Unit) ⊕ (vV8 ⊕ (vV8 ⊕ (List vV3)))) :=
 cond (decide (y9.2.2.1 < (y9.2.1.2 : Int))) (
 cond y9.2.2.2.1.isEmpty (none) ((inI y9.2.1.2 y9.2.2.1).bind fun i7 =>
(y9.2.2.2.1[(y9.2.1.1 + i7)]?).bind fun x8 =>
 cond y9.2.2.2.1.isEmpty (none) ((inI y9.2.1.2 (IntKind.wrap .i64 (y9.2.2.1 - 1))).bind fun i9 =>
(y9.2.2.2.1[(y9.2.1.1 + i9)]?).bind fun x10 =>
(zau x8 x10).bind fun r11 =>
 cond (!r11) (
 cond y9.2.2.2.1.isEmpty (none) ((inI y9.2.1.2 y9.2.2.1).bind fun i12 =>
(y9.2.2.2.1[(y9.2.1.1 + i12)]?).bind fun x13 =>
(inI y9.2.2.2.1.length y9.1).bind fun i14 =>
(y9.2.2.2.1[i14]?).bind fun x15 =>
 some (.inl ((IntKind.wrap .i64 (y9.1 + 1)), y9.2.1, (IntKind.wrap .i64 (y9.2.2.1 + 1)), (y9.2.2.2.1.set i14 x13), ())))) (
 some (.inl (y9.1, y9.2.1, (IntKind.wrap .i64 (y9.2.2.1 + 1)), y9.2.2.2.1, ())))))) (
 some (.inr (.inl (y9.1, y9.2.2.2.1, ()))))
def zac_l4 (y4 : vV8) : Option (vV8 ⊕ (List vV3)) :=
 cond (decide (y4.1 < (y4.2.1.length : Int))) (
(inI y4.2.1.length y4.1).bind fun i1 =>
(y4.2.1[i1]?).bind fun x2 =>
(inI y4.2.1.length (IntKind.wrap .i64 (y4.1 - 1))).bind fun i3 =>
(y4.2.1[i3]?).bind fun x4 =>
(zau x2 x4).bind fun r5 =>
 cond r5 (
 cond y4.2.1.isEmpty (none) ((viewI (y4.2.1.length) y4.1 (y4.2.1.length : Int)).bind fun p6 =>
(loopT (zac_l9) (y4.1, p6, 1, y4.2.1, ()) : Option (vV8 ⊕ (vV8 ⊕ (List vV3)))).bind (joinS fun v16 =>
 cond v16.2.1.isEmpty (none) ((viewI (v16.2.1.length) v16.1 (v16.2.1.length : Int)).bind fun p17 =>
 cond v16.2.1.isEmpty (none) ((if p17.1 + p17.2 ≤ v16.2.1.length then some () else none).bind fun u18 =>
 cond (v16.2.1.take p17.1 ++ List.replicate p17.2 ([], 0, ()) ++ v16.2.1.drop (p17.1 + p17.2)).isEmpty (none) ((viewI ((v16.2.1.take p17.1 ++ List.replicate p17.2 ([], 0, ()) ++ v16.2.1.drop (p17.1 + p17.2)).length) 0 v16.1).bind fun p19 =>
(cond (v16.2.1.take p17.1 ++ List.replicate p17.2 ([], 0, ()) ++ v16.2.1.drop (p17.1 + p17.2)).isEmpty none (if p19.1 + p19.2 ≤ (v16.2.1.take p17.1 ++ List.replicate p17.2 ([], 0, ()) ++ v16.2.1.drop (p17.1 + p17.2)).length then some (((v16.2.1.take p17.1 ++ List.replicate p17.2 ([], 0, ()) ++ v16.2.1.drop (p17.1 + p17.2)).drop p19.1).take p19.2) else none)).map .inr)))))) (
 some (.inl ((IntKind.wrap .i64 (y4.1 + 1)), y4.2.1, ())))) (
 some (.inr y4.2.1))
def zac_g (w0 : List vV3) : Option (List vV3) :=
 cond (decide ((w0.length : Int) < 2)) (
 some w0) (
 loopT (zac_l4) (1, w0, ()))
def zac (w0 : List vV3) : Option (List vV3 × Unit) := (zac_g w0).map fun l => (l, ())
def zac_R : TRaw := { ps := (.cons (.own 0) (.cons (.fn 67) .unit)), ins := [.row false 65 tT14], res := (.sl tT14), outs := [.gone], fn := fun v w => zac w.1 }
def zac_V : TEnv := (vZ [(67, zau_T)])
theorem zac_eq : giveY Tryz.prog zac_E zac_H zac_V zac_Y Tryz.f66 (.cons (.own 0) (.cons (.fn 67) .unit)) false 65 tT14 = fun _ w => zac_g w := by kernel_rfl
theorem zac_Sok : SoundS Tryz.prog G0 66 zac_S := giveS_sound (runF_sound ⟨same_ok, (envP_cons zau_Fok envP_nil), envS_nil, envP_nil, envX_nil⟩ Tryz.func66 rfl (by kernel_rfl))
theorem zac_ok : TRawOk zac_S zac_R := giveY_ok (E := zac_E) (ET := zac_V) (EnvT.ofX (pure_of (pairs_cons zau_ok pairs_nil)) looks_nil raws_nil G0_ok news_nil) zac_eq
def zbk_E : Env := { pure := [(50, zal_F), (63, zc2_F)], raw := [(64, zae_S), (66, zac_S)], glob := G0, same := [188], look := [], ext := [] }
def zbk_H : Hints := (hZ [(3, [3, 6, 7, 8])] [])
def zbk_F : PFn := closeF (runF Tryz.prog zbk_E zbk_H Tryz.f23)
def zbk_Y : TH := { joins := [(7, { keep := [(3, (.own 1))], mem := [.gone, .row true 65 tT14] })], loops := [(3, { keep := [(3, (.own 1)), (8, (.int .i64))], mem := [.gone, .row true 65 tT14] })], ro := [] }
def zbk_l3 (a0 : List vV0) (y3 : vV8) : Option (vV8 ⊕ ((List vV3 × Unit) ⊕ List vV3)) :=
 cond (decide (y3.1 < (a0.length : Int))) (
(atI a0 y3.1).bind fun x1 =>
(zal x1.2.1.2.1).bind fun r2 =>
(zc2 x1.2.1.1).bind fun r3 =>
(roomT (y3.2.1.length + ([(r2, r3, ())] : List vV3).length)).bind fun u4 =>
 some (.inl ((IntKind.wrap .i64 (y3.1 + 1)), (y3.2.1 ++ ([(r2, r3, ())] : List vV3)), ()))) (
 some (.inr (.inl (y3.2.1, ()))))
def zbk (a0 : List vV0) : Option (List vV3) :=
(loopT (zbk_l3 a0) (0, [], ()) : Option ((List vV3 × Unit) ⊕ List vV3)).bind (joinS fun v5 =>
(zae v5.1).bind fun q6 =>
(zac q6.2.1).bind fun q7 =>
 some q7.1)
def zbk_T : TFn := { ps := (.cons (.sl tT10) .unit), res := (.sl tT14), fn := fun v => zbk v.1 }
def zbk_V : TEnv := { pure := [(50, zal_T), (63, zc2_T)], look := [], glob := G0T, ty := [(65, tT14)], raw := [(64, zae_R), (66, zac_R)], fresh := [] }
theorem zbk_eq : runY Tryz.prog zbk_E zbk_H zbk_V zbk_Y Tryz.f23 zbk_T.ps zbk_T.res = zbk_T.fn := by kernel_rfl
theorem zbk_Fok : SoundP Tryz.prog G0 23 zbk_F := closeF_sound (runF_sound ⟨same_ok, (envP_cons zal_Fok (envP_cons zc2_Fok envP_nil)), (envS_cons zae_Sok (envS_cons zac_Sok envS_nil)), envP_nil, envX_nil⟩ Tryz.func23 rfl (by kernel_rfl))
theorem zbk_ok : TOk zbk_F zbk_T := runY_ok (E := zbk_E) (ET := zbk_V) (EnvT.ofX (pure_of (pairs_cons zal_ok (pairs_cons zc2_ok pairs_nil))) looks_nil (raws_cons zae_ok rfl rfl (raws_cons zac_ok rfl rfl raws_nil)) G0_ok news_nil) zbk_eq rfl
def zcj_E : Env := (eZ [] [188])
def zcj_H : Hints := (hZ [] [])
def zcj_F : PFn := closeF (runF Tryz.prog zcj_E zcj_H Tryz.f54)
def zcj_Y : TH := yZ
def zcj (a0 : Int) : Option Int :=
 cond (decide (a0 = 1)) (
 some 1) (
 cond (decide (a0 = 2)) (some 2) (cond (decide (a0 = 4)) (
 some 2) (
 cond (decide (a0 = 3)) (
 some 3) (
 some 0))))
def zcj_T : TFn := { ps := (.cons (.int .i64) .unit), res := (.int .i64), fn := fun v => zcj v.1 }
def zcj_V : TEnv := (vZ [])
theorem zcj_eq : runY Tryz.prog zcj_E zcj_H zcj_V zcj_Y Tryz.f54 zcj_T.ps zcj_T.res = zcj_T.fn := by kernel_rfl
theorem zcj_Fok : SoundP Tryz.prog G0 54 zcj_F := closeF_sound (runF_sound ⟨same_ok, envP_nil, envS_nil, envP_nil, envX_nil⟩ Tryz.func54 rfl (by kernel_rfl))
theorem zcj_ok : TOk zcj_F zcj_T := runY_ok (E := zcj_E) (ET := zcj_V) (EnvT.ofX (pure_of pairs_nil) looks_nil raws_nil G0_ok news_nil) zcj_eq rfl
def zcg_E : Env := (eZ [] [188])
def zcg_H : Hints := (hZ [] [])
def zcg_F : PFn := closeF (runF Tryz.prog zcg_E zcg_H Tryz.f149)
def zcg_Y : TH := yZ
def zcg (a0 : Int) (a1 : Int) : Option Int :=
 cond (decide (a0 < a1)) (
 some (-1)) (
 cond (decide (a0 > a1)) (
 some 1) (
 some 0))
def zcg_T : TFn := { ps := tT16, res := (.int .i64), fn := fun v => zcg v.1 v.2.1 }
def zcg_V : TEnv := (vZ [])
theorem zcg_eq : runY Tryz.prog zcg_E zcg_H zcg_V zcg_Y Tryz.f149 zcg_T.ps zcg_T.res = zcg_T.fn := by kernel_rfl
theorem zcg_Fok : SoundP Tryz.prog G0 149 zcg_F := closeF_sound (runF_sound ⟨same_ok, envP_nil, envS_nil, envP_nil, envX_nil⟩ Tryz.func149 rfl (by kernel_rfl))
theorem zcg_ok : TOk zcg_F zcg_T := runY_ok (E := zcg_E) (ET := zcg_V) (EnvT.ofX (pure_of pairs_nil) looks_nil raws_nil G0_ok news_nil) zcg_eq rfl
def zbx_E : Env := (eZ [(149, zcg_F)] [188])
def zbx_H : Hints := (hZ [(2, [0, 1, 5])] [])
def zbx_F : PFn := closeF (runF Tryz.prog zbx_E zbx_H Tryz.f91)
def zbx_Y : TH := { joins := [(6, { keep := [], mem := [] })], loops := [(2, { keep := [(5, (.int .i64))], mem := [] })], ro := [] }
def zbx_l2 (a0 : List UInt8) (a1 : List UInt8) (y2 : (Int × Unit)) : Option ((Int × Unit) ⊕ (Unit ⊕ Int)) :=
 cond (decide (y2.1 < (a0.length : Int))) (cond (decide (y2.1 < (a1.length : Int))) (
(atI a0 y2.1).bind fun b1 =>
(atI a1 y2.1).bind fun b2 =>
 cond (!decide ((b1.toNat : Int) = (b2.toNat : Int))) (
(atI a0 y2.1).bind fun b3 =>
(atI a1 y2.1).bind fun b4 =>
(zcg (IntKind.wrap .i64 (b3.toNat : Int)) (IntKind.wrap .i64 (b4.toNat : Int))).bind fun r5 =>
 some (.inr (.inr r5))) (
 some (.inl ((IntKind.wrap .i64 (y2.1 + 1)), ())))) (
 some (.inr (.inl ())))) (some (.inr (.inl ())))
def zbx (a0 : List UInt8) (a1 : List UInt8) : Option Int :=
(loopT (zbx_l2 a0 a1) (0, ()) : Option (Unit ⊕ Int)).bind (joinS fun v6 =>
(zcg (a0.length : Int) (a1.length : Int)).bind fun r7 =>
 some r7)
def zbx_T : TFn := { ps := (.cons .str (.cons .str .unit)), res := (.int .i64), fn := fun v => zbx v.1 v.2.1 }
def zbx_V : TEnv := (vZ [(149, zcg_T)])
theorem zbx_eq : runY Tryz.prog zbx_E zbx_H zbx_V zbx_Y Tryz.f91 zbx_T.ps zbx_T.res = zbx_T.fn := by kernel_rfl
theorem zbx_Fok : SoundP Tryz.prog G0 91 zbx_F := closeF_sound (runF_sound ⟨same_ok, (envP_cons zcg_Fok envP_nil), envS_nil, envP_nil, envX_nil⟩ Tryz.func91 rfl (by kernel_rfl))
theorem zbx_ok : TOk zbx_F zbx_T := runY_ok (E := zbx_E) (ET := zbx_V) (EnvT.ofX (pure_of (pairs_cons zcg_ok pairs_nil)) looks_nil raws_nil G0_ok news_nil) zbx_eq rfl
def za3_E : Env := (eZ [(91, zbx_F)] [188])
def za3_H : Hints := (hZ [(2, [0, 1, 5])] [])
def za3_F : PFn := closeF (runF Tryz.prog za3_E za3_H Tryz.f44)
def za3_Y : TH := { joins := [(7, { keep := [], mem := [] })], loops := [(2, { keep := [(5, (.int .i64))], mem := [] })], ro := [] }
def za3_l2 (a0 : List (List UInt8)) (a1 : List (List UInt8)) (y2 : (Int × Unit)) : Option ((Int × Unit) ⊕ (Unit ⊕ Int)) :=
 cond (decide (y2.1 < (a0.length : Int))) (cond (decide (y2.1 < (a1.length : Int))) (
(atI a0 y2.1).bind fun x1 =>
(atI a1 y2.1).bind fun x2 =>
(zbx x1 x2).bind fun r3 =>
 cond (!decide (r3 = 0)) (
 some (.inr (.inr r3))) (
 some (.inl ((IntKind.wrap .i64 (y2.1 + 1)), ())))) (
 some (.inr (.inl ())))) (some (.inr (.inl ())))
def za3 (a0 : List (List UInt8)) (a1 : List (List UInt8)) : Option Int :=
(loopT (za3_l2 a0 a1) (0, ()) : Option (Unit ⊕ Int)).bind (joinS fun v4 =>
 cond (decide ((a0.length : Int) < (a1.length : Int))) (
 some (-1)) (
 cond (decide ((a0.length : Int) > (a1.length : Int))) (
 some 1) (
 some 0)))
def za3_T : TFn := { ps := (.cons (.sl .str) tT17), res := (.int .i64), fn := fun v => za3 v.1 v.2.1 }
def za3_V : TEnv := (vZ [(91, zbx_T)])
theorem za3_eq : runY Tryz.prog za3_E za3_H za3_V za3_Y Tryz.f44 za3_T.ps za3_T.res = za3_T.fn := by kernel_rfl
theorem za3_Fok : SoundP Tryz.prog G0 44 za3_F := closeF_sound (runF_sound ⟨same_ok, (envP_cons zbx_Fok envP_nil), envS_nil, envP_nil, envX_nil⟩ Tryz.func44 rfl (by kernel_rfl))
theorem za3_ok : TOk za3_F za3_T := runY_ok (E := za3_E) (ET := za3_V) (EnvT.ofX (pure_of (pairs_cons zbx_ok pairs_nil)) looks_nil raws_nil G0_ok news_nil) za3_eq rfl
def zav_E : Env := (eZ [(44, za3_F)] [188])
def zav_H : Hints := (hZ [] [])
def zav_F : PFn := closeF (runF Tryz.prog zav_E zav_H Tryz.f129)
def zav_Y : TH := { loops := [], ro := [2, 3] }
def zav (a0 : vV3) (a1 : vV3) : Option Int :=
(za3 a0.1 a1.1).bind fun r1 =>
 cond (!decide (r1 = 0)) (
 some r1) (
 some (IntKind.wrap .i64 (a0.2.1 - a1.2.1)))
def zav_T : TFn := { ps := (.cons tT14 (.cons tT14 .unit)), res := (.int .i64), fn := fun v => zav v.1 v.2.1 }
def zav_V : TEnv := (vZ [(44, za3_T)])
theorem zav_eq : runY Tryz.prog zav_E zav_H zav_V zav_Y Tryz.f129 zav_T.ps zav_T.res = zav_T.fn := by kernel_rfl
theorem zav_Fok : SoundP Tryz.prog G0 129 zav_F := closeF_sound (runF_sound ⟨same_ok, (envP_cons za3_Fok envP_nil), envS_nil, envP_nil, envX_nil⟩ Tryz.func129 rfl (by kernel_rfl))
theorem zav_ok : TOk zav_F zav_T := runY_ok (E := zav_E) (ET := zav_V) (EnvT.ofX (pure_of (pairs_cons za3_ok pairs_nil)) looks_nil raws_nil G0_ok news_nil) zav_eq rfl
def za8_E : Env := (eZ [(54, zcj_F), (129, zav_F)] [188])
def za8_H : Hints := (hZ [(3, [0, 3, 4]), (7, [0, 3, 4, 5, 6]), (12, [0, 3, 4, 5, 6, 7])] [19, 25])
def za8_F : PFn := closeF (runF Tryz.prog za8_E za8_H Tryz.f70)
def za8_Y : TH := { joins := [(9, { keep := [(3, (.own 1)), (5, (.bx 2 0)), (6, (.int .i64))], mem := [.gone, .row true 113 tT14, .box 113 tT14] }), (10, { keep := [(3, (.own 1)), (5, (.bx 2 0))], mem := [.gone, .row true 113 tT14, .box 113 tT14] }), (15, { keep := [(3, (.own 1)), (5, (.bx 2 0))], mem := [.gone, .row true 113 tT14, .box 113 tT14] })], loops := [(3, { keep := [(3, (.own 1)), (4, (.int .i64))], mem := [.gone, .row true 113 tT14] }), (7, { keep := [(3, (.own 1)), (5, (.bx 2 0)), (6, (.int .i64))], mem := [.gone, .row true 113 tT14, .box 113 tT14] }), (12, { keep := [(3, (.own 1)), (5, (.bx 2 0)), (7, (.int .i64))], mem := [.gone, .row true 113 tT14, .box 113 tT14] })], ro := [] }
def za8_l7 (y7 : (Int × List vV3 × vV3 × Unit)) : Option ((Int × List vV3 × vV3 × Unit) ⊕ ((Int × List vV3 × vV3 × Unit) ⊕ (vV8 ⊕ List vV3))) :=
 cond (decide (y7.1 < (y7.2.1.length : Int))) ((inI y7.2.1.length y7.1).bind fun i4 =>
(y7.2.1[i4]?).bind fun x5 =>
(zav x5 y7.2.2.1).bind fun r6 =>
 cond (decide (r6 < 0)) (
 some (.inl ((IntKind.wrap .i64 (y7.1 + 1)), y7.2.1, y7.2.2.1, ()))) (
 some (.inr (.inl (y7.1, y7.2.1, y7.2.2.1, ()))))) (some (.inr (.inl (y7.1, y7.2.1, y7.2.2.1, ()))))
def za8_l12 (v7 : (Int × List vV3 × vV3 × Unit)) (y12 : (Int × List vV3 × vV3 × Unit)) : Option ((Int × List vV3 × vV3 × Unit) ⊕ ((List vV3 × vV3 × Unit) ⊕ (vV8 ⊕ List vV3))) :=
 cond (decide (y12.1 > v7.1)) (
(inI y12.2.1.length (IntKind.wrap .i64 (y12.1 - 1))).bind fun i13 =>
(y12.2.1[i13]?).bind fun x14 =>
(inI y12.2.1.length y12.1).bind fun i15 =>
(y12.2.1[i15]?).bind fun x16 =>
 some (.inl ((IntKind.wrap .i64 (y12.1 - 1)), (y12.2.1.set i15 x14), y12.2.2.1, ()))) (
 some (.inr (.inl (y12.2.1, y12.2.2.1, ()))))
def za8_l3 (a0 : List vV0) (y3 : vV8) : Option (vV8 ⊕ List vV3) :=
 cond (decide (y3.1 < (a0.length : Int))) (
(atI a0 y3.1).bind fun x1 =>
(atI a0 y3.1).bind fun x2 =>
(zcj x2.2.1.1).bind fun r3 =>
(loopT (za8_l7) (0, y3.2.1, (x1.2.1.2.1, r3, ()), ()) : Option ((Int × List vV3 × vV3 × Unit) ⊕ (vV8 ⊕ List vV3))).bind (joinS fun v7 =>
(cond (decide (v7.1 < (v7.2.1.length : Int))) ((inI v7.2.1.length v7.1).bind fun i8 =>
(v7.2.1[i8]?).bind fun x9 =>
(zav x9 v7.2.2.1).bind fun r10 =>
 cond (decide (r10 = 0)) (
 some (.inr (.inl ((IntKind.wrap .i64 (y3.1 + 1)), v7.2.1, ())))) (
 some (.inl (v7.2.1, v7.2.2.1, ())))) (some (.inl (v7.2.1, v7.2.2.1, ()))) : Option ((List vV3 × vV3 × Unit) ⊕ (vV8 ⊕ List vV3))).bind (joinS fun v11 =>
(roomT (v11.1.length + ([v11.2.1] : List vV3).length)).bind fun u12 =>
(loopT (za8_l12 v7) ((IntKind.wrap .i64 (((v11.1 ++ ([v11.2.1] : List vV3)).length : Int) - 1)), (v11.1 ++ ([v11.2.1] : List vV3)), v11.2.1, ()) : Option ((List vV3 × vV3 × Unit) ⊕ (vV8 ⊕ List vV3))).bind (joinS fun v17 =>
(inI v17.1.length v7.1).bind fun i18 =>
(v17.1[i18]?).bind fun x19 =>
 some (.inl ((IntKind.wrap .i64 (y3.1 + 1)), (v17.1.set i18 v17.2.1), ())))))) (
 some (.inr y3.2.1))
def za8 (a0 : List vV0) : Option (List vV3) :=
 loopT (za8_l3 a0) (0, [], ())
def za8_T : TFn := { ps := (.cons (.sl tT10) .unit), res := (.sl tT14), fn := fun v => za8 v.1 }
def za8_V : TEnv := { pure := [(54, zcj_T), (129, zav_T)], look := [], glob := G0T, ty := [(113, tT14)], raw := [], fresh := [] }
theorem za8_eq : runY Tryz.prog za8_E za8_H za8_V za8_Y Tryz.f70 za8_T.ps za8_T.res = za8_T.fn := by kernel_rfl
theorem za8_Fok : SoundP Tryz.prog G0 70 za8_F := closeF_sound (runF_sound ⟨same_ok, (envP_cons zcj_Fok (envP_cons zav_Fok envP_nil)), envS_nil, envP_nil, envX_nil⟩ Tryz.func70 rfl (by kernel_rfl))
theorem za8_ok : TOk za8_F za8_T := runY_ok (E := za8_E) (ET := za8_V) (EnvT.ofX (pure_of (pairs_cons zcj_ok (pairs_cons zav_ok pairs_nil))) looks_nil raws_nil G0_ok news_nil) za8_eq rfl
def zat_F : PFn := cmpF
theorem zat_Fok : SoundP Tryz.prog G0 180 zat_F := cmp_sound ⟨Tryz.f180, Tryz.func180, rfl, by kernel_rfl⟩ Tryz.strings_Compare
def zat (a0 : List UInt8) (a1 : List UInt8) : Option Int := cmpT a0 a1
def zat_T : TFn := cmpT_T
theorem zat_ok : TOk zat_F zat_T := cmpT_ok
def za0_E : Env := (eZ [(124, zcd_F), (126, zas_F), (180, zat_F)] [188])
def za0_H : Hints := (hZ [] [])
def za0_F : PFn := closeF (runF Tryz.prog za0_E za0_H Tryz.f135)
def za0_Y : TH := { loops := [], ro := [2, 3] }
def za0 (a0 : vV2) (a1 : vV2) : Option Int :=
(zas a0.1 a1.1).bind fun r1 =>
(zas a0.2.1 a1.2.1).bind fun r2 =>
(zat a0.2.2.1 a1.2.2.1).bind fun r3 =>
(zcd ([r1, r2, r3] : List Int)).bind fun r4 =>
 some r4
def za0_T : TFn := { ps := (.cons tT12 (.cons tT12 .unit)), res := (.int .i64), fn := fun v => za0 v.1 v.2.1 }
def za0_V : TEnv := { pure := [(124, zcd_T), (126, zas_T), (180, zat_T)], look := [], glob := G0T, ty := [(3, (.int .i64))], raw := [], fresh := [] }
theorem za0_eq : runY Tryz.prog za0_E za0_H za0_V za0_Y Tryz.f135 za0_T.ps za0_T.res = za0_T.fn := by kernel_rfl
theorem za0_Fok : SoundP Tryz.prog G0 135 za0_F := closeF_sound (runF_sound ⟨same_ok, (envP_cons zcd_Fok (envP_cons zas_Fok (envP_cons zat_Fok envP_nil))), envS_nil, envP_nil, envX_nil⟩ Tryz.func135 rfl (by kernel_rfl))
theorem za0_ok : TOk za0_F za0_T := runY_ok (E := za0_E) (ET := za0_V) (EnvT.ofX (pure_of (pairs_cons zcd_ok (pairs_cons zas_ok (pairs_cons zat_ok pairs_nil)))) looks_nil raws_nil G0_ok news_nil) za0_eq rfl
theorem zat_FokD : @SoundP ⟨True⟩ Tryz.prog G0 180 zat_F := by
 letI : Drawn := ⟨True⟩
 exact cmp_sound ⟨Tryz.f180, Tryz.func180, rfl, by kernel_rfl⟩ Tryz.strings_Compare
theorem za0_FokD : @SoundP ⟨True⟩ Tryz.prog G0 135 za0_F := by
 letI : Drawn := ⟨True⟩
 exact closeF_sound (runF_sound ⟨same_ok, (envP_cons zcd_FokD (envP_cons zas_FokD (envP_cons zat_FokD envP_nil))), envS_nil, envP_nil, envX_nil⟩ Tryz.func135 rfl (by kernel_rfl))
def zad_ren : Go.Shelf.Ren := ⟨fun | 6 => 134 | 14 => 179 | 15 => 123 | 20 => 213 | 21 => 214 | 22 => 215 | 23 => 216 | 24 => 217 | 25 => 218 | 26 => 219 | 27 => 220 | 28 => 171 | 29 => 172 | 46 => 239 | 47 => 205 | 48 => 206 | 49 => 240 | 50 => 241 | 57 => 251 | n => n, fun | 0 => 0 | 3 => 3 | 4 => 4 | 5 => 5 | 9 => 9 | 22 => 66 | 24 => 26 | 25 => 168 | 39 => 162 | 45 => 194 | 46 => 195 | 50 => 155 | 53 => 201 | 55 => 203 | 66 => 223 | 70 => 227 | 76 => 249 | 77 => 189 | n => n, fun | n => n⟩
theorem zad_lays : Go.Proofs.SlLaysF0.n6 Tryz.prog zad_ren := {
 mixed := by kernel_rfl
 f6 := ⟨Tryz.f134.name, by decide, Tryz.func134.trans (congrArg some (by kernel_rfl))⟩
 f14 := ⟨Tryz.f179.name, by decide, Tryz.func179.trans (congrArg some (by kernel_rfl))⟩
 f15 := Tryz.func123.trans (congrArg some (by kernel_rfl))
 f20 := ⟨Tryz.f213.name, by decide, Tryz.func213.trans (congrArg some (by kernel_rfl))⟩
 f21 := ⟨Tryz.f214.name, by decide, Tryz.func214.trans (congrArg some (by kernel_rfl))⟩
 f22 := ⟨Tryz.f215.name, by decide, Tryz.func215.trans (congrArg some (by kernel_rfl))⟩
 f23 := ⟨Tryz.f216.name, by decide, Tryz.func216.trans (congrArg some (by kernel_rfl))⟩
 f24 := ⟨Tryz.f217.name, by decide, Tryz.func217.trans (congrArg some (by kernel_rfl))⟩
 f25 := ⟨Tryz.f218.name, by decide, Tryz.func218.trans (congrArg some (by kernel_rfl))⟩
 f26 := ⟨Tryz.f219.name, by decide, Tryz.func219.trans (congrArg some (by kernel_rfl))⟩
 f27 := ⟨Tryz.f220.name, by decide, Tryz.func220.trans (congrArg some (by kernel_rfl))⟩
 f28 := Tryz.func171.trans (congrArg some (by kernel_rfl))
 f29 := Tryz.func172.trans (congrArg some (by kernel_rfl))
 f46 := ⟨Tryz.f239.name, by decide, Tryz.func239.trans (congrArg some (by kernel_rfl))⟩
 f47 := Tryz.func205.trans (congrArg some (by kernel_rfl))
 f48 := Tryz.func206.trans (congrArg some (by kernel_rfl))
 f49 := ⟨Tryz.f240.name, by decide, Tryz.func240.trans (congrArg some (by kernel_rfl))⟩
 f50 := ⟨Tryz.f241.name, by decide, Tryz.func241.trans (congrArg some (by kernel_rfl))⟩
 f57 := ⟨Tryz.f251.name, by decide, Tryz.func251.trans (congrArg some (by kernel_rfl))⟩
 t0 := Tryz.underlying0
 a0 := Tryz.isAgg0
 z0 := Tryz.sizeOf0
 v0 := Tryz.zeroValue0
 t3 := Tryz.underlying3
 a3 := Tryz.isAgg3
 z3 := Tryz.sizeOf3
 v3 := Tryz.zeroValue3
 t4 := Tryz.underlying4
 a4 := Tryz.isAgg4
 z4 := Tryz.sizeOf4
 v4 := Tryz.zeroValue4
 t5 := Tryz.underlying5
 a5 := Tryz.isAgg5
 z5 := Tryz.sizeOf5
 v5 := Tryz.zeroValue5
 t9 := Tryz.underlying9
 a9 := Tryz.isAgg9
 z9 := Tryz.sizeOf9
 v9 := Tryz.zeroValue9
 t22 := Tryz.underlying66
 a22 := Tryz.isAgg66
 z22 := Tryz.sizeOf66
 v22 := Tryz.zeroValue66
 t25 := Tryz.underlying168
 a25 := Tryz.isAgg168
 z25 := Tryz.sizeOf168
 v25 := Tryz.zeroValue168
 t39 := Tryz.underlying162
 a39 := Tryz.isAgg162
 z39 := Tryz.sizeOf162
 v39 := Tryz.zeroValue162
 t45 := Tryz.underlying194
 a45 := Tryz.isAgg194
 z45 := Tryz.sizeOf194
 v45 := Tryz.zeroValue194
 t46 := Tryz.underlying195
 a46 := Tryz.isAgg195
 z46 := Tryz.sizeOf195
 v46 := Tryz.zeroValue195
 t50 := Tryz.underlying155
 a50 := Tryz.isAgg155
 z50 := Tryz.sizeOf155
 v50 := Tryz.zeroValue155
 t53 := Tryz.underlying201
 a53 := Tryz.isAgg201
 z53 := Tryz.sizeOf201
 v53 := Tryz.zeroValue201
 t55 := Tryz.underlying203
 a55 := Tryz.isAgg203
 z55 := Tryz.sizeOf203
 v55 := Tryz.zeroValue203
 t66 := Tryz.underlying223
 a66 := Tryz.isAgg223
 z66 := Tryz.sizeOf223
 v66 := Tryz.zeroValue223
 t70 := Tryz.underlying227
 a70 := Tryz.isAgg227
 z70 := Tryz.sizeOf227
 v70 := Tryz.zeroValue227
 t76 := Tryz.underlying249
 a76 := Tryz.isAgg249
 z76 := Tryz.sizeOf249
 v76 := Tryz.zeroValue249
 t77 := Tryz.underlying189
 a77 := Tryz.isAgg189
 z77 := Tryz.sizeOf189
 v77 := Tryz.zeroValue189 }
def zad_S : SFn := sortS za0_F 135 3 26
theorem zad_Sok : SoundS Tryz.prog G0 134 zad_S := sortS_sound (M := 3) (g := 135) zad_lays (by decide) (fun w => Tryz.isAgg26 w) (fun w => Tryz.sizeOf26 w) za0_FokD ⟨Tryz.f134, Tryz.func134, rfl, by kernel_rfl⟩
def zad (w0 : List vV2) : Option (Unit × List vV2 × Unit) := (sortT (fun x y => za0 x y) w0).map fun l => ((), (l, ()))
def zad_R : TRaw := sortR false 135 26 tT12 (fun x y => za0 x y)
theorem zad_ok : TRawOk zad_S zad_R := sortR_ok rfl rfl rfl rfl za0_ok
def zah_E : Env := (eZ [] [188])
def zah_H : Hints := (hZ [(4, [0, 3]), (9, [0, 3, 4, 5])] [])
def zah_S : SFn := giveS (runF Tryz.prog zah_E zah_H Tryz.f136)
def zah_Y : TH := { joins := [(14, { keep := [(0, (.own 0)), (3, (.int .i64))], mem := [.row false 26 tT12] })], loops := [(4, { keep := [(0, (.own 0)), (3, (.int .i64))], mem := [.row false 26 tT12] }), (9, { keep := [(0, (.own 0)), (3, (.int .i64)), (4, (.vw 0)), (5, (.int .i64))], mem := [.row false 26 tT12] })], ro := [] }
def zah_l9 (y9 : (Int × (Nat × Nat) × Int × List vV2 × Unit)) : Option ((Int × (Nat × Nat) × Int × List vV2 × Unit) ⊕ ((Int × List vV2 × Unit) ⊕ ((Int × List vV2 × Unit) ⊕ (List vV2)))) :=
 cond (decide (y9.2.2.1 < (y9.2.1.2 : Int))) (
 cond y9.2.2.2.1.isEmpty (none) ((inI y9.2.1.2 y9.2.2.1).bind fun i6 =>
(y9.2.2.2.1[(y9.2.1.1 + i6)]?).bind fun x7 =>
 cond y9.2.2.2.1.isEmpty (none) ((inI y9.2.1.2 (IntKind.wrap .i64 (y9.2.2.1 - 1))).bind fun i8 =>
(y9.2.2.2.1[(y9.2.1.1 + i8)]?).bind fun x9 =>
 cond (!(eqV tT12 x7 x9)) (
 cond y9.2.2.2.1.isEmpty (none) ((inI y9.2.1.2 y9.2.2.1).bind fun i10 =>
(y9.2.2.2.1[(y9.2.1.1 + i10)]?).bind fun x11 =>
(inI y9.2.2.2.1.length y9.1).bind fun i12 =>
(y9.2.2.2.1[i12]?).bind fun x13 =>
 some (.inl ((IntKind.wrap .i64 (y9.1 + 1)), y9.2.1, (IntKind.wrap .i64 (y9.2.2.1 + 1)), (y9.2.2.2.1.set i12 x11), ())))) (
 some (.inl (y9.1, y9.2.1, (IntKind.wrap .i64 (y9.2.2.1 + 1)), y9.2.2.2.1, ())))))) (
 some (.inr (.inl (y9.1, y9.2.2.2.1, ()))))
def zah_l4 (y4 : (Int × List vV2 × Unit)) : Option ((Int × List vV2 × Unit) ⊕ (List vV2)) :=
 cond (decide (y4.1 < (y4.2.1.length : Int))) (
(inI y4.2.1.length y4.1).bind fun i1 =>
(y4.2.1[i1]?).bind fun x2 =>
(inI y4.2.1.length (IntKind.wrap .i64 (y4.1 - 1))).bind fun i3 =>
(y4.2.1[i3]?).bind fun x4 =>
 cond (eqV tT12 x2 x4) (
 cond y4.2.1.isEmpty (none) ((viewI (y4.2.1.length) y4.1 (y4.2.1.length : Int)).bind fun p5 =>
(loopT (zah_l9) (y4.1, p5, 1, y4.2.1, ()) : Option ((Int × List vV2 × Unit) ⊕ ((Int × List vV2 × Unit) ⊕ (List vV2)))).bind (joinS fun v14 =>
 cond v14.2.1.isEmpty (none) ((viewI (v14.2.1.length) v14.1 (v14.2.1.length : Int)).bind fun p15 =>
 cond v14.2.1.isEmpty (none) ((if p15.1 + p15.2 ≤ v14.2.1.length then some () else none).bind fun u16 =>
 cond (v14.2.1.take p15.1 ++ List.replicate p15.2 (0, 0, [], ()) ++ v14.2.1.drop (p15.1 + p15.2)).isEmpty (none) ((viewI ((v14.2.1.take p15.1 ++ List.replicate p15.2 (0, 0, [], ()) ++ v14.2.1.drop (p15.1 + p15.2)).length) 0 v14.1).bind fun p17 =>
(cond (v14.2.1.take p15.1 ++ List.replicate p15.2 (0, 0, [], ()) ++ v14.2.1.drop (p15.1 + p15.2)).isEmpty none (if p17.1 + p17.2 ≤ (v14.2.1.take p15.1 ++ List.replicate p15.2 (0, 0, [], ()) ++ v14.2.1.drop (p15.1 + p15.2)).length then some (((v14.2.1.take p15.1 ++ List.replicate p15.2 (0, 0, [], ()) ++ v14.2.1.drop (p15.1 + p15.2)).drop p17.1).take p17.2) else none)).map .inr)))))) (
 some (.inl ((IntKind.wrap .i64 (y4.1 + 1)), y4.2.1, ())))) (
 some (.inr y4.2.1))
def zah_g (w0 : List vV2) : Option (List vV2) :=
 cond (decide ((w0.length : Int) < 2)) (
 some w0) (
 loopT (zah_l4) (1, w0, ()))
def zah (w0 : List vV2) : Option (List vV2 × Unit) := (zah_g w0).map fun l => (l, ())
def zah_R : TRaw := { ps := (.cons (.own 0) .unit), ins := [.row false 26 tT12], res := (.sl tT12), outs := [.gone], fn := fun v w => zah w.1 }
def zah_V : TEnv := (vZ [])
theorem zah_eq : giveY Tryz.prog zah_E zah_H zah_V zah_Y Tryz.f136 (.cons (.own 0) .unit) false 26 tT12 = fun _ w => zah_g w := by kernel_rfl
theorem zah_Sok : SoundS Tryz.prog G0 136 zah_S := giveS_sound (runF_sound ⟨same_ok, envP_nil, envS_nil, envP_nil, envX_nil⟩ Tryz.func136 rfl (by kernel_rfl))
theorem zah_ok : TRawOk zah_S zah_R := giveY_ok (E := zah_E) (ET := zah_V) (EnvT.ofX (pure_of pairs_nil) looks_nil raws_nil G0_ok news_nil) zah_eq
def zb7_E : Env := { pure := [(32, zc3_F)], raw := [(134, zad_S), (136, zah_S)], glob := G0, same := [188], look := [], ext := [] }
def zb7_H : Hints := (hZ [(3, [5, 10, 11, 12])] [])
def zb7_F : PFn := closeF (runF Tryz.prog zb7_E zb7_H Tryz.f76)
def zb7_Y : TH := { joins := [(7, { keep := [(5, (.own 1))], mem := [.gone, .row true 26 tT12] })], loops := [(3, { keep := [(5, (.own 1)), (12, (.int .i64))], mem := [.gone, .row true 26 tT12] })], ro := [] }
def zb7_l3 (r1 : List vV0) (y3 : (Int × List vV2 × Unit)) : Option ((Int × List vV2 × Unit) ⊕ ((List vV2 × Unit) ⊕ List vV2)) :=
 cond (decide (y3.1 < (r1.length : Int))) (
(atI r1 y3.1).bind fun x2 =>
(roomT (y3.2.1.length + ([x2.2.1.2.2.1] : List vV2).length)).bind fun u3 =>
 some (.inl ((IntKind.wrap .i64 (y3.1 + 1)), (y3.2.1 ++ ([x2.2.1.2.2.1] : List vV2)), ()))) (
 some (.inr (.inl (y3.2.1, ()))))
def zb7 (a0 : List vV0) (a1 : List (List UInt8)) : Option (List vV2) :=
((zc3 a0 a1 1).bind fun r1 =>
 loopT (zb7_l3 r1) (0, [], ()) : Option ((List vV2 × Unit) ⊕ List vV2)).bind (joinS fun v4 =>
(zad v4.1).bind fun q5 =>
(zah q5.2.1).bind fun q6 =>
 some q6.1)
def zb7_T : TFn := { ps := (.cons (.sl tT10) tT17), res := (.sl tT12), fn := fun v => zb7 v.1 v.2.1 }
def zb7_V : TEnv := { pure := [(32, zc3_T)], look := [], glob := G0T, ty := [(26, tT12)], raw := [(134, zad_R), (136, zah_R)], fresh := [] }
theorem zb7_eq : runY Tryz.prog zb7_E zb7_H zb7_V zb7_Y Tryz.f76 zb7_T.ps zb7_T.res = zb7_T.fn := by kernel_rfl
theorem zb7_Fok : SoundP Tryz.prog G0 76 zb7_F := closeF_sound (runF_sound ⟨same_ok, (envP_cons zc3_Fok envP_nil), (envS_cons zad_Sok (envS_cons zah_Sok envS_nil)), envP_nil, envX_nil⟩ Tryz.func76 rfl (by kernel_rfl))
theorem zb7_ok : TOk zb7_F zb7_T := runY_ok (E := zb7_E) (ET := zb7_V) (EnvT.ofX (pure_of (pairs_cons zc3_ok pairs_nil)) looks_nil (raws_cons zad_ok rfl rfl (raws_cons zah_ok rfl rfl raws_nil)) G0_ok news_nil) zb7_eq rfl
def zai_ren : Go.Shelf.Ren := ⟨fun | 22 => 138 | 29 => 181 | 30 => 182 | n => n, fun | 24 => 66 | 9 => 26 | 0 => 0 | 3 => 3 | 4 => 4 | n => n, fun | n => n⟩
theorem zai_lays : InsL Tryz.prog zai_ren := {
 mixed := by kernel_rfl
 f22 := ⟨Tryz.f138.name, by decide, Tryz.func138.trans (congrArg some (by kernel_rfl))⟩
 f29 := ⟨Tryz.f181.name, by decide, by kernel_rfl, by kernel_rfl, Tryz.func181.trans (congrArg some (by kernel_rfl))⟩
 t0 := Tryz.underlying0
 a0 := Tryz.isAgg0
 z0 := Tryz.sizeOf0
 v0 := Tryz.zeroValue0
 t3 := Tryz.underlying3
 a3 := Tryz.isAgg3
 z3 := Tryz.sizeOf3
 v3 := Tryz.zeroValue3
 t4 := Tryz.underlying4
 a4 := Tryz.isAgg4
 z4 := Tryz.sizeOf4
 v4 := Tryz.zeroValue4
 t24 := Tryz.underlying66
 a24 := Tryz.isAgg66
 z24 := Tryz.sizeOf66
 v24 := Tryz.zeroValue66 }
def zai_S : SFn := insertS 3 26
theorem zai_Sok : SoundS Tryz.prog G0 138 zai_S := insert_own zai_lays rfl rfl rfl (elem_lays (P := Tryz.prog) (te := 26) (M := 3) (by kernel_rfl) (by kernel_rfl) (by kernel_rfl) (by kernel_rfl) (by kernel_rfl) (by kernel_rfl) (by kernel_rfl) (by kernel_rfl)) true Tryz.isAgg26 ⟨Tryz.f138, Tryz.func138, rfl, by kernel_rfl⟩
def zai (a1 : Int) (a2 : List vV2) (w0 : List vV2) : Option (Unit × List vV2 × Unit) := (insT w0 a1 a2).map fun l => ((), (l, ()))
def zai_R : TRaw := insR false 26 tT12
theorem zai_ok : TRawOk zai_S zai_R := insR_ok rfl rfl rfl rfl (by decide)
def zaa_E : Env := (eZ [(135, za0_F)] [188])
def zaa_H : Hints := (hZ [(3, [0, 2, 4, 8, 9, 10])] [])
def zaa_F : PFn := closeF (runF Tryz.prog zaa_E zaa_H Tryz.f137)
def zaa_Y : TH := { joins := [(8, { keep := [(4, (.bx 0 0)), (9, (.int .i64))], mem := [.same] })], loops := [(3, { keep := [(4, (.bx 0 0)), (9, (.int .i64)), (10, (.int .i64))], mem := [.same] })], ro := [4] }
def zaa_l3 (a0 : List vV2) (a1 : vV2) (y3 : (Int × Int × Unit)) : Option ((Int × Int × Unit) ⊕ ((Int × Unit) ⊕ (Int × Bool × Unit))) :=
 cond (decide (y3.1 < y3.2.1)) (
(shrT .u64 (IntKind.wrap .u64 (IntKind.wrap .i64 (y3.1 + y3.2.1))) 1).bind fun t1 =>
(atI a0 (IntKind.wrap .i64 t1)).bind fun x2 =>
(za0 x2 a1).bind fun r3 =>
 cond (decide (r3 < 0)) (
 some (.inl ((IntKind.wrap .i64 ((IntKind.wrap .i64 t1) + 1)), y3.2.1, ()))) (
 some (.inl (y3.1, (IntKind.wrap .i64 t1), ())))) (
 some (.inr (.inl (y3.1, ()))))
def zaa (a0 : List vV2) (a1 : vV2) (a2 : Unit) : Option (Int × Bool × Unit) :=
(loopT (zaa_l3 a0 a1) (0, (a0.length : Int), ()) : Option ((Int × Unit) ⊕ (Int × Bool × Unit))).bind (joinS fun v4 =>
 cond (decide (v4.1 < (a0.length : Int))) ((atI a0 v4.1).bind fun x5 =>
(za0 x5 a1).bind fun r6 =>
 some (v4.1, (decide (r6 = 0)), ())) (some (v4.1, false, ())))
def zaa_T : TFn := { ps := (.cons (.sl tT12) (.cons tT12 (.cons (.fn 135) .unit))), res := (.tup (.cons (.int .i64) (.cons .bool .unit))), fn := fun v => zaa v.1 v.2.1 v.2.2.1 }
def zaa_V : TEnv := (vZ [(135, za0_T)])
theorem zaa_eq : runY Tryz.prog zaa_E zaa_H zaa_V zaa_Y Tryz.f137 zaa_T.ps zaa_T.res = zaa_T.fn := by kernel_rfl
theorem zaa_Fok : SoundP Tryz.prog G0 137 zaa_F := closeF_sound (runF_sound ⟨same_ok, (envP_cons za0_Fok envP_nil), envS_nil, envP_nil, envX_nil⟩ Tryz.func137 rfl (by kernel_rfl))
theorem zaa_ok : TOk zaa_F zaa_T := runY_ok (E := zaa_E) (ET := zaa_V) (EnvT.ofX (pure_of (pairs_cons za0_ok pairs_nil)) looks_nil raws_nil G0_ok news_nil) zaa_eq rfl
def zck_E : Env := { pure := [(32, zc3_F)], raw := [(138, zai_S)], glob := G0, same := [188], look := [(137, zaa_F)], ext := [] }
def zck_H : Hints := (hZ [(3, [5, 12, 13, 14])] [])
def zck_F : PFn := closeF (runF Tryz.prog zck_E zck_H Tryz.f77)
def zck_Y : TH := { loops := [(3, { keep := [(5, (.own 1)), (14, (.int .i64))], mem := [.gone, .row false 26 tT12] })], ro := [] }
def zck_l3 (r1 : List vV0) (y3 : (Int × List vV2 × Unit)) : Option ((Int × List vV2 × Unit) ⊕ List vV2) :=
 cond (decide (y3.1 < (r1.length : Int))) (
(atI r1 y3.1).bind fun x2 =>
(zaa y3.2.1 x2.2.1.2.2.1 ()).bind fun r3 =>
 cond (!r3.2.1) (
(zai r3.1 ([x2.2.1.2.2.1] : List vV2) y3.2.1).bind fun q4 =>
 some (.inl ((IntKind.wrap .i64 (y3.1 + 1)), q4.2.1, ()))) (
 some (.inl ((IntKind.wrap .i64 (y3.1 + 1)), y3.2.1, ())))) (
 some (.inr y3.2.1))
def zck (a0 : List vV0) (a1 : List (List UInt8)) : Option (List vV2) :=
(zc3 a0 a1 2).bind fun r1 =>
 loopT (zck_l3 r1) (0, [], ())
def zck_T : TFn := { ps := (.cons (.sl tT10) tT17), res := (.sl tT12), fn := fun v => zck v.1 v.2.1 }
def zck_V : TEnv := { pure := [(32, zc3_T)], look := [(137, zaa_T)], glob := G0T, ty := [(26, tT12)], raw := [(138, zai_R)], fresh := [] }
theorem zck_eq : runY Tryz.prog zck_E zck_H zck_V zck_Y Tryz.f77 zck_T.ps zck_T.res = zck_T.fn := by kernel_rfl
theorem zck_Fok : SoundP Tryz.prog G0 77 zck_F := closeF_sound (runF_sound ⟨same_ok, (envP_cons zc3_Fok envP_nil), (envS_cons zai_Sok envS_nil), (envP_cons zaa_Fok envP_nil), envX_nil⟩ Tryz.func77 rfl (by kernel_rfl))
theorem zck_ok : TOk zck_F zck_T := runY_ok (E := zck_E) (ET := zck_V) (EnvT.ofX (pure_of (pairs_cons zc3_ok pairs_nil)) (looks_cons zaa_ok rfl looks_nil) (raws_cons zai_ok rfl rfl raws_nil) G0_ok news_nil) zck_eq rfl
def zcq_E : Env := (eZ [(32, zc3_F)] [188])
def zcq_H : Hints := (hZ [(3, [5, 10, 11, 12])] [])
def zcq_F : PFn := closeF (runF Tryz.prog zcq_E zcq_H Tryz.f78)
def zcq_Y : TH := { loops := [(3, { keep := [(5, (.int .i64)), (12, (.int .i64))], mem := [] })], ro := [] }
def zcq_l3 (r1 : List vV0) (y3 : (Int × Int × Unit)) : Option ((Int × Int × Unit) ⊕ Int) :=
 cond (decide (y3.2.1 < (r1.length : Int))) (
(atI r1 y3.2.1).bind fun x2 =>
 some (.inl ((IntKind.wrap .i64 (y3.1 + x2.2.1.2.2.2.1)), (IntKind.wrap .i64 (y3.2.1 + 1)), ()))) (
 some (.inr y3.1))
def zcq (a0 : List vV0) (a1 : List (List UInt8)) : Option Int :=
(zc3 a0 a1 3).bind fun r1 =>
 loopT (zcq_l3 r1) (0, 0, ())
def zcq_T : TFn := { ps := (.cons (.sl tT10) tT17), res := (.int .i64), fn := fun v => zcq v.1 v.2.1 }
def zcq_V : TEnv := (vZ [(32, zc3_T)])
theorem zcq_eq : runY Tryz.prog zcq_E zcq_H zcq_V zcq_Y Tryz.f78 zcq_T.ps zcq_T.res = zcq_T.fn := by kernel_rfl
theorem zcq_Fok : SoundP Tryz.prog G0 78 zcq_F := closeF_sound (runF_sound ⟨same_ok, (envP_cons zc3_Fok envP_nil), envS_nil, envP_nil, envX_nil⟩ Tryz.func78 rfl (by kernel_rfl))
theorem zcq_ok : TOk zcq_F zcq_T := runY_ok (E := zcq_E) (ET := zcq_V) (EnvT.ofX (pure_of (pairs_cons zc3_ok pairs_nil)) looks_nil raws_nil G0_ok news_nil) zcq_eq rfl
def zc4_E : Env := (eZ [(50, zal_F), (76, zb7_F), (77, zck_F), (78, zcq_F)] [188])
def zc4_H : Hints := (hZ [] [])
def zc4_F : PFn := closeF (runF Tryz.prog zc4_E zc4_H Tryz.f37)
def zc4_Y : TH := yZ
def zc4 (a0 : List vV0) (a1 : List (List UInt8)) (a2 : Int) : Option vV5 :=
(zal a1).bind fun r1 =>
 cond (decide (a2 = 1)) (
(zb7 a0 a1).bind fun r2 =>
 some (r1, a2, r2, 0, ())) (
 cond (decide (a2 = 2)) (
(zck a0 a1).bind fun r3 =>
 some (r1, a2, r3, 0, ())) (
 cond (decide (a2 = 3)) (
(zcq a0 a1).bind fun r4 =>
 some (r1, a2, [], r4, ())) (
 some (r1, a2, [], 0, ()))))
def zc4_T : TFn := { ps := (.cons (.sl tT10) (.cons (.sl .str) (.cons (.int .i64) .unit))), res := tT15, fn := fun v => zc4 v.1 v.2.1 v.2.2.1 }
def zc4_V : TEnv := (vZ [(50, zal_T), (76, zb7_T), (77, zck_T), (78, zcq_T)])
theorem zc4_eq : runY Tryz.prog zc4_E zc4_H zc4_V zc4_Y Tryz.f37 zc4_T.ps zc4_T.res = zc4_T.fn := by kernel_rfl
theorem zc4_Fok : SoundP Tryz.prog G0 37 zc4_F := closeF_sound (runF_sound ⟨same_ok, (envP_cons zal_Fok (envP_cons zb7_Fok (envP_cons zck_Fok (envP_cons zcq_Fok envP_nil)))), envS_nil, envP_nil, envX_nil⟩ Tryz.func37 rfl (by kernel_rfl))
theorem zc4_ok : TOk zc4_F zc4_T := runY_ok (E := zc4_E) (ET := zc4_V) (EnvT.ofX (pure_of (pairs_cons zal_ok (pairs_cons zb7_ok (pairs_cons zck_ok (pairs_cons zcq_ok pairs_nil))))) looks_nil raws_nil G0_ok news_nil) zc4_eq rfl
def zcz_E : Env := (eZ [(44, za3_F), (54, zcj_F)] [188])
def zcz_H : Hints := (hZ [(3, [0, 1, 2, 7, 8])] [])
def zcz_F : PFn := closeF (runF Tryz.prog zcz_E zcz_H Tryz.f147)
def zcz_Y : TH := { loops := [(3, { keep := [(7, (.own 0)), (8, (.int .i64))], mem := [.row true 99 tT10] })], ro := [] }
def zcz_l3 (a0 : List vV0) (a1 : List (List UInt8)) (a2 : Int) (y3 : (Int × List vV0 × Unit)) : Option ((Int × List vV0 × Unit) ⊕ List vV0) :=
 cond (decide (y3.1 < (a0.length : Int))) (
(atI a0 y3.1).bind fun x1 =>
(zcj x1.2.1.1).bind fun r2 =>
 cond (decide (r2 = a2)) ((atI a0 y3.1).bind fun x3 =>
(za3 x3.2.1.2.1 a1).bind fun r4 =>
 cond (decide (r4 = 0)) (
(atI a0 y3.1).bind fun x5 =>
(roomT (y3.2.1.length + ([x5] : List vV0).length)).bind fun u6 =>
 some (.inl ((IntKind.wrap .i64 (y3.1 + 1)), (y3.2.1 ++ ([x5] : List vV0)), ()))) (
 some (.inl ((IntKind.wrap .i64 (y3.1 + 1)), y3.2.1, ())))) (some (.inl ((IntKind.wrap .i64 (y3.1 + 1)), y3.2.1, ())))) (
 some (.inr y3.2.1))
def zcz (a0 : List vV0) (a1 : List (List UInt8)) (a2 : Int) : Option (List vV0) :=
 loopT (zcz_l3 a0 a1 a2) (0, [], ())
def zcz_T : TFn := { ps := (.cons (.sl tT10) (.cons (.sl .str) (.cons (.int .i64) .unit))), res := (.sl tT10), fn := fun v => zcz v.1 v.2.1 v.2.2.1 }
def zcz_V : TEnv := { pure := [(44, za3_T), (54, zcj_T)], look := [], glob := G0T, ty := [(99, tT10)], raw := [], fresh := [] }
theorem zcz_eq : runY Tryz.prog zcz_E zcz_H zcz_V zcz_Y Tryz.f147 zcz_T.ps zcz_T.res = zcz_T.fn := by kernel_rfl
theorem zcz_Fok : SoundP Tryz.prog G0 147 zcz_F := closeF_sound (runF_sound ⟨same_ok, (envP_cons za3_Fok (envP_cons zcj_Fok envP_nil)), envS_nil, envP_nil, envX_nil⟩ Tryz.func147 rfl (by kernel_rfl))
theorem zcz_ok : TOk zcz_F zcz_T := runY_ok (E := zcz_E) (ET := zcz_V) (EnvT.ofX (pure_of (pairs_cons za3_ok (pairs_cons zcj_ok pairs_nil))) looks_nil raws_nil G0_ok news_nil) zcz_eq rfl
def za2_E : Env := (eZ [(91, zbx_F), (149, zcg_F)] [188])
def za2_H : Hints := (hZ [] [])
def za2_F : PFn := closeF (runF Tryz.prog za2_E za2_H Tryz.f189)
def za2_Y : TH := { loops := [], ro := [2, 3] }
def za2 (a0 : vV2) (a1 : vV2) : Option Int :=
 cond (!decide (a0.1 = a1.1)) (
(zcg a0.1 a1.1).bind fun r1 =>
 some r1) (
 cond (!decide (a0.2.1 = a1.2.1)) (
(zcg a0.2.1 a1.2.1).bind fun r2 =>
 some r2) (
(zbx a0.2.2.1 a1.2.2.1).bind fun r3 =>
 some r3))
def za2_T : TFn := { ps := (.cons tT12 (.cons tT12 .unit)), res := (.int .i64), fn := fun v => za2 v.1 v.2.1 }
def za2_V : TEnv := (vZ [(91, zbx_T), (149, zcg_T)])
theorem za2_eq : runY Tryz.prog za2_E za2_H za2_V za2_Y Tryz.f189 za2_T.ps za2_T.res = za2_T.fn := by kernel_rfl
theorem za2_Fok : SoundP Tryz.prog G0 189 za2_F := closeF_sound (runF_sound ⟨same_ok, (envP_cons zbx_Fok (envP_cons zcg_Fok envP_nil)), envS_nil, envP_nil, envX_nil⟩ Tryz.func189 rfl (by kernel_rfl))
theorem za2_ok : TOk za2_F za2_T := runY_ok (E := za2_E) (ET := za2_V) (EnvT.ofX (pure_of (pairs_cons zbx_ok (pairs_cons zcg_ok pairs_nil))) looks_nil raws_nil G0_ok news_nil) za2_eq rfl
def za6_E : Env := (eZ [(189, za2_F)] [188])
def za6_H : Hints := (hZ [(4, [0, 3, 5, 6, 7])] [])
def za6_F : PFn := closeF (runF Tryz.prog za6_E za6_H Tryz.f148)
def za6_Y : TH := { joins := [(13, { keep := [(3, (.bx 0 0)), (5, (.own 1)), (6, .bool)], mem := [.same, .row true 26 tT12] }), (12, { keep := [(3, (.bx 0 0)), (5, (.own 1)), (6, .bool)], mem := [.same, .row true 26 tT12] })], loops := [(4, { keep := [(3, (.bx 0 0)), (5, (.own 1)), (6, .bool), (7, (.int .i64))], mem := [.same, .row true 26 tT12] })], ro := [3] }
def za6_l4 (a0 : List vV2) (a1 : vV2) (y4 : (Bool × Int × List vV2 × Unit)) : Option ((Bool × Int × List vV2 × Unit) ⊕ ((Bool × List vV2 × Unit) ⊕ List vV2)) :=
 cond (decide (y4.2.1 < (a0.length : Int))) (
(atI a0 y4.2.1).bind fun x1 =>
(za2 a1 x1).bind fun r2 =>
 cond (decide (r2 = 0)) (
 some (.inr (.inr a0))) (
(cond (decide (r2 < 0)) (cond (!y4.1) (
(roomT (y4.2.2.1.length + ([a1] : List vV2).length)).bind fun u3 =>
 some (.inl (true, (y4.2.2.1 ++ ([a1] : List vV2)), ()))) (
 some (.inl (y4.1, y4.2.2.1, ())))) (some (.inl (y4.1, y4.2.2.1, ()))) : Option ((Bool × List vV2 × Unit) ⊕ ((Bool × Int × List vV2 × Unit) ⊕ ((Bool × List vV2 × Unit) ⊕ List vV2)))).bind (joinS fun v4 =>
(atI a0 y4.2.1).bind fun x5 =>
(roomT (v4.2.1.length + ([x5] : List vV2).length)).bind fun u6 =>
 some (.inl (v4.1, (IntKind.wrap .i64 (y4.2.1 + 1)), (v4.2.1 ++ ([x5] : List vV2)), ()))))) (
 some (.inr (.inl (y4.1, y4.2.2.1, ()))))
def za6 (a0 : List vV2) (a1 : vV2) : Option (List vV2) :=
(loopT (za6_l4 a0 a1) (false, 0, [], ()) : Option ((Bool × List vV2 × Unit) ⊕ List vV2)).bind (joinS fun v7 =>
 cond (!v7.1) (
(roomT (v7.2.1.length + ([a1] : List vV2).length)).bind fun u8 =>
 some (v7.2.1 ++ ([a1] : List vV2))) (
 some v7.2.1))
def za6_T : TFn := { ps := (.cons (.sl tT12) (.cons tT12 .unit)), res := (.sl tT12), fn := fun v => za6 v.1 v.2.1 }
def za6_V : TEnv := { pure := [(189, za2_T)], look := [], glob := G0T, ty := [(26, tT12)], raw := [], fresh := [] }
theorem za6_eq : runY Tryz.prog za6_E za6_H za6_V za6_Y Tryz.f148 za6_T.ps za6_T.res = za6_T.fn := by kernel_rfl
theorem za6_Fok : SoundP Tryz.prog G0 148 za6_F := closeF_sound (runF_sound ⟨same_ok, (envP_cons za2_Fok envP_nil), envS_nil, envP_nil, envX_nil⟩ Tryz.func148 rfl (by kernel_rfl))
theorem za6_ok : TOk za6_F za6_T := runY_ok (E := za6_E) (ET := za6_V) (EnvT.ofX (pure_of (pairs_cons za2_ok pairs_nil)) looks_nil raws_nil G0_ok news_nil) za6_eq rfl
def zbc_E : Env := (eZ [(147, zcz_F), (148, za6_F)] [188])
def zbc_H : Hints := (hZ [(4, [5, 6, 7])] [])
def zbc_F : PFn := closeF (runF Tryz.prog zbc_E zbc_H Tryz.f88)
def zbc_Y : TH := { loops := [(4, { keep := [(5, (.sl tT12)), (7, (.int .i64))], mem := [] })], ro := [] }
def zbc_l4 (r1 : List vV0) (y4 : (List vV2 × Int × Unit)) : Option ((List vV2 × Int × Unit) ⊕ List vV2) :=
 cond (decide (y4.2.1 < (r1.length : Int))) (
(atI r1 y4.2.1).bind fun x2 =>
(za6 y4.1 x2.2.1.2.2.1).bind fun r3 =>
 some (.inl (r3, (IntKind.wrap .i64 (y4.2.1 + 1)), ()))) (
 some (.inr y4.1))
def zbc (a0 : List vV0) (a1 : List (List UInt8)) : Option (List vV2) :=
(zcz a0 a1 1).bind fun r1 =>
 loopT (zbc_l4 r1) ([], 0, ())
def zbc_T : TFn := { ps := (.cons (.sl tT10) tT17), res := (.sl tT12), fn := fun v => zbc v.1 v.2.1 }
def zbc_V : TEnv := (vZ [(147, zcz_T), (148, za6_T)])
theorem zbc_eq : runY Tryz.prog zbc_E zbc_H zbc_V zbc_Y Tryz.f88 zbc_T.ps zbc_T.res = zbc_T.fn := by kernel_rfl
theorem zbc_Fok : SoundP Tryz.prog G0 88 zbc_F := closeF_sound (runF_sound ⟨same_ok, (envP_cons zcz_Fok (envP_cons za6_Fok envP_nil)), envS_nil, envP_nil, envX_nil⟩ Tryz.func88 rfl (by kernel_rfl))
theorem zbc_ok : TOk zbc_F zbc_T := runY_ok (E := zbc_E) (ET := zbc_V) (EnvT.ofX (pure_of (pairs_cons zcz_ok (pairs_cons za6_ok pairs_nil))) looks_nil raws_nil G0_ok news_nil) zbc_eq rfl
def zbd_E : Env := (eZ [(147, zcz_F), (148, za6_F)] [188])
def zbd_H : Hints := (hZ [(4, [5, 6, 7])] [])
def zbd_F : PFn := closeF (runF Tryz.prog zbd_E zbd_H Tryz.f89)
def zbd_Y : TH := { loops := [(4, { keep := [(5, (.sl tT12)), (7, (.int .i64))], mem := [] })], ro := [] }
def zbd_l4 (r1 : List vV0) (y4 : (List vV2 × Int × Unit)) : Option ((List vV2 × Int × Unit) ⊕ List vV2) :=
 cond (decide (y4.2.1 < (r1.length : Int))) (
(atI r1 y4.2.1).bind fun x2 =>
(za6 y4.1 x2.2.1.2.2.1).bind fun r3 =>
 some (.inl (r3, (IntKind.wrap .i64 (y4.2.1 + 1)), ()))) (
 some (.inr y4.1))
def zbd (a0 : List vV0) (a1 : List (List UInt8)) : Option (List vV2) :=
(zcz a0 a1 2).bind fun r1 =>
 loopT (zbd_l4 r1) ([], 0, ())
def zbd_T : TFn := { ps := (.cons (.sl tT10) tT17), res := (.sl tT12), fn := fun v => zbd v.1 v.2.1 }
def zbd_V : TEnv := (vZ [(147, zcz_T), (148, za6_T)])
theorem zbd_eq : runY Tryz.prog zbd_E zbd_H zbd_V zbd_Y Tryz.f89 zbd_T.ps zbd_T.res = zbd_T.fn := by kernel_rfl
theorem zbd_Fok : SoundP Tryz.prog G0 89 zbd_F := closeF_sound (runF_sound ⟨same_ok, (envP_cons zcz_Fok (envP_cons za6_Fok envP_nil)), envS_nil, envP_nil, envX_nil⟩ Tryz.func89 rfl (by kernel_rfl))
theorem zbd_ok : TOk zbd_F zbd_T := runY_ok (E := zbd_E) (ET := zbd_V) (EnvT.ofX (pure_of (pairs_cons zcz_ok (pairs_cons za6_ok pairs_nil))) looks_nil raws_nil G0_ok news_nil) zbd_eq rfl
def zbs_E : Env := (eZ [(147, zcz_F)] [188])
def zbs_H : Hints := (hZ [(4, [7, 8, 9, 10])] [])
def zbs_F : PFn := closeF (runF Tryz.prog zbs_E zbs_H Tryz.f90)
def zbs_Y : TH := { joins := [(11, { keep := [(7, (.int .i64)), (8, (.int .i64))], mem := [] }), (9, { keep := [(7, (.int .i64))], mem := [] })], loops := [(4, { keep := [(7, (.int .i64)), (8, (.int .i64)), (10, (.int .i64))], mem := [] })], ro := [] }
def zbs_l4 (r1 : List vV0) (y4 : (Int × Int × Int × Unit)) : Option ((Int × Int × Int × Unit) ⊕ ((Int × Int × Unit) ⊕ (Int × Int × Int × Unit))) :=
 cond (decide (y4.2.2.1 < (r1.length : Int))) (
(atI r1 y4.2.2.1).bind fun x2 =>
(cond (decide (x2.2.1.2.2.2.1 > 0)) (
 some (.inl ((IntKind.wrap .i64 (y4.1 + x2.2.1.2.2.2.1)), ()))) (
 some (.inl (y4.1, ()))) : Option ((Int × Unit) ⊕ ((Int × Int × Int × Unit) ⊕ ((Int × Int × Unit) ⊕ (Int × Int × Int × Unit))))).bind (joinS fun v3 =>
 cond (decide (x2.2.1.2.2.2.1 < 0)) (
 some (.inl (v3.1, (IntKind.wrap .i64 (y4.2.1 - x2.2.1.2.2.2.1)), (IntKind.wrap .i64 (y4.2.2.1 + 1)), ()))) (
 some (.inl (v3.1, y4.2.1, (IntKind.wrap .i64 (y4.2.2.1 + 1)), ()))))) (
 some (.inr (.inl (y4.1, y4.2.1, ()))))
def zbs (a0 : List vV0) (a1 : List (List UInt8)) : Option (Int × Int × Int × Unit) :=
(zcz a0 a1 3).bind fun r1 =>
(loopT (zbs_l4 r1) (0, 0, 0, ()) : Option ((Int × Int × Unit) ⊕ (Int × Int × Int × Unit))).bind (joinS fun v4 =>
 some (v4.1, v4.2.1, (r1.length : Int), ()))
def zbs_T : TFn := { ps := (.cons (.sl tT10) tT17), res := (.tup (.cons (.int .i64) tT16)), fn := fun v => zbs v.1 v.2.1 }
def zbs_V : TEnv := (vZ [(147, zcz_T)])
theorem zbs_eq : runY Tryz.prog zbs_E zbs_H zbs_V zbs_Y Tryz.f90 zbs_T.ps zbs_T.res = zbs_T.fn := by kernel_rfl
theorem zbs_Fok : SoundP Tryz.prog G0 90 zbs_F := closeF_sound (runF_sound ⟨same_ok, (envP_cons zcz_Fok envP_nil), envS_nil, envP_nil, envX_nil⟩ Tryz.func90 rfl (by kernel_rfl))
theorem zbs_ok : TOk zbs_F zbs_T := runY_ok (E := zbs_E) (ET := zbs_V) (EnvT.ofX (pure_of (pairs_cons zcz_ok pairs_nil)) looks_nil raws_nil G0_ok news_nil) zbs_eq rfl
def zcy_E : Env := (eZ [(88, zbc_F), (89, zbd_F), (90, zbs_F)] [188])
def zcy_H : Hints := (hZ [] [])
def zcy_F : PFn := closeF (runF Tryz.prog zcy_E zcy_H Tryz.f43)
def zcy_Y : TH := { joins := [(4, { keep := [(6, (.bx 0 0)), (7, (.bx 1 0))], mem := [.box 77 (.agg (.cons .nilsl (.cons (.int .i64) (.cons .nilsl (.cons (.int .i64) .unit))))), .box 77 tT15] }), (6, { keep := [(6, (.bx 0 0)), (7, (.bx 1 0))], mem := [.box 77 (.agg (.cons .nilsl (.cons (.int .i64) (.cons .nilsl (.cons (.int .i64) .unit))))), .box 77 tT15] })], loops := [], ro := [] }
def zcy (a0 : List vV0) (a1 : List (List UInt8)) (a2 : Int) : Option vV5 :=
(cond (decide (a2 = 1)) (
(zbc a0 a1).bind fun r1 =>
 some (.inl (((), 0, (), 0, ()), (a1, a2, r1, 0, ()), ()))) (
 some (.inl (((), 0, (), 0, ()), (a1, a2, [], 0, ()), ()))) : Option (((Unit × Int × Unit × Int × Unit) × vV5 × Unit) ⊕ vV5)).bind (joinS fun v2 =>
(cond (decide (a2 = 2)) (
(zbd a0 a1).bind fun r3 =>
 some (.inl (v2.1, (v2.2.1.1, v2.2.1.2.1, r3, v2.2.1.2.2.2.1, ()), ()))) (
 some (.inl (v2.1, v2.2.1, ()))) : Option (((Unit × Int × Unit × Int × Unit) × vV5 × Unit) ⊕ vV5)).bind (joinS fun v4 =>
 cond (decide (a2 = 3)) (
(zbs a0 a1).bind fun r5 =>
 some (v4.2.1.1, v4.2.1.2.1, v4.2.1.2.2.1, (IntKind.wrap .i64 (r5.1 - r5.2.1)), ())) (
 some v4.2.1)))
def zcy_T : TFn := { ps := (.cons (.sl tT10) (.cons (.sl .str) (.cons (.int .i64) .unit))), res := tT15, fn := fun v => zcy v.1 v.2.1 v.2.2.1 }
def zcy_V : TEnv := (vZ [(88, zbc_T), (89, zbd_T), (90, zbs_T)])
theorem zcy_eq : runY Tryz.prog zcy_E zcy_H zcy_V zcy_Y Tryz.f43 zcy_T.ps zcy_T.res = zcy_T.fn := by kernel_rfl
theorem zcy_Fok : SoundP Tryz.prog G0 43 zcy_F := closeF_sound (runF_sound ⟨same_ok, (envP_cons zbc_Fok (envP_cons zbd_Fok (envP_cons zbs_Fok envP_nil))), envS_nil, envP_nil, envX_nil⟩ Tryz.func43 rfl (by kernel_rfl))
theorem zcy_ok : TOk zcy_F zcy_T := runY_ok (E := zcy_E) (ET := zcy_V) (EnvT.ofX (pure_of (pairs_cons zbc_ok (pairs_cons zbd_ok (pairs_cons zbs_ok pairs_nil)))) looks_nil raws_nil G0_ok news_nil) zcy_eq rfl
def zb4_E : Env := (eZ [] [188])
def zb4_H : Hints := (hZ [(4, [0, 1, 5])] [])
def zb4_F : PFn := closeF (runF Tryz.prog zb4_E zb4_H Tryz.f31)
def zb4_Y : TH := { loops := [(4, { keep := [(5, (.int .i64))], mem := [] })], ro := [] }
def zb4_l4 (a0 : List (List UInt8)) (a1 : List (List UInt8)) (y4 : (Int × Unit)) : Option ((Int × Unit) ⊕ Bool) :=
 cond (decide (y4.1 < (a0.length : Int))) (
(atI a0 y4.1).bind fun x1 =>
(atI a1 y4.1).bind fun x2 =>
 cond (!decide (x1 = x2)) (
 some (.inr false)) (
 some (.inl ((IntKind.wrap .i64 (y4.1 + 1)), ())))) (
 some (.inr true))
def zb4 (a0 : List (List UInt8)) (a1 : List (List UInt8)) : Option Bool :=
 cond (!decide ((a0.length : Int) = (a1.length : Int))) (
 some false) (
 loopT (zb4_l4 a0 a1) (0, ()))
def zb4_T : TFn := { ps := (.cons (.sl .str) tT17), res := .bool, fn := fun v => zb4 v.1 v.2.1 }
def zb4_V : TEnv := (vZ [])
theorem zb4_eq : runY Tryz.prog zb4_E zb4_H zb4_V zb4_Y Tryz.f31 zb4_T.ps zb4_T.res = zb4_T.fn := by kernel_rfl
theorem zb4_Fok : SoundP Tryz.prog G0 31 zb4_F := closeF_sound (runF_sound ⟨same_ok, envP_nil, envS_nil, envP_nil, envX_nil⟩ Tryz.func31 rfl (by kernel_rfl))
theorem zb4_ok : TOk zb4_F zb4_T := runY_ok (E := zb4_E) (ET := zb4_V) (EnvT.ofX (pure_of pairs_nil) looks_nil raws_nil G0_ok news_nil) zb4_eq rfl
def zb9_E : Env := (eZ [] [188])
def zb9_H : Hints := (hZ [(4, [0, 1, 5])] [])
def zb9_F : PFn := closeF (runF Tryz.prog zb9_E zb9_H Tryz.f69)
def zb9_Y : TH := { loops := [(4, { keep := [(5, (.int .i64))], mem := [] })], ro := [] }
def zb9_l4 (a0 : List vV2) (a1 : List vV2) (y4 : (Int × Unit)) : Option ((Int × Unit) ⊕ Bool) :=
 cond (decide (y4.1 < (a0.length : Int))) (
(atI a0 y4.1).bind fun x1 =>
(atI a1 y4.1).bind fun x2 =>
 cond (!(eqV tT12 x1 x2)) (
 some (.inr false)) (
 some (.inl ((IntKind.wrap .i64 (y4.1 + 1)), ())))) (
 some (.inr true))
def zb9 (a0 : List vV2) (a1 : List vV2) : Option Bool :=
 cond (!decide ((a0.length : Int) = (a1.length : Int))) (
 some false) (
 loopT (zb9_l4 a0 a1) (0, ()))
def zb9_T : TFn := { ps := (.cons (.sl tT12) (.cons (.sl tT12) .unit)), res := .bool, fn := fun v => zb9 v.1 v.2.1 }
def zb9_V : TEnv := (vZ [])
theorem zb9_eq : runY Tryz.prog zb9_E zb9_H zb9_V zb9_Y Tryz.f69 zb9_T.ps zb9_T.res = zb9_T.fn := by kernel_rfl
theorem zb9_Fok : SoundP Tryz.prog G0 69 zb9_F := closeF_sound (runF_sound ⟨same_ok, envP_nil, envS_nil, envP_nil, envX_nil⟩ Tryz.func69 rfl (by kernel_rfl))
theorem zb9_ok : TOk zb9_F zb9_T := runY_ok (E := zb9_E) (ET := zb9_V) (EnvT.ofX (pure_of pairs_nil) looks_nil raws_nil G0_ok news_nil) zb9_eq rfl
def zci_E : Env := (eZ [(31, zb4_F), (69, zb9_F)] [188])
def zci_H : Hints := (hZ [(4, [0, 1, 5])] [])
def zci_F : PFn := closeF (runF Tryz.prog zci_E zci_H Tryz.f28)
def zci_Y : TH := { loops := [(4, { keep := [(5, (.int .i64))], mem := [] })], cuts := [(6, [(24, { keep := [(40, .bool)], mem := [] }), (14, { keep := [(54, .bool)], mem := [] })])], ro := [], news := [] }
def zci_l4 (a0 : List vV5) (a1 : List vV5) (y4 : (Int × Unit)) : Option ((Int × Unit) ⊕ Bool) :=
 cond (decide (y4.1 < (a0.length : Int))) (
((atI a0 y4.1).bind fun x1 =>
(atI a1 y4.1).bind fun x2 =>
 cond (!decide (x1.2.1 = x2.2.1)) (some (true, ())) ((atI a0 y4.1).bind fun x3 =>
(atI a1 y4.1).bind fun x4 =>
 some ((!decide (x3.2.2.2.1 = x4.2.2.2.1)), ())) : Option (Bool × Unit)).bind fun v5 =>
(cond v5.1 (some (true, ())) ((atI a0 y4.1).bind fun x6 =>
(atI a1 y4.1).bind fun x7 =>
(zb4 x6.1 x7.1).bind fun r8 =>
 some ((!r8), ())) : Option (Bool × Unit)).bind fun v9 =>
 cond v9.1 (some (.inr false)) ((atI a0 y4.1).bind fun x10 =>
(atI a1 y4.1).bind fun x11 =>
(zb9 x10.2.2.1 x11.2.2.1).bind fun r12 =>
 cond (!r12) (
 some (.inr false)) (
 some (.inl ((IntKind.wrap .i64 (y4.1 + 1)), ()))))) (
 some (.inr true))
def zci (a0 : List vV5) (a1 : List vV5) : Option Bool :=
 cond (!decide ((a0.length : Int) = (a1.length : Int))) (
 some false) (
 loopT (zci_l4 a0 a1) (0, ()))
def zci_T : TFn := { ps := (.cons (.sl tT15) (.cons (.sl tT15) .unit)), res := .bool, fn := fun v => zci v.1 v.2.1 }
def zci_V : TEnv := (vZ [(31, zb4_T), (69, zb9_T)])
theorem zci_eq : runY Tryz.prog zci_E zci_H zci_V zci_Y Tryz.f28 zci_T.ps zci_T.res = zci_T.fn := by kernel_rfl
theorem zci_Fok : SoundP Tryz.prog G0 28 zci_F := closeF_sound (runF_sound ⟨same_ok, (envP_cons zb4_Fok (envP_cons zb9_Fok envP_nil)), envS_nil, envP_nil, envX_nil⟩ Tryz.func28 rfl (by kernel_rfl))
theorem zci_ok : TOk zci_F zci_T := runY_ok (E := zci_E) (ET := zci_V) (EnvT.ofX (pure_of (pairs_cons zb4_ok (pairs_cons zb9_ok pairs_nil))) looks_nil raws_nil G0_ok news_nil) zci_eq rfl
def zao_E : Env := (eZ [] [188])
def zao_H : Hints := (hZ [] [])
def zao_F : PFn := closeF (runF Tryz.prog zao_E zao_H Tryz.f238)
def zao_Y : TH := yZ
def zao (a0 : List UInt8) : Option Int :=
(atI a0 0).bind fun b1 =>
(atI a0 1).bind fun b2 =>
(shlT .u64 (IntKind.wrap .u64 (b2.toNat : Int)) 8).bind fun t3 =>
(atI a0 2).bind fun b4 =>
(shlT .u64 (IntKind.wrap .u64 (b4.toNat : Int)) 16).bind fun t5 =>
(atI a0 3).bind fun b6 =>
(shlT .u64 (IntKind.wrap .u64 (b6.toNat : Int)) 24).bind fun t7 =>
(atI a0 4).bind fun b8 =>
(shlT .u64 (IntKind.wrap .u64 (b8.toNat : Int)) 32).bind fun t9 =>
(atI a0 5).bind fun b10 =>
(shlT .u64 (IntKind.wrap .u64 (b10.toNat : Int)) 40).bind fun t11 =>
(atI a0 6).bind fun b12 =>
(shlT .u64 (IntKind.wrap .u64 (b12.toNat : Int)) 48).bind fun t13 =>
(atI a0 7).bind fun b14 =>
(shlT .u64 (IntKind.wrap .u64 (b14.toNat : Int)) 56).bind fun t15 =>
 some (IntKind.wrap .u64 ((BitVec.ofInt (IntKind.bits .u64) (IntKind.wrap .u64 ((BitVec.ofInt (IntKind.bits .u64) (IntKind.wrap .u64 ((BitVec.ofInt (IntKind.bits .u64) (IntKind.wrap .u64 ((BitVec.ofInt (IntKind.bits .u64) (IntKind.wrap .u64 ((BitVec.ofInt (IntKind.bits .u64) (IntKind.wrap .u64 ((BitVec.ofInt (IntKind.bits .u64) (IntKind.wrap .u64 ((BitVec.ofInt (IntKind.bits .u64) (IntKind.wrap .u64 (b1.toNat : Int)) ||| BitVec.ofInt (IntKind.bits .u64) t3).toNat)) ||| BitVec.ofInt (IntKind.bits .u64) t5).toNat)) ||| BitVec.ofInt (IntKind.bits .u64) t7).toNat)) ||| BitVec.ofInt (IntKind.bits .u64) t9).toNat)) ||| BitVec.ofInt (IntKind.bits .u64) t11).toNat)) ||| BitVec.ofInt (IntKind.bits .u64) t13).toNat)) ||| BitVec.ofInt (IntKind.bits .u64) t15).toNat))
def zao_T : TFn := { ps := (.cons .str .unit), res := (.int .u64), fn := fun v => zao v.1 }
def zao_V : TEnv := (vZ [])
theorem zao_eq : runY Tryz.prog zao_E zao_H zao_V zao_Y Tryz.f238 zao_T.ps zao_T.res = zao_T.fn := by kernel_rfl
theorem zao_Fok : SoundP Tryz.prog G0 238 zao_F := closeF_sound (runF_sound ⟨same_ok, envP_nil, envS_nil, envP_nil, envX_nil⟩ Tryz.func238 rfl (by kernel_rfl))
theorem zao_ok : TOk zao_F zao_T := runY_ok (E := zao_E) (ET := zao_V) (EnvT.ofX (pure_of pairs_nil) looks_nil raws_nil G0_ok news_nil) zao_eq rfl
def zaq_E : Env := (eZ [(238, zao_F)] [188])
def zaq_H : Hints := (hZ [(1, [0]), (9, [0])] [])
def zaq_F : PFn := closeF (runF Tryz.prog zaq_E zaq_H Tryz.f211)
def zaq_Y : TH := { joins := [(11, { keep := [(0, .str), (3, (.int .u8))], mem := [] })], loops := [(1, { keep := [(0, .str)], mem := [] }), (9, { keep := [(0, .str)], mem := [] })], cuts := [(21, [(10, { keep := [(6, (.bx 0 0)), (108, .bool)], mem := [.box 257 (.agg (.cons (.int .u8) (.cons (.int .u8) .unit)))] })]), (25, [(10, { keep := [(6, (.bx 0 0)), (139, .bool)], mem := [.box 257 (.agg (.cons (.int .u8) (.cons (.int .u8) .unit)))] }), (7, { keep := [(146, .bool)], mem := [.gone] }), (5, { keep := [(151, .bool)], mem := [.gone] })])], ro := [], news := [] }
def zaq_l9 (y9 : (List UInt8 × Unit)) : Option ((List UInt8 × Unit) ⊕ ((List UInt8 × Int × Unit) ⊕ ((List UInt8 × Unit) ⊕ Bool))) :=
 cond (decide ((y9.1.length : Int) > 32)) ((zao y9.1).bind fun r9 =>
(subI y9.1 8 (y9.1.length : Int)).bind fun s10 =>
(zao s10).bind fun r11 =>
(subI y9.1 16 (y9.1.length : Int)).bind fun s12 =>
(zao s12).bind fun r13 =>
(subI y9.1 24 (y9.1.length : Int)).bind fun s14 =>
(zao s14).bind fun r15 =>
 cond (decide ((IntKind.wrap .u64 ((BitVec.ofInt (IntKind.bits .u64) (IntKind.wrap .u64 ((BitVec.ofInt (IntKind.bits .u64) (IntKind.wrap .u64 ((BitVec.ofInt (IntKind.bits .u64) r9 ||| BitVec.ofInt (IntKind.bits .u64) r11).toNat)) ||| BitVec.ofInt (IntKind.bits .u64) (IntKind.wrap .u64 ((BitVec.ofInt (IntKind.bits .u64) r13 ||| BitVec.ofInt (IntKind.bits .u64) r15).toNat))).toNat)) &&& BitVec.ofInt (IntKind.bits .u64) 9259542123273814144).toNat)) = 0)) (
(subI y9.1 32 (y9.1.length : Int)).bind fun s16 =>
 some (.inl (s16, ()))) (
 some (.inr (.inr (.inl (y9.1, ())))))) (some (.inr (.inr (.inl (y9.1, ())))))
def zaq_l1 (y1 : (List UInt8 × Unit)) : Option ((List UInt8 × Unit) ⊕ Bool) :=
 cond (decide ((y1.1.length : Int) > 0)) (
(atI y1.1 0).bind fun b1 =>
(cond (decide ((b1.toNat : Int) < 128)) (
(subI y1.1 1 (y1.1.length : Int)).bind fun s2 =>
 cond (decide ((s2.length : Int) > 8)) ((zao s2).bind fun r3 =>
 cond (decide ((IntKind.wrap .u64 ((BitVec.ofInt (IntKind.bits .u64) r3 &&& BitVec.ofInt (IntKind.bits .u64) 9259542123273814144).toNat)) = 0)) (
(subI s2 8 (s2.length : Int)).bind fun s4 =>
 cond (decide ((s4.length : Int) > 16)) ((zao s4).bind fun r5 =>
(subI s4 8 (s4.length : Int)).bind fun s6 =>
(zao s6).bind fun r7 =>
 cond (decide ((IntKind.wrap .u64 ((BitVec.ofInt (IntKind.bits .u64) (IntKind.wrap .u64 ((BitVec.ofInt (IntKind.bits .u64) r5 ||| BitVec.ofInt (IntKind.bits .u64) r7).toNat)) &&& BitVec.ofInt (IntKind.bits .u64) 9259542123273814144).toNat)) = 0)) (
(subI s4 16 (s4.length : Int)).bind fun s8 =>
 loopT (zaq_l9) (s8, ())) (
 some (.inr (.inl (s4, ()))))) (some (.inr (.inl (s4, ()))))) (
 some (.inr (.inl (s2, ()))))) (some (.inr (.inl (s2, ()))))) (
 some (.inl (y1.1, (b1.toNat : Int), ()))) : Option ((List UInt8 × Int × Unit) ⊕ ((List UInt8 × Unit) ⊕ Bool))).bind (joinS fun v17 =>
(atI tabFirst v17.2.1).bind fun x18 =>
(shrT .u8 x18 4).bind fun t19 =>
(atI tabAccept t19).bind fun x20 =>
 cond (decide ((IntKind.wrap .i64 (IntKind.wrap .u8 ((BitVec.ofInt (IntKind.bits .u8) x18 &&& BitVec.ofInt (IntKind.bits .u8) 7).toNat))) = 2)) (
 cond (decide ((v17.1.length : Int) < 2)) (some (.inr false)) ((atI v17.1 1).bind fun b21 =>
 cond (decide ((b21.toNat : Int) < x20.1)) (some (.inr false)) ((atI v17.1 1).bind fun b22 =>
 cond (decide (x20.2.1 < (b22.toNat : Int))) (
 some (.inr false)) (
(subI v17.1 2 (v17.1.length : Int)).bind fun s23 =>
 some (.inl (s23, ())))))) (
 cond (decide ((IntKind.wrap .i64 (IntKind.wrap .u8 ((BitVec.ofInt (IntKind.bits .u8) x18 &&& BitVec.ofInt (IntKind.bits .u8) 7).toNat))) = 3)) (
(cond (decide ((v17.1.length : Int) < 3)) (some (true, x20, ())) ((atI v17.1 1).bind fun b24 =>
 some ((decide ((b24.toNat : Int) < x20.1)), x20, ())) : Option (Bool × (Int × Int × Unit) × Unit)).bind fun v25 =>
 cond v25.1 (some (.inr false)) ((atI v17.1 1).bind fun b26 =>
 cond (decide (v25.2.1.2.1 < (b26.toNat : Int))) (some (.inr false)) ((atI v17.1 2).bind fun b27 =>
 cond (decide ((b27.toNat : Int) < 128)) (some (.inr false)) ((atI v17.1 2).bind fun b28 =>
 cond (decide (191 < (b28.toNat : Int))) (
 some (.inr false)) (
(subI v17.1 3 (v17.1.length : Int)).bind fun s29 =>
 some (.inl (s29, ()))))))) (
 cond (decide ((IntKind.wrap .i64 (IntKind.wrap .u8 ((BitVec.ofInt (IntKind.bits .u8) x18 &&& BitVec.ofInt (IntKind.bits .u8) 7).toNat))) = 4)) (
(cond (decide ((v17.1.length : Int) < 4)) (some (true, x20, ())) ((atI v17.1 1).bind fun b30 =>
 some ((decide ((b30.toNat : Int) < x20.1)), x20, ())) : Option (Bool × (Int × Int × Unit) × Unit)).bind fun v31 =>
(cond v31.1 (some (true, ())) ((atI v17.1 1).bind fun b32 =>
 some ((decide (v31.2.1.2.1 < (b32.toNat : Int))), ())) : Option (Bool × Unit)).bind fun v33 =>
(cond v33.1 (some (true, ())) ((atI v17.1 2).bind fun b34 =>
 some ((decide ((b34.toNat : Int) < 128)), ())) : Option (Bool × Unit)).bind fun v35 =>
 cond v35.1 (some (.inr false)) ((atI v17.1 2).bind fun b36 =>
 cond (decide (191 < (b36.toNat : Int))) (some (.inr false)) ((atI v17.1 3).bind fun b37 =>
 cond (decide ((b37.toNat : Int) < 128)) (some (.inr false)) ((atI v17.1 3).bind fun b38 =>
 cond (decide (191 < (b38.toNat : Int))) (
 some (.inr false)) (
(subI v17.1 4 (v17.1.length : Int)).bind fun s39 =>
 some (.inl (s39, ()))))))) (
 some (.inr false)))))) (
 some (.inr true))
def zaq (a0 : List UInt8) : Option Bool :=
 loopT (zaq_l1) (a0, ())
def zaq_T : TFn := { ps := (.cons .str .unit), res := .bool, fn := fun v => zaq v.1 }
def zaq_V : TEnv := (vZ [(238, zao_T)])
theorem zaq_eq : runY Tryz.prog zaq_E zaq_H zaq_V zaq_Y Tryz.f211 zaq_T.ps zaq_T.res = zaq_T.fn := by kernel_rfl
theorem zaq_Fok : SoundP Tryz.prog G0 211 zaq_F := closeF_sound (runF_sound ⟨same_ok, (envP_cons zao_Fok envP_nil), envS_nil, envP_nil, envX_nil⟩ Tryz.func211 rfl (by kernel_rfl))
theorem zaq_ok : TOk zaq_F zaq_T := runY_ok (E := zaq_E) (ET := zaq_V) (EnvT.ofX (pure_of (pairs_cons zao_ok pairs_nil)) looks_nil raws_nil G0_ok news_nil) zaq_eq rfl
def zam_E : Env := (eZ [] [188])
def zam_H : Hints := (hZ [(2, [2, 4])] [])
def zam_F : PFn := closeF (runF Tryz.prog zam_E zam_H Tryz.f236)
def zam_Y : TH := { loops := [(2, { keep := [(2, (.int .i64)), (4, (.it 0))], mem := [.iter] })], ro := [] }
def zam_l2 (a0 : List UInt8) (y2 : (Int × Nat × Unit)) : Option ((Int × Nat × Unit) ⊕ Int) :=
 cond (decide (y2.2.1 < a0.length)) (some (.inl ((IntKind.wrap .i64 (y2.1 + 1)), (y2.2.1 + (Utf8.decode ⟨a0.toArray⟩ y2.2.1).2), ()))) (some (.inr y2.1))
def zam (a0 : List UInt8) : Option Int :=
 loopT (zam_l2 a0) (0, 0, ())
def zam_T : TFn := { ps := (.cons .str .unit), res := (.int .i64), fn := fun v => zam v.1 }
def zam_V : TEnv := (vZ [])
theorem zam_eq : runY Tryz.prog zam_E zam_H zam_V zam_Y Tryz.f236 zam_T.ps zam_T.res = zam_T.fn := by kernel_rfl
theorem zam_Fok : SoundP Tryz.prog G0 236 zam_F := closeF_sound (runF_sound ⟨same_ok, envP_nil, envS_nil, envP_nil, envX_nil⟩ Tryz.func236 rfl (by kernel_rfl))
theorem zam_ok : TOk zam_F zam_T := runY_ok (E := zam_E) (ET := zam_V) (EnvT.ofX (pure_of pairs_nil) looks_nil raws_nil G0_ok news_nil) zam_eq rfl
def zba_E : Env := (eZ [] [188])
def zba_H : Hints := (hZ [] [])
def zba_F : PFn := closeF (runF Tryz.prog zba_E zba_H Tryz.f237)
def zba_Y : TH := yZ
def zba (a0 : Int) : Option Bool :=
 cond (decide (a0 = 42)) (some true) (cond (decide (a0 = 63)) (some true) (some (decide (a0 = 92))))
def zba_T : TFn := { ps := (.cons (.int .i32) .unit), res := .bool, fn := fun v => zba v.1 }
def zba_V : TEnv := (vZ [])
theorem zba_eq : runY Tryz.prog zba_E zba_H zba_V zba_Y Tryz.f237 zba_T.ps zba_T.res = zba_T.fn := by kernel_rfl
theorem zba_Fok : SoundP Tryz.prog G0 237 zba_F := closeF_sound (runF_sound ⟨same_ok, envP_nil, envS_nil, envP_nil, envX_nil⟩ Tryz.func237 rfl (by kernel_rfl))
theorem zba_ok : TOk zba_F zba_T := runY_ok (E := zba_E) (ET := zba_V) (EnvT.ofX (pure_of pairs_nil) looks_nil raws_nil G0_ok news_nil) zba_eq rfl
def zb8_E : Env := (eZ [(211, zaq_F), (236, zam_F), (237, zba_F)] [188])
def zb8_H : Hints := (hZ [(6, [4, 5, 17])] [])
def zb8_F : PFn := closeF (runF Tryz.prog zb8_E zb8_H Tryz.f210)
def zb8_Y : TH := { joins := [(18, { keep := [(4, (.own 1)), (5, .bool)], mem := [.gone, .row true 253 (.agg (.cons (.int .i64) (.cons (.int .i32) .unit)))] }), (10, { keep := [(4, (.own 1)), (17, (.it 0)), (25, .bool)], mem := [.iter, .row true 253 (.agg (.cons (.int .i64) (.cons (.int .i32) .unit)))] })], loops := [(6, { keep := [(4, (.own 1)), (5, .bool), (17, (.it 0))], mem := [.iter, .row true 253 (.agg (.cons (.int .i64) (.cons (.int .i32) .unit)))] })], ro := [] }
def zb8_l6 (a0 : List UInt8) (y6 : (Bool × Nat × List (Int × Int × Unit) × Unit)) : Option ((Bool × Nat × List (Int × Int × Unit) × Unit) ⊕ ((Bool × List (Int × Int × Unit) × Unit) ⊕ (List (Int × Int × Unit) × Bool × Unit))) :=
 cond (decide (y6.2.1 < a0.length)) ((cond y6.1 ((zba ((Utf8.decode ⟨a0.toArray⟩ y6.2.1).1 : Int)).bind fun r3 =>
 some (.inl ((!r3), (y6.2.1 + (Utf8.decode ⟨a0.toArray⟩ y6.2.1).2), y6.2.2.1, ()))) (some (.inl (false, (y6.2.1 + (Utf8.decode ⟨a0.toArray⟩ y6.2.1).2), y6.2.2.1, ()))) : Option ((Bool × Nat × List (Int × Int × Unit) × Unit) ⊕ ((Bool × Nat × List (Int × Int × Unit) × Unit) ⊕ ((Bool × List (Int × Int × Unit) × Unit) ⊕ (List (Int × Int × Unit) × Bool × Unit))))).bind (joinS fun v4 =>
 cond v4.1 (
 some (.inr (.inr ([], false, ())))) (
 cond y6.1 ((roomT (v4.2.2.1.length + ([(0, ((Utf8.decode ⟨a0.toArray⟩ y6.2.1).1 : Int), ())] : List (Int × Int × Unit)).length)).bind fun u5 =>
 some (.inl (false, v4.2.1, (v4.2.2.1 ++ ([(0, ((Utf8.decode ⟨a0.toArray⟩ y6.2.1).1 : Int), ())] : List (Int × Int × Unit))), ()))) ((zba ((Utf8.decode ⟨a0.toArray⟩ y6.2.1).1 : Int)).bind fun r6 =>
 cond (!r6) (
(roomT (v4.2.2.1.length + ([(0, ((Utf8.decode ⟨a0.toArray⟩ y6.2.1).1 : Int), ())] : List (Int × Int × Unit)).length)).bind fun u7 =>
 some (.inl (false, v4.2.1, (v4.2.2.1 ++ ([(0, ((Utf8.decode ⟨a0.toArray⟩ y6.2.1).1 : Int), ())] : List (Int × Int × Unit))), ()))) (
 cond (decide (((Utf8.decode ⟨a0.toArray⟩ y6.2.1).1 : Int) = 92)) (
 some (.inl (true, v4.2.1, v4.2.2.1, ()))) (
 cond (decide (((Utf8.decode ⟨a0.toArray⟩ y6.2.1).1 : Int) = 63)) (
(roomT (v4.2.2.1.length + ([(1, 0, ())] : List (Int × Int × Unit)).length)).bind fun u8 =>
 some (.inl (y6.1, v4.2.1, (v4.2.2.1 ++ ([(1, 0, ())] : List (Int × Int × Unit))), ()))) (
(roomT (v4.2.2.1.length + ([(2, 0, ())] : List (Int × Int × Unit)).length)).bind fun u9 =>
 some (.inl (y6.1, v4.2.1, (v4.2.2.1 ++ ([(2, 0, ())] : List (Int × Int × Unit))), ()))))))))) (some (.inr (.inl (y6.1, y6.2.2.1, ()))))
def zb8 (a0 : List UInt8) : Option (List (Int × Int × Unit) × Bool × Unit) :=
(zaq a0).bind fun r1 =>
 cond (!r1) (some ([], false, ())) ((zam a0).bind fun r2 =>
 cond (decide (r2 > 64)) (
 some ([], false, ())) (
(loopT (zb8_l6 a0) (false, 0, [], ()) : Option ((Bool × List (Int × Int × Unit) × Unit) ⊕ (List (Int × Int × Unit) × Bool × Unit))).bind (joinS fun v10 =>
 cond v10.1 (
 some ([], false, ())) (
 some (v10.2.1, true, ())))))
def zb8_T : TFn := { ps := (.cons .str .unit), res := (.tup (.cons (.sl (.agg (.cons (.int .i64) (.cons (.int .i32) .unit)))) (.cons .bool .unit))), fn := fun v => zb8 v.1 }
def zb8_V : TEnv := { pure := [(211, zaq_T), (236, zam_T), (237, zba_T)], look := [], glob := G0T, ty := [(253, (.agg (.cons (.int .i64) (.cons (.int .i32) .unit))))], raw := [], fresh := [] }
theorem zb8_eq : runY Tryz.prog zb8_E zb8_H zb8_V zb8_Y Tryz.f210 zb8_T.ps zb8_T.res = zb8_T.fn := by kernel_rfl
theorem zb8_Fok : SoundP Tryz.prog G0 210 zb8_F := closeF_sound (runF_sound ⟨same_ok, (envP_cons zaq_Fok (envP_cons zam_Fok (envP_cons zba_Fok envP_nil))), envS_nil, envP_nil, envX_nil⟩ Tryz.func210 rfl (by kernel_rfl))
theorem zb8_ok : TOk zb8_F zb8_T := runY_ok (E := zb8_E) (ET := zb8_V) (EnvT.ofX (pure_of (pairs_cons zaq_ok (pairs_cons zam_ok (pairs_cons zba_ok pairs_nil)))) looks_nil raws_nil G0_ok news_nil) zb8_eq rfl
def zce_E : Env := (eZ [(210, zb8_F)] [188])
def zce_H : Hints := (hZ [] [])
def zce_F : PFn := closeF (runF Tryz.prog zce_E zce_H Tryz.f176)
def zce_Y : TH := yZ
def zce (a0 : List UInt8) : Option Bool :=
(zb8 a0).bind fun r1 =>
 some r1.2.1
def zce_T : TFn := { ps := (.cons .str .unit), res := .bool, fn := fun v => zce v.1 }
def zce_V : TEnv := (vZ [(210, zb8_T)])
theorem zce_eq : runY Tryz.prog zce_E zce_H zce_V zce_Y Tryz.f176 zce_T.ps zce_T.res = zce_T.fn := by kernel_rfl
theorem zce_Fok : SoundP Tryz.prog G0 176 zce_F := closeF_sound (runF_sound ⟨same_ok, (envP_cons zb8_Fok envP_nil), envS_nil, envP_nil, envX_nil⟩ Tryz.func176 rfl (by kernel_rfl))
theorem zce_ok : TOk zce_F zce_T := runY_ok (E := zce_E) (ET := zce_V) (EnvT.ofX (pure_of (pairs_cons zb8_ok pairs_nil)) looks_nil raws_nil G0_ok news_nil) zce_eq rfl
def zcv_E : Env := (eZ [] [188])
def zcv_H : Hints := (hZ [(3, [0, 1, 5, 6, 7, 8]), (14, [0, 5])] [])
def zcv_F : PFn := closeF (runF Tryz.prog zcv_E zcv_H Tryz.f212)
def zcv_Y : TH := { joins := [(14, { keep := [(5, (.int .i64))], mem := [] }), (12, { keep := [(6, (.int .i64)), (7, (.int .i64))], mem := [] }), (5, { keep := [(13, .bool)], mem := [] }), (16, { keep := [(5, (.int .i64))], mem := [] })], loops := [(3, { keep := [(5, (.int .i64)), (6, (.int .i64)), (7, (.int .i64)), (8, (.int .i64))], mem := [] }), (14, { keep := [(5, (.int .i64))], mem := [] })], ro := [] }
def zcv_l3 (a0 : List (Int × Int × Unit)) (a1 : List Int) (y3 : (Int × Int × Int × Int × Unit)) : Option ((Int × Int × Int × Int × Unit) ⊕ ((Int × Unit) ⊕ Bool)) :=
 cond (decide (y3.2.2.2.1 < (a1.length : Int))) (
((cond (decide (y3.1 < (a0.length : Int))) ((atI a0 y3.1).bind fun x1 =>
 some (.inl ((decide (x1.1 = 2)), ()))) (some (.inl (false, ()))) : Option ((Bool × Unit) ⊕ ((Int × Int × Unit) ⊕ ((Int × Int × Int × Int × Unit) ⊕ ((Int × Unit) ⊕ Bool))))).bind (joinS fun v2 =>
 cond v2.1 (
 some (.inr (.inl ((IntKind.wrap .i64 (y3.1 + 1)), y3.1, y3.2.2.2.1, y3.2.2.2.1, ())))) (
 cond (decide (y3.1 < (a0.length : Int))) ((atI a0 y3.1).bind fun x3 =>
 cond (decide (x3.1 = 1)) (some (.inr (.inl ((IntKind.wrap .i64 (y3.1 + 1)), y3.2.1, y3.2.2.1, (IntKind.wrap .i64 (y3.2.2.2.1 + 1)), ())))) ((atI a0 y3.1).bind fun x4 =>
(atI a1 y3.2.2.2.1).bind fun x5 =>
 cond (decide (x4.2.1 = x5)) (
 some (.inr (.inl ((IntKind.wrap .i64 (y3.1 + 1)), y3.2.1, y3.2.2.1, (IntKind.wrap .i64 (y3.2.2.2.1 + 1)), ())))) (
 cond (decide (y3.2.1 < 0)) (
 some (.inr (.inr (.inr false)))) (
 some (.inl (y3.2.1, y3.2.2.1, ())))))) (cond (decide (y3.2.1 < 0)) (
 some (.inr (.inr (.inr false)))) (
 some (.inl (y3.2.1, y3.2.2.1, ())))))) : Option ((Int × Int × Unit) ⊕ ((Int × Int × Int × Int × Unit) ⊕ ((Int × Unit) ⊕ Bool)))).bind (joinS fun v6 =>
 some (.inl ((IntKind.wrap .i64 (v6.1 + 1)), v6.1, (IntKind.wrap .i64 (v6.2.1 + 1)), (IntKind.wrap .i64 (v6.2.1 + 1)), ())))) (
 some (.inr (.inl (y3.1, ()))))
def zcv_l14 (a0 : List (Int × Int × Unit)) (y14 : (Int × Unit)) : Option ((Int × Unit) ⊕ ((Int × Unit) ⊕ Bool)) :=
 cond (decide (y14.1 < (a0.length : Int))) ((atI a0 y14.1).bind fun x8 =>
 cond (decide (x8.1 = 2)) (
 some (.inl ((IntKind.wrap .i64 (y14.1 + 1)), ()))) (
 some (.inr (.inl (y14.1, ()))))) (some (.inr (.inl (y14.1, ()))))
def zcv (a0 : List (Int × Int × Unit)) (a1 : List Int) : Option Bool :=
(loopT (zcv_l3 a0 a1) (0, (-1), 0, 0, ()) : Option ((Int × Unit) ⊕ Bool)).bind (joinS fun v7 =>
(loopT (zcv_l14 a0) (v7.1, ()) : Option ((Int × Unit) ⊕ Bool)).bind (joinS fun v9 =>
 some (decide (v9.1 = (a0.length : Int)))))
def zcv_T : TFn := { ps := (.cons (.sl (.agg (.cons (.int .i64) (.cons (.int .i32) .unit)))) (.cons (.sl (.int .i32)) .unit)), res := .bool, fn := fun v => zcv v.1 v.2.1 }
def zcv_V : TEnv := (vZ [])
theorem zcv_eq : runY Tryz.prog zcv_E zcv_H zcv_V zcv_Y Tryz.f212 zcv_T.ps zcv_T.res = zcv_T.fn := by kernel_rfl
theorem zcv_Fok : SoundP Tryz.prog G0 212 zcv_F := closeF_sound (runF_sound ⟨same_ok, envP_nil, envS_nil, envP_nil, envX_nil⟩ Tryz.func212 rfl (by kernel_rfl))
theorem zcv_ok : TOk zcv_F zcv_T := runY_ok (E := zcv_E) (ET := zcv_V) (EnvT.ofX (pure_of pairs_nil) looks_nil raws_nil G0_ok news_nil) zcv_eq rfl
def zb6_E : Env := { pure := [(210, zb8_F), (211, zaq_F)], raw := [], glob := G0, same := [188], look := [(212, zcv_F)], ext := [] }
def zb6_H : Hints := (hZ [] [20])
def zb6_F : PFn := closeF (runF Tryz.prog zb6_E zb6_H Tryz.f177)
def zb6_Y : TH := yZ
def zb6 (a0 : List UInt8) (a1 : List UInt8) : Option Bool :=
(zb8 a0).bind fun r1 =>
 cond r1.2.1 ((zaq a1).bind fun r2 =>
 cond r2 ((zcv r1.1 (runesT a1)).bind fun r3 =>
 some r3) (some false)) (some false)
def zb6_T : TFn := { ps := (.cons .str (.cons .str .unit)), res := .bool, fn := fun v => zb6 v.1 v.2.1 }
def zb6_V : TEnv := { pure := [(210, zb8_T), (211, zaq_T)], look := [(212, zcv_T)], glob := G0T, ty := [], raw := [], fresh := [] }
theorem zb6_eq : runY Tryz.prog zb6_E zb6_H zb6_V zb6_Y Tryz.f177 zb6_T.ps zb6_T.res = zb6_T.fn := by kernel_rfl
theorem zb6_Fok : SoundP Tryz.prog G0 177 zb6_F := closeF_sound (runF_sound ⟨same_ok, (envP_cons zb8_Fok (envP_cons zaq_Fok envP_nil)), envS_nil, (envP_cons zcv_Fok envP_nil), envX_nil⟩ Tryz.func177 rfl (by kernel_rfl))
theorem zb6_ok : TOk zb6_F zb6_T := runY_ok (E := zb6_E) (ET := zb6_V) (EnvT.ofX (pure_of (pairs_cons zb8_ok (pairs_cons zaq_ok pairs_nil))) (looks_cons zcv_ok rfl looks_nil) raws_nil G0_ok news_nil) zb6_eq rfl
def zay_E : Env := (eZ [(176, zce_F)] [188])
def zay_H : Hints := (hZ [] [])
def zay_F : PFn := closeF (runF Tryz.prog zay_E zay_H Tryz.f175)
def zay_Y : TH := yZ
def zay (a0 : List UInt8) : Option Bool :=
 cond (decide (a0 = [])) (some true) ((zce a0).bind fun r1 =>
 some (!r1))
def zay_T : TFn := { ps := (.cons .str .unit), res := .bool, fn := fun v => zay v.1 }
def zay_V : TEnv := (vZ [(176, zce_T)])
theorem zay_eq : runY Tryz.prog zay_E zay_H zay_V zay_Y Tryz.f175 zay_T.ps zay_T.res = zay_T.fn := by kernel_rfl
theorem zay_Fok : SoundP Tryz.prog G0 175 zay_F := closeF_sound (runF_sound ⟨same_ok, (envP_cons zce_Fok envP_nil), envS_nil, envP_nil, envX_nil⟩ Tryz.func175 rfl (by kernel_rfl))
theorem zay_ok : TOk zay_F zay_T := runY_ok (E := zay_E) (ET := zay_V) (EnvT.ofX (pure_of (pairs_cons zce_ok pairs_nil)) looks_nil raws_nil G0_ok news_nil) zay_eq rfl
def zag_E : Env := (eZ [(175, zay_F)] [188])
def zag_H : Hints := (hZ [(2, [0, 1, 7, 8])] [])
def zag_F : PFn := closeF (runF Tryz.prog zag_E zag_H Tryz.f192)
def zag_Y : TH := { loops := [(2, { keep := [(8, (.int .i64))], mem := [] })], ro := [] }
def zag_l2 (a0 : List (List UInt8)) (y2 : (Int × Unit)) : Option ((Int × Unit) ⊕ Int) :=
 cond (decide (y2.1 < (a0.length : Int))) (
(atI a0 y2.1).bind fun x1 =>
(zay x1).bind fun r2 =>
 cond r2 (
 some (.inr y2.1)) (
 some (.inl ((IntKind.wrap .i64 (y2.1 + 1)), ())))) (
 some (.inr (-1)))
def zag (a0 : List (List UInt8)) (a1 : Unit) : Option Int :=
 loopT (zag_l2 a0) (0, ())
def zag_T : TFn := { ps := (.cons (.sl .str) (.cons (.fn 175) .unit)), res := (.int .i64), fn := fun v => zag v.1 v.2.1 }
def zag_V : TEnv := (vZ [(175, zay_T)])
theorem zag_eq : runY Tryz.prog zag_E zag_H zag_V zag_Y Tryz.f192 zag_T.ps zag_T.res = zag_T.fn := by kernel_rfl
theorem zag_Fok : SoundP Tryz.prog G0 192 zag_F := closeF_sound (runF_sound ⟨same_ok, (envP_cons zay_Fok envP_nil), envS_nil, envP_nil, envX_nil⟩ Tryz.func192 rfl (by kernel_rfl))
theorem zag_ok : TOk zag_F zag_T := runY_ok (E := zag_E) (ET := zag_V) (EnvT.ofX (pure_of (pairs_cons zay_ok pairs_nil)) looks_nil raws_nil G0_ok news_nil) zag_eq rfl
def zaf_E : Env := (eZ [(192, zag_F)] [188])
def zaf_H : Hints := (hZ [] [])
def zaf_F : PFn := closeF (runF Tryz.prog zaf_E zaf_H Tryz.f152)
def zaf_Y : TH := yZ
def zaf (a0 : List (List UInt8)) (a1 : Unit) : Option Bool :=
(zag a0 a1).bind fun r1 =>
 some (decide (r1 ≥ 0))
def zaf_T : TFn := { ps := (.cons (.sl .str) (.cons (.fn 175) .unit)), res := .bool, fn := fun v => zaf v.1 v.2.1 }
def zaf_V : TEnv := (vZ [(192, zag_T)])
theorem zaf_eq : runY Tryz.prog zaf_E zaf_H zaf_V zaf_Y Tryz.f152 zaf_T.ps zaf_T.res = zaf_T.fn := by kernel_rfl
theorem zaf_Fok : SoundP Tryz.prog G0 152 zaf_F := closeF_sound (runF_sound ⟨same_ok, (envP_cons zag_Fok envP_nil), envS_nil, envP_nil, envX_nil⟩ Tryz.func152 rfl (by kernel_rfl))
theorem zaf_ok : TOk zaf_F zaf_T := runY_ok (E := zaf_E) (ET := zaf_V) (EnvT.ofX (pure_of (pairs_cons zag_ok pairs_nil)) looks_nil raws_nil G0_ok news_nil) zaf_eq rfl
def zbo_E : Env := (eZ [(152, zaf_F)] [188])
def zbo_H : Hints := (hZ [] [])
def zbo_F : PFn := closeF (runF Tryz.prog zbo_E zbo_H Tryz.f127)
def zbo_Y : TH := yZ
def zbo (a0 : List (List UInt8)) : Option Int :=
 cond (decide ((a0.length : Int) = 0)) (
 some 8) (
 cond (decide ((a0.length : Int) > 8)) (
 some 9) (
(zaf a0 ()).bind fun r1 =>
 cond r1 (
 some 8) (
 some 0)))
def zbo_T : TFn := { ps := tT17, res := (.int .i64), fn := fun v => zbo v.1 }
def zbo_V : TEnv := (vZ [(152, zaf_T)])
theorem zbo_eq : runY Tryz.prog zbo_E zbo_H zbo_V zbo_Y Tryz.f127 zbo_T.ps zbo_T.res = zbo_T.fn := by kernel_rfl
theorem zbo_Fok : SoundP Tryz.prog G0 127 zbo_F := closeF_sound (runF_sound ⟨same_ok, (envP_cons zaf_Fok envP_nil), envS_nil, envP_nil, envX_nil⟩ Tryz.func127 rfl (by kernel_rfl))
theorem zbo_ok : TOk zbo_F zbo_T := runY_ok (E := zbo_E) (ET := zbo_V) (EnvT.ofX (pure_of (pairs_cons zaf_ok pairs_nil)) looks_nil raws_nil G0_ok news_nil) zbo_eq rfl
def zbv_E (F : PFn) : Env := (eZ [(177, zb6_F), (128, F)] [188])
def zbv_H : Hints := (hZ [(1, [0, 1]), (4, [0, 1, 15, 16])] [])
def query_match_K (F : PFn) : PFn := closeF (runF Tryz.prog (zbv_E F) zbv_H Tryz.f128)
def zbv_Y : TH := { joins := [(13, { keep := [(1, (.sl .str))], mem := [] }), (10, { keep := [], mem := [] })], loops := [(1, { keep := [(0, (.sl .str)), (1, (.sl .str))], mem := [] }), (4, { keep := [(16, (.int .i64))], mem := [] })], ro := [] }
def zbv_l4 (y1 : vV6) (rec : (List (List UInt8) × List (List UInt8) × Unit → Option Bool)) (y4 : (Int × Unit)) : Option ((Int × Unit) ⊕ (Unit ⊕ (vV6 ⊕ ((List (List UInt8) × Unit) ⊕ Bool)))) :=
 cond (decide (y4.1 < (IntKind.wrap .i64 ((y1.2.1.length : Int) + 1)))) (
(subI y1.1 1 (y1.1.length : Int)).bind fun s2 =>
(subI y1.2.1 y4.1 (y1.2.1.length : Int)).bind fun s3 =>
(rec (s2, s3, ())).bind fun r4 =>
 cond r4 (
 some (.inr (.inr (.inr (.inr true))))) (
 some (.inl ((IntKind.wrap .i64 (y4.1 + 1)), ())))) (
 some (.inr (.inr (.inr (.inr false)))))
def zbv_l1 (rec : (List (List UInt8) × List (List UInt8) × Unit → Option Bool)) (y1 : vV6) : Option (vV6 ⊕ ((List (List UInt8) × Unit) ⊕ Bool)) :=
 cond (decide ((y1.1.length : Int) > 0)) (
((atI y1.1 0).bind fun x1 =>
 cond (decide (x1 = [42, 42])) (
 loopT (zbv_l4 y1 rec) (0, ())) (
 some (.inl ())) : Option (Unit ⊕ (vV6 ⊕ ((List (List UInt8) × Unit) ⊕ Bool)))).bind (joinS fun v5 =>
 cond (decide ((y1.2.1.length : Int) = 0)) (some (.inr (.inr false))) ((atI y1.1 0).bind fun x6 =>
(atI y1.2.1 0).bind fun x7 =>
(zb6 x6 x7).bind fun r8 =>
 cond (!r8) (
 some (.inr (.inr false))) (
(subI y1.1 1 (y1.1.length : Int)).bind fun s9 =>
(subI y1.2.1 1 (y1.2.1.length : Int)).bind fun s10 =>
 some (.inl (s9, s10, ())))))) (
 some (.inr (.inl (y1.2.1, ()))))
def zbv_step (rec : (vV6 → Option Bool)) (a0 : List (List UInt8)) (a1 : List (List UInt8)) : Option Bool :=
(loopT (zbv_l1 rec) (a0, a1, ()) : Option ((List (List UInt8) × Unit) ⊕ Bool)).bind (joinS fun v11 =>
 some (decide ((v11.1.length : Int) = 0)))
def query_match_fix : (vV6 → Option Bool) := fixT fun rec v => zbv_step rec v.1 v.2.1
def zbv (a0 : List (List UInt8)) (a1 : List (List UInt8)) : Option Bool := query_match_fix (a0, a1, ())
def zbv_T : TFn := { ps := (.cons (.sl .str) tT17), res := .bool, fn := fixT fun (rec : (vV6 → Option Bool)) v => zbv_step rec v.1 v.2.1 }
def zbv_F : PFn := fixF query_match_K zbv_T
def zbv_V (rec : (vV6 → Option Bool)) : TEnv := (vZ [(177, zb6_T), (128, { ps := (.cons (.sl .str) tT17), res := .bool, fn := rec })])
theorem zbv_eq (F : PFn) (rec : (vV6 → Option Bool)) : runY Tryz.prog (zbv_E F) zbv_H (zbv_V rec) zbv_Y Tryz.f128 zbv_T.ps zbv_T.res = fun v => zbv_step rec v.1 v.2.1 := by kernel_rfl
theorem zbv_Fok : SoundP Tryz.prog G0 128 zbv_F := rec_sound ⟨Tryz.f128, Tryz.func128, rfl, by kernel_rfl⟩ fun F hF => closeF_sound (runF_sound (P := Tryz.prog) (E := zbv_E F) (h := zbv_H) (f := 128) (fn := Tryz.f128) ⟨same_ok, (envP_cons zb6_Fok (envP_cons hF envP_nil)), envS_nil, envP_nil, envX_nil⟩ Tryz.func128 rfl (by kernel_rfl))
theorem zbv_ok : TOk zbv_F zbv_T := rec_ok rfl fun F rec hF => runY_ok (E := zbv_E F) (ET := zbv_V rec) (EnvT.ofX (E := zbv_E F) (ET := zbv_V rec) (pure_of (pairs_cons zb6_ok (pairs_cons hF pairs_nil))) looks_nil raws_nil G0_ok news_nil) (zbv_eq F rec) rfl
def zbi_E : Env := (eZ [(127, zbo_F), (128, zbv_F)] [188])
def zbi_H : Hints := (hZ [] [])
def zbi_F : PFn := closeF (runF Tryz.prog zbi_E zbi_H Tryz.f68)
def zbi_Y : TH := yZ
def zbi (a0 : List (List UInt8)) (a1 : List (List UInt8)) : Option Bool :=
(zbo a0).bind fun r1 =>
 cond (decide (r1 = 0)) ((zbv a0 a1).bind fun r2 =>
 some r2) (some false)
def zbi_T : TFn := { ps := (.cons (.sl .str) tT17), res := .bool, fn := fun v => zbi v.1 v.2.1 }
def zbi_V : TEnv := (vZ [(127, zbo_T), (128, zbv_T)])
theorem zbi_eq : runY Tryz.prog zbi_E zbi_H zbi_V zbi_Y Tryz.f68 zbi_T.ps zbi_T.res = zbi_T.fn := by kernel_rfl
theorem zbi_Fok : SoundP Tryz.prog G0 68 zbi_F := closeF_sound (runF_sound ⟨same_ok, (envP_cons zbo_Fok (envP_cons zbv_Fok envP_nil)), envS_nil, envP_nil, envX_nil⟩ Tryz.func68 rfl (by kernel_rfl))
theorem zbi_ok : TOk zbi_F zbi_T := runY_ok (E := zbi_E) (ET := zbi_V) (EnvT.ofX (pure_of (pairs_cons zbo_ok (pairs_cons zbv_ok pairs_nil))) looks_nil raws_nil G0_ok news_nil) zbi_eq rfl
def za9_E : Env := (eZ [(23, zbk_F), (68, zbi_F)] [188])
def za9_H : Hints := (hZ [(3, [1, 5, 9, 10, 11])] [])
def za9_F : PFn := closeF (runF Tryz.prog za9_E za9_H Tryz.f27)
def za9_Y : TH := { loops := [(3, { keep := [(5, (.own 1)), (11, (.int .i64))], mem := [.gone, .row true 65 tT14] })], ro := [] }
def za9_l3 (a1 : List (List UInt8)) (r1 : List vV3) (y3 : vV8) : Option (vV8 ⊕ List vV3) :=
 cond (decide (y3.1 < (r1.length : Int))) (
(atI r1 y3.1).bind fun x2 =>
(zbi a1 x2.1).bind fun r3 =>
 cond r3 (
(roomT (y3.2.1.length + ([x2] : List vV3).length)).bind fun u4 =>
 some (.inl ((IntKind.wrap .i64 (y3.1 + 1)), (y3.2.1 ++ ([x2] : List vV3)), ()))) (
 some (.inl ((IntKind.wrap .i64 (y3.1 + 1)), y3.2.1, ())))) (
 some (.inr y3.2.1))
def za9 (a0 : List vV0) (a1 : List (List UInt8)) : Option (List vV3) :=
(zbk a0).bind fun r1 =>
 loopT (za9_l3 a1 r1) (0, [], ())
def za9_T : TFn := { ps := (.cons (.sl tT10) tT17), res := (.sl tT14), fn := fun v => za9 v.1 v.2.1 }
def za9_V : TEnv := { pure := [(23, zbk_T), (68, zbi_T)], look := [], glob := G0T, ty := [(65, tT14)], raw := [], fresh := [] }
theorem za9_eq : runY Tryz.prog za9_E za9_H za9_V za9_Y Tryz.f27 za9_T.ps za9_T.res = za9_T.fn := by kernel_rfl
theorem za9_Fok : SoundP Tryz.prog G0 27 za9_F := closeF_sound (runF_sound ⟨same_ok, (envP_cons zbk_Fok (envP_cons zbi_Fok envP_nil)), envS_nil, envP_nil, envX_nil⟩ Tryz.func27 rfl (by kernel_rfl))
theorem za9_ok : TOk za9_F za9_T := runY_ok (E := za9_E) (ET := za9_V) (EnvT.ofX (pure_of (pairs_cons zbk_ok (pairs_cons zbi_ok pairs_nil))) looks_nil raws_nil G0_ok news_nil) za9_eq rfl
def zco_E : Env := (eZ [(27, za9_F), (37, zc4_F)] [188])
def zco_H : Hints := (hZ [(3, [0, 5, 10, 11, 12])] [])
def zco_F : PFn := closeF (runF Tryz.prog zco_E zco_H Tryz.f26)
def zco_Y : TH := { loops := [(3, { keep := [(5, (.own 1)), (12, (.int .i64))], mem := [.gone, .row true 68 tT15] })], ro := [] }
def zco_l3 (a0 : List vV0) (r1 : List vV3) (y3 : (Int × List vV5 × Unit)) : Option ((Int × List vV5 × Unit) ⊕ List vV5) :=
 cond (decide (y3.1 < (r1.length : Int))) (
(atI r1 y3.1).bind fun x2 =>
(zc4 a0 x2.1 x2.2.1).bind fun r3 =>
(roomT (y3.2.1.length + ([r3] : List vV5).length)).bind fun u4 =>
 some (.inl ((IntKind.wrap .i64 (y3.1 + 1)), (y3.2.1 ++ ([r3] : List vV5)), ()))) (
 some (.inr y3.2.1))
def zco (a0 : List vV0) (a1 : List (List UInt8)) : Option (List vV5) :=
(za9 a0 a1).bind fun r1 =>
 loopT (zco_l3 a0 r1) (0, [], ())
def zco_T : TFn := { ps := (.cons (.sl tT10) tT17), res := (.sl tT15), fn := fun v => zco v.1 v.2.1 }
def zco_V : TEnv := { pure := [(27, za9_T), (37, zc4_T)], look := [], glob := G0T, ty := [(68, tT15)], raw := [], fresh := [] }
theorem zco_eq : runY Tryz.prog zco_E zco_H zco_V zco_Y Tryz.f26 zco_T.ps zco_T.res = zco_T.fn := by kernel_rfl
theorem zco_Fok : SoundP Tryz.prog G0 26 zco_F := closeF_sound (runF_sound ⟨same_ok, (envP_cons za9_Fok (envP_cons zc4_Fok envP_nil)), envS_nil, envP_nil, envX_nil⟩ Tryz.func26 rfl (by kernel_rfl))
theorem zco_ok : TOk zco_F zco_T := runY_ok (E := zco_E) (ET := zco_V) (EnvT.ofX (pure_of (pairs_cons za9_ok (pairs_cons zc4_ok pairs_nil))) looks_nil raws_nil G0_ok news_nil) zco_eq rfl
def zbm_E : Env := (eZ [(115, zbt_F)] [188])
def zbm_H : Hints := (hZ [(6, [4, 6, 7])] [])
def zbm_F : PFn := closeF (runF Tryz.prog zbm_E zbm_H Tryz.f178)
def zbm_Y : TH := { joins := [(18, { keep := [(6, (.own 0)), (7, (.int .i64)), (8, (.int .i64))], mem := [.row true 3 (.int .i64)] }), (17, { keep := [(6, (.own 0))], mem := [.row true 3 (.int .i64)] })], loops := [(6, { keep := [(6, (.own 0)), (7, (.int .i64))], mem := [.row true 3 (.int .i64)] })], ro := [] }
def zbm_l6 (r1 : (List Int × Bool × Unit)) (y6 : (Int × List Int × Unit)) : Option ((Int × List Int × Unit) ⊕ (List Int × Bool × Unit)) :=
 cond (decide (y6.1 < (r1.1.length : Int))) (
(atI r1.1 y6.1).bind fun x2 =>
 cond (decide (x2 = 42)) (
(roomT (y6.2.1.length + ([(-2)] : List Int).length)).bind fun u3 =>
 some (.inl ((IntKind.wrap .i64 (y6.1 + 1)), (y6.2.1 ++ ([(-2)] : List Int)), ()))) (
 cond (decide (x2 = 63)) (
(roomT (y6.2.1.length + ([(-1)] : List Int).length)).bind fun u4 =>
 some (.inl ((IntKind.wrap .i64 (y6.1 + 1)), (y6.2.1 ++ ([(-1)] : List Int)), ()))) (
(cond (decide (x2 = 92)) (
(cond (decide ((IntKind.wrap .i64 (y6.1 + 1)) = (r1.1.length : Int))) (some (.inr (.inr (.inr ([], false, ()))))) ((atI r1.1 (IntKind.wrap .i64 (y6.1 + 1))).bind fun x5 =>
 cond (!decide (x5 = 92)) ((atI r1.1 (IntKind.wrap .i64 (y6.1 + 1))).bind fun x6 =>
 cond (!decide (x6 = 42)) ((atI r1.1 (IntKind.wrap .i64 (y6.1 + 1))).bind fun x7 =>
 cond (!decide (x7 = 63)) (
 some (.inr (.inr (.inr ([], false, ()))))) (
 some (.inl (y6.2.1, ())))) (some (.inl (y6.2.1, ())))) (some (.inl (y6.2.1, ())))) : Option ((List Int × Unit) ⊕ ((Int × Int × List Int × Unit) ⊕ ((Int × List Int × Unit) ⊕ (List Int × Bool × Unit))))).bind (joinS fun v8 =>
(atI r1.1 (IntKind.wrap .i64 (y6.1 + 1))).bind fun x9 =>
 some (.inl ((IntKind.wrap .i64 (y6.1 + 1)), x9, v8.1, ())))) (
 some (.inl (y6.1, x2, y6.2.1, ()))) : Option ((Int × Int × List Int × Unit) ⊕ ((Int × List Int × Unit) ⊕ (List Int × Bool × Unit)))).bind (joinS fun v10 =>
(roomT (v10.2.2.1.length + ([v10.2.1] : List Int).length)).bind fun u11 =>
 some (.inl ((IntKind.wrap .i64 (v10.1 + 1)), (v10.2.2.1 ++ ([v10.2.1] : List Int)), ())))))) (
 some (.inr (y6.2.1, true, ())))
def zbm (a0 : List UInt8) : Option (List Int × Bool × Unit) :=
(zbt a0).bind fun r1 =>
 cond (!r1.2.1) (some ([], false, ())) (cond (decide ((r1.1.length : Int) > 64)) (
 some ([], false, ())) (
 loopT (zbm_l6 r1) (0, [], ())))
def zbm_T : TFn := { ps := (.cons .str .unit), res := (.tup (.cons (.sl (.int .i64)) (.cons .bool .unit))), fn := fun v => zbm v.1 }
def zbm_V : TEnv := { pure := [(115, zbt_T)], look := [], glob := G0T, ty := [(3, (.int .i64))], raw := [], fresh := [] }
theorem zbm_eq : runY Tryz.prog zbm_E zbm_H zbm_V zbm_Y Tryz.f178 zbm_T.ps zbm_T.res = zbm_T.fn := by kernel_rfl
theorem zbm_Fok : SoundP Tryz.prog G0 178 zbm_F := closeF_sound (runF_sound ⟨same_ok, (envP_cons zbt_Fok envP_nil), envS_nil, envP_nil, envX_nil⟩ Tryz.func178 rfl (by kernel_rfl))
theorem zbm_ok : TOk zbm_F zbm_T := runY_ok (E := zbm_E) (ET := zbm_V) (EnvT.ofX (pure_of (pairs_cons zbt_ok pairs_nil)) looks_nil raws_nil G0_ok news_nil) zbm_eq rfl
def zbq_E : Env := (eZ [(115, zbt_F), (178, zbm_F)] [188])
def zbq_H : Hints := (hZ [(8, [5, 7, 9, 10]), (12, [5, 7, 9, 10, 11, 12])] [])
def zbq_F : PFn := closeF (runF Tryz.prog zbq_E zbq_H Tryz.f131)
def zbq_Y : TH := { joins := [(18, { keep := [(9, (.own 0))], mem := [.row false 4 .bool] })], loops := [(8, { keep := [(9, (.own 0)), (10, (.int .i64))], mem := [.row false 4 .bool] }), (12, { keep := [(9, (.own 0)), (11, (.own 1)), (12, (.int .i64))], mem := [.row false 4 .bool, .row false 4 .bool] })], cuts := [(16, [(11, { keep := [(9, (.own 0)), (11, (.own 1)), (74, (.own 1)), (75, (.int .i64)), (84, .bool)], mem := [.row false 4 .bool, .row false 4 .bool] })])], ro := [], news := [] }
def zbq_l12 (y8 : (Int × List Bool × Unit)) (r1 : (List Int × Bool × Unit)) (r2 : (List Int × Bool × Unit)) (y12 : (Int × List Bool × List Bool × Unit)) : Option ((Int × List Bool × List Bool × Unit) ⊕ ((Int × List Bool × Unit) ⊕ ((List Bool × Unit) ⊕ Bool))) :=
 cond (decide (y12.1 ≤ (r2.1.length : Int))) (
(atI r1.1 y8.1).bind fun x7 =>
 cond (decide (x7 = (-2))) (
(inI y12.2.1.length y12.1).bind fun i8 =>
(y12.2.1[i8]?).bind fun x9 =>
 cond x9 ((inI y12.2.2.1.length y12.1).bind fun i10 =>
(y12.2.2.1[i10]?).bind fun x11 =>
 some (.inl ((IntKind.wrap .i64 (y12.1 + 1)), y12.2.1, (y12.2.2.1.set i10 true), ()))) (cond (decide (y12.1 > 0)) ((inI y12.2.2.1.length (IntKind.wrap .i64 (y12.1 - 1))).bind fun i12 =>
(y12.2.2.1[i12]?).bind fun x13 =>
(inI y12.2.2.1.length y12.1).bind fun i14 =>
(y12.2.2.1[i14]?).bind fun x15 =>
 some (.inl ((IntKind.wrap .i64 (y12.1 + 1)), y12.2.1, (y12.2.2.1.set i14 x13), ()))) ((inI y12.2.2.1.length y12.1).bind fun i16 =>
(y12.2.2.1[i16]?).bind fun x17 =>
 some (.inl ((IntKind.wrap .i64 (y12.1 + 1)), y12.2.1, (y12.2.2.1.set i16 false), ()))))) (
(cond (decide (y12.1 > 0)) ((inI y12.2.1.length (IntKind.wrap .i64 (y12.1 - 1))).bind fun i18 =>
(y12.2.1[i18]?).bind fun x19 =>
 some (y12.1, x19, y12.2.1, y12.2.2.1, ())) (some (y12.1, false, y12.2.1, y12.2.2.1, ())) : Option (Int × Bool × List Bool × List Bool × Unit)).bind fun v20 =>
 cond v20.2.1 ((atI r1.1 y8.1).bind fun x21 =>
 cond (decide (x21 = (-1))) ((inI v20.2.2.2.1.length v20.1).bind fun i22 =>
(v20.2.2.2.1[i22]?).bind fun x23 =>
 some (.inl ((IntKind.wrap .i64 (y12.1 + 1)), v20.2.2.1, (v20.2.2.2.1.set i22 true), ()))) ((atI r1.1 y8.1).bind fun x24 =>
(atI r2.1 (IntKind.wrap .i64 (y12.1 - 1))).bind fun x25 =>
(inI v20.2.2.2.1.length v20.1).bind fun i26 =>
(v20.2.2.2.1[i26]?).bind fun x27 =>
 some (.inl ((IntKind.wrap .i64 (y12.1 + 1)), v20.2.2.1, (v20.2.2.2.1.set i26 (decide (x24 = x25))), ())))) ((inI v20.2.2.2.1.length v20.1).bind fun i28 =>
(v20.2.2.2.1[i28]?).bind fun x29 =>
 some (.inl ((IntKind.wrap .i64 (y12.1 + 1)), v20.2.2.1, (v20.2.2.2.1.set i28 false), ()))))) (
 some (.inr (.inl ((IntKind.wrap .i64 (y8.1 + 1)), y12.2.2.1, ()))))
def zbq_l8 (r1 : (List Int × Bool × Unit)) (r2 : (List Int × Bool × Unit)) (y8 : (Int × List Bool × Unit)) : Option ((Int × List Bool × Unit) ⊕ ((List Bool × Unit) ⊕ Bool)) :=
 cond (decide (y8.1 < (r1.1.length : Int))) (
(mkT (IntKind.wrap .i64 ((r2.1.length : Int) + 1)) (IntKind.wrap .i64 ((r2.1.length : Int) + 1))).bind fun u6 =>
 loopT (zbq_l12 y8 r1 r2) (0, y8.2.1, (List.replicate (IntKind.wrap .i64 ((r2.1.length : Int) + 1)).toNat false), ())) (
 some (.inr (.inl (y8.2.1, ()))))
def zbq (a0 : List UInt8) (a1 : List UInt8) : Option Bool :=
(zbm a0).bind fun r1 =>
(zbt a1).bind fun r2 =>
 cond (!r1.2.1) (some false) (cond (!r2.2.1) (
 some false) (
(mkT (IntKind.wrap .i64 ((r2.1.length : Int) + 1)) (IntKind.wrap .i64 ((r2.1.length : Int) + 1))).bind fun u3 =>
(inI (List.replicate (IntKind.wrap .i64 ((r2.1.length : Int) + 1)).toNat false).length 0).bind fun i4 =>
((List.replicate (IntKind.wrap .i64 ((r2.1.length : Int) + 1)).toNat false)[i4]?).bind fun x5 =>
(loopT (zbq_l8 r1 r2) (0, ((List.replicate (IntKind.wrap .i64 ((r2.1.length : Int) + 1)).toNat false).set i4 true), ()) : Option ((List Bool × Unit) ⊕ Bool)).bind (joinS fun v30 =>
(inI v30.1.length (r2.1.length : Int)).bind fun i31 =>
(v30.1[i31]?).bind fun x32 =>
 some x32)))
def zbq_T : TFn := { ps := (.cons .str (.cons .str .unit)), res := .bool, fn := fun v => zbq v.1 v.2.1 }
def zbq_V : TEnv := { pure := [(115, zbt_T), (178, zbm_T)], look := [], glob := G0T, ty := [(4, .bool)], raw := [], fresh := [] }
theorem zbq_eq : runY Tryz.prog zbq_E zbq_H zbq_V zbq_Y Tryz.f131 zbq_T.ps zbq_T.res = zbq_T.fn := by kernel_rfl
theorem zbq_Fok : SoundP Tryz.prog G0 131 zbq_F := closeF_sound (runF_sound ⟨same_ok, (envP_cons zbt_Fok (envP_cons zbm_Fok envP_nil)), envS_nil, envP_nil, envX_nil⟩ Tryz.func131 rfl (by kernel_rfl))
theorem zbq_ok : TOk zbq_F zbq_T := runY_ok (E := zbq_E) (ET := zbq_V) (EnvT.ofX (pure_of (pairs_cons zbt_ok (pairs_cons zbm_ok pairs_nil))) looks_nil raws_nil G0_ok news_nil) zbq_eq rfl
def zbu_E : Env := (eZ [(178, zbm_F)] [188])
def zbu_H : Hints := (hZ [(6, [0, 3])] [])
def zbu_F : PFn := closeF (runF Tryz.prog zbu_E zbu_H Tryz.f130)
def zbu_Y : TH := { loops := [(6, { keep := [(3, (.int .i64))], mem := [] })], ro := [] }
def zbu_l6 (a0 : List (List UInt8)) (y6 : (Int × Unit)) : Option ((Int × Unit) ⊕ Int) :=
 cond (decide (y6.1 < (a0.length : Int))) (
(atI a0 y6.1).bind fun x1 =>
(zbm x1).bind fun r2 =>
(atI a0 y6.1).bind fun x3 =>
 cond (decide (x3 = [])) (some (.inr 8)) (cond (!r2.2.1) (
 some (.inr 8)) (
 some (.inl ((IntKind.wrap .i64 (y6.1 + 1)), ()))))) (
 some (.inr 0))
def zbu (a0 : List (List UInt8)) : Option Int :=
 cond (decide ((a0.length : Int) = 0)) (
 some 8) (
 cond (decide ((a0.length : Int) > 8)) (
 some 9) (
 loopT (zbu_l6 a0) (0, ())))
def zbu_T : TFn := { ps := tT17, res := (.int .i64), fn := fun v => zbu v.1 }
def zbu_V : TEnv := (vZ [(178, zbm_T)])
theorem zbu_eq : runY Tryz.prog zbu_E zbu_H zbu_V zbu_Y Tryz.f130 zbu_T.ps zbu_T.res = zbu_T.fn := by kernel_rfl
theorem zbu_Fok : SoundP Tryz.prog G0 130 zbu_F := closeF_sound (runF_sound ⟨same_ok, (envP_cons zbm_Fok envP_nil), envS_nil, envP_nil, envX_nil⟩ Tryz.func130 rfl (by kernel_rfl))
theorem zbu_ok : TOk zbu_F zbu_T := runY_ok (E := zbu_E) (ET := zbu_V) (EnvT.ofX (pure_of (pairs_cons zbm_ok pairs_nil)) looks_nil raws_nil G0_ok news_nil) zbu_eq rfl
def zbf_E : Env := (eZ [(130, zbu_F), (131, zbq_F)] [188])
def zbf_H : Hints := (hZ [(6, [0, 1, 5, 6]), (10, [0, 1, 5, 6, 7, 8])] [])
def zbf_F : PFn := closeF (runF Tryz.prog zbf_E zbf_H Tryz.f71)
def zbf_Y : TH := { joins := [(16, { keep := [(5, (.own 0))], mem := [.row false 4 .bool] })], loops := [(6, { keep := [(5, (.own 0)), (6, (.int .i64))], mem := [.row false 4 .bool] }), (10, { keep := [(5, (.own 0)), (7, (.own 1)), (8, (.int .i64))], mem := [.row false 4 .bool, .row false 4 .bool] })], cuts := [(14, [(11, { keep := [(5, (.own 0)), (7, (.own 1)), (57, (.own 1)), (58, (.int .i64)), (67, .bool)], mem := [.row false 4 .bool, .row false 4 .bool] })])], ro := [], news := [] }
def zbf_l10 (y6 : (Int × List Bool × Unit)) (a0 : List (List UInt8)) (a1 : List (List UInt8)) (y10 : (Int × List Bool × List Bool × Unit)) : Option ((Int × List Bool × List Bool × Unit) ⊕ ((Int × List Bool × Unit) ⊕ ((List Bool × Unit) ⊕ Bool))) :=
 cond (decide (y10.1 ≤ (a1.length : Int))) (
(atI a0 y6.1).bind fun x6 =>
 cond (decide (x6 = [42, 42])) (
(inI y10.2.1.length y10.1).bind fun i7 =>
(y10.2.1[i7]?).bind fun x8 =>
 cond x8 ((inI y10.2.2.1.length y10.1).bind fun i9 =>
(y10.2.2.1[i9]?).bind fun x10 =>
 some (.inl ((IntKind.wrap .i64 (y10.1 + 1)), y10.2.1, (y10.2.2.1.set i9 true), ()))) (cond (decide (y10.1 > 0)) ((inI y10.2.2.1.length (IntKind.wrap .i64 (y10.1 - 1))).bind fun i11 =>
(y10.2.2.1[i11]?).bind fun x12 =>
(inI y10.2.2.1.length y10.1).bind fun i13 =>
(y10.2.2.1[i13]?).bind fun x14 =>
 some (.inl ((IntKind.wrap .i64 (y10.1 + 1)), y10.2.1, (y10.2.2.1.set i13 x12), ()))) ((inI y10.2.2.1.length y10.1).bind fun i15 =>
(y10.2.2.1[i15]?).bind fun x16 =>
 some (.inl ((IntKind.wrap .i64 (y10.1 + 1)), y10.2.1, (y10.2.2.1.set i15 false), ()))))) (
(cond (decide (y10.1 > 0)) ((inI y10.2.1.length (IntKind.wrap .i64 (y10.1 - 1))).bind fun i17 =>
(y10.2.1[i17]?).bind fun x18 =>
 some (y10.1, x18, y10.2.1, y10.2.2.1, ())) (some (y10.1, false, y10.2.1, y10.2.2.1, ())) : Option (Int × Bool × List Bool × List Bool × Unit)).bind fun v19 =>
 cond v19.2.1 ((atI a0 y6.1).bind fun x20 =>
(atI a1 (IntKind.wrap .i64 (y10.1 - 1))).bind fun x21 =>
(zbq x20 x21).bind fun r22 =>
(inI v19.2.2.2.1.length v19.1).bind fun i23 =>
(v19.2.2.2.1[i23]?).bind fun x24 =>
 some (.inl ((IntKind.wrap .i64 (y10.1 + 1)), v19.2.2.1, (v19.2.2.2.1.set i23 r22), ()))) ((inI v19.2.2.2.1.length v19.1).bind fun i25 =>
(v19.2.2.2.1[i25]?).bind fun x26 =>
 some (.inl ((IntKind.wrap .i64 (y10.1 + 1)), v19.2.2.1, (v19.2.2.2.1.set i25 false), ()))))) (
 some (.inr (.inl ((IntKind.wrap .i64 (y6.1 + 1)), y10.2.2.1, ()))))
def zbf_l6 (a0 : List (List UInt8)) (a1 : List (List UInt8)) (y6 : (Int × List Bool × Unit)) : Option ((Int × List Bool × Unit) ⊕ ((List Bool × Unit) ⊕ Bool)) :=
 cond (decide (y6.1 < (a0.length : Int))) (
(mkT (IntKind.wrap .i64 ((a1.length : Int) + 1)) (IntKind.wrap .i64 ((a1.length : Int) + 1))).bind fun u5 =>
 loopT (zbf_l10 y6 a0 a1) (0, y6.2.1, (List.replicate (IntKind.wrap .i64 ((a1.length : Int) + 1)).toNat false), ())) (
 some (.inr (.inl (y6.2.1, ()))))
def zbf (a0 : List (List UInt8)) (a1 : List (List UInt8)) : Option Bool :=
(zbu a0).bind fun r1 =>
 cond (!decide (r1 = 0)) (
 some false) (
(mkT (IntKind.wrap .i64 ((a1.length : Int) + 1)) (IntKind.wrap .i64 ((a1.length : Int) + 1))).bind fun u2 =>
(inI (List.replicate (IntKind.wrap .i64 ((a1.length : Int) + 1)).toNat false).length 0).bind fun i3 =>
((List.replicate (IntKind.wrap .i64 ((a1.length : Int) + 1)).toNat false)[i3]?).bind fun x4 =>
(loopT (zbf_l6 a0 a1) (0, ((List.replicate (IntKind.wrap .i64 ((a1.length : Int) + 1)).toNat false).set i3 true), ()) : Option ((List Bool × Unit) ⊕ Bool)).bind (joinS fun v27 =>
(inI v27.1.length (a1.length : Int)).bind fun i28 =>
(v27.1[i28]?).bind fun x29 =>
 some x29))
def zbf_T : TFn := { ps := (.cons (.sl .str) tT17), res := .bool, fn := fun v => zbf v.1 v.2.1 }
def zbf_V : TEnv := { pure := [(130, zbu_T), (131, zbq_T)], look := [], glob := G0T, ty := [(4, .bool)], raw := [], fresh := [] }
theorem zbf_eq : runY Tryz.prog zbf_E zbf_H zbf_V zbf_Y Tryz.f71 zbf_T.ps zbf_T.res = zbf_T.fn := by kernel_rfl
theorem zbf_Fok : SoundP Tryz.prog G0 71 zbf_F := closeF_sound (runF_sound ⟨same_ok, (envP_cons zbu_Fok (envP_cons zbq_Fok envP_nil)), envS_nil, envP_nil, envX_nil⟩ Tryz.func71 rfl (by kernel_rfl))
theorem zbf_ok : TOk zbf_F zbf_T := runY_ok (E := zbf_E) (ET := zbf_V) (EnvT.ofX (pure_of (pairs_cons zbu_ok (pairs_cons zbq_ok pairs_nil))) looks_nil raws_nil G0_ok news_nil) zbf_eq rfl
def zcp_E : Env := (eZ [(43, zcy_F), (70, za8_F), (71, zbf_F)] [188])
def zcp_H : Hints := (hZ [(4, [0, 1, 5, 6, 7])] [29, 34])
def zcp_F : PFn := closeF (runF Tryz.prog zcp_E zcp_H Tryz.f30)
def zcp_Y : TH := { loops := [(4, { keep := [(6, (.own 0)), (7, (.int .i64))], mem := [.row true 77 tT15] })], ro := [] }
def zcp_l4 (a0 : List vV0) (a1 : List (List UInt8)) (r1 : List vV3) (y4 : (Int × List vV5 × Unit)) : Option ((Int × List vV5 × Unit) ⊕ List vV5) :=
 cond (decide (y4.1 < (r1.length : Int))) (
(atI r1 y4.1).bind fun x2 =>
(zbf a1 x2.1).bind fun r3 =>
 cond r3 (
(atI r1 y4.1).bind fun x4 =>
(atI r1 y4.1).bind fun x5 =>
(zcy a0 x4.1 x5.2.1).bind fun r6 =>
(roomT (y4.2.1.length + ([r6] : List vV5).length)).bind fun u7 =>
 some (.inl ((IntKind.wrap .i64 (y4.1 + 1)), (y4.2.1 ++ ([r6] : List vV5)), ()))) (
 some (.inl ((IntKind.wrap .i64 (y4.1 + 1)), y4.2.1, ())))) (
 some (.inr y4.2.1))
def zcp (a0 : List vV0) (a1 : List (List UInt8)) : Option (List vV5) :=
(za8 a0).bind fun r1 =>
 loopT (zcp_l4 a0 a1 r1) (0, [], ())
def zcp_T : TFn := { ps := (.cons (.sl tT10) tT17), res := (.sl tT15), fn := fun v => zcp v.1 v.2.1 }
def zcp_V : TEnv := { pure := [(43, zcy_T), (70, za8_T), (71, zbf_T)], look := [], glob := G0T, ty := [(77, tT15)], raw := [], fresh := [] }
theorem zcp_eq : runY Tryz.prog zcp_E zcp_H zcp_V zcp_Y Tryz.f30 zcp_T.ps zcp_T.res = zcp_T.fn := by kernel_rfl
theorem zcp_Fok : SoundP Tryz.prog G0 30 zcp_F := closeF_sound (runF_sound ⟨same_ok, (envP_cons zcy_Fok (envP_cons za8_Fok (envP_cons zbf_Fok envP_nil))), envS_nil, envP_nil, envX_nil⟩ Tryz.func30 rfl (by kernel_rfl))
theorem zcp_ok : TOk zcp_F zcp_T := runY_ok (E := zcp_E) (ET := zcp_V) (EnvT.ofX (pure_of (pairs_cons zcy_ok (pairs_cons za8_ok (pairs_cons zbf_ok pairs_nil)))) looks_nil raws_nil G0_ok news_nil) zcp_eq rfl
def za5_E : Env := (eZ [] [188])
def za5_H : Hints := (hZ [(3, [0, 3, 4])] [16, 21, 26, 31])
def za5_F : PFn := closeF (runF Tryz.prog za5_E za5_H Tryz.f29)
def za5_Y : TH := { loops := [(3, { keep := [(3, (.own 0)), (4, (.int .i64))], mem := [.row true 77 tT15] })], ro := [] }
def za5_l3 (a0 : List vV5) (y3 : (Int × List vV5 × Unit)) : Option ((Int × List vV5 × Unit) ⊕ List vV5) :=
 cond (decide (y3.1 < (a0.length : Int))) (
(atI a0 y3.1).bind fun x1 =>
(atI a0 y3.1).bind fun x2 =>
(atI a0 y3.1).bind fun x3 =>
(atI a0 y3.1).bind fun x4 =>
(roomT (y3.2.1.length + ([(x1.1, x2.2.1, x3.2.2.1, x4.2.2.2.1, ())] : List vV5).length)).bind fun u5 =>
 some (.inl ((IntKind.wrap .i64 (y3.1 + 1)), (y3.2.1 ++ ([(x1.1, x2.2.1, x3.2.2.1, x4.2.2.2.1, ())] : List vV5)), ()))) (
 some (.inr y3.2.1))
def za5 (a0 : List vV5) : Option (List vV5) :=
 loopT (za5_l3 a0) (0, [], ())
def za5_T : TFn := { ps := (.cons (.sl tT15) .unit), res := (.sl tT15), fn := fun v => za5 v.1 }
def za5_V : TEnv := { pure := [], look := [], glob := G0T, ty := [(77, tT15)], raw := [], fresh := [] }
theorem za5_eq : runY Tryz.prog za5_E za5_H za5_V za5_Y Tryz.f29 za5_T.ps za5_T.res = za5_T.fn := by kernel_rfl
theorem za5_Fok : SoundP Tryz.prog G0 29 za5_F := closeF_sound (runF_sound ⟨same_ok, envP_nil, envS_nil, envP_nil, envX_nil⟩ Tryz.func29 rfl (by kernel_rfl))
theorem za5_ok : TOk za5_F za5_T := runY_ok (E := za5_E) (ET := za5_V) (EnvT.ofX (pure_of pairs_nil) looks_nil raws_nil G0_ok news_nil) za5_eq rfl
def zby_E : Env := (eZ [(68, zbi_F)] [188])
def zby_H : Hints := (hZ [] [])
def zby_F : PFn := closeF (runF Tryz.prog zby_E zby_H Tryz.f25)
def zby_Y : TH := yZ
def zby : Option Bool :=
(zbi ([[97], [42, 42], [107]] : List (List UInt8)) ([[97], [107]] : List (List UInt8))).bind fun r1 =>
 cond r1 ((zbi ([[97], [42, 42], [107]] : List (List UInt8)) ([[97], [98], [99], [107]] : List (List UInt8))).bind fun r2 =>
 cond r2 ((zbi ([[97], [42, 42], [107]] : List (List UInt8)) ([[97], [107], [98]] : List (List UInt8))).bind fun r3 =>
 some (!r3)) (some false)) (some false)
def zby_T : TFn := { ps := .unit, res := .bool, fn := fun v => zby  }
def zby_V : TEnv := { pure := [(68, zbi_T)], look := [], glob := G0T, ty := [(9, .str)], raw := [], fresh := [] }
theorem zby_eq : runY Tryz.prog zby_E zby_H zby_V zby_Y Tryz.f25 zby_T.ps zby_T.res = zby_T.fn := by kernel_rfl
theorem zby_Fok : SoundP Tryz.prog G0 25 zby_F := closeF_sound (runF_sound ⟨same_ok, (envP_cons zbi_Fok envP_nil), envS_nil, envP_nil, envX_nil⟩ Tryz.func25 rfl (by kernel_rfl))
theorem zby_ok : TOk zby_F zby_T := runY_ok (E := zby_E) (ET := zby_V) (EnvT.ofX (pure_of (pairs_cons zbi_ok pairs_nil)) looks_nil raws_nil G0_ok news_nil) zby_eq rfl
def zap_E : Env := (eZ [(10, zb3_F), (14, zc1_F), (16, zcs_F), (24, zbj_F), (25, zby_F), (26, zco_F), (27, za9_F), (28, zci_F), (29, za5_F), (30, zcp_F), (31, zb4_F), (32, zc3_F)] [188])
def zap_H : Hints := (hZ [(9, [7, 8, 9, 10])] [])
def zap_F : PFn := closeF (runF Tryz.prog zap_E zap_H Tryz.f5)
def zap_Y : TH := { loops := [(9, { keep := [(10, (.int .i64))], mem := [] })], cuts := [(11, [(25, { keep := [(76, .bool)], mem := [] })])], ro := [], news := [] }
def zap_l9 (r5 : List vV0) (r6 : List vV5) (r7 : List vV3) (y9 : (Int × Unit)) : Option ((Int × Unit) ⊕ Bool) :=
 cond (decide (y9.1 < (r7.length : Int))) (
((atI r7 y9.1).bind fun x12 =>
(atI r6 y9.1).bind fun x13 =>
(zb4 x12.1 x13.1).bind fun r14 =>
 cond (!r14) (some (true, ())) ((atI r7 y9.1).bind fun x15 =>
(atI r6 y9.1).bind fun x16 =>
 some ((!decide (x15.2.1 = x16.2.1)), ())) : Option (Bool × Unit)).bind fun v17 =>
 cond v17.1 (some (.inr false)) ((atI r7 y9.1).bind fun x18 =>
(atI r7 y9.1).bind fun x19 =>
(zc3 r5 x18.1 x19.2.1).bind fun r20 =>
 cond (decide ((r20.length : Int) = 0)) (
 some (.inr false)) (
 some (.inl ((IntKind.wrap .i64 (y9.1 + 1)), ()))))) (
((zby).bind fun r21 =>
 some r21).map .inr)
def zap (a0 : List vV1) (a1 : List vV4) (a2 : List (List UInt8)) : Option Bool :=
(zb3 a0 a1).bind fun r1 =>
 cond (!r1) ((zby).bind fun r2 =>
 some r2) ((zbj a2).bind fun r3 =>
 cond (!r3) (
(zby).bind fun r4 =>
 some r4) (
(zc1 a0 a1).bind fun r5 =>
(zco r5 a2).bind fun r6 =>
(za9 r5 a2).bind fun r7 =>
 cond (!decide ((r6.length : Int) = (r7.length : Int))) (some false) ((za5 r6).bind fun r8 =>
(zcs a0 a1).bind fun r9 =>
(zcp r9 a2).bind fun r10 =>
(zci r8 r10).bind fun r11 =>
 cond (!r11) (
 some false) (
 loopT (zap_l9 r5 r6 r7) (0, ())))))
def zap_T : TFn := { ps := (.cons (.sl tT13) (.cons (.sl tT11) tT17)), res := .bool, fn := fun v => zap v.1 v.2.1 v.2.2.1 }
def zap_V : TEnv := (vZ [(10, zb3_T), (14, zc1_T), (16, zcs_T), (24, zbj_T), (25, zby_T), (26, zco_T), (27, za9_T), (28, zci_T), (29, za5_T), (30, zcp_T), (31, zb4_T), (32, zc3_T)])
theorem zap_eq : runY Tryz.prog zap_E zap_H zap_V zap_Y Tryz.f5 zap_T.ps zap_T.res = zap_T.fn := by kernel_rfl
theorem zap_Fok : SoundP Tryz.prog G0 5 zap_F := closeF_sound (runF_sound ⟨same_ok, (envP_cons zb3_Fok (envP_cons zc1_Fok (envP_cons zcs_Fok (envP_cons zbj_Fok (envP_cons zby_Fok (envP_cons zco_Fok (envP_cons za9_Fok (envP_cons zci_Fok (envP_cons za5_Fok (envP_cons zcp_Fok (envP_cons zb4_Fok (envP_cons zc3_Fok envP_nil)))))))))))), envS_nil, envP_nil, envX_nil⟩ Tryz.func5 rfl (by kernel_rfl))
theorem zap_ok : TOk zap_F zap_T := runY_ok (E := zap_E) (ET := zap_V) (EnvT.ofX (pure_of (pairs_cons zb3_ok (pairs_cons zc1_ok (pairs_cons zcs_ok (pairs_cons zbj_ok (pairs_cons zby_ok (pairs_cons zco_ok (pairs_cons za9_ok (pairs_cons zci_ok (pairs_cons za5_ok (pairs_cons zcp_ok (pairs_cons zb4_ok (pairs_cons zc3_ok pairs_nil))))))))))))) looks_nil raws_nil G0_ok news_nil) zap_eq rfl
end
end Go.Proofs.YtgfpkhlabdcbmaaGreatDoor.Y
