/- Operations that leave memory alone, gone on. -/
import Derived.Test.YtnafmjbakholcaaDoorT4
set_option linter.unusedVariables false
set_option linter.unusedSimpArgs false
namespace Go.TY
open Go.EM
abbrev Γ0 : Ctx := fun _ => none
/-- A typed function is what the abstract one is. -/
structure TOk (F : PFn) (tf : TFn) : Prop where
  ps : tf.ps.closed = true
  res : tf.res.closed = true
  isV : tf.res.isV = true
  run : ∀ v r as, tf.fn v = some r → R Γ0 tf.ps v false as → ∃ a, F as = some a ∧ R Γ0 tf.res r false [a]
section
variable {Γ : Ctx} {m : Mem} {st : Store} {P : Program}
theorem R_int {w : TV} {k : IntKind} {n : Int} {a : AVal} (h : R Γ (.int k) n false [a]) : a = .int k n := by simp only [R] at h; cases h; rfl
theorem R_str {s : List UInt8} {a : AVal} (h : R Γ .str s false [a]) : a = .str s := by simp only [R] at h; cases h; rfl
theorem R_bool {b : Bool} {a : AVal} (h : R Γ .bool b false [a]) : a = .bool b := by simp only [R] at h; cases h; rfl
theorem abin_eq_agg {t : TypeId} {lit : Bool} {a b : AVal} {r : Bool} (h1 : ∀ k n, a ≠ .int k n) (h2 : ∀ s, a ≠ .str s) (h : cond (eqOk P t lit a b) (aeq P 8 t a b) none = some r) : abin P .eql t lit a b = some (.bool r) ∧ abin P .neq t lit a b = some (.bool !r) := by
  cases ho : eqOk P t lit a b with
  | false => rw [ho] at h; cases h
  | true =>
    rw [ho, cond_true] at h
    constructor
    · cases a <;> first | exact absurd rfl (h1 _ _) | exact absurd rfl (h2 _) | (simp only [abin, ho, cond_true, h, Option.map_some])
    · cases a <;> first | exact absurd rfl (h1 _ _) | exact absurd rfl (h2 _) | (simp only [abin, ho, cond_true, h, Option.map_some])
theorem binT_ok {op : BinOp} {t : TypeId} {lit : Bool} {x y : TV} {a b : AVal} (hx : R Γ x.t x.v false [a]) (hy : R Γ y.t y.v false [b]) (hxv : x.t.isV = true) (hyv : y.t.isV = true) : OkP Γ m (abin P op t lit a b) (binT P op t x y m) := by
  unfold binT
  split
  · split
    · rename_i k n k' n'
      simp only [R] at hx hy; cases hx; cases hy
      exact shiftT_ok (.inl rfl)
    · exact .no
  · split
    · rename_i k n k' n'
      simp only [R] at hx hy; cases hx; cases hy
      exact shiftT_ok (.inr rfl)
    · exact .no
  · rename_i h1 h2
    split
    · rename_i k n k' n'
      simp only [R] at hx hy; cases hx; cases hy
      cases hk : kbeq k k' with
      | false => exact .no
      | true =>
        rw [← kbeq_eq hk]
        exact intT_ok h1 h2
    · simp only [R] at hx hy; cases hx; cases hy
      exact strT_ok
    · split
      · split
        · rename_i r hr
          obtain ⟨g1, g2, g3⟩ := eqOfT_R (lit := lit) hx hy hxv hyv hr
          exact .ok rfl rfl (abin_eq_agg g1 g2 g3).1
        · exact .no
      · split
        · rename_i r hr
          obtain ⟨g1, g2, g3⟩ := eqOfT_R (lit := lit) hx hy hxv hyv hr
          exact .ok rfl rfl (abin_eq_agg g1 g2 g3).2
        · exact .no
      · exact .no
theorem unT_ok {op : UnOp} {x : TV} {a : AVal} (hx : R Γ x.t x.v false [a]) : OkP Γ m (aun op a) (unT op x m) := by
  unfold unT
  split
  · simp only [R] at hx; cases hx; exact .ok rfl rfl rfl
  · simp only [R] at hx; cases hx; exact .ok rfl rfl rfl
  · simp only [R] at hx; cases hx; exact .ok rfl rfl rfl
  · exact .no
theorem pickT_ok {c x y : TV} {a b d : AVal} (hc : R Γ c.t c.v false [a]) (hx : R Γ x.t x.v false [b]) (hy : R Γ y.t y.v false [d]) (hxv : x.t.isV = true) (hyv : y.t.isV = true) : OkP Γ m (apick a b d) (pickT c x y m) := by
  unfold pickT
  split
  · simp only [R] at hc; cases hc
    refine .br (fun e => ?_) (fun e => ?_)
    · subst e; exact .ok hxv hx rfl
    · subst e; exact .ok hyv hy rfl
  · exact .no
theorem convT_ok {src dst : TypeId} {x : TV} {a : AVal} (hx : R Γ x.t x.v false [a]) : OkP Γ m (aconv P src dst a) (convT P src dst x m) := by
  unfold convT
  split
  · rename_i h1 h2
    split
    · simp only [R] at hx; cases hx; exact .ok rfl rfl (by simp only [aconv, h1, h2])
    · exact .no
  · rename_i h1 h2
    split
    · simp only [R] at hx; cases hx; exact .ok rfl rfl (by simp only [aconv, h1, h2])
    · simp only [R] at hx; cases hx; exact .ok rfl rfl (by simp only [aconv, h1, h2])
    · exact .no
  · exact .no
theorem atI_some {A : Type} {l : List A} {i : Int} {x : A} (h : atI l i = some x) : 0 ≤ i ∧ l[i.toNat]? = some x := by
  unfold atI at h
  split at h
  · rename_i h0; exact ⟨h0, h⟩
  · cases h
theorem inI_some {n : Nat} {i : Int} {k : Nat} (h : inI n i = some k) : (0 ≤ i ∧ i < n) ∧ i.toNat = k := ite_some' h
theorem subI_some {A : Type} {l r : List A} {lo hi : Int} (h : subI l lo hi = some r) : (0 ≤ lo ∧ lo ≤ hi ∧ hi ≤ l.length) ∧ (l.take hi.toNat).drop lo.toNat = r := ite_some' h
theorem indexT_ok {t : TypeId} {x i : TV} {a b : AVal} (hx : R Γ x.t x.v false [a]) (hi : R Γ i.t i.v false [b]) : OkP Γ m (aindex P t a b) (indexT P t x i m) := by
  unfold indexT
  split
  · simp only [R] at hi; cases hi
    split
    · rename_i hu
      split
      · simp only [R] at hx; cases hx
        refine .opt fun z hz => ?_
        obtain ⟨h0, h1⟩ := atI_some hz
        exact .ok rfl rfl (by simp only [aindex, hu, h0, if_true, h1, Option.map_some])
      · exact .no
    · exact .no
  · exact .no
theorem beq_ne {n : Nat} (h : Nat.beq n 0 = false) : n ≠ 0 := fun e => by rw [e] at h; cases h
theorem flat_at {t : Ty} {sz : Nat} (hs : t.size = sz) : ∀ {xs : List t.V} {ls : List (List AVal)} {i : Nat} {x : t.V}, All2 (fun x c => R Γ t x true c) xs ls → xs[i]? = some x → ∃ c post, (((ls.take i).flatten).length = i * sz ∧ ls.flatten = (ls.take i).flatten ++ (c ++ post)) ∧ R Γ t x true c
  | y :: xs, c :: ls, 0, x, h, hx => by
    simp at hx; subst hx
    exact ⟨c, ls.flatten, ⟨by simp, by simp⟩, h.1⟩
  | y :: xs, c :: ls, i + 1, x, h, hx => by
    simp only [List.getElem?_cons_succ] at hx
    obtain ⟨d, post, ⟨h1, h2⟩, h3⟩ := flat_at hs h.2 hx
    refine ⟨d, post, ⟨?_, ?_⟩, h3⟩
    · simp only [List.take_succ_cons, List.flatten_cons, List.length_append, h1, R_len h.1, hs]
      rw [Nat.succ_mul, Nat.add_comm]
    · simp only [List.take_succ_cons, List.flatten_cons, h2, List.append_assoc]
  | [], [], i, x, h, hx => by simp at hx
theorem idxT_ok (hm : MemR Γ m st) {t : TypeId} {x i : TV} {a b : AVal} (hx : R Γ x.t x.v false [a]) (hi : R Γ i.t i.v false [b]) : OkP Γ m (aidx P t a b) (idxT P t x i m) := by
  unfold idxT
  split
  · rename_i k n
    simp only [R] at hi; cases hi
    split
    · rename_i e hu
      split
      · rename_i sz hs
        split
        · rename_i u xs
          cases hc : (Nat.beq u.size sz && !(Nat.beq sz 0) && u.isV) with
          | false => exact .no
          | true =>
            simp only [Bool.and_eq_true, Nat.beq_eq, Bool.not_eq_true'] at hc
            obtain ⟨⟨hc1, hc2⟩, hc3⟩ := hc
            have hc2 := beq_ne hc2
            refine .opt fun z hz => ?_
            obtain ⟨h0, h1⟩ := atI_some hz
            simp only [R] at hx
            rcases hx with ⟨hn, hx⟩ | ⟨f, n', as, hx, hn, hx2⟩
            · rw [hn] at h1; simp at h1
            · cases hx
              have hne : xs ≠ [] := fun e => by rw [e] at h1; simp at h1
              have hn' : n' = sz := (hn.resolve_left hne).trans hc1
              obtain ⟨v, hv1, hv2⟩ := All2_get hx2 h1
              refine .ok rfl (a := .rptr v.cells) ⟨v, [], hv2, by rw [List.drop_zero, List.append_nil]⟩ ?_
              simp only [aidx, hu, hs]
              rw [if_pos ⟨hn', hc2, h0⟩, hv1, Option.map_some]
        · rename_i id _
          split
          · rename_i e u xs hg
            cases hc : (Nat.beq u.size sz && !(Nat.beq sz 0)) with
            | false => exact .no
            | true =>
              simp only [Bool.and_eq_true, Nat.beq_eq, Bool.not_eq_true'] at hc
              obtain ⟨hc1, hc2⟩ := hc
              have hc2 := beq_ne hc2
              refine .opt fun z hz => ?_
              obtain ⟨⟨h0, h1⟩, rfl⟩ := inI_some hz
              have hr := hm.at id
              rw [hg] at hr
              obtain ⟨_, _, _, _, hr⟩ := hr
              simp only [R] at hx
              rcases hr with ⟨rfl, _⟩ | ⟨r, as, g1, g2, g3⟩
              · simp at h1; omega
              · rw [g1] at hx
                cases hx
                refine .ok rfl (a := .ptr r xs.length n.toNat 0) ⟨r, u.size, xs.length, g1, rfl⟩ ?_
                simp only [aidx, hu, hs, Nat.zero_add]
                rw [if_pos ⟨hc1, hc2, h0, h1⟩]
          · exact .no
        · exact .no
      · exact .no
    · rename_i len e hu
      split
      · rename_i sz hs
        split
        · rename_i t off v
          split
          · rename_i len' u xs hp
            cases hc : (Nat.beq u.size sz && !(Nat.beq sz 0) && u.isV && t.isV && Nat.beq len len') with
            | false => exact .no
            | true =>
              simp only [Bool.and_eq_true, Nat.beq_eq, Bool.not_eq_true'] at hc
              obtain ⟨⟨⟨⟨hc1, hc2⟩, hc3⟩, hc4⟩, hc5⟩ := hc
              subst hc5
              refine .opt fun z hz => ?_
              obtain ⟨h0, h1⟩ := atI_some hz
              simp only [R] at hx
              obtain ⟨b, rest, hb, hx⟩ := hx
              cases hx
              obtain ⟨aa, ha1, ha2⟩ := partTop_R (w0 := ⟨t, v⟩) (R_cells hc4 hb) hp rfl
              simp only [R] at ha1
              obtain ⟨cs, ha3, hlen, ls, hls, hall⟩ := ha1
              cases ha3
              have hpick : Nat.ble (off + len * sz) b.cells.length = true ∧ (b.cells.drop off).take (len * sz) = cs := by
                unfold pickA at ha2
                simp only [cond_true] at ha2
                cases hb' : Nat.ble (off + len * sz) b.cells.length with
                | false => rw [hb'] at ha2; cases ha2
                | true => rw [hb', cond_true] at ha2; cases ha2; exact ⟨rfl, rfl⟩
              rw [Nat.ble_eq] at hpick
              have hilt : n.toNat < xs.length := by
                rcases Nat.lt_or_ge n.toNat xs.length with h' | h'
                · exact h'
                · rw [List.getElem?_eq_none h'] at h1; cases h1
              obtain ⟨c, post, hsp, hcr⟩ := flat_at hc1 hall h1
              have hdrop : (b.cells ++ rest).drop (off + n.toNat * sz) = c ++ (post ++ ((b.cells.drop (off + len * sz)) ++ rest)) := by
                have e1 : b.cells.drop off = cs ++ b.cells.drop (off + len * sz) := by
                  rw [← hpick.2, ← List.drop_drop, List.take_append_drop]
                rw [← List.drop_drop, List.drop_append_of_le_length (by omega), e1, List.append_assoc, hls, List.drop_append_of_le_length (by have := hsp; rw [← hls]; rw [hls, this.2]; simp [this.1]), hsp.2, ← hsp.1, List.drop_left' rfl]
                simp
              obtain ⟨cv, k1, k2, _, _⟩ := R_ofCells hc3 hcr
              refine .ok rfl (a := .rptr ((b.cells ++ rest).drop (off + n.toNat * sz))) ⟨cv, post ++ ((b.cells.drop (off + len * sz)) ++ rest), k2, by rw [hdrop, List.drop_zero, k1]⟩ ?_
              simp only [aidx, hu, hs]
              rw [if_pos ⟨h0, by omega⟩, List.drop_drop]
          · exact .no
        · exact .no
      · exact .no
    · exact .no
  · exact .no
theorem faddrT_ok {s : TypeId} {x : TV} {a : AVal} {f : Nat} (hx : R Γ x.t x.v false [a]) : OkP Γ m (afaddr P s a f) (faddrT P s x f m) := by
  unfold faddrT
  split
  · rename_i fd hf
    split
    · rename_i n hs
      split
      · simp only [R] at hx; obtain ⟨r, n, hg, hx⟩ := hx; cases hx
        exact .ok rfl (a := .ptr r 1 0 _) ⟨r, n, hg, rfl⟩ (by simp only [afaddr, hf, hs])
      · simp only [R] at hx; obtain ⟨r, n, len, hg, hx⟩ := hx; cases hx
        exact .ok rfl (a := .ptr r len _ _) ⟨r, n, len, hg, rfl⟩ (by simp only [afaddr, hf, hs])
      · simp only [R] at hx; obtain ⟨b, rest, hb, hx⟩ := hx; cases hx
        exact .ok rfl (a := .rptr _) ⟨b, rest, hb, rfl⟩ (by simp only [afaddr, hf, hs, List.drop_drop])
      · exact .no
    · exact .no
  · exact .no
theorem fieldT_ok {s : TypeId} {x : TV} {a : AVal} {f : Nat} (hxv : x.t.isV = true) (hx : R Γ x.t x.v false [a]) : OkP Γ m (afield P s a f) (fieldT P s x f m) := by
  unfold fieldT
  split
  · rename_i fd hf
    cases hg : x.t.isAgg with
    | false => exact .no
    | true =>
      have ha := R_agg hxv hx
      rw [hg] at ha
      cases a <;> try (cases ha; done)
      rename_i cs
      refine .ofO fun w hw => ?_
      obtain ⟨h1, b, h2, h3⟩ := partP_R (R_cells hxv hx) hw
      exact ⟨h1, b, h2, by simp only [afield, hf]; exact h3⟩
  · exact .no
theorem nthT_R : ∀ {t : Ty} {v : t.V} {as : List AVal} {i : Nat} {w : TV}, rowV t = true → R Γ t v false as → nthT t v i = some w → w.t.isV = true ∧ ∃ a, R Γ w.t w.v false [a] ∧ as[i]? = some a
  | .cons t ts, v, as, 0, w, hv, hr, h => by
    simp only [rowV, Bool.and_eq_true] at hv
    simp only [R] at hr
    obtain ⟨l1, l2, rfl, h1, h2⟩ := hr
    obtain ⟨a, rfl⟩ := R_one hv.1 h1
    simp only [nthT] at h; cases h
    exact ⟨hv.1, a, h1, rfl⟩
  | .cons t ts, v, as, i + 1, w, hv, hr, h => by
    simp only [rowV, Bool.and_eq_true] at hv
    simp only [R] at hr
    obtain ⟨l1, l2, rfl, h1, h2⟩ := hr
    obtain ⟨a, rfl⟩ := R_one hv.1 h1
    simp only [nthT] at h
    exact nthT_R (t := ts) (i := i) hv.2 h2 h
  | .unit, v, as, i, w, hv, hr, h => by cases i <;> cases h
  | .int _, _, _, _, _, hv, _, _ => by cases hv
  | .bool, _, _, _, _, hv, _, _ => by cases hv
  | .str, _, _, _, _, hv, _, _ => by cases hv
  | .sl _, _, _, _, _, hv, _, _ => by cases hv
  | .agg _, _, _, _, _, hv, _, _ => by cases hv
  | .arr _ _, _, _, _, _, hv, _, _ => by cases hv
  | .tup _, _, _, _, _, hv, _, _ => by cases hv
  | .nilsl, _, _, _, _, hv, _, _ => by cases hv
  | .nilp, _, _, _, _, hv, _, _ => by cases hv
  | .undef, _, _, _, _, hv, _, _ => by cases hv
  | .any, _, _, _, _, hv, _, _ => by cases hv
  | .own _, _, _, _, _, hv, _, _ => by cases hv
  | .it _, _, _, _, _, hv, _, _ => by cases hv
  | .bx _ _, _, _, _, _, hv, _, _ => by cases hv
  | .ptr _ _, _, _, _, _, hv, _, _ => by cases hv
  | .rp _ _, _, _, _, _, hv, _, _ => by cases hv
theorem extractT_ok {x : TV} {a : AVal} {i : Nat} (hx : R Γ x.t x.v false [a]) : OkP Γ m (aextract a i) (extractT x i m) := by
  unfold extractT
  split
  · rename_i t v
    simp only [R] at hx; obtain ⟨as, hx, hr⟩ := hx; cases hx
    cases hv : rowV t with
    | false => exact .no
    | true =>
      refine .ofO fun w hw => ?_
      obtain ⟨h1, b, h2, h3⟩ := nthT_R hv hr hw
      exact ⟨h1, b, h2, h3⟩
  · exact .no
/-- An operand that may lack. -/
def OptR (Γ : Ctx) (x : Option TV) (a : Option AVal) : Prop :=
  match x, a with
  | none, none => True
  | some w, some a => R Γ w.t w.v false [a]
  | _, _ => False
theorem boundT_R {x : Option TV} {a : Option AVal} {d : Nat} {n : Int} (h : OptR Γ x a) (hb : boundT x d = some n) (h0 : 0 ≤ n) : asNat a d = some n.toNat := by
  unfold boundT at hb
  split at hb
  · cases hb
    cases a with
    | none => simp [asNat]
    | some _ => exact h.elim
  · cases hb
    cases a with
    | none => exact h.elim
    | some a =>
      simp only [OptR, R] at h; cases h
      simp [asNat, h0]
  · cases hb
theorem sliceT_ok {t : TypeId} {x : TV} {a : AVal} {lo hi mx : Option TV} {l h q : Option AVal} (hx : R Γ x.t x.v false [a]) (h1 : OptR Γ lo l) (h2 : OptR Γ hi h) (h3 : OptR Γ mx q) : OkP Γ m (aslice P t a l h q) (sliceT P t x lo hi mx m) := by
  unfold sliceT
  split
  · exact .no
  · cases q with
    | some _ => exact h3.elim
    | none =>
      split
      · rename_i hu
        split
        · rename_i s
          simp only [R] at hx; cases hx
          split
          · rename_i n k e1 e2
            refine .opt fun z hz => ?_
            obtain ⟨⟨g1, g2, g3⟩, rfl⟩ := subI_some hz
            have b1 := boundT_R (d := 0) h1 e1 g1
            have b2 := boundT_R (d := s.length) h2 e2 (by omega)
            refine .ok rfl rfl ?_
            simp only [aslice, hu, b1, b2]
            rw [if_pos ⟨by omega, by omega⟩]
          · exact .no
        · exact .no
      · rename_i e hu
        split
        · rename_i n hs
          split
          · rename_i u xs
            split
            · rename_i l' k' e1 e2
              cases hc : Nat.beq u.size n with
              | false => exact .no
              | true =>
                rw [Nat.beq_eq] at hc
                refine .opt fun z hz => ?_
                obtain ⟨⟨g1, g2, g3⟩, rfl⟩ := subI_some hz
                simp only [R] at hx
                rcases hx with ⟨hn, hx⟩ | ⟨f, n', as, hx, hn, hx2⟩
                · cases hx
                  subst hn
                  have b1 := boundT_R (d := 0) h1 e1 g1
                  have b2 := boundT_R (d := 0) h2 e2 (by omega)
                  simp only [List.length_nil, Int.natCast_zero] at g3
                  have z1 : l'.toNat = 0 := by omega
                  have z2 : k'.toNat = 0 := by omega
                  refine .ok rfl (a := .nil) (.inl ⟨by simp, rfl⟩) ?_
                  have b3 : asNat none 0 = some 0 := rfl
                  simp only [aslice, hu, hs, b1, b2, b3, z1, z2, Option.isSome_none, Bool.false_and, Bool.false_eq_true, if_false]
                · cases hx
                  have hl := All2_len hx2
                  have b1 := boundT_R (d := 0) h1 e1 g1
                  have b2 := boundT_R (d := as.length) h2 (by rw [hl]; exact e2) (by omega)
                  have hn' : n' = n ∨ as.length = 0 := by
                    rcases hn with rfl | hn
                    · right; rw [hl]; rfl
                    · left; exact hn.trans hc
                  refine .ok rfl (a := .tree (f && k'.toNat == as.length) n' ((as.take k'.toNat).drop l'.toNat)) (.inr ⟨_, n', _, rfl, ?_, All2_drop _ (All2_take _ hx2)⟩) ?_
                  · rcases hn with rfl | hn
                    · left; simp
                    · right; exact hn
                  simp only [aslice, hu, hs, b1, b2]
                  rw [if_pos ⟨hn', by omega, by omega⟩]
            · exact .no
          · exact .no
        · exact .no
      · exact .no
theorem lenT_ok (hm : MemR Γ m st) {t : TypeId} {x : TV} {a : AVal} (hx : R Γ x.t x.v false [a]) : OkP Γ m (alen P t a) (lenT P t x m) := by
  unfold lenT
  split
  · rename_i hu
    split
    · simp only [R] at hx; cases hx; exact .ok rfl rfl (by simp only [alen, hu])
    · exact .no
  · rename_i e hu
    split
    · simp only [R] at hx; cases hx; exact .ok rfl rfl (by simp only [alen, hu])
    · rename_i u xs
      simp only [R] at hx
      rcases hx with ⟨hn, hx⟩ | ⟨f, n', as, hx, hn, hx2⟩
      · cases hx; subst hn; exact .ok rfl rfl (by simp only [alen, hu]; rfl)
      · cases hx; exact .ok rfl rfl (by simp only [alen, hu, All2_len hx2])
    · rename_i id _
      split
      · rename_i e u xs hg
        have hr := hm.at id
        rw [hg] at hr
        obtain ⟨_, _, _, _, hr⟩ := hr
        simp only [R] at hx
        rcases hr with ⟨rfl, g1⟩ | ⟨r, as, g1, g2, g3⟩
        · rw [g1] at hx; cases hx; exact .ok rfl rfl (by simp only [alen, hu]; rfl)
        · rw [g1] at hx; cases hx; exact .ok rfl rfl (by simp only [alen, hu])
      · exact .no
    · exact .no
  · exact .no
theorem int_min (a b : Int) : (if b < a then b else a) = min a b := by rw [Int.min_def]; split <;> split <;> omega
theorem int_max (a b : Int) : (if b > a then b else a) = max a b := by rw [Int.max_def]; split <;> split <;> omega
theorem minmaxT_ok {mx : Bool} {l : List TV} {as : List AVal} (h : ValsR Γ l as) : OkP Γ m (aminmax mx as) (minmaxT mx l m) := by
  unfold minmaxT
  split
  · rename_i k a k' b
    match as, h with
    | [x, y], h =>
      have h1 := h.1.2
      have h2 := h.2.1.2
      simp only [R] at h1 h2
      cases h1; cases h2
      cases hk : kbeq k k' with
      | false => exact .no
      | true =>
        have e := kbeq_eq hk
        subst e
        refine .ok rfl rfl ?_
        simp only [aminmax, if_true]
        cases mx <;> simp only [cond_true, cond_false]
        · rw [int_min]
        · rw [int_max]
  · exact .no
def PartsR (Γ : Ctx) (l : List (Nat × TV)) (as : List (Nat × AVal)) : Prop := All2 (fun p q => p.1 = q.1 ∧ p.2.t.isV = true ∧ R Γ p.2.t p.2.v false [q.2]) l as
theorem putsT_R {fs : Array Field} : ∀ {parts : List (Nat × TV)} {as : List (Nat × AVal)} {u w : TV} {cs : List AVal}, R Γ u.t u.v false [.agg cs] → u.t.isV = true → u.t.okRow = true → PartsR Γ parts as → putsT P fs u parts = some w →
    ∃ cs', afill P fs cs as = some cs' ∧ w.t.isV = true ∧ R Γ w.t w.v false [.agg cs']
  | [], [], u, w, cs, hu, hv, hk, hp, h => by simp only [putsT] at h; cases h; exact ⟨cs, rfl, hv, hu⟩
  | [], _ :: _, u, w, cs, hu, hv, hk, hp, h => hp.elim
  | _ :: _, [], u, w, cs, hu, hv, hk, hp, h => hp.elim
  | (i, x) :: parts, (j, a) :: as, u, w, cs, hu, hv, hk, hp, h => by
    obtain ⟨⟨e, hx1, hx2⟩, hp⟩ := hp
    simp only at e hx1 hx2
    subst e
    unfold putsT at h
    split at h
    · cases h
    · rename_i fd hf
      split at h
      · rename_i n hn
        cases hc : (Nat.beq n x.t.size && x.t.okRow && x.t.isV) with
        | false => rw [hc] at h; cases h
        | true =>
          rw [hc, cond_true, Option.bind_eq_some_iff] at h
          obtain ⟨u', hu', h⟩ := h
          simp only [Bool.and_eq_true, Nat.beq_eq] at hc
          obtain ⟨⟨hc1, hc2⟩, hc3⟩ := hc
          obtain ⟨g1, g2, g3, g4, g5, g6⟩ := putTop_R hu hv hk hx2 hx1 hu'
          have hcl := R_cells hx1 hx2
          have hlen := R_len hcl
          obtain ⟨cs', k1, k2, k3⟩ := putsT_R (cs := cs.take fd.offset ++ a.cells ++ cs.drop (fd.offset + a.cells.length)) g1 g2 (g3 hc2) hp h
          refine ⟨cs', ?_, k2, k3⟩
          unfold afill
          simp only [hf, hn]
          rw [show (AVal.agg cs).cells = cs from rfl] at g5
          rw [if_pos ⟨by omega, by omega, R_isCell hc2 hcl⟩]
          rw [show n = a.cells.length by omega]
          exact k1
      · cases h
theorem buildT_ok {t : TypeId} {parts : List (Nat × TV)} {as : List (Nat × AVal)} (hp : PartsR Γ parts as) : OkP Γ m (abuild P t as) (buildT P t parts m) := by
  unfold buildT
  split
  · rename_i fs hu
    cases hi : fs.all fun f => (P.info? f.type).isSome with
    | false => exact .no
    | true =>
      simp only [cond_true]
      split
      · rename_i z hz
        cases hg : (z.t.isAgg && z.t.okRow) with
        | false => exact .no
        | true =>
          rw [Bool.and_eq_true] at hg
          simp only [cond_true]
          split
          · rename_i w hw
            obtain ⟨z1, a, z2, z3⟩ := zeroT_R (Γ := Γ) hz
            have ha := R_agg z1 z3
            rw [hg.1] at ha
            cases a <;> try (cases ha; done)
            rename_i cs
            obtain ⟨cs', k1, k2, k3⟩ := putsT_R z3 z1 hg.2 hp hw
            refine .ok k2 k3 ?_
            simp only [abuild, z2, hu, hi, if_true]
            rw [show (AVal.agg cs).cells = cs from rfl, k1, Option.map_some]
          · exact .no
      · exact .no
  · exact .no
theorem fits_R {e : TypeId} {u : Ty} {x : u.V} {a : AVal} (hf : fitsT P e u = true) (hr : R Γ u x false [a]) : fits P e a = true := by
  unfold fitsT at hf
  unfold fits
  split at hf
  · rename_i n d hn hd
    simp only [Bool.and_eq_true, Nat.beq_eq, Bool.not_eq_true'] at hf
    obtain ⟨⟨⟨⟨h1, h2⟩, h3⟩, h4⟩, h5⟩ := hf
    have hc := R_cells h4 hr
    simp only [hn, hd, Bool.and_eq_true, beq_iff_eq, bne_iff_ne]
    refine ⟨⟨⟨by rw [R_len hc, h1], ?_⟩, R_isCell h3 hc⟩, beq_ne h5⟩
    rw [← R_agg h4 hr, isB_eq h2]
  · cases hf
theorem idxOkT_R : ∀ {l : List (Nat × TV)} {as : List (Nat × AVal)} {k : Nat}, PartsR Γ l as → idxOkT k l = true → idxOk k as = true
  | [], [], k, _, _ => rfl
  | (i, x) :: l, (j, a) :: as, k, h, hk => by
    obtain ⟨⟨e, _⟩, h⟩ := h
    simp only at e
    subst e
    simp only [idxOkT, Bool.and_eq_true, Nat.beq_eq] at hk
    simp only [idxOk, Bool.and_eq_true, beq_iff_eq]
    exact ⟨hk.1, idxOkT_R h hk.2⟩
theorem parts_vals : ∀ {l : List (Nat × TV)} {as : List (Nat × AVal)}, PartsR Γ l as → ValsR Γ (l.map (·.2)) (as.map (·.2))
  | [], [], _ => trivial
  | _ :: _, _ :: _, h => ⟨h.1.2, parts_vals h.2⟩
theorem all_fits {e : TypeId} {u : Ty} (hf : fitsT P e u = true) : ∀ {xs : List u.V} {as : List (Nat × AVal)}, All2 (fun x a => R Γ u x false [a]) xs (as.map (·.2)) → as.all (fun p => fits P e p.2) = true
  | [], [], _ => rfl
  | x :: xs, a :: as, h => by
    simp only [List.all_cons, Bool.and_eq_true]
    exact ⟨fits_R hf h.1, all_fits hf h.2⟩
  | [], _ :: _, h => h.elim
  | _ :: _, [], h => h.elim
/-- A slice that is written out. -/
theorem buildSlT_R {ty : List (Nat × Ty)} {t : TypeId} {len : Nat} {parts : List (Nat × TV)} {as : List (Nat × AVal)} {u : Ty} {xs : List u.V} (hp : PartsR Γ parts as) (h : buildSlT P ty t len parts = some ⟨u, xs⟩) :
    u.isV = true ∧ u.closed = true ∧ u.size ≠ 0 ∧ abuildSlice P t len as = some (u.size, as.map (·.2)) ∧ All2 (fun x a => R Γ u x false [a]) xs (as.map (·.2)) := by
  unfold buildSlT at h
  split at h
  · rename_i e hu
    split at h
    · rename_i n z u' hn hz hl
      cases hc : (idxOkT 0 parts && Nat.beq parts.length len && fitsT P e u' && Nat.ble (len * n) 16777216 && u'.closed && Nat.beq u'.size n) with
      | false => rw [hc] at h; cases h
      | true =>
        rw [hc, cond_true, Option.map_eq_some_iff] at h
        obtain ⟨ys, hy, e⟩ := h
        cases e
        simp only [Bool.and_eq_true, Nat.beq_eq, Nat.ble_eq] at hc
        obtain ⟨⟨⟨⟨⟨c1, c2⟩, c3⟩, c4⟩, c5⟩, c6⟩ := hc
        have hr := coerceAll_R hy (parts_vals hp)
        have hv : u.isV = true ∧ n ≠ 0 := by
          unfold fitsT at c3
          split at c3
          · simp only [Bool.and_eq_true, Bool.not_eq_true'] at c3
            rename_i n' d hn' hd
            rw [hn] at hn'; cases hn'
            exact ⟨c3.1.2, beq_ne c3.2⟩
          · cases c3
        refine ⟨hv.1, c5, by rw [c6]; exact hv.2, ?_, hr⟩
        have hlen : as.length = len := by rw [← c2, All2_len hp]
        unfold abuildSlice
        simp only [hu, hn, hz, c6]
        rw [if_pos]
        simp only [Bool.and_eq_true, beq_iff_eq, decide_eq_true_eq]
        exact ⟨⟨⟨idxOkT_R hp c1, hlen⟩, all_fits c3 hr⟩, c4, hv.2⟩
    · cases h
  · cases h
theorem nilckT_ok {x : TV} {a : AVal} (hxv : x.t.isV = true) (hx : R Γ x.t x.v false [a]) : OkP Γ m (anilck a) (nilckT x m) := by
  obtain ⟨t, v⟩ := x
  unfold nilckT
  split
  · rename_i ht; simp only at ht; subst ht
    have h := hx; simp only [R] at h; obtain ⟨_, _, _, h⟩ := h; cases h
    exact .ok rfl hx rfl
  · rename_i ht; simp only at ht; subst ht
    have h := hx; simp only [R] at h; obtain ⟨_, _, _, _, h⟩ := h; cases h
    exact .ok rfl hx rfl
  · rename_i ht; simp only at ht; subst ht
    have h := hx; simp only [R] at h; obtain ⟨_, _, _, h⟩ := h; cases h
    exact .ok rfl hx rfl
  · exact .no
theorem callT_ok {F : PFn} {tf : TFn} {l : List TV} {as : List AVal} (hF : TOk F tf) (h : ValsR Γ l as) : OkP Γ m (callP F as) (callT tf l m) := by
  unfold callT
  split
  · rename_i v hv
    refine .opt fun r hr => ?_
    have hp := coerceL_R hv h
    obtain ⟨a, h1, h2⟩ := hF.run v r as hr (R_move hF.ps hp)
    refine .ok hF.isV (R_move hF.res h2) ?_
    simp only [callP, R_closed hF.ps hp, cond_true, h1]
  · exact .no
end
end Go.TY
