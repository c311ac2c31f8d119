/- What is left of the operations that make memory; what a function hands back. -/
import Derived.Test.YtnafmjbakholcaaDoorT7
set_option linter.unusedVariables false
set_option linter.unusedSimpArgs false
namespace Go.TY
open Go.EM
section
variable {Γ : Ctx} {m : Mem} {st : Store} {P : Program} {d : Option Nat}
theorem makeT_ok (hm : MemR Γ m st) {ty : List (Nat × Ty)} {t : TypeId} {l c : TV} {a b : AVal} (hl : R Γ l.t l.v false [a]) (hc : R Γ c.t c.v false [b]) : OkM d Γ m st (amake P t a b st) (makeT P ty t l c m) := by
  unfold makeT
  split
  · rename_i n z et l' c' he het
    simp only [R] at hl hc; cases hl; cases hc
    split
    · rename_i z' hz'
      rw [Option.bind_eq_some_iff] at hz'
      obtain ⟨zt, hz1, hz2⟩ := hz'
      cases hcc : (Nat.beq et.size n && et.isV && et.closed && et.okRow) with
      | false => exact .no
      | true =>
        simp only [Bool.and_eq_true, Nat.beq_eq] at hcc
        obtain ⟨⟨⟨c1, c2⟩, c3⟩, c4⟩ := hcc
        obtain ⟨hzo, hn0⟩ := elemInfo_some he
        obtain ⟨g1, za, g2, g3⟩ := zeroT_R (Γ := Γ) hz1
        rw [hzo] at g2; cases g2
        have hz := coerceN_R hz2 g3
        refine .opt fun _ hmk => ?_
        obtain ⟨⟨h1, h2, h3⟩, _⟩ := ite_some' hmk
        refine fresh_ok hm c1 c2 c3 c4 (by rw [c1]; exact hn0) (All2_rep (p := fun x a => R Γ et x false [a]) hz l'.toNat) ?_
        have hcell := R_isCell c4 (R_cells c2 hz)
        simp only [amake, he]
        rw [if_pos ⟨h1, h2, by simpa [most] using h3, hcell⟩]
    · exact .no
  · exact .no
theorem runes_eq (s : List UInt8) : ∀ (b i : Nat) (acc : Array Value), (Conv.runesFrom ⟨s.toArray⟩ b i acc).toList = acc.toList ++ (runesFromT s b i).map fun n => Value.int .i32 n
  | 0, i, acc => by simp [Conv.runesFrom, runesFromT]
  | b + 1, i, acc => by
    unfold Conv.runesFrom runesFromT
    have hs : (⟨s.toArray⟩ : ByteArray).size = s.length := by simp [ByteArray.size]
    rw [hs]
    by_cases h : i < s.length
    · simp only [h, if_true]
      rw [runes_eq s b]
      simp
    · simp only [h, if_false, List.map_nil, List.append_nil]
theorem runesOf_eq (s : List UInt8) : runesOf s = (runesT s).map fun n => AVal.int .i32 n := by
  unfold runesOf runesT
  rw [runes_eq]
  simp only [Array.toList_empty, List.nil_append, List.map_map]
  rfl
theorem All2_map {A B : Type} {p : A → B → Prop} {f : A → B} (h : ∀ x, p x (f x)) : ∀ l : List A, All2 p l (l.map f)
  | [] => trivial
  | x :: l => ⟨h x, All2_map h l⟩
theorem abyte_R : ∀ {xs : List Int} {as : List AVal}, All2 (fun x a => R Γ (.int .u8) x false [a]) xs as → abyteList as = some (xs.map fun n => UInt8.ofNat n.toNat)
  | [], [], _ => rfl
  | x :: xs, a :: as, h => by
    have h1 := h.1; simp only [R] at h1; cases h1
    simp only [abyteList, abyte_R h.2, Option.map_some, List.map_cons]
theorem arune_R : ∀ {xs : List Int} {as : List AVal}, All2 (fun x a => R Γ (.int .i32) x false [a]) xs as → aruneList as = some (xs.flatMap fun n => (Utf8.encode n).data.toList)
  | [], [], _ => rfl
  | x :: xs, a :: as, h => by
    have h1 := h.1; simp only [R] at h1; cases h1
    simp only [aruneList, arune_R h.2, Option.map_some, List.flatMap_cons]
theorem convS_ok (hm : MemR Γ m st) {src dst : TypeId} {x : TV} {a : AVal} (hx : R Γ x.t x.v false [a]) : OkM d Γ m st (aconvS P src dst a st) (convS P src dst x m) := by
  unfold convS
  split
  · rename_i e h1 h2
    split
    · rename_i s h3
      simp only [R] at hx; cases hx
      refine fresh_ok hm (n := 1) rfl rfl rfl rfl (by simp [Ty.size]) (All2_map (p := fun (x : Int) a => R Γ (.int .u8) x false [a]) (f := fun n => AVal.int .u8 n) (fun x => rfl) _) ?_
      simp only [aconvS, h1, h2, h3, List.map_map]
      rfl
    · rename_i s h3
      simp only [R] at hx; cases hx
      refine fresh_ok hm (n := 1) rfl rfl rfl rfl (by simp [Ty.size]) (All2_map (p := fun (x : Int) a => R Γ (.int .i32) x false [a]) (f := fun n => AVal.int .i32 n) (fun x => rfl) _) ?_
      simp only [aconvS, h1, h2, h3, runesOf_eq]
    · exact .no
  · rename_i e h1 h2
    split
    · rename_i h3
      split
      · rename_i xs hxs
        obtain ⟨bs, hb1, hb2⟩ := contT_R hm (n := 1) rfl hxs hx
        refine .ok (a := .str _) (st' := st) Γ ?_ (.inr ⟨rfl, rfl⟩) hm (fun _ _ _ h => h) (.refl m)
        simp only [aconvS, h1, h2, h3, hb1, Option.bind_some, abyte_R hb2, Option.map_some]
      · exact .no
    · rename_i h3
      split
      · rename_i xs hxs
        obtain ⟨bs, hb1, hb2⟩ := contT_R hm (n := 1) rfl hxs hx
        refine .ok (a := .str _) (st' := st) Γ ?_ (.inr ⟨rfl, rfl⟩) hm (fun _ _ _ h => h) (.refl m)
        simp only [aconvS, h1, h2, h3, hb1, Option.bind_some, arune_R hb2, Option.map_some]
      · exact .no
    · exact .no
  · exact .no
theorem rangeT_ok (hm : MemR Γ m st) {t : TypeId} {x : TV} {a : AVal} (hx : R Γ x.t x.v false [a]) : OkM d Γ m st (arange P t a st) (rangeT P t x m) := by
  unfold rangeT
  split
  · rename_i hu
    split
    · rename_i s
      simp only [R] at hx; cases hx
      exact .ok (a := .ptr st.length 0 0 0) (st' := st ++ [.iter s 0]) (more Γ m.length (some (st.length, 0, 0))) (by simp only [arange, hu]) (.inr ⟨rfl, st.length, more_at, rfl⟩) (hm.more ⟨st.length, more_at, by simp⟩) (fun j y _ h => more_ext hm j y h) .more
    · exact .no
  · exact .no
theorem nextT_ok (hm : MemR Γ m st) {x : TV} {b : Bool} {a : AVal} (hx : R Γ x.t x.v false [a]) : OkM d Γ m st (anext a b st) (nextT x b m) := by
  unfold nextT
  split
  · rename_i id _
    simp only [R] at hx; obtain ⟨r, hg, hx⟩ := hx; cases hx
    have hr := hm.at id
    split
    · rename_i s pos hreg
      rw [hreg] at hr
      obtain ⟨r', h1, h2⟩ := hr
      rw [hg] at h1; cases h1
      cases b with
      | false => exact .no
      | true =>
        simp only [cond_true]
        refine .br (fun hlt => ?_) (fun hge => ?_)
        · have hlt := of_decide_eq_true hlt
          refine .ok (a := .tup [.bool true, .int .i64 pos, .int .i32 (Utf8.decode ⟨s.toArray⟩ pos).1]) (st' := st.set r (.iter s (pos + (Utf8.decode ⟨s.toArray⟩ pos).2))) Γ ?_ (.inr ⟨rfl, _, rfl, ?_⟩) (hm.set (getM_lt hreg (by simp)) hg ⟨r, hg, ?_⟩) (fun _ _ _ h => h) (.set (by intro _ _ _ h; cases h) (by intro _ _ h; cases h; exact ⟨_, hreg⟩))
          · simp only [anext, h2, cond_true, if_pos hlt]
          · exact ⟨[_], [_, _], rfl, rfl, [_], [_], rfl, rfl, [_], [], rfl, rfl, rfl⟩
          · rw [List.getElem?_set_self (hm.lt _ _ _ _ hg)]
        · have hge := of_decide_eq_false hge
          refine .ok (a := .tup [.bool false]) (st' := st) Γ ?_ (.inr ⟨rfl, _, rfl, ?_⟩) hm (fun _ _ _ h => h) (.refl m)
          · simp only [anext, h2, cond_true, if_neg hge]
          · exact ⟨[_], [], rfl, rfl, rfl⟩
    · exact .no
  · exact .no

/-! ### what a function hands back -/
theorem packL_app {st : Store} : ∀ {l1 l2 k1 k2 : List AVal}, packL st l1 = some k1 → packL st l2 = some k2 → packL st (l1 ++ l2) = some (k1 ++ k2)
  | [], l2, k1, k2, h1, h2 => by simp only [packL] at h1; cases h1; exact h2
  | v :: l, l2, k1, k2, h1, h2 => by
    simp only [packL, Option.bind_eq_some_iff, Option.map_eq_some_iff] at h1
    obtain ⟨x, hx, y, hy, rfl⟩ := h1
    simp only [List.cons_append, packL, hx, packL_app hy h2, Option.bind_some, Option.map_some]
theorem packL_one {st : Store} {a b : AVal} (h : packV st a = some b) : packL st [a] = some [b] := by simp only [packL, h, Option.bind_some, Option.map_some]
theorem packC {Γ' : Ctx} : ∀ {t : Ty} {v : t.V} {c : Bool} {l : List AVal}, t.closed = true → R Γ t v c l → ∃ l', packL st l = some l' ∧ R Γ' t v c l'
  | .int k, v, c, l, _, h => by simp only [R] at h; subst h; exact ⟨_, rfl, rfl⟩
  | .bool, v, c, l, _, h => by simp only [R] at h; subst h; exact ⟨_, rfl, rfl⟩
  | .str, v, c, l, _, h => by simp only [R] at h; subst h; exact ⟨_, rfl, rfl⟩
  | .sl t, v, c, l, hc, h => by
    have hcl := R_closed hc h
    simp only [Ty.closed, Bool.and_eq_true] at hc
    simp only [R] at h
    rcases h with ⟨rfl, rfl⟩ | ⟨f, n, as, rfl, hn, h⟩
    · exact ⟨_, rfl, .inr ⟨false, 0, [], rfl, .inl rfl, trivial⟩⟩
    · rw [closedL_one] at hcl
      simp only [closed] at hcl
      cases as with
      | nil =>
        refine ⟨[.tree false 0 []], by simp [packL, packV, hcl], .inr ⟨false, 0, [], rfl, .inl ?_, ?_⟩⟩
        · cases v with
          | nil => rfl
          | cons _ _ => exact h.elim
        · cases v with
          | nil => trivial
          | cons _ _ => exact h.elim
      | cons a as =>
        refine ⟨[.tree false n (a :: as)], by simp [packL, packV, hcl], .inr ⟨false, n, a :: as, rfl, hn, Forall2_imp (p := fun x a => R Γ t x false [a]) (fun x a hx => R_move hc.2 hx) h⟩⟩
  | .agg t, v, c, l, hc, h => by
    cases c <;> simp only [R] at h ⊢
    · obtain ⟨cs, rfl, h⟩ := h
      obtain ⟨l', h1, h2⟩ := packC (Γ' := Γ') (t := t) hc h
      exact ⟨[.agg l'], by simp only [packL, packV, h1, Option.map_some, Option.bind_some], l', rfl, h2⟩
    · exact packC (t := t) hc h
  | .arr n t, v, c, l, hc, h => by
    simp only [Ty.closed, Bool.and_eq_true] at hc
    have : ∀ (v : List t.V) (ls : List (List AVal)), All2 (fun x c => R Γ t x true c) v ls → ∃ ls', packL st ls.flatten = some (List.flatten ls') ∧ All2 (fun x c => R Γ' t x true c) v ls' := by
      intro v
      induction v with
      | nil => intro ls h; cases ls with | nil => exact ⟨[], rfl, trivial⟩ | cons _ _ => exact h.elim
      | cons x v ih =>
        intro ls h
        cases ls with
        | nil => exact h.elim
        | cons c ls =>
          obtain ⟨c', g1, g2⟩ := packC (Γ' := Γ') hc.2 h.1
          obtain ⟨ls', g3, g4⟩ := ih ls h.2
          exact ⟨c' :: ls', by rw [List.flatten_cons, List.flatten_cons]; exact packL_app g1 g3, g2, g4⟩
    cases c <;> simp only [R] at h ⊢
    · obtain ⟨cs, rfl, hn, ls, rfl, h⟩ := h
      obtain ⟨ls', g1, g2⟩ := this v ls h
      exact ⟨[.agg ls'.flatten], by simp only [packL, packV, g1, Option.map_some, Option.bind_some], _, rfl, hn, ls', rfl, g2⟩
    · obtain ⟨hn, ls, rfl, h⟩ := h
      obtain ⟨ls', g1, g2⟩ := this v ls h
      exact ⟨_, g1, hn, ls', rfl, g2⟩
  | .tup t, v, c, l, hc, h => by
    simp only [R] at h ⊢; obtain ⟨as, rfl, h⟩ := h
    obtain ⟨l', h1, h2⟩ := packC (Γ' := Γ') (t := t) hc h
    exact ⟨[.tup l'], by simp only [packL, packV, h1, Option.map_some, Option.bind_some], l', rfl, h2⟩
  | .unit, v, c, l, _, h => by simp only [R] at h; subst h; exact ⟨_, rfl, rfl⟩
  | .cons t ts, v, c, l, hc, h => by
    simp only [Ty.closed, Bool.and_eq_true] at hc
    simp only [R] at h ⊢
    obtain ⟨l1, l2, rfl, h1, h2⟩ := h
    obtain ⟨k1, g1, g2⟩ := packC (Γ' := Γ') hc.1 h1
    obtain ⟨k2, g3, g4⟩ := packC (Γ' := Γ') hc.2 h2
    exact ⟨k1 ++ k2, packL_app g1 g3, k1, k2, rfl, g2, g4⟩
  | .nilsl, v, c, l, hc, h => by cases hc
  | .nilp, v, c, l, _, h => by simp only [R] at h; subst h; exact ⟨_, rfl, rfl⟩
  | .undef, v, c, l, _, h => by simp only [R] at h; subst h; exact ⟨_, rfl, rfl⟩
  | .any, v, c, l, hc, h => by cases hc
  | .own id, v, c, l, hc, h => by cases hc
  | .it id, v, c, l, hc, h => by cases hc
  | .bx id off, v, c, l, hc, h => by cases hc
  | .ptr id off, v, c, l, hc, h => by cases hc
  | .rp t off, v, c, l, hc, h => by cases hc
theorem castId {A : Type} {t u : Ty} {v : t.V} {x : u.V} (h : castV t v u (fun x => x) = some x) : ∃ e : t = u, x = e ▸ v := castV_some h
theorem dflt {t u : Ty} {v : t.V} {x : u.V} {c : Bool} {l : List AVal} (h : cond t.closed (castV t v u id) none = some x) (hr : R Γ t v c l) : ∃ l', packL st l = some l' ∧ R Γ0 u x c l' := by
  cases hc : t.closed with
  | false => rw [hc] at h; cases h
  | true =>
    rw [hc, cond_true] at h
    obtain ⟨e, hx⟩ := castV_some h
    subst e; subst hx
    exact packC hc hr
theorem closeTo_R (hm : MemR Γ m st) : ∀ {t : Ty} {v : t.V} {u : Ty} {x : u.V} {c : Bool} {l : List AVal}, u.closed = true → closeTo m t v u = some x → R Γ t v c l → ∃ l', packL st l = some l' ∧ R Γ0 u x c l' := by
  intro t
  induction t with
  | own id =>
    intro v u x c l hu h hr
    cases u
    case sl u' =>
      simp only [closeTo] at h
      split at h
      · rename_i e t' xs hg
        obtain ⟨e', hx⟩ := castV_some h
        cases e'
        subst hx
        have hreg := hm.at id
        rw [hg] at hreg
        obtain ⟨k1, k2, k3, k4, k5⟩ := hreg
        simp only [R] at hr
        rcases k5 with ⟨rfl, k5⟩ | ⟨r, as, k5, k6, k7⟩
        · rw [k5] at hr; subst hr
          exact ⟨[.tree false 0 []], rfl, .inr ⟨false, 0, [], rfl, .inl rfl, trivial⟩⟩
        · rw [k5] at hr; subst hr
          have hal := All2_len k7
          have hcl : closedL as = true := closedL_all2 (fun x a hx => by rw [← closedL_one]; exact R_closed k2 hx) k7
          have hrow : EM.rowAt st r u'.size x.length = some as := by simp only [EM.rowAt, k6, hal, and_self, if_true]
          have hble : Nat.ble (0 + x.length) as.length = true := by rw [Nat.ble_eq]; omega
          cases x with
          | nil =>
            refine ⟨[.tree false 0 []], ?_, .inr ⟨false, 0, [], rfl, .inl rfl, trivial⟩⟩
            simp only [packL, packV, packRow]
            rw [hrow]
            simp only [hcl, hble, Bool.and_self, cond_true]
            rfl
          | cons y ys =>
            refine ⟨[.tree false u'.size as], ?_, .inr ⟨false, u'.size, as, rfl, .inr rfl, Forall2_imp (p := fun x a => R Γ u' x false [a]) (fun x a hx => R_move k2 hx) k7⟩⟩
            simp only [packL, packV, packRow]
            rw [hrow]
            have h0 : Nat.beq (y :: ys).length 0 = false := rfl
            simp only [hcl, hble, Bool.and_self, cond_true, h0, cond_false, List.drop_zero, Option.bind_some, Option.map_some]
            rw [List.take_of_length_le (by omega)]
      · cases h
    all_goals (simp only [closeTo] at h; exact dflt h hr)
  | nilsl =>
    intro v u x c l hu h hr
    cases u
    case sl u' =>
      simp only [closeTo] at h
      cases h
      simp only [R] at hr; subst hr
      exact ⟨[.tree false 0 []], rfl, .inr ⟨false, 0, [], rfl, .inl rfl, trivial⟩⟩
    all_goals (simp only [closeTo] at h; exact dflt h hr)
  | agg t ih =>
    intro v u x c l hu h hr
    cases u
    case agg u =>
      simp only [closeTo] at h
      cases hb : t.beq u with
      | true =>
        rw [hb, cond_true] at h
        obtain ⟨e, hx⟩ := castV_some h
        subst e; subst hx
        exact packC (t := .agg t) hu hr
      | false =>
        rw [hb, cond_false] at h
        cases c <;> simp only [R] at hr ⊢
        · obtain ⟨cs, rfl, hr⟩ := hr
          obtain ⟨l', h1, h2⟩ := ih (u := u) hu h hr
          exact ⟨[.agg l'], by simp only [packL, packV, h1, Option.map_some, Option.bind_some], l', rfl, h2⟩
        · exact ih (u := u) hu h hr
    all_goals (simp only [closeTo] at h; exact dflt h hr)
  | tup t ih =>
    intro v u x c l hu h hr
    cases u
    case tup u =>
      simp only [closeTo] at h
      simp only [R] at hr ⊢
      obtain ⟨as, rfl, hr⟩ := hr
      obtain ⟨l', h1, h2⟩ := ih (u := u) hu h hr
      exact ⟨[.tup l'], by simp only [packL, packV, h1, Option.map_some, Option.bind_some], l', rfl, h2⟩
    all_goals (simp only [closeTo] at h; exact dflt h hr)
  | cons t ts ih1 ih2 =>
    intro v u x c l hu h hr
    cases u
    case cons u us =>
      simp only [closeTo, Option.bind_eq_some_iff, Option.map_eq_some_iff] at h
      obtain ⟨y, hy, z, hz, rfl⟩ := h
      simp only [Ty.closed, Bool.and_eq_true] at hu
      simp only [R] at hr ⊢
      obtain ⟨l1, l2, rfl, h1, h2⟩ := hr
      obtain ⟨k1, g1, g2⟩ := ih1 hu.1 hy h1
      obtain ⟨k2, g3, g4⟩ := ih2 hu.2 hz h2
      exact ⟨k1 ++ k2, packL_app g1 g3, k1, k2, rfl, g2, g4⟩
    all_goals (simp only [closeTo] at h; exact dflt h hr)
  | _ =>
    intro v u x c l hu h hr
    cases u <;> (simp only [closeTo] at h; exact dflt h hr)
end
end Go.TY
