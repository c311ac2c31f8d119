import Derived.Test.YtgfpkhlabdcbmaaGreatDoorQca
set_option linter.unusedVariables false
set_option linter.unusedSimpArgs false
set_option maxRecDepth 100000
namespace Go.Proofs.YtgfpkhlabdcbmaaGreatDoor.Q
open Go.EM Go.TY Go.Proofs Go.Proofs.YtgfpkhlabdcbmaaGreatDoor.Y
structure OpOk (o : Op1) : Prop where
 kind : 1 ≤ o.1 ∧ o.1 ≤ 5
 path : checkM o.2.1 = 0
 val : o.1 ≠ 3 → o.1 ≠ 5 → rightV o.2.2.1 = true
 noval : o.1 = 3 ∨ o.1 = 5 → o.2.2.1 = zeroV
 num : o.1 = 3 → o.2.2.2.1 ≠ 0 ∧ o.2.2.2.1 ≤ 2147483647 ∧ -2147483647 ≤ o.2.2.2.1
 nonum : o.1 ≠ 3 → o.2.2.2.1 = 0
 noseen : o.1 = 2 ∨ o.1 = 3 → o.2.2.2.2.1 = []
 seen : o.2.2.2.2.1.length ≤ 256 ∧ refsM o.2.2.2.2.1 = true
theorem opM_ok {o : Op1} (h : opM o = 0) : OpOk o := by
 unfold opM at h
 by_cases a1 : o.1 < 1 ∨ 5 < o.1
 · rw [zp a1] at h; omega
 rw [zn a1] at h
 by_cases a2 : checkM o.2.1 ≠ 0
 · rw [zp a2] at h; exact absurd h a2
 rw [zn a2] at h
 by_cases a3 : (o.1 = 3 ∨ o.1 = 5) ∧ o.2.2.1 ≠ zeroV
 · rw [zp a3] at h; omega
 rw [zn a3] at h
 by_cases a4 : ¬ (o.1 = 3 ∨ o.1 = 5) ∧ rightV o.2.2.1 = false
 · rw [zp a4] at h; omega
 rw [zn a4] at h
 by_cases a5 : o.1 ≠ 3 ∧ o.2.2.2.1 ≠ 0
 · rw [zp a5] at h; omega
 rw [zn a5] at h
 by_cases a6 : o.1 = 3 ∧ (o.2.2.2.1 = 0 ∨ o.2.2.2.1 > 2147483647 ∨ o.2.2.2.1 < -2147483647)
 · rw [zp a6] at h; omega
 rw [zn a6] at h
 by_cases a7 : (o.1 = 2 ∨ o.1 = 3) ∧ 0 < o.2.2.2.2.1.length
 · rw [zp a7] at h; omega
 rw [zn a7] at h
 by_cases a8 : 256 < o.2.2.2.2.1.length
 · rw [zp a8] at h; omega
 rw [zn a8] at h
 by_cases a9 : refsM o.2.2.2.2.1 = true
 · refine ⟨by omega, Classical.not_not.1 a2, fun h1 h2 => ?_, fun h1 => ?_, fun h1 => ?_, fun h1 => ?_, fun h1 => ?_, by omega, a9⟩
   · cases hr : rightV o.2.2.1 with
     | true => rfl
     | false => exact absurd ⟨by omega, hr⟩ a4
   · exact Classical.not_not.1 fun h2 => a3 ⟨h1, h2⟩
   · exact ⟨fun h2 => a6 ⟨h1, .inl h2⟩, Int.not_lt.1 fun h2 => a6 ⟨h1, .inr (.inl h2)⟩, Int.not_lt.1 fun h2 => a6 ⟨h1, .inr (.inr h2)⟩⟩
   · exact Classical.not_not.1 fun h2 => a5 ⟨h1, h2⟩
   · exact List.length_eq_zero_iff.1 (by omega)
 · rw [zn a9] at h; omega
structure ItemsOk (l : List Item1) : Prop where
 len : l.length ≤ 320
 op : ∀ x ∈ l, OpOk x.2.1 ∧ shortO x.2.1 ∧ putKind x.2.1.1 = true
theorem items_ok {l : List Txn1} {u : List Ref1} (h : TxnsOk l 20) : ItemsOk (allM l u) := by
 constructor
 · have : (allM l u).length ≤ l.length * 16 := by
     unfold allM
     refine flat_len fun t ht => ?_
     split
     · exact Nat.le_trans items_len (h.all t ht).len
     · simp
   have := h.len; omega
 · intro x hx
   obtain ⟨t, ht, j, o, ho, hk, _, _, rfl⟩ := allM_mem hx
   obtain ⟨h1, h2⟩ := (h.all t ht).ops o ho
   refine ⟨?_, h1, hk⟩
   rcases h2 with h2 | ⟨_, h2⟩
   · exact opM_ok h2
   · unfold goneM at h2
     unfold putKind at hk
     simp only [decide_eq_true_eq] at h2 hk
     omega
theorem itemsOk_low {l : List Item1} (h : ItemsOk l) : LowI l := ⟨by have := h.len; omega, fun x hx => by
 have := (h.op x hx).2.1
 exact ⟨by have := this.1; omega, fun s hs => by have := this.2.1 s hs; omega⟩⟩
theorem clone_t {p : Path} (hp : p.length < 1000000) : zag p = some p := by
 unfold zag cloneT
 rw [zp (by simp only [most]; omega)]
theorem flat_one {A B : Type} {g : A → B} : ∀ {l : List A}, (l.flatMap fun x => [g x]) = l.map g
 | [] => rfl
 | x :: l => by rw [List.flatMap_cons, List.map_cons, flat_one]; rfl
end Go.Proofs.YtgfpkhlabdcbmaaGreatDoor.Q
namespace Go.Proofs.YtgfpkhlabdcbmaaGreatDoor.Q
open Go.EM Go.TY Go.Proofs Go.Proofs.YtgfpkhlabdcbmaaGreatDoor.Y
theorem valued_t {o : Op1} (hv : o.2.2.1.2.2.1.length < 1000000) : zb4 o = some (if o.1 = 3 ∨ o.1 = 5 then decide (o.2.2.1 = zeroV) else rightV o.2.2.1) := by
 unfold zb4
 simp only [cond_dec, eqVal, valueRight_t hv, zb]
 have ez : ((0, 0, [], ()) : Val) = zeroV := rfl
 simp only [ez]
 by_cases h3 : o.1 = 3
 · rw [zp h3, zp (.inl h3)]
 · by_cases h5 : o.1 = 5
   · rw [zn h3, zp h5, zp (.inr h5)]
   · rw [zn h3, zn h5, zn (by omega)]
theorem amount_t (o : Op1) : zb1 o = some (if o.1 = 3 then decide (o.2.2.2.1 ≠ 0 ∧ -2147483647 ≤ o.2.2.2.1 ∧ o.2.2.2.1 ≤ 2147483647) else decide (o.2.2.2.1 = 0)) := by
 unfold zb1
 simp only [cond_dec, cond_ndec]
 by_cases h3 : o.1 = 3
 · rw [zp h3, zp h3]
   by_cases h0 : o.2.2.2.1 = 0
   · rw [zp h0, zf (by omega)]
   · rw [zn h0]
     by_cases h1 : o.2.2.2.1 ≥ -2147483647
     · rw [zp h1]
       congr 1
       rw [decide_eq_decide]; omega
     · rw [zn h1, zf (by omega)]
 · rw [zn h3, zn h3]
theorem opRefs_nil : zci [] = some true := by
 unfold zci
 exact loopT_inr (by unfold zci_l2; simp only [cond_dec]; rw [zn (by simp)])
theorem refsM_nil : refsM [] = true := by
 unfold refsM
 rw [zp (by intro i h; simp at h)]
theorem opCheck_t {o : Op1} (h : shortO o) (hs : o.2.2.2.2.1 = []) : zcd o = some (opM o) := by
 obtain ⟨s1, s2, s3, s4⟩ := h
 have hv := valued_t (o := o) (by omega)
 have ha := amount_t o
 obtain ⟨k, p, v, n, sn, ⟨⟩⟩ := o
 simp only at s1 s2 s3 s4 hs hv ha
 subst hs
 unfold zcd opM
 simp only [cond_dec, cond_ndec, check_t (p := p) (fun x hx => by have := s2 x hx; omega), hv, ha, opRefs_nil, refsM_nil, zb]
 by_cases a1 : k < 1
 · rw [zp a1, zp (.inl a1)]
 rw [zn a1]
 by_cases a2 : k > 5
 · rw [zp a2, zp (.inr a2)]
 rw [zn a2]
 rw [zn (show ¬ (k < 1 ∨ 5 < k) by omega)]
 by_cases a3 : ¬ checkM p = 0
 · rw [zn a3, zp (show checkM p ≠ 0 from a3)]
 have a3 : checkM p = 0 := Classical.not_not.1 a3
 rw [zp a3, zn (show ¬ checkM p ≠ 0 from fun e => e a3)]
 have fl : ∀ b : Bool, ((cond (!b) (some (decide ((([] : List Ref1).length : Int) > 0), ())) (some (false, ()))) : Option (Bool × Unit)) = some (false, ()) := by intro b; cases b <;> rfl
 have ff : ∀ f : Bool × Unit → Option Int, ((if k = 1 then some (true, ()) else some (decide (k = 4), ()) : Option (Bool × Unit)).bind fun v2 => (cond v2.1 (some (true, ())) (some (decide (k = 5), ())) : Option (Bool × Unit)).bind f) = f (decide (k = 1) || decide (k = 4) || decide (k = 5), ()) := by
   intro f
   by_cases h1 : k = 1
   · rw [zp h1, zt h1]; rfl
   · rw [zn h1, zf h1]
     cases h4 : decide (k = 4) <;> rfl
 rw [ff]
 simp only [fl, zb]
 by_cases k3 : k = 3
 · subst k3
   by_cases hz : v = zeroV
   · by_cases hn : n ≠ 0 ∧ -2147483647 ≤ n ∧ n ≤ 2147483647
     · have h2 : ¬ (n = 0 ∨ n > 2147483647 ∨ n < -2147483647) := by omega
       simp [hz, hn, h2]
     · have h2 : n = 0 ∨ n > 2147483647 ∨ n < -2147483647 := by omega
       simp [hz, hn, h2]
   · simp [hz]
 · by_cases k5 : k = 5
   · subst k5
     by_cases hz : v = zeroV
     · by_cases n0 : n = 0
       · simp [hz, n0]
       · simp [hz, n0]
     · simp [hz]
   · cases hr : rightV v with
     | false => simp [k3, k5, hr]
     | true =>
       by_cases n0 : n = 0
       · simp [k3, k5, hr, n0]
       · simp [k3, k5, hr, n0]
def clashM (p : Path) (a : Int) (q : Path) (b : Int) : Bool := if p = q then !decide (a = b) else underM p q || underM q p
theorem clashM_sym (p : Path) (a : Int) (q : Path) (b : Int) : clashM p a q b = clashM q b p a := by
 unfold clashM
 by_cases h : p = q
 · rw [zp h, zp h.symm]
   congr 1
   rw [decide_eq_decide]; omega
 · rw [zn h, zn (fun e => h e.symm), Bool.or_comm]
theorem clash1_t {x : Item1} {o : Op1} {k : Int} (hx : x.2.1.2.1.length < 1000000) (ho : o.2.1.length < 1000000) : zam x o k = some (clashM x.2.1.2.1 (leafM x.2.1.1) o.2.1 k) := by
 unfold zam clashM
 rw [pathSame_t hx]
 simp only [zb, opLeaf_t, pathUnder_t hx, pathUnder_t ho, cond_dec]
 by_cases h : x.2.1.2.1 = o.2.1
 · rw [zp h, zp h]
 · rw [zn h, zn h]
   cases underM x.2.1.2.1 o.2.1 <;> rfl
theorem refClash_t {p q : Path} {a b : Int} (hp : p.length < 1000000) (hq : q.length < 1000000) (hpl : ∀ x ∈ p, x.length < 1000000) : zax p a q b = some (clashM p a q b) := by
 unfold zax clashM
 rw [refPathCompare_t hp hpl]
 simp only [zb, cond_dec, refUnder_t hp, refUnder_t hq]
 have e : cmpP p q = 0 ↔ p = q := cp_cmp.zero ..
 by_cases h : p = q
 · rw [zp (e.2 h), zp h]
 · rw [zn (fun h' => h (e.1 h')), zn h]
   cases underM p q <;> rfl
end Go.Proofs.YtgfpkhlabdcbmaaGreatDoor.Q
namespace Go.Proofs.YtgfpkhlabdcbmaaGreatDoor.Q
open Go.EM Go.TY Go.Proofs Go.Proofs.YtgfpkhlabdcbmaaGreatDoor.Y
theorem idx_ge {A : Type} {b : A → Bool} : ∀ (l : List A) (i : Nat), foldE (S := Unit) (R := Int) (fun i x _ => if b x = true then .inr (i : Int) else .inl ()) (fun _ => (-1 : Int)) i l () ≥ 0 ↔ l.any b = true
 | [], i => by simp [foldE]
 | x :: l, i => by
   unfold foldE
   by_cases h : b x = true
   · rw [zp h, List.any_cons, h]
     simp
   · rw [zn h, List.any_cons, eq_false_of_ne_true h, Bool.false_or]
     exact idx_ge l (i + 1)
theorem fold_any {A R : Type} {b : A → Bool} {yes no : R} : ∀ (l : List A) (i : Nat), foldE (S := Unit) (R := R) (fun _ x _ => if b x = true then .inr yes else .inl ()) (fun _ => no) i l () = if l.any b = true then yes else no
 | [], i => by simp [foldE]
 | x :: l, i => by
   unfold foldE
   by_cases h : b x = true
   · rw [zp h, List.any_cons, h, Bool.true_or, zp rfl]
   · rw [zn h, List.any_cons, eq_false_of_ne_true h, Bool.false_or]
     exact fold_any l (i + 1)
theorem item_path {x : List Item1} (h : ItemsOk x) {y : Item1} (hy : y ∈ x) : y.2.1.2.1.length < 1000000 ∧ ∀ s ∈ y.2.1.2.1, s.length < 1000000 := by
 have := (h.op y hy).2.1
 exact ⟨by have := this.1; omega, fun s hs => by have := this.2.1 s hs; omega⟩
def wayM (o : Op1) (y : Item1) : Bool := clashM y.2.1.2.1 (leafM y.2.1.1) o.2.1 (leafM o.1)
def clashesM (x : List Item1) (o : Op1) : Bool := decide (leafM o.1 ≠ 0) && x.any (wayM o)
theorem clash_t {x : List Item1} {o : Op1} (h : ItemsOk x) (ho : o.2.1.length < 1000000) : za8 x o = some (clashesM x o) := by
 have hlen := h.len
 unfold za8 clashesM
 rw [opLeaf_t]
 simp only [zb, cond_ndec]
 by_cases h0 : leafM o.1 = 0
 · rw [zp h0, zf (by simpa using h0)]; rfl
 rw [zn h0, zt h0, Bool.true_and]
 have loop := loop_list (S := Unit) (R := Int) (f := zac_l2 x (o, leafM o.1, ())) (l := x) (fun i _ => ((i : Int), ())) (fun i y _ => if wayM o y = true then .inr (i : Int) else .inl ()) (fun _ => (-1 : Int)) (fun _ _ => True) (fun i hi s _ => by
   have turn : zac_l2 x (o, leafM o.1, ()) ((i : Int), ()) = if wayM o x[i] = true then some (.inr (i : Int)) else some (.inl (((i + 1 : Nat) : Int), ())) := by
     unfold zac_l2
     simp only [cond_dec]
     rw [zp (by omega), atI_lt hi]
     simp only [zb]
     rw [clash1_t (item_path h (zm hi)).1 ho]
     simp only [zb]
     rw [wrap64 (by omega) (by omega), show clashM x[i].2.1.2.1 (leafM x[i].2.1.1) o.2.1 (leafM o.1) = wayM o x[i] from rfl]
     cases wayM o x[i] <;> rfl
   by_cases hb : wayM o x[i] = true
   · exact .inr ⟨_, by rw [zp hb], by rw [turn, zp hb]⟩
   · exact .inl ⟨(), by rw [zn hb], by rw [turn, zn hb], trivial⟩) (fun s _ => by
   unfold zac_l2
   simp only [cond_dec]
   rw [zn (by omega)]) () trivial
 have hi := idx_ge (b := wayM o) x 0
 unfold zab zac
 rw [show ((0 : Int), ()) = (((0 : Nat) : Int), ()) from rfl, loop]
 simp only [zb]
 by_cases hb : x.any (wayM o) = true
 · rw [hb, zt (hi.2 hb)]
 · rw [eq_false_of_ne_true hb, zf (fun e => hb (hi.1 e))]
abbrev OpG := Int × Path × Val × Int × Unit × Unit
abbrev OpZ := Int × Unit × Val × Int × Unit × Unit
def zeroO : Op1 := (0, [], (0, 0, [], ()), 0, [], ())
theorem refWay_t {x : List Item1} {g : OpG} {z : OpZ} (h : ItemsOk x) (hp : g.2.1.length < 1000000) (hpl : ∀ s ∈ g.2.1, s.length < 1000000) :
   loopT (zbx_l6 x) ((0 : Int), g, z, ()) = some (if (decide (g.1 ≠ 5) && x.any fun y => clashM g.2.1 (leafM g.1) y.2.1.2.1 (leafM y.2.1.1)) = true then .inr (zeroO, 10, ()) else .inl (g, z, ())) := by
 have hlen := h.len
 have loop := loop_list (S := Unit) (R := (OpG × OpZ × Unit) ⊕ (Op1 × Int × Unit)) (f := zbx_l6 x) (l := x) (fun i _ => ((i : Int), g, z, ())) (fun _ y _ => if (decide (g.1 ≠ 5) && clashM g.2.1 (leafM g.1) y.2.1.2.1 (leafM y.2.1.1)) = true then .inr (.inr (zeroO, 10, ())) else .inl ()) (fun _ => .inl (g, z, ())) (fun _ _ => True) (fun i hi s _ => by
   have turn : zbx_l6 x ((i : Int), g, z, ()) = if (decide (g.1 ≠ 5) && clashM g.2.1 (leafM g.1) x[i].2.1.2.1 (leafM x[i].2.1.1)) = true then some (.inr (.inr (zeroO, 10, ()))) else some (.inl (((i + 1 : Nat) : Int), g, z, ())) := by
     unfold zbx_l6
     simp only [cond_dec, cond_ndec]
     rw [zp (by omega), atI_lt hi]
     simp only [zb, refLeaf11_t]
     rw [refClash_t hp (item_path h (zm hi)).1 hpl]
     simp only [zb]
     rw [wrap64 (by omega) (by omega)]
     by_cases h5 : g.1 = 5
     · rw [zp h5, zf (by simpa using h5), Bool.false_and, zn (by simp)]; rfl
     · rw [zn h5, zt h5, Bool.true_and]
       cases clashM g.2.1 (leafM g.1) x[i].2.1.2.1 (leafM x[i].2.1.1) <;> rfl
   by_cases hb : (decide (g.1 ≠ 5) && clashM g.2.1 (leafM g.1) x[i].2.1.2.1 (leafM x[i].2.1.1)) = true
   · exact .inr ⟨_, by rw [zp hb], by rw [turn, zp hb]⟩
   · exact .inl ⟨(), by rw [zn hb], by rw [turn, zn hb], trivial⟩) (fun s _ => by
   unfold zbx_l6
   simp only [cond_dec]
   rw [zn (by omega)]) () trivial
 rw [show ((0 : Int), g, z, ()) = (((0 : Nat) : Int), g, z, ()) from rfl, loop, fold_any]
 congr 2
 rw [show (x.any fun y => decide (g.1 ≠ 5) && clashM g.2.1 (leafM g.1) y.2.1.2.1 (leafM y.2.1.1)) = (decide (g.1 ≠ 5) && x.any fun y => clashM g.2.1 (leafM g.1) y.2.1.2.1 (leafM y.2.1.1)) by
   cases decide (g.1 ≠ 5) <;> simp]
def coversM (o : Op1) (y : Item1) : Bool :=
 if o.1 = 1 then decide (o.2.1 = y.2.1.2.1) && decide (y.2.1.1 = 1)
 else if o.1 = 4 then decide (o.2.1 = y.2.1.2.1) && decide (y.2.1.1 = 2) && decide (y.2.1.2.2.1 = o.2.2.1)
 else if o.1 = 5 then underM y.2.1.2.1 o.2.1 else false
theorem refCovers_t {o : Op1} {y : Item1} (ho : o.2.1.length < 1000000) (hl : ∀ s ∈ o.2.1, s.length < 1000000) (hy : y.2.1.2.1.length < 1000000) : zat o y = some (coversM o y) := by
 unfold zat coversM
 rw [refPathCompare_t ho hl]
 have e : cmpP o.2.1 y.2.1.2.1 = 0 ↔ o.2.1 = y.2.1.2.1 := cp_cmp.zero ..
 simp only [zb, cond_dec, refUnder_t hy, eqVal, e]
 by_cases h1 : o.1 = 1
 · rw [zp h1, zp h1]
   by_cases hp : o.2.1 = y.2.1.2.1
   · rw [zp hp, zt hp, Bool.true_and]
   · rw [zn hp, zf hp, Bool.false_and]
 rw [zn h1, zn h1]
 by_cases h4 : o.1 = 4
 · rw [zp h4, zp h4]
   by_cases hp : o.2.1 = y.2.1.2.1
   · rw [zp hp, zt hp, Bool.true_and]
     by_cases hk : y.2.1.1 = 2
     · rw [zp hk, zt hk, Bool.true_and]
     · rw [zn hk, zf hk, Bool.false_and]
   · rw [zn hp, zf hp, Bool.false_and, Bool.false_and]
 rw [zn h4, zn h4]
 by_cases h5 : o.1 = 5
 · rw [zp h5, zp h5]
 · rw [zn h5, zn h5]
end Go.Proofs.YtgfpkhlabdcbmaaGreatDoor.Q
namespace Go.Proofs.YtgfpkhlabdcbmaaGreatDoor.Q
open Go.EM Go.TY Go.Proofs Go.Proofs.YtgfpkhlabdcbmaaGreatDoor.Y
theorem flat_pick {A B : Type} {b : A → Bool} {g : A → B} : ∀ {l : List A}, (l.flatMap fun y => if b y = true then [g y] else []) = (l.filter b).map g
 | [] => rfl
 | x :: l => by
   rw [List.flatMap_cons, flat_pick, List.filter_cons]
   by_cases h : b x = true
   · rw [zp h, zp h]; rfl
   · rw [zn h, zn h]; rfl
theorem liveRefs_t {m : List Item1} (h : m.length < 1000000) : zb6 m = some (m.map (·.1)) := by
 have this := loop_map (f := zb6_l3 m) (l := m) (fun i o => ((i : Int), o, ())) (fun y => [y.1]) (fun o => o) 1 (fun x _ => Nat.le_refl _) (fun i hi o ho => by
   unfold zb6_l3
   simp only [cond_dec]
   rw [zp (by omega), atI_lt hi]
   simp only [zb]
   rw [wrap64 (by omega) (by omega), roomT_lt (by simp; omega)]; rfl) (fun o _ => by
   unfold zb6_l3
   simp only [cond_dec]
   rw [zn (by omega)])
 unfold zb6
 rw [show ((0 : Int), ([] : List Ref1), ()) = (((0 : Nat) : Int), [], ()) from rfl, this, flat_one (g := fun y : Item1 => y.1)]
theorem bagAdds_t {x : List Item1} {p : Path} {v : Val} (hl : LowI x) : zcg x p v = some (((atM x p 2).filter fun y => decide (y.2.1.2.2.1 = v)).map (·.1)) := by
 have hlen := (atM_low (p := p) (leaf := 2) hl).len
 unfold zcg
 rw [at_t hl]
 simp only [zb]
 have this := loop_map (f := zcg_l3 v (atM x p 2)) (l := atM x p 2) (fun i o => ((i : Int), o, ())) (fun y => if decide (y.2.1.2.2.1 = v) = true then [y.1] else []) (fun o => o) 1 (fun x _ => by split <;> simp) (fun i hi o ho => by
   unfold zcg_l3
   simp only [cond_dec, eqVal]
   rw [zp (by omega), atI_lt hi]
   simp only [zb]
   rw [wrap64 (by omega) (by omega), roomT_lt (by simp; omega)]
   by_cases hb : (atM x p 2)[i].2.1.2.2.1 = v
   · rw [zp hb, zp (zt hb)]; rfl
   · rw [zn hb, zn (by simpa using hb), List.append_nil]; rfl) (fun o _ => by
   unfold zcg_l3
   simp only [cond_dec]
   rw [zn (by omega)])
 rw [show ((0 : Int), ([] : List Ref1), ()) = (((0 : Nat) : Int), [], ()) from rfl, this, flat_pick (b := fun y : Item1 => decide (y.2.1.2.2.1 = v)) (g := fun y : Item1 => y.1)]
theorem underIt_t {x : List Item1} {p : Path} (h : ItemsOk x) : zbo x p = some (x.filter fun y => underM y.2.1.2.1 p) := by
 have hlen := h.len
 have this := loop_map (f := zbo_l3 x p) (l := x) (fun i o => ((i : Int), o, ())) (fun y => if underM y.2.1.2.1 p = true then [y] else []) (fun o => o) 1 (fun x _ => by split <;> simp) (fun i hi o ho => by
   unfold zbo_l3
   simp only [cond_dec]
   rw [zp (by omega), atI_lt hi]
   simp only [zb]
   rw [pathUnder_t (item_path h (zm hi)).1]
   simp only [zb]
   rw [wrap64 (by omega) (by omega), roomT_lt (by simp; omega)]
   by_cases hb : underM x[i].2.1.2.1 p = true
   · rw [hb, cond_true, zp rfl]; rfl
   · rw [zn hb, eq_false_of_ne_true hb, cond_false, List.append_nil]; rfl) (fun o _ => by
   unfold zbo_l3
   simp only [cond_dec]
   rw [zn (by omega)])
 unfold zbo
 rw [show ((0 : Int), ([] : List Item1), ()) = (((0 : Nat) : Int), [], ()) from rfl, this, flatMap_if (q := fun y : Item1 => underM y.2.1.2.1 p)]
def selR (x : List Item1) (o : Op1) : List Ref1 := (x.filter (coversM o)).map (·.1)
theorem leaf_one {k : Int} : leafM k = 1 ↔ k = 1 := by unfold leafM; split <;> (try split) <;> (try split) <;> omega
theorem leaf_two {k : Int} (h : putKind k = true) : leafM k = 2 ↔ k = 2 := by
 unfold putKind at h
 rw [decide_eq_true_eq] at h
 unfold leafM; split <;> (try split) <;> (try split) <;> omega
theorem covered_list {x : List Item1} {o : Op1} (h : ItemsOk x) :
   (cond (decide (o.1 = 1)) ((zch x o.2.1 1).bind fun r1 => (zb6 r1).bind fun n2 => some (.inl (n2, ()))) (cond (decide (o.1 = 4)) ((zcg x o.2.1 o.2.2.1).bind fun n3 => some (.inl (n3, ()))) (cond (decide (o.1 = 5)) ((zbo x o.2.1).bind fun r4 => (zb6 r4).bind fun n5 => some (.inl (n5, ()))) (some (.inl ([], ()))))) : Option ((List Ref1 × Unit) ⊕ List Ref1)) = some (.inl (selR x o, ())) := by
 have hlen := h.len
 have hl := itemsOk_low h
 have hf : ∀ b : Item1 → Bool, (x.filter b).length < 1000000 := fun b => by have := List.length_filter_le b x; omega
 simp only [cond_dec]
 unfold selR
 by_cases h1 : o.1 = 1
 · rw [zp h1, at_t hl]
   simp only [zb]
   rw [liveRefs_t (show (atM x o.2.1 1).length < 1000000 from hf _)]
   simp only [zb]
   congr 4
   unfold atM
   refine List.filter_congr fun y hy => ?_
   unfold isAt coversM
   rw [zp h1, Bool.and_comm]
   congr 1
   · rw [decide_eq_decide]; exact ⟨fun e => e.symm, fun e => e.symm⟩
   · rw [decide_eq_decide]; exact leaf_one
 rw [zn h1]
 by_cases h4 : o.1 = 4
 · rw [zp h4, bagAdds_t hl]
   simp only [zb]
   congr 4
   unfold atM
   rw [List.filter_filter]
   refine List.filter_congr fun y hy => ?_
   have hk := leaf_two (h.op y hy).2.2
   unfold isAt coversM
   rw [zn h1, zp h4]
   rw [Bool.eq_iff_iff]
   simp only [Bool.and_eq_true, decide_eq_true_eq]
   rw [hk]
   constructor
   · rintro ⟨a, b, c⟩; exact ⟨⟨c.symm, b⟩, a⟩
   · rintro ⟨⟨a, b⟩, c⟩; exact ⟨c, b, a.symm⟩
 rw [zn h4]
 by_cases h5 : o.1 = 5
 · rw [zp h5, underIt_t h]
   simp only [zb]
   rw [liveRefs_t (hf _)]
   simp only [zb]
   congr 4
   refine List.filter_congr fun y hy => ?_
   unfold coversM
   rw [zn h1, zn h4, zp h5]
 · rw [zn h5]
   have : x.filter (coversM o) = [] := List.filter_eq_nil_iff.2 fun y _ => by
     unfold coversM
     rw [zn h1, zn h4, zn h5]; simp
   rw [this]; rfl
theorem sel_len {x : List Item1} {o : Op1} (h : ItemsOk x) : (selR x o).length ≤ 320 := by
 unfold selR
 rw [List.length_map]
 have := List.length_filter_le (coversM o) x
 have := h.len; omega
theorem checkCovered_t {x : List Item1} {o : Op1} (h : ItemsOk x) : ∃ l, zaq x o = some l ∧ l.Perm (selR x o) ∧ l.Pairwise fun a b => cmpR a b ≤ 0 := by
 have hlen := sel_len (o := o) h
 obtain ⟨l, h1, h2, h3⟩ := sortT_law (key := fun a : Ref1 => a) cr_cmp (cmp := fun a b => zcb a b) (xs := selR x o) (fun a _ b _ => dotRefs_t a b) (by omega)
 refine ⟨l, ?_, h2, h3⟩
 unfold zaq
 rw [covered_list h, bind_join_inl]
 simp only
 unfold zaf
 rw [h1]; rfl
end Go.Proofs.YtgfpkhlabdcbmaaGreatDoor.Q
namespace Go.Proofs.YtgfpkhlabdcbmaaGreatDoor.Q
open Go.EM Go.TY Go.Proofs Go.Proofs.YtgfpkhlabdcbmaaGreatDoor.Y
theorem seenAt_loop {x : List Item1} {g : OpG} {z : OpZ} {y11 : Int × OpG × OpZ × List Ref1 × Unit} {k : Nat} (hk : k < x.length) (hy : y11.1 = (k : Int)) {o : List Ref1} (ho : o.length < 1000000) (hr : riseA cmpR o) : ∀ (n i : Nat), (loA cmpR x[k].1 o).length - i ≤ n → i ≤ (loA cmpR x[k].1 o).length →
   loopT (zbx_l15 y11 x) ((i : Int), g, z, o, ()) = some (.inl (((loA cmpR x[k].1 o).length : Int), g, z, o, ())) := by
 have e : loA cmpR x[k].1 o ++ hiA cmpR x[k].1 o = o := lohiA
 have el : (loA cmpR x[k].1 o).length + (hiA cmpR x[k].1 o).length = o.length := by rw [← List.length_append, e]
 have turn : ∀ i : Nat, i < o.length → zbx_l15 y11 x ((i : Int), g, z, o, ()) = if i < (loA cmpR x[k].1 o).length then some (.inl (((i + 1 : Nat) : Int), g, z, o, ())) else some (.inr (.inl ((i : Int), g, z, o, ()))) := fun i hi => by
   unfold zbx_l15
   simp only [cond_dec, hy]
   rw [zp (by omega), inI_nat hi]
   simp only [zb, zg hi]
   rw [atI_lt hk]
   simp only [zb, refRef_t]
   rw [wrap64 (by omega) (by omega)]
   by_cases hlt : i < (loA cmpR x[k].1 o).length
   · rw [zp (at_lo hi hlt), zp hlt]; rfl
   · have := at_hi cr_cmp (key := fun v : Ref1 => v) hr hi (k := x[k].1) (Nat.le_of_not_lt hlt)
     rw [zn (by omega), zn hlt]
 intro n
 induction n with
 | zero =>
   intro i hn hi
   have e : i = (loA cmpR x[k].1 o).length := by omega
   refine loopT_inr ?_
   by_cases hlt : i < o.length
   · rw [turn i hlt, zn (by omega), e]
   · unfold zbx_l15
     simp only [cond_dec]
     rw [zn (by omega), e]
 | succ n ih =>
   intro i hn hi
   by_cases hlt : i < (loA cmpR x[k].1 o).length
   · rw [loopT_inl (a := ((i : Int), g, z, o, ())) (b := (((i + 1 : Nat) : Int), g, z, o, ())) (by rw [turn i (by omega), zp hlt])]
     exact ih (i + 1) (by omega) (by omega)
   · have e : i = (loA cmpR x[k].1 o).length := by omega
     refine loopT_inr ?_
     by_cases hlt : i < o.length
     · rw [turn i hlt, zn (by omega), e]
     · unfold zbx_l15
       simp only [cond_dec]
       rw [zn (by omega), e]
theorem seenShift_loop {o : List Ref1} {r : Ref1} {g : OpG} {z : OpZ} {v14 : Int × OpG × OpZ × List Ref1 × Unit} {at' : Nat} (hv : v14.1 = (at' : Int)) (ho : o.length < 1000000) : ∀ (k : Nat), at' ≤ k → k ≤ o.length →
   loopT (zbx_l19 v14) ((k : Int), g, z, shiftW o r k, ()) = some (.inl (g, z, shiftW o r at', ())) := by
 intro k
 induction k with
 | zero =>
   intro h1 h2
   have e : at' = 0 := by omega
   subst e
   refine loopT_inr ?_
   unfold zbx_l19
   simp only [cond_dec, hv]
   rw [zn (by omega)]
 | succ k ih =>
   intro h1 h2
   by_cases hlt : at' < k + 1
   · have hl : (shiftW o r (k + 1)).length = o.length + 1 := shift_len h2
     have turn : zbx_l19 v14 (((k + 1 : Nat) : Int), g, z, shiftW o r (k + 1), ()) = some (.inl ((k : Int), g, z, shiftW o r k, ())) := by
       unfold zbx_l19
       simp only [cond_dec, hv]
       rw [zp (by omega), wrap64 (by omega) (by omega), show ((k + 1 : Nat) : Int) - 1 = (k : Int) by omega, inI_nat (show k < (shiftW o r (k + 1)).length by omega)]
       simp only [zb]
       rw [shift_at (show k < o.length by omega)]
       simp only [zb]
       rw [inI_nat (show k + 1 < (shiftW o r (k + 1)).length by omega)]
       simp only [zb]
       rw [zg (show k + 1 < (shiftW o r (k + 1)).length by omega)]
       simp only [zb]
       rw [shift_step (show k < o.length by omega)]
     rw [loopT_inl turn]
     exact ih (by omega) (by omega)
   · have e : at' = k + 1 := by omega
     subst e
     refine loopT_inr ?_
     unfold zbx_l19
     simp only [cond_dec, hv]
     rw [zn (by omega)]
theorem seen_turn {x : List Item1} {k : Int} {p : Path} {v1 v2 : Int} {v3 : List UInt8} {n : Int} {z : OpZ} {i : Nat} {o : List Ref1} (hx : ItemsOk x) (hp : p.length < 1000000) (hpl : ∀ s ∈ p, s.length < 1000000) (h : i < x.length) (ho : o.length < 1000000) (hr : riseA cmpR o) (hne : ∀ y ∈ o, y ≠ x[i].1) :
   zbx_l11 x ((i : Int), (k, p, (v1, v2, v3, ()), n, (), ()), z, o, ()) = some (.inl (((i + 1 : Nat) : Int), (k, p, (v1, v2, v3, ()), n, (), ()), z, (if coversM (k, p, (v1, v2, v3, ()), n, [], ()) x[i] = true then putU cmpR o x[i].1 else o), ())) := by
 have hlen := hx.len
 have e : loA cmpR x[i].1 o ++ hiA cmpR x[i].1 o = o := lohiA
 have el : (loA cmpR x[i].1 o).length + (hiA cmpR x[i].1 o).length = o.length := by rw [← List.length_append, e]
 unfold zbx_l11
 simp only [cond_dec]
 rw [zp (by omega), atI_lt h]
 simp only [zb]
 rw [refCovers_t (o := (k, p, (v1, v2, v3, ()), n, o, ())) hp hpl (item_path hx (zm h)).1]
 simp only [zb]
 have ec : coversM (k, p, (v1, v2, v3, ()), n, o, ()) x[i] = coversM (k, p, (v1, v2, v3, ()), n, [], ()) x[i] := rfl
 rw [ec, wrap64 (n := (i : Int) + 1) (by omega) (by omega)]
 cases hc : coversM (k, p, (v1, v2, v3, ()), n, [], ()) x[i] with
 | false => rw [Bool.not_false, cond_true, zn (by simp)]; rfl
 | true =>
   rw [Bool.not_true, cond_false, zp rfl]
   have hat := seenAt_loop (g := (k, p, (v1, v2, v3, ()), n, (), ())) (z := z) (y11 := ((i : Int), (k, p, (v1, v2, v3, ()), n, (), ()), z, o, ())) h rfl ho hr _ 0 (Nat.le_refl _) (Nat.zero_le _)
   rw [show ((0 : Int), ((k, p, (v1, v2, v3, ()), n, (), ()) : OpG), z, o, ()) = (((0 : Nat) : Int), (k, p, (v1, v2, v3, ()), n, (), ()), z, o, ()) from rfl, hat, bind_join_inl]
   simp only
   rw [roomT_lt (by simp; omega)]
   simp only [zb]
   rw [wrap64 (by rw [List.length_append, List.length_singleton]; omega) (by rw [List.length_append, List.length_singleton]; omega), show ((o ++ [x[i].1]).length : Int) - 1 = (o.length : Int) by simp, ← shift_start, seenShift_loop (at' := (loA cmpR x[i].1 o).length) rfl ho o.length (by omega) (Nat.le_refl _), bind_join_inl]
   have hsl : (shiftW o x[i].1 (loA cmpR x[i].1 o).length).length = o.length + 1 := shift_len (by omega)
   simp only
   rw [inI_nat (by omega)]
   simp only [zb]
   rw [zg (show (loA cmpR x[i].1 o).length < (shiftW o x[i].1 (loA cmpR x[i].1 o).length).length by omega)]
   simp only [zb]
   rw [shift_end (by omega), put_at (fun y q hq hy => by
     have hm : y ∈ o := by rw [← e, hq]; simp
     exact hne y hm (cr_cmp.zero .. |>.1 hy))]
   rfl
theorem foldl_pick {A B S : Type} {b : A → Bool} {g : A → B} {f : S → B → S} : ∀ (l : List A) (s : S), l.foldl (fun s y => if b y = true then f s (g y) else s) s = ((l.filter b).map g).foldl f s
 | [], s => rfl
 | y :: l, s => by
   rw [List.foldl_cons, List.filter_cons, foldl_pick l]
   by_cases h : b y = true
   · rw [zp h, zp h]; rfl
   · rw [zn h, zn h]
def seenR (x : List Item1) (o : Op1) : List Ref1 := (selR x o).foldl (putU cmpR) []
theorem refSees_t {x : List Item1} {k : Int} {p : Path} {v1 v2 : Int} {v3 : List UInt8} {n : Int} {z : OpZ} (hx : ItemsOk x) (hn : (x.map (·.1)).Nodup) (hp : p.length < 1000000) (hpl : ∀ s ∈ p, s.length < 1000000) :
   loopT (zbx_l11 x) ((0 : Int), (k, p, (v1, v2, v3, ()), n, (), ()), z, [], ()) = some (.inl ((k, p, (v1, v2, v3, ()), n, (), ()), z, seenR x (k, p, (v1, v2, v3, ()), n, [], ()), ())) := by
 have hlen := hx.len
 have loop := loop_list (S := List Ref1) (f := zbx_l11 x) (l := x) (fun i o => ((i : Int), (k, p, (v1, v2, v3, ()), n, (), ()), z, o, ())) (fun _ y o => .inl (if coversM (k, p, (v1, v2, v3, ()), n, [], ()) y = true then putU cmpR o y.1 else o)) (fun o => (.inl ((k, p, (v1, v2, v3, ()), n, (), ()), z, o, ()) : (OpG × OpZ × List Ref1 × Unit) ⊕ (Op1 × Int × Unit))) (fun i o => riseA cmpR o ∧ o.length ≤ i ∧ ∀ y ∈ o, ∃ j, ∃ h : j < x.length, j < i ∧ y = x[j].1) (fun i h o ho => by
   have hne : ∀ y ∈ o, y ≠ x[i].1 := fun y hy => by
     obtain ⟨j, hj, hji, rfl⟩ := ho.2.2 y hy
     intro e
     have h1 : (x.map (·.1))[j]'(by simpa using hj) = (x.map (·.1))[i]'(by simpa using h) := by simpa using e
     have := (List.getElem_inj hn).1 h1
     omega
   refine .inl ⟨_, rfl, seen_turn hx hp hpl h (by omega) ho.1 hne, ?_, ?_, ?_⟩
   · split
     · exact putU_rises cr_cmp ho.1
     · exact ho.1
   · split
     · have := putU_len (c := cmpR) (o := o) (v := x[i].1); omega
     · omega
   · intro y hy
     split at hy
     · rcases (putU_mem cr_cmp).1 hy with e | hy
       · exact ⟨i, h, by omega, e⟩
       · obtain ⟨j, hj, hji, e⟩ := ho.2.2 y hy; exact ⟨j, hj, by omega, e⟩
     · obtain ⟨j, hj, hji, e⟩ := ho.2.2 y hy; exact ⟨j, hj, by omega, e⟩) (fun o _ => by
   unfold zbx_l11
   simp only [cond_dec]
   rw [zn (by omega)]) [] ⟨List.Pairwise.nil, Nat.le_refl _, fun y hy => by cases hy⟩
 rw [show ((0 : Int), ((k, p, (v1, v2, v3, ()), n, (), ()) : OpG), z, ([] : List Ref1), ()) = (((0 : Nat) : Int), (k, p, (v1, v2, v3, ()), n, (), ()), z, [], ()) from rfl, loop, foldE_inl]
 unfold seenR selR
 rw [← foldl_pick]
end Go.Proofs.YtgfpkhlabdcbmaaGreatDoor.Q
namespace Go.Proofs.YtgfpkhlabdcbmaaGreatDoor.Q
open Go.EM Go.TY Go.Proofs Go.Proofs.YtgfpkhlabdcbmaaGreatDoor.Y
theorem sel_nodup {x : List Item1} {o : Op1} (hn : (x.map (·.1)).Nodup) : (selR x o).Nodup := List.Nodup.sublist ((List.filter_sublist (l := x)).map _) hn
theorem seen_rises {x : List Item1} {o : Op1} : riseA cmpR (seenR x o) := by
 unfold seenR
 rw [put_uniq cr_cmp]
 exact uniq_rises cr_cmp _
theorem seen_mem {x : List Item1} {o : Op1} {r : Ref1} : r ∈ seenR x o ↔ r ∈ selR x o := by
 unfold seenR
 rw [put_uniq cr_cmp]
 exact uniq_mem cr_cmp _ _
theorem covered_seen {x : List Item1} {o : Op1} (h : ItemsOk x) (hn : (x.map (·.1)).Nodup) : zaq x o = some (seenR x o) := by
 obtain ⟨l, h1, h2, h3⟩ := checkCovered_t (o := o) h
 rw [h1]
 congr 1
 have hl : l.Nodup := h2.nodup_iff.2 (sel_nodup hn)
 refine rises_unique (key := fun v : Ref1 => v) cr_cmp ?_ seen_rises (fun r => by rw [seen_mem]; exact h2.mem_iff)
 refine (h3.and hl).imp fun {a b} hab => ?_
 have h0 : cmpR a b ≠ 0 := fun e => hab.2 ((cr_cmp.zero ..).1 e)
 have := hab.1
 show cmpR a b < 0
 omega
noncomputable def makeM (x : List Item1) (o : Op1) : Op1 × Int × Unit :=
 if opM o ≠ 0 then (zeroO, opM o, ()) else if clashesM x o = true then (zeroO, 10, ())
 else if (seenR x o).length = 0 ∧ (o.1 = 4 ∨ o.1 = 5) then (zeroO, 11, ())
 else if (seenR x o).length > 256 then (zeroO, 7, ())
 else ((o.1, o.2.1, o.2.2.1, o.2.2.2.1, seenR x o, ()), 0, ())
theorem op_kind {o : Op1} (h : opM o = 0) : 1 ≤ o.1 ∧ o.1 ≤ 5 := by
 unfold opM at h
 split at h
 · omega
 · omega
theorem checkMake_t {x : List Item1} {k : Int} {p : Path} {v1 v2 : Int} {v3 : List UInt8} {n : Int} {s : List Ref1} (hx : ItemsOk x) (hn : (x.map (·.1)).Nodup) (ho : shortO (k, p, (v1, v2, v3, ()), n, [], ())) : zbh x (k, p, (v1, v2, v3, ()), n, s, ()) = some (makeM x (k, p, (v1, v2, v3, ()), n, [], ())) := by
 have hp : p.length < 1000000 := by have := ho.1; simp only at this; omega
 unfold zbh makeM
 simp only
 rw [opCheck_t ho rfl]
 simp only [zb, cond_dec, cond_ndec]
 by_cases h0 : opM (k, p, (v1, v2, v3, ()), n, [], ()) = 0
 · rw [zp h0, zn (show ¬ opM (k, p, (v1, v2, v3, ()), n, [], ()) ≠ 0 from fun e => e h0), clash_t hx hp]
   simp only [zb]
   cases hc : clashesM x (k, p, (v1, v2, v3, ()), n, [], ()) with
   | true => rw [cond_true, zp rfl]; rfl
   | false =>
     rw [cond_false, zn (by simp), clone_t hp]
     simp only [zb]
     rw [covered_seen hx hn]
     simp only [zb]
     by_cases hl : (seenR x (k, p, (v1, v2, v3, ()), n, [], ())).length = 0
     · rw [zp (by omega)]
       by_cases h4 : k = 4
       · rw [zp h4, zp ⟨hl, .inl h4⟩]; rfl
       · rw [zn h4]
         by_cases h5 : k = 5
         · rw [zp h5, zp ⟨hl, .inr h5⟩]; rfl
         · rw [zn h5, zn (show ¬ (_ ∧ (k = 4 ∨ k = 5)) from fun e => by omega), zn (by omega), zn (by omega)]
     · rw [zn (by omega)]
       by_cases h2 : (seenR x (k, p, (v1, v2, v3, ()), n, [], ())).length > 256
       · rw [zp (show ((seenR x (k, p, (v1, v2, v3, ()), n, [], ())).length : Int) > 256 by omega), zn (show ¬ ((seenR x (k, p, (v1, v2, v3, ()), n, [], ())).length = 0 ∧ (k = 4 ∨ k = 5)) from fun e => hl e.1), zp h2]; rfl
       · rw [zn (show ¬ ((seenR x (k, p, (v1, v2, v3, ()), n, [], ())).length : Int) > 256 by omega), zn (show ¬ ((seenR x (k, p, (v1, v2, v3, ()), n, [], ())).length = 0 ∧ (k = 4 ∨ k = 5)) from fun e => hl e.1), zn h2]
 · rw [zn h0, zp h0]; rfl
theorem refMake_t {x : List Item1} {k : Int} {p : Path} {v1 v2 : Int} {v3 : List UInt8} {n : Int} {s : List Ref1} (hx : ItemsOk x) (hn : (x.map (·.1)).Nodup) (ho : shortO (k, p, (v1, v2, v3, ()), n, [], ())) : zbx x (k, p, (v1, v2, v3, ()), n, s, ()) = some (makeM x (k, p, (v1, v2, v3, ()), n, [], ())) := by
 have hp : p.length < 1000000 := by have := ho.1; simp only at this; omega
 have hpl : ∀ s ∈ p, s.length < 1000000 := fun s hs => by have := ho.2.1 s hs; omega
 unfold zbx makeM
 simp only
 rw [refOp_t ho]
 simp only [zb, cond_dec, cond_ndec]
 by_cases h0 : opM (k, p, (v1, v2, v3, ()), n, [], ()) = 0
 · have hk := op_kind h0
   simp only at hk
   rw [zp h0, zn (show ¬ opM (k, p, (v1, v2, v3, ()), n, [], ()) ≠ 0 from fun e => e h0)]
   have hw : (decide (k ≠ 5) && x.any fun y => clashM p (leafM k) y.2.1.2.1 (leafM y.2.1.1)) = clashesM x (k, p, (v1, v2, v3, ()), n, [], ()) := by
     unfold clashesM wayM
     congr 1
     · rw [decide_eq_decide]; simp only; unfold leafM; split <;> (try split) <;> (try split) <;> omega
     · congr 1; funext y; exact clashM_sym ..
   rw [refWay_t (g := (k, p, (v1, v2, v3, ()), n, (), ())) hx hp hpl, hw]
   cases hc : clashesM x (k, p, (v1, v2, v3, ()), n, [], ()) with
   | true => rw [zp rfl, zp rfl]; rfl
   | false =>
     rw [zn (by simp), zn (by simp), bind_join_inl]
     simp only
     rw [refSees_t hx hn hp hpl, bind_join_inl]
     simp only
     by_cases hl : (seenR x (k, p, (v1, v2, v3, ()), n, [], ())).length = 0
     · rw [zp (by omega)]
       by_cases h4 : k ≥ 4
       · rw [zp h4, zp ⟨hl, by omega⟩]; rfl
       · rw [zn h4, bind_join_inl]
         simp only
         rw [zn (by omega), zn (show ¬ (_ ∧ (k = 4 ∨ k = 5)) from fun e => by omega), zn (by omega)]
     · rw [zn (by omega), bind_join_inl]
       simp only
       by_cases h2 : (seenR x (k, p, (v1, v2, v3, ()), n, [], ())).length > 256
       · rw [zp (show ((seenR x (k, p, (v1, v2, v3, ()), n, [], ())).length : Int) > 256 by omega), zn (show ¬ ((seenR x (k, p, (v1, v2, v3, ()), n, [], ())).length = 0 ∧ (k = 4 ∨ k = 5)) from fun e => hl e.1), zp h2]; rfl
       · rw [zn (show ¬ ((seenR x (k, p, (v1, v2, v3, ()), n, [], ())).length : Int) > 256 by omega), zn (show ¬ ((seenR x (k, p, (v1, v2, v3, ()), n, [], ())).length = 0 ∧ (k = 4 ∨ k = 5)) from fun e => hl e.1), zn h2]
 · rw [zn h0, zp h0]; rfl
end Go.Proofs.YtgfpkhlabdcbmaaGreatDoor.Q
namespace Go.Proofs.YtgfpkhlabdcbmaaGreatDoor.Q
open Go.EM Go.TY Go.Proofs Go.Proofs.YtgfpkhlabdcbmaaGreatDoor.Y
theorem items_names {p : Ref1 → Bool} {t : Txn1} : ∀ (l : List Op1) (k : Nat), ((itemsM p t k l).map (·.1)).Nodup ∧ ∀ r ∈ (itemsM p t k l).map (·.1), r.1 = t.1 ∧ (k : Int) ≤ r.2.1 ∧ r.2.1 < (k : Int) + l.length
 | [], k => ⟨List.nodup_nil, fun r hr => by cases hr⟩
 | o :: l, k => by
   obtain ⟨h1, h2⟩ := items_names (p := p) (t := t) l (k + 1)
   unfold itemsM itemAt
   split
   · rw [List.map_append]
     constructor
     · refine List.nodup_append.2 ⟨by simp, h1, fun a ha b hb e => ?_⟩
       have := h2 b hb
       simp only [List.map_cons, List.map_nil, List.mem_singleton] at ha
       rw [← e, ha] at this
       simp only at this
       omega
     · intro r hr
       rcases List.mem_append.1 hr with hr | hr
       · simp only [List.map_cons, List.map_nil, List.mem_singleton] at hr
         rw [hr]
         have : (o :: l).length = l.length + 1 := rfl
         exact ⟨rfl, Int.le_refl _, by show (k : Int) < _; omega⟩
       · have := h2 r hr
         simp only [zl]
         exact ⟨this.1, by omega, by omega⟩
   · rw [List.nil_append]
     refine ⟨h1, fun r hr => ?_⟩
     have := h2 r hr
     simp only [zl]
     exact ⟨this.1, by omega, by omega⟩
theorem flat_names {p : Ref1 → Bool} {u : List Ref1} : ∀ (m : List Txn1), riseT m → ((m.flatMap fun t => if seenM u t.1 = true then itemsM p t 0 t.2.2.2.2.1 else []).map (·.1)).Nodup ∧ ∀ r ∈ (m.flatMap fun t => if seenM u t.1 = true then itemsM p t 0 t.2.2.2.2.1 else []).map (·.1), ∃ t ∈ m, r.1 = t.1 ∧ 0 ≤ r.2.1 ∧ r.2.1 < (t.2.2.2.2.1.length : Int)
 | [], _ => ⟨List.nodup_nil, fun r hr => by cases hr⟩
 | t :: m, h => by
   have h' := List.pairwise_cons.1 h
   obtain ⟨g1, g2⟩ := flat_names (p := p) (u := u) m h'.2
   have hd : ((if seenM u t.1 = true then itemsM p t 0 t.2.2.2.2.1 else []).map (·.1)).Nodup ∧ ∀ r ∈ (if seenM u t.1 = true then itemsM p t 0 t.2.2.2.2.1 else []).map (·.1), r.1 = t.1 ∧ 0 ≤ r.2.1 ∧ r.2.1 < (t.2.2.2.2.1.length : Int) := by
     split
     · obtain ⟨k1, k2⟩ := items_names (p := p) (t := t) t.2.2.2.2.1 0
       exact ⟨k1, fun r hr => by have := k2 r hr; exact ⟨this.1, by omega, by omega⟩⟩
     · exact ⟨List.nodup_nil, fun r hr => by cases hr⟩
   rw [List.flatMap_cons, List.map_append]
   constructor
   · refine List.nodup_append.2 ⟨hd.1, g1, fun a ha b hb e => ?_⟩
     obtain ⟨t', ht', k1, _⟩ := g2 b hb
     have h1 : cmpD t.1 t'.1 < 0 := h'.1 t' ht'
     have h2 := (hd.2 a ha).1
     rw [← h2, e, k1] at h1
     have h0 : cmpD t'.1 t'.1 = 0 := (cd_cmp.zero ..).2 rfl
     simp only [h0] at h1
     omega
   · intro r hr
     rcases List.mem_append.1 hr with hr | hr
     · exact ⟨t, List.mem_cons_self .., hd.2 r hr⟩
     · obtain ⟨t', ht', k⟩ := g2 r hr
       exact ⟨t', List.mem_cons_of_mem _ ht', k⟩
theorem all_names {l : List Txn1} {u : List Ref1} (h : riseT l) : ((allM l u).map (·.1)).Nodup ∧ ∀ r ∈ (allM l u).map (·.1), ∃ t ∈ l, r.1 = t.1 ∧ 0 ≤ r.2.1 ∧ r.2.1 < (t.2.2.2.2.1.length : Int) := flat_names l h
theorem cmpR_neg {a b : Ref1} (h : cmpR a b < 0) : cmpR a b = -1 := by
 unfold cmpR orI cmpD orI cmpI at h ⊢
 split at h <;> split at h <;> (try split at h) <;> (try split at h) <;> (try omega) <;> simp_all
end Go.Proofs.YtgfpkhlabdcbmaaGreatDoor.Q
namespace Go.Proofs.YtgfpkhlabdcbmaaGreatDoor.Q
open Go.EM Go.TY Go.Proofs Go.Proofs.YtgfpkhlabdcbmaaGreatDoor.Y
theorem refsM_rise {s : List Ref1} (h1 : ∀ r ∈ s, refOk r = true) (h2 : riseA cmpR s) : refsM s = true := by
 unfold refsM
 rw [zp]
 intro i hi
 unfold refsAt
 rw [zg hi]
 simp only [h1 _ (zm hi), Bool.true_and]
 by_cases h0 : i = 0
 · rw [zt h0, Bool.true_or]
 · rw [zf h0, Bool.false_or, zg (show i - 1 < s.length by omega)]
   simp only
   have : cmpR s[i - 1] s[i] < 0 := (List.pairwise_iff_getElem.1 h2) (i - 1) i (by omega) hi (by omega)
   exact zt (cmpR_neg this)
theorem opM_seen {k : Int} {p : Path} {v : Val} {n : Int} {s : List Ref1} (h0 : opM (k, p, v, n, [], ()) = 0) (h1 : k = 2 ∨ k = 3 → s = []) (h2 : s.length ≤ 256) (h3 : refsM s = true) : opM (k, p, v, n, s, ()) = 0 := by
 by_cases hk : k = 2 ∨ k = 3
 · rw [h1 hk]; exact h0
 · have : opM (k, p, v, n, s, ()) = opM (k, p, v, n, [], ()) := by
     unfold opM
     simp only [hk, false_and, if_false, h3, refsM_nil, if_true, List.length_nil, show ¬ 256 < s.length by omega, show ¬ 256 < 0 by omega]
   rw [this]; exact h0
theorem same_self {o : Op1} (hp : o.2.1.length < 1000000) (hs : o.2.2.2.2.1.length < 1000000) : zbp o o = some true := by
 have loop := loop_all (f := zbp_l4 o o) (l := o.2.2.2.2.1) (fun i => ((i : Int), ())) (fun _ => true) true false (fun i h => by
   unfold zbp_l4
   simp only [cond_dec]
   rw [zp (by omega), atI_lt h]
   simp only [zb]
   rw [show (eqV (.agg (.cons (.agg (.cons (.int .i64) (.cons (.int .i64) .unit))) (.cons (.int .i64) .unit))) o.2.2.2.2.1[i] o.2.2.2.2.1[i]) = eqV tyRef o.2.2.2.2.1[i] o.2.2.2.2.1[i] from rfl, eqRef, zt rfl]
   simp only [Bool.not_true, cond_false]
   rw [wrap64 (by omega) (by omega), zp trivial]; rfl) (by
   unfold zbp_l4
   simp only [cond_dec]
   rw [zn (by omega)])
 rw [zp (by simp)] at loop
 unfold zbp
 simp only [decide_true, Bool.not_true, cond_false, eqVal, zb]
 rw [refStrsEq_t hp]
 simp only [decide_true, Bool.not_true, cond_false, zb]
 exact loop
theorem seen_ok {l : List Txn1} {u : List Ref1} {o : Op1} (h : TxnsOk l 20) : ∀ r ∈ seenR (allM l u) o, refOk r = true := fun r hr => by
 have h1 : r ∈ (allM l u).map (·.1) := by
   obtain ⟨y, hy, e⟩ := List.mem_map.1 (seen_mem.1 hr)
   exact List.mem_map.2 ⟨y, (List.mem_filter.1 hy).1, e⟩
 obtain ⟨t, ht, e, h2, h3⟩ := (all_names (u := u) h.rise).2 r h1
 have ok := h.all t ht
 unfold refOk
 rw [e, ok.dot, Bool.true_and]
 exact zt ⟨h2, by have := ok.len; omega⟩
theorem seen_none {x : List Item1} {o : Op1} (h : o.1 = 2 ∨ o.1 = 3) : seenR x o = [] := by
 have : x.filter (coversM o) = [] := List.filter_eq_nil_iff.2 fun y _ => by
   unfold coversM
   rw [zn (by omega), zn (by omega), zn (by omega)]; simp
 unfold seenR selR
 rw [this]; rfl
theorem make_cases {l : List Txn1} {u : List Ref1} {k : Int} {p : Path} {v : Val} {n : Int} (h : TxnsOk l 20) (ho : shortO (k, p, v, n, [], ())) :
   (∃ e, e ≠ 0 ∧ makeM (allM l u) (k, p, v, n, [], ()) = (zeroO, e, ())) ∨
   (∃ m, makeM (allM l u) (k, p, v, n, [], ()) = (m, 0, ()) ∧ opM m = 0 ∧ shortO m) := by
 unfold makeM
 by_cases h0 : opM (k, p, v, n, [], ()) ≠ 0
 · rw [zp h0]; exact .inl ⟨_, h0, rfl⟩
 rw [zn h0]
 by_cases hc : clashesM (allM l u) (k, p, v, n, [], ()) = true
 · rw [zp hc]; exact .inl ⟨10, by omega, rfl⟩
 rw [zn hc]
 by_cases h1 : (seenR (allM l u) (k, p, v, n, [], ())).length = 0 ∧ ((k, p, v, n, ([] : List Ref1), ()).1 = 4 ∨ (k, p, v, n, ([] : List Ref1), ()).1 = 5)
 · rw [zp h1]; exact .inl ⟨11, by omega, rfl⟩
 rw [zn h1]
 by_cases h2 : (seenR (allM l u) (k, p, v, n, [], ())).length > 256
 · rw [zp h2]; exact .inl ⟨7, by omega, rfl⟩
 rw [zn h2]
 refine .inr ⟨_, rfl, opM_seen (Classical.not_not.1 h0) (fun hk => seen_none hk) (by omega) (refsM_rise (seen_ok h) seen_rises), ?_⟩
 obtain ⟨a, b, c, d⟩ := ho
 exact ⟨a, b, c, by show (seenR _ _).length ≤ 300; omega⟩
end Go.Proofs.YtgfpkhlabdcbmaaGreatDoor.Q
namespace Go.Proofs.YtgfpkhlabdcbmaaGreatDoor.Q
open Go.EM Go.TY Go.Proofs Go.Proofs.YtgfpkhlabdcbmaaGreatDoor.Y
theorem short_nil {k : Int} {p : Path} {v : Val} {n : Int} {s : List Ref1} (h : shortO (k, p, v, n, s, ())) : shortO (k, p, v, n, [], ()) := ⟨h.1, h.2.1, h.2.2.1, by simp⟩
theorem checkMakes_law (awake19 : zaz = some true) (l : List Txn1) (u : List Ref1) (o : Op1) : zaj l u o = some true := by
 unfold zaj
 obtain ⟨b, hb, hg⟩ := good13_t l u
 rw [hb]
 simp only [zb, awake19, shortOp_t]
 cases b with
 | false => rfl
 | true =>
   obtain ⟨h1, h2⟩ := hg rfl
   simp only [Bool.not_true, cond_false]
   cases hsp : shortB o with
   | false => rfl
   | true =>
     have hso := shortB_iff.1 hsp
     obtain ⟨k, p, ⟨v1, v2, v3, ⟨⟩⟩, n, s, ⟨⟩⟩ := o
     have hp := txns_low h1 (by omega)
     have hu := counts_low h2
     have hi := items_ok (u := u) h1
     have hn := (all_names (u := u) h1.rise).1
     have hs0 := short_nil hso
     simp only [Bool.not_true, cond_false]
     rw [all_t hp.low hu, refAll_t hp.low hu]
     simp only [zb]
     rw [checkMake_t hi hn hs0, refMake_t hi hn hs0]
     simp only [zb]
     rcases make_cases (u := u) h1 hs0 with ⟨e, he, hm⟩ | ⟨m, hm, hop, hsm⟩
     · rw [hm]
       simp only
       rw [same_self (by simp [zeroO]) (by simp [zeroO])]
       simp only [zb, cond_true, decide_true]
       rw [zf he, gone_t]
       rfl
     · rw [hm]
       have l1 := hsm.1
       have l2 := hsm.2.2.2
       simp only
       rw [same_self (by omega) (by omega)]
       simp only [zb, cond_true, decide_true]
       rw [refOp_t hsm, hop]
       rfl
end Go.Proofs.YtgfpkhlabdcbmaaGreatDoor.Q
namespace Go.Proofs.YtgfpkhlabdcbmaaGreatDoor.Q
open Go.EM Go.TY Go.Proofs Go.Proofs.YtgfpkhlabdcbmaaGreatDoor.Y
theorem runes1 {a : UInt8} (h : a.toNat < 128) : runesM [a] = some [(a.toNat : Int)] := by
 have hc : charM [a] = ((a.toNat : Int), 1) := by simp only [charM]; rw [zp h]
 rw [runesM_step (by simp) (by rw [hc]; simp), hc]
 show (runesM []).map _ = _
 rw [runesM_nil]; rfl
theorem name1 {a : UInt8} (h : a.toNat < 128) (hm : mayM (a.toNat : Int) = true) : nameM [a] = true := by
 unfold nameM
 rw [runes1 h]
 simp [hm]
theorem check97 : checkM [[97]] = 0 := by
 unfold checkM
 simp [name1 (a := 97) (by decide) (by decide)]
theorem check98 : checkM [[98]] = 0 := by
 unfold checkM
 simp [name1 (a := 98) (by decide) (by decide)]
theorem check97k : checkM [[97], [107]] = 0 := by
 unfold checkM
 simp [name1 (a := 97) (by decide) (by decide), name1 (a := 107) (by decide) (by decide)]
theorem put_ok {p : Path} (h : checkM p = 0) : opM (1, p, (1, 1, [], ()), 0, [], ()) = 0 := by
 unfold opM
 simp [h, rightV, refsM_nil]
abbrev inc0 : Op1 := (3, [[97]], (0, 0, [], ()), 1, [], ())
theorem inc_ok : opM inc0 = 0 := by
 unfold opM
 simp [check97, zeroV, refsM_nil]
abbrev txn0 : Txn1 := ((0, 1, ()), 0, 1, false, [inc0], ())
theorem txns0 : TxnsOk [txn0] 20 where
 len := by simp
 rise := List.pairwise_singleton ..
 all t ht := by
   rw [List.mem_singleton.1 ht]
   exact ⟨by simp, by simp, fun o ho => by rw [List.mem_singleton.1 ho]; exact ⟨⟨by simp, by simp, by simp, by simp⟩, .inl inc_ok⟩, by decide, by decide, by decide⟩
theorem all0 : allM [txn0] [] = [(((0, 1, ()), 0, ()), inc0, 1, ())] := rfl
theorem awake19 : zaz = some true := by
 have hp := txns_low txns0 (by omega)
 have hu : LowU [] := ⟨by simp, List.Pairwise.nil⟩
 have hi := items_ok (u := []) txns0
 have hn := (all_names (u := []) txns0.rise).1
 unfold zaz
 rw [show ([((0, 1, ()), 0, 1, false, ([(3, ([[97]] : Path), (0, 0, [], ()), 1, [], ())] : List Op1), ())] : List Txn1) = [txn0] from rfl, all_t hp.low hu]
 simp only [zb]
 rw [checkMake_t hi hn ⟨by simp, by simp, by simp, by simp⟩, checkMake_t hi hn ⟨by simp, by simp, by simp, by simp⟩, checkMake_t hi hn ⟨by simp, by simp, by simp, by simp⟩]
 simp only [zb]
 have m1 : makeM (allM [txn0] []) (1, [[97]], (1, 1, [], ()), 0, [], ()) = (zeroO, 10, ()) := by
   unfold makeM
   rw [zn (fun e => e (put_ok check97)), zp (by rw [all0]; decide)]
 have m2 : makeM (allM [txn0] []) (1, [[97], [107]], (1, 1, [], ()), 0, [], ()) = (zeroO, 10, ()) := by
   unfold makeM
   rw [zn (fun e => e (put_ok check97k)), zp (by rw [all0]; decide)]
 have m3 : (makeM (allM [txn0] []) (1, [[98]], (1, 1, [], ()), 0, [], ())).2.1 = 0 := by
   have hs : seenR (allM [txn0] []) (1, [[98]], (1, 1, [], ()), 0, [], ()) = [] := by rw [all0]; decide
   unfold makeM
   rw [zn (fun e => e (put_ok check98)), zn (by rw [all0]; decide), hs, zn (by simp), zn (by simp)]
 rw [m1, m2, m3]
 rfl
theorem checkMakes_all : ∀ v : zaj_T.ps.V, okV zaj_T.ps v → zaj_T.fn v = some true := fun v _ => by
 obtain ⟨l, u, o, ⟨⟩⟩ := v
 exact checkMakes_law awake19 l u o
end Go.Proofs.YtgfpkhlabdcbmaaGreatDoor.Q
