import Derived.Test.YtgfpkhlabdcbmaaGreatDoorQqa
set_option linter.unusedVariables false
set_option linter.unusedSimpArgs false
set_option maxRecDepth 100000
namespace Go.Proofs.YtgfpkhlabdcbmaaGreatDoor.Q
open Go.EM Go.TY Go.Proofs Go.Proofs.YtgfpkhlabdcbmaaGreatDoor.Y
structure OpOk (o : Op1) : Prop where
 kind : 1 ≤ o.1 ∧ o.1 ≤ 5
 path : checkM o.2.1 = 0
 val : o.1 ≠ 3 → o.1 ≠ 5 → rightV o.2.2.1 = true
 noval : o.1 = 3 ∨ o.1 = 5 → o.2.2.1 = zeroV
 num : o.1 = 3 → o.2.2.2.1 ≠ 0 ∧ o.2.2.2.1 ≤ 2147483647 ∧ -2147483647 ≤ o.2.2.2.1
 nonum : o.1 ≠ 3 → o.2.2.2.1 = 0
 noseen : o.1 = 2 ∨ o.1 = 3 → o.2.2.2.2.1 = []
 seen : o.2.2.2.2.1.length ≤ 256 ∧ refsM o.2.2.2.2.1 = true
theorem opM_ok {o : Op1} (h : opM o = 0) : OpOk o := by
 unfold opM at h
 by_cases a1 : o.1 < 1 ∨ 5 < o.1
 · rw [zp a1] at h; omega
 rw [zn a1] at h
 by_cases a2 : checkM o.2.1 ≠ 0
 · rw [zp a2] at h; exact absurd h a2
 rw [zn a2] at h
 by_cases a3 : (o.1 = 3 ∨ o.1 = 5) ∧ o.2.2.1 ≠ zeroV
 · rw [zp a3] at h; omega
 rw [zn a3] at h
 by_cases a4 : ¬ (o.1 = 3 ∨ o.1 = 5) ∧ rightV o.2.2.1 = false
 · rw [zp a4] at h; omega
 rw [zn a4] at h
 by_cases a5 : o.1 ≠ 3 ∧ o.2.2.2.1 ≠ 0
 · rw [zp a5] at h; omega
 rw [zn a5] at h
 by_cases a6 : o.1 = 3 ∧ (o.2.2.2.1 = 0 ∨ o.2.2.2.1 > 2147483647 ∨ o.2.2.2.1 < -2147483647)
 · rw [zp a6] at h; omega
 rw [zn a6] at h
 by_cases a7 : (o.1 = 2 ∨ o.1 = 3) ∧ 0 < o.2.2.2.2.1.length
 · rw [zp a7] at h; omega
 rw [zn a7] at h
 by_cases a8 : 256 < o.2.2.2.2.1.length
 · rw [zp a8] at h; omega
 rw [zn a8] at h
 by_cases a9 : refsM o.2.2.2.2.1 = true
 · refine ⟨by omega, Classical.not_not.1 a2, fun h1 h2 => ?_, fun h1 => ?_, fun h1 => ?_, fun h1 => ?_, fun h1 => ?_, by omega, a9⟩
   · cases hr : rightV o.2.2.1 with
     | true => rfl
     | false => exact absurd ⟨by omega, hr⟩ a4
   · exact Classical.not_not.1 fun h2 => a3 ⟨h1, h2⟩
   · exact ⟨fun h2 => a6 ⟨h1, .inl h2⟩, Int.not_lt.1 fun h2 => a6 ⟨h1, .inr (.inl h2)⟩, Int.not_lt.1 fun h2 => a6 ⟨h1, .inr (.inr h2)⟩⟩
   · exact Classical.not_not.1 fun h2 => a5 ⟨h1, h2⟩
   · exact List.length_eq_zero_iff.1 (by omega)
 · rw [zn a9] at h; omega
structure ItemsOk (l : List Item1) : Prop where
 len : l.length ≤ 320
 op : ∀ x ∈ l, OpOk x.2.1 ∧ shortO x.2.1 ∧ putKind x.2.1.1 = true
theorem items_ok {l : List Txn1} {u : List Ref1} (h : TxnsOk l 20) : ItemsOk (allM l u) := by
 constructor
 · have : (allM l u).length ≤ l.length * 16 := by
     unfold allM
     refine flat_len fun t ht => ?_
     split
     · exact Nat.le_trans items_len (h.all t ht).len
     · simp
   have := h.len; omega
 · intro x hx
   obtain ⟨t, ht, j, o, ho, hk, _, _, rfl⟩ := allM_mem hx
   obtain ⟨h1, h2⟩ := (h.all t ht).ops o ho
   refine ⟨?_, h1, hk⟩
   rcases h2 with h2 | ⟨_, h2⟩
   · exact opM_ok h2
   · unfold goneM at h2
     unfold putKind at hk
     simp only [decide_eq_true_eq] at h2 hk
     omega
theorem itemsOk_low {l : List Item1} (h : ItemsOk l) : LowI l := ⟨by have := h.len; omega, fun x hx => by
 have := (h.op x hx).2.1
 exact ⟨by have := this.1; omega, fun s hs => by have := this.2.1 s hs; omega⟩⟩
theorem itemsOk_vals {l : List Item1} (h : ItemsOk l) : ∀ x ∈ l, x.2.1.2.2.1.2.2.1.length < 1000000 := fun x hx => by
 have := (h.op x hx).2.1.2.2.1; omega
theorem atOk {l : List Item1} {p : Path} {k : Int} (h : ItemsOk l) : ItemsOk (atM l p k) := ⟨Nat.le_trans (List.length_filter_le ..) h.len, fun x hx => h.op x (List.mem_filter.1 hx).1⟩
theorem leaf_kind {k : Int} (h : putKind k = true) : leafM k = k := by
 unfold putKind at h
 simp only [decide_eq_true_eq] at h
 unfold leafM
 split
 · omega
 · split
   · omega
   · split <;> omega
theorem at_kind {l : List Item1} {p : Path} {k : Int} (h : ItemsOk l) : ∀ x ∈ atM l p k, x.2.1.1 = k ∧ x.2.1.2.1 = p := fun x hx => by
 obtain ⟨h1, h2⟩ := List.mem_filter.1 hx
 unfold isAt at h2
 simp only [Bool.and_eq_true, decide_eq_true_eq] at h2
 exact ⟨by rw [← leaf_kind (h.op x h1).2.2]; exact h2.1, h2.2⟩
theorem ins_atU {A : Type} {p q : List A} {y : A} (h : (p ++ q).length < 1000000) : insT (p ++ q) (p.length : Int) [y] = some (p ++ y :: q) := by
 simp only [List.length_append] at h
 unfold insT
 rw [zp ⟨by omega, by simp only [List.length_append]; omega, by simp, by simp only [List.length_append, zl, List.length_nil]; unfold most; omega⟩]
 simp
theorem valsU_uniq (l : List Val) : valsU l = uniq cmpV l := by
 refine rises_unique cv_cmp (key := fun v : Val => v) (valsU_rises l) (uniq_rises cv_cmp l) fun x => ?_
 rw [valsU_mem, uniq_mem cv_cmp]
theorem vsearch_loop {u : List Val} {d : Val} (hl : u.length < 1000000) (hr : riseA cmpV u) : ∀ (k i j : Nat), j - i ≤ k → i ≤ (loA cmpV d u).length → (loA cmpV d u).length ≤ j → j ≤ u.length →
   loopT (zaa_l3 u d) ((i : Int), (j : Int), ()) = some (.inl (((loA cmpV d u).length : Int), ())) := by
 intro k
 induction k with
 | zero =>
   intro i j hk h1 h2 h3
   refine loopT_inr ?_
   unfold zaa_l3
   simp only [cond_dec]
   rw [zn (by omega), show (loA cmpV d u).length = i by omega]
 | succ k ih =>
   intro i j hk h1 h2 h3
   by_cases hij : i < j
   · have hh : (i + j) / 2 < u.length := by omega
     have turn : zaa_l3 u d ((i : Int), (j : Int), ()) = if cmpV u[(i + j) / 2] d < 0 then some (.inl ((((i + j) / 2 + 1 : Nat) : Int), (j : Int), ())) else some (.inl ((i : Int), (((i + j) / 2 : Nat) : Int), ())) := by
       unfold zaa_l3
       simp only [cond_dec]
       rw [zp (by omega), show (i : Int) + (j : Int) = ((i + j : Nat) : Int) by omega, half_t (by omega)]
       simp only [zb]
       rw [wrap64 (n := (((i + j) / 2 : Nat) : Int)) (by omega) (by omega), atI_lt hh]
       simp only [zb, valueCompare_t]
       rw [wrap64 (by omega) (by omega)]; rfl
     by_cases hn : (i + j) / 2 < (loA cmpV d u).length
     · rw [zp (at_lo (c := cmpV) (key := fun v : Val => v) hh hn)] at turn
       rw [loopT_inl turn]
       exact ih _ _ (by omega) (by omega) h2 h3
     · have := at_hi cv_cmp (key := fun v : Val => v) hr hh (k := d) (Nat.le_of_not_lt hn)
       rw [zn (by omega)] at turn
       rw [loopT_inl turn]
       exact ih _ _ (by omega) h1 (by omega) (by omega)
   · refine loopT_inr ?_
     unfold zaa_l3
     simp only [cond_dec]
     rw [zn (by omega), show (loA cmpV d u).length = i by omega]
def hereV (q : List Val) (d : Val) : Bool := match q with
 | [] => false
 | x :: _ => decide (cmpV x d = 0)
theorem vsearch_t {u : List Val} {d : Val} (hl : u.length < 1000000) (hr : riseA cmpV u) :
   zaa u d () = some (((loA cmpV d u).length : Int), hereV (hiA cmpV d u) d, ()) := by
 have e2 : loA cmpV d u ++ hiA cmpV d u = u := lohiA
 have hlen : (loA cmpV d u).length + (hiA cmpV d u).length = u.length := by rw [← List.length_append, e2]
 unfold zaa
 have := vsearch_loop (d := d) hl hr u.length 0 u.length (by omega) (by omega) (by omega) (by omega)
 rw [show ((0 : Int), (u.length : Int), ()) = (((0 : Nat) : Int), (u.length : Int), ()) from rfl, this, bind_join_inl]
 simp only [cond_dec]
 cases hq : hiA cmpV d u with
 | nil =>
   rw [hq] at hlen
   simp only [List.length_nil] at hlen
   rw [zn (by omega)]; rfl
 | cons x q =>
   rw [hq] at hlen e2
   simp only [zl] at hlen
   rw [zp (by omega), atI_nat]
   have e3 : u[(loA cmpV d u).length]? = some x := by
     have : (loA cmpV d u ++ x :: q)[(loA cmpV d u).length]? = some x := by simp
     rw [e2] at this
     exact this
   rw [e3]
   simp only [zb, valueCompare_t]
   rfl
def bagAt (l : List Item1) (p : Path) : List Val := (atM l p 2).map fun x => x.2.1.2.2.1
theorem bagValues_t {l : List Item1} {p : Path} (hl : LowI l) : zck l p = some (valsU (bagAt l p)) := by
 unfold zck bagAt
 rw [at_t hl]
 have hlow := (atM_low (p := p) (leaf := 2) hl).len
 generalize atM l p 2 = q at hlow
 simp only [zb]
 have loop := loop_list (S := List Val) (f := zck_l3 q) (l := q) (fun i o => ((i : Int), o, ())) (fun _ x o => .inl (putU cmpV o x.2.1.2.2.1)) (fun o => o) (fun i o => riseA cmpV o ∧ o.length ≤ i) (fun i h o ho => by
   refine .inl ⟨_, rfl, ?_, putU_rises cv_cmp ho.1, by have := putU_len (c := cmpV) (o := o) (v := q[i].2.1.2.2.1); have := ho.2; omega⟩
   have ho2 := ho.2
   unfold zck_l3
   simp only [cond_dec]
   rw [zp (by omega), atI_lt h]
   simp only [zb, vsearch_t (show o.length < 1000000 by omega) ho.1]
   rw [wrap64 (by omega) (by omega)]
   generalize q[i].2.1.2.2.1 = v
   have e : loA cmpV v o ++ hiA cmpV v o = o := lohiA
   have ins : insT o ((loA cmpV v o).length : Int) [v] = some (loA cmpV v o ++ v :: hiA cmpV v o) := by
     have := ins_atU (p := loA cmpV v o) (q := hiA cmpV v o) (y := v) (by rw [e]; omega)
     rwa [e] at this
   unfold zai putU
   cases hq : hiA cmpV v o with
   | nil =>
     rw [hq] at ins
     simp only [hereV, Bool.not_false, cond_true, ins, Option.map_some, zb]; rfl
   | cons y r =>
     rw [hq] at ins
     simp only [hereV]
     by_cases h0 : cmpV y v = 0
     · rw [zt h0, Bool.not_true, cond_false, zp h0]; rfl
     · rw [zf h0, Bool.not_false, cond_true, zn h0, ins]; rfl) (fun o _ => by
   unfold zck_l3
   simp only [cond_dec]
   rw [zn (by omega)]) [] ⟨List.Pairwise.nil, by simp⟩
 rw [show ((0 : Int), ([] : List Val), ()) = (((0 : Nat) : Int), [], ()) from rfl, loop, foldE_inl, valsU_uniq, ← put_uniq cv_cmp, List.foldl_map]
theorem refBag_t {l : List Item1} {p : Path} (hl : LowI l) (hv : ∀ x ∈ l, x.2.1.2.2.1.2.2.1.length < 1000000) : zbd l p = some (valsU (bagAt l p)) := by
 unfold zbd bagAt
 rw [refAt_t hl]
 have hlow := (atM_low (p := p) (leaf := 2) hl).len
 have hq : ∀ x ∈ atM l p 2, x.2.1.2.2.1.2.2.1.length < 1000000 := fun x hx => hv x (List.mem_filter.1 hx).1
 generalize atM l p 2 = q at hlow hq
 simp only [zb]
 have loop := loop_list (S := List Val) (f := zbd_l4 q) (l := q) (fun i o => (o, (i : Int), ())) (fun _ x o => .inl (insV o x.2.1.2.2.1)) (fun o => o) (fun i o => riseV o ∧ o.length ≤ i) (fun i h o ho => by
   refine .inl ⟨_, rfl, ?_, insV_rises ho.1, by have := insV_len (v := q[i].2.1.2.2.1) (o := o); have := ho.2; omega⟩
   unfold zbd_l4
   simp only [cond_dec]
   rw [zp (by omega), atI_lt h]
   have := ho.2
   simp only [zb, refInsert_t (show o.length < 1000000 by omega) (hq _ (zm h)) ho.1]
   rw [wrap64 (by omega) (by omega)]; rfl) (fun o _ => by
   unfold zbd_l4
   simp only [cond_dec]
   rw [zn (by omega)]) [] ⟨List.Pairwise.nil, by simp⟩
 rw [show (([] : List Val), (0 : Int), ()) = (([] : List Val), ((0 : Nat) : Int), ()) from rfl, loop, foldE_inl, valsU, List.foldl_map]
def sumI (q : List Item1) : Int := q.foldl (fun n x => n + x.2.1.2.2.2.1) 0
def smallN (q : List Item1) : Prop := ∀ x ∈ q, -2147483647 ≤ x.2.1.2.2.2.1 ∧ x.2.1.2.2.2.1 ≤ 2147483647
theorem sum_t {l : List Item1} {p : Path} (hl : LowI l) (hn : smallN (atM l p 3)) : zcq l p = some (sumI (atM l p 3)) := by
 unfold zcq
 rw [at_t hl]
 have hlow := (atM_low (p := p) (leaf := 3) hl).len
 generalize atM l p 3 = q at hlow hn
 simp only [zb]
 have loop := loop_list (S := Int) (f := zcq_l3 q) (l := q) (fun i n => (n, (i : Int), ())) (fun _ x n => .inl (n + x.2.1.2.2.2.1)) (fun n => n) (fun i n => -2147483648 * (i : Int) ≤ n ∧ n ≤ 2147483648 * (i : Int)) (fun i h n hb => by
   have hx := hn _ (zm h)
   refine .inl ⟨_, rfl, ?_, by constructor <;> omega⟩
   unfold zcq_l3
   simp only [cond_dec]
   rw [zp (by omega), atI_lt h]
   simp only [zb]
   rw [wrap64 (n := (i : Int) + 1) (by omega) (by omega), wrap64 (by omega) (by omega)]; rfl) (fun n _ => by
   unfold zcq_l3
   simp only [cond_dec]
   rw [zn (by omega)]) 0 (by omega)
 rw [foldE_inl] at loop
 exact loop
def upI (q : List Item1) (s : Int × Int) : Int × Int := q.foldl (fun s x => (if x.2.1.2.2.2.1 > 0 then s.1 + x.2.1.2.2.2.1 else s.1, if x.2.1.2.2.2.1 < 0 then s.2 - x.2.1.2.2.2.1 else s.2)) s
theorem up_sum : ∀ (q : List Item1) (a b n : Int), n = a - b → (upI q (a, b)).1 - (upI q (a, b)).2 = q.foldl (fun n x => n + x.2.1.2.2.2.1) n
 | [], a, b, n, h => by rw [h]; rfl
 | x :: q, a, b, n, h => by
   unfold upI
   rw [List.foldl_cons, List.foldl_cons]
   refine up_sum q _ _ _ ?_
   split <;> split <;> omega
theorem parts_t {l : List Item1} {p : Path} (hl : LowI l) (hn : smallN (atM l p 3)) : ∃ a b, zbs l p = some (a, b, ((atM l p 3).length : Int), ()) ∧ a - b = sumI (atM l p 3) ∧ 0 ≤ a ∧ a ≤ 2147483648 * 1000000 ∧ 0 ≤ b ∧ b ≤ 2147483648 * 1000000 := by
 unfold zbs
 rw [refAt_t hl]
 have hlow := (atM_low (p := p) (leaf := 3) hl).len
 generalize atM l p 3 = q at hlow hn
 simp only [zb]
 have loop := loop_list (S := Int × Int) (f := zbs_l4 q) (l := q) (fun i s => (s.1, s.2, (i : Int), ())) (fun _ x s => .inl (if x.2.1.2.2.2.1 > 0 then s.1 + x.2.1.2.2.2.1 else s.1, if x.2.1.2.2.2.1 < 0 then s.2 - x.2.1.2.2.2.1 else s.2)) (fun s => (.inl (s.1, s.2, ()) : (Int × Int × Unit) ⊕ (Int × Int × Int × Unit))) (fun i s => (0 ≤ s.1 ∧ s.1 ≤ 2147483648 * (i : Int)) ∧ 0 ≤ s.2 ∧ s.2 ≤ 2147483648 * (i : Int)) (fun i h s hb => by
   have hx := hn _ (zm h)
   refine .inl ⟨_, rfl, ?_, by simp only; constructor <;> split <;> omega⟩
   unfold zbs_l4
   simp only [cond_dec]
   rw [zp (by omega), atI_lt h]
   simp only [zb]
   rw [wrap64 (n := (i : Int) + 1) (by omega) (by omega)]
   by_cases h1 : q[i].2.1.2.2.2.1 > 0
   · rw [zp h1, bind_join_inl, zn (by omega), zp h1, zn (by omega), wrap64 (by omega) (by omega)]; rfl
   · rw [zn h1, bind_join_inl, zn h1]
     by_cases h2 : q[i].2.1.2.2.2.1 < 0
     · rw [zp h2, zp h2, wrap64 (by omega) (by omega)]; rfl
     · rw [zn h2, zn h2]; rfl) (fun s _ => by
   unfold zbs_l4
   simp only [cond_dec]
   rw [zn (by omega)]) (0, 0) (by simp)
 rw [foldE_inl] at loop
 have bound : ∀ (q : List Item1) (s : Int × Int) (k : Nat), smallN q → (0 ≤ s.1 ∧ s.1 ≤ 2147483648 * (k : Int)) → (0 ≤ s.2 ∧ s.2 ≤ 2147483648 * (k : Int)) → (0 ≤ (upI q s).1 ∧ (upI q s).1 ≤ 2147483648 * ((k + q.length : Nat) : Int)) ∧ (0 ≤ (upI q s).2 ∧ (upI q s).2 ≤ 2147483648 * ((k + q.length : Nat) : Int)) := by
   intro q
   induction q with
   | nil => intro s k _ h1 h2; exact ⟨h1, h2⟩
   | cons x q ih =>
     intro s k hn h1 h2
     have hx := hn x (List.mem_cons_self ..)
     unfold upI
     rw [List.foldl_cons, zl, show k + (q.length + 1) = (k + 1) + q.length by omega]
     exact ih _ (k + 1) (fun y hy => hn y (List.mem_cons_of_mem _ hy)) (by simp only; split <;> omega) (by simp only; split <;> omega)
 have hb := bound q (0, 0) 0 hn (by simp) (by simp)
 refine ⟨(upI q (0, 0)).1, (upI q (0, 0)).2, ?_, up_sum q 0 0 0 rfl, hb.1.1, by omega, hb.2.1, by omega⟩
 rw [show ((0 : Int), (0 : Int), (0 : Int), ()) = (((0, 0) : Int × Int).1, ((0, 0) : Int × Int).2, ((0 : Nat) : Int), ()) from rfl, loop, bind_join_inl]
 rfl
def entM (l : List Item1) (p : Path) (k : Int) : Ent := (p, k, if k = 1 then valsU (valsAt l p) else if k = 2 then valsU (bagAt l p) else [], if k = 3 then sumI (atM l p 3) else 0, ())
theorem nums_ok {l : List Item1} {p : Path} (h : ItemsOk l) : smallN (atM l p 3) := fun x hx => by
 have h1 := (at_kind h x hx).1
 have h2 := ((atOk h).op x hx).1.num h1
 omega
theorem clone_t {p : Path} (hp : p.length < 1000000) : zal p = some p := by
 unfold zal cloneT
 rw [zp (by simp only [most]; omega)]
theorem viewAt_t {l : List Item1} {p : Path} {k : Int} (h : ItemsOk l) (hp : p.length < 1000000) : zc4 l p k = some (entM l p k) := by
 have hl := itemsOk_low h
 unfold zc4 entM
 rw [clone_t hp]
 simp only [zb, cond_dec, regValues_t hl, bagValues_t hl, sum_t hl (nums_ok h)]
 by_cases h1 : k = 1
 · rw [zp h1, zp h1, zn (by omega)]
 · rw [zn h1, zn h1]
   by_cases h2 : k = 2
   · rw [zp h2, zp h2, zn (by omega)]
   · rw [zn h2, zn h2]
     by_cases h3 : k = 3
     · rw [zp h3, zp h3]
     · rw [zn h3, zn h3]
theorem refAtE_t {l : List Item1} {p : Path} {k : Int} (h : ItemsOk l) : zcy l p k = some (entM l p k) := by
 have hl := itemsOk_low h
 have hv := itemsOk_vals h
 obtain ⟨a, b, h1, h2, h3, h4, h5, h6⟩ := parts_t (p := p) hl (nums_ok h)
 unfold zcy entM
 simp only [zb, cond_dec, refValues_t hl hv, refBag_t hl hv, h1]
 by_cases k1 : k = 1
 · subst k1
   simp
 · rw [zn k1, zn k1, bind_join_inl]
   by_cases k2 : k = 2
   · subst k2
     simp
   · rw [zn k2, zn k2, bind_join_inl]
     by_cases k3 : k = 3
     · rw [zp k3, zp k3, wrap64 (by omega) (by omega), h2]
     · rw [zn k3, zn k3]
theorem flat_one {A B : Type} {g : A → B} : ∀ {l : List A}, (l.flatMap fun x => [g x]) = l.map g
 | [] => rfl
 | x :: l => by rw [List.flatMap_cons, List.map_cons, flat_one]; rfl
theorem leaf_short {l : List Item1} (h : ItemsOk l) {y : Leaf1} (hy : y ∈ leavesM l) : y.1.length ≤ 12 ∧ ∀ s ∈ y.1, s.length ≤ 120 := by
 obtain ⟨x, hx, rfl⟩ := leavesM_mem.1 hy
 have := (h.op x hx).2.1
 exact ⟨this.1, this.2.1⟩
theorem leaves_len {l : List Item1} (h : ItemsOk l) : (leavesM l).length ≤ 320 := by
 have h1 := uniq_len (c := cmpLf) (l.map leafOf)
 rw [List.length_map] at h1
 have := h.len
 unfold leavesM; omega
theorem vals_right {l : List Item1} {p : Path} {k : Int} (h : ItemsOk l) (hk : k = 1 ∨ k = 2) : ∀ v ∈ (atM l p k).map (fun x => x.2.1.2.2.1), rightV v = true := fun v hv => by
 obtain ⟨x, hx, rfl⟩ := List.mem_map.1 hv
 have h1 := (at_kind h x hx).1
 exact ((atOk h).op x hx).1.val (by omega) (by omega)
theorem valsU_small {q : List Val} (hq : q.length ≤ 320) (hr : ∀ v ∈ q, rightV v = true) : (valsU q).length ≤ 400 ∧ ∀ v ∈ valsU q, rightV v = true := by
 constructor
 · have := valsU_len q []
   simp only [List.length_nil, Nat.zero_add] at this
   unfold valsU; omega
 · intro v hv
   exact hr v ((valsU_mem q v).1 hv)
theorem sum_in : ∀ (q : List Item1) (n : Int) (k : Nat), smallN q → (-2147483647 * (k : Int) ≤ n ∧ n ≤ 2147483647 * (k : Int)) → -2147483647 * ((k + q.length : Nat) : Int) ≤ q.foldl (fun n x => n + x.2.1.2.2.2.1) n ∧ q.foldl (fun n x => n + x.2.1.2.2.2.1) n ≤ 2147483647 * ((k + q.length : Nat) : Int)
 | [], n, k, _, h => h
 | x :: q, n, k, hn, h => by
   have hx := hn x (List.mem_cons_self ..)
   rw [List.foldl_cons, zl, show k + (q.length + 1) = (k + 1) + q.length by omega]
   exact sum_in q _ (k + 1) (fun y hy => hn y (List.mem_cons_of_mem _ hy)) (by omega)
theorem ent_small {l : List Item1} {p : Path} {k : Int} (h : ItemsOk l) (hp : p.length ≤ 12) (hs : ∀ s ∈ p, s.length ≤ 120) : smallE (entM l p k) ∧ inR (entM l p k).2.2.2.1 := by
 have hat : ∀ k, (atM l p k).length ≤ 320 := fun k => (atOk h).len
 refine ⟨⟨hp, hs, ?_⟩, ?_⟩
 · unfold entM
   simp only
   by_cases h1 : k = 1
   · rw [zp h1]
     exact valsU_small (by rw [valsAt, List.length_map]; exact hat 1) (vals_right h (.inl rfl))
   · rw [zn h1]
     by_cases h2 : k = 2
     · rw [zp h2]
       exact valsU_small (by rw [bagAt, List.length_map]; exact hat 2) (vals_right h (.inr rfl))
     · rw [zn h2]
       exact ⟨by simp, fun v hv => by cases hv⟩
 · unfold entM inR
   simp only
   have h1 := sum_in (atM l p 3) 0 0 (nums_ok h) (by simp)
   have := hat 3
   unfold sumI
   split <;> omega
theorem ent_low {l : List Item1} {p : Path} {k : Int} (h : ItemsOk l) (hp : p.length ≤ 12) (hs : ∀ s ∈ p, s.length ≤ 120) : lowE (entM l p k) := by
 have := (ent_small (k := k) h hp hs).1
 exact ⟨by have := this.1; omega, by have := this.2.2.1; omega⟩
theorem shortP_iff {p : Path} : (decide (p.length ≤ 12) && p.all fun x => decide (x.length ≤ 120)) = true → p.length ≤ 12 ∧ ∀ s ∈ p, s.length ≤ 120 := by
 simp only [Bool.and_eq_true, decide_eq_true_eq, List.all_eq_true]
 exact id
end Go.Proofs.YtgfpkhlabdcbmaaGreatDoor.Q
namespace Go.Proofs.YtgfpkhlabdcbmaaGreatDoor.Q
open Go.EM Go.TY Go.Proofs Go.Proofs.YtgfpkhlabdcbmaaGreatDoor.Y
def deepS : List UInt8 := [42, 42]
open Classical in
noncomputable def globM (s t : List UInt8) : Bool := match pat s, runesM t with | some o, some x => decide (Mt o x) | _, _ => false
def lowS (q : Path) : Prop := ∀ s ∈ q, s.length < 1000000
open Classical in
theorem globMatch_t {s t : List UInt8} (hs : s.length < 1000000) (ht : t.length < 1000000) : zb6 s t = some (globM s t) := match_t (p := s) (s := t) (by omega) (by omega)
noncomputable def partBad (s : List UInt8) : Bool := decide (s = []) || !(pat s).isSome
noncomputable def qcM (q : Path) : Int := if q.length = 0 then 8 else if q.length > 8 then 9 else if q.any partBad = true then 8 else 0
theorem partBad_t {s : List UInt8} (hs : s.length < 1000000) : zay s = some (partBad s) := by
 unfold zay partBad
 simp only [cond_dec]
 by_cases h : s = []
 · rw [zp h, zt h]; rfl
 · rw [zn h, zf h, right_t (by omega)]; rfl
theorem idx_ge {A : Type} {b : A → Bool} : ∀ (l : List A) (i : Nat), foldE (S := Unit) (R := Int) (fun i x _ => if b x = true then .inr (i : Int) else .inl ()) (fun _ => (-1 : Int)) i l () ≥ 0 ↔ l.any b = true
 | [], i => by simp [foldE]
 | x :: l, i => by
   unfold foldE
   by_cases h : b x = true
   · rw [zp h, List.any_cons, h]
     simp
   · rw [zn h, List.any_cons, eq_false_of_ne_true h, Bool.false_or]
     exact idx_ge l (i + 1)
theorem queryCheck_t {q : Path} (hl : lowS q) : zbo q = some (qcM q) := by
 unfold zbo qcM
 simp only [cond_dec]
 by_cases h0 : q.length = 0
 · rw [zp (by omega), zp h0]
 rw [zn (by omega), zn h0]
 by_cases h8 : q.length > 8
 · rw [zp (by omega), zp h8]
 rw [zn (by omega), zn h8]
 have loop := loop_list (S := Unit) (R := Int) (f := zag_l2 q) (l := q) (fun i _ => ((i : Int), ())) (fun i x _ => if partBad x = true then .inr (i : Int) else .inl ()) (fun _ => (-1 : Int)) (fun _ _ => True) (fun i h s _ => by
   have turn : zag_l2 q ((i : Int), ()) = if partBad q[i] = true then some (.inr (i : Int)) else some (.inl (((i + 1 : Nat) : Int), ())) := by
     unfold zag_l2
     simp only [cond_dec]
     rw [zp (by omega), atI_lt h]
     simp only [zb, partBad_t (hl _ (zm h))]
     rw [wrap64 (by omega) (by omega)]
     cases partBad q[i] with
     | true => rfl
     | false => rfl
   by_cases hb : partBad q[i] = true
   · exact .inr ⟨_, by rw [zp hb], by rw [turn, zp hb]⟩
   · exact .inl ⟨(), by rw [zn hb], by rw [turn, zn hb], trivial⟩) (fun s _ => by
   unfold zag_l2
   simp only [cond_dec]
   rw [zn (by omega)]) () trivial
 have hi := idx_ge (b := partBad) q 0
 unfold zaf zag
 rw [show ((0 : Int), ()) = (((0 : Nat) : Int), ()) from rfl, loop]
 simp only [zb]
 by_cases hb : q.any partBad = true
 · rw [zp hb, zt (hi.2 hb)]; rfl
 · rw [zn hb, zf (fun e => hb (hi.1 e))]; rfl
noncomputable def matchQ : Path → Path → Bool
 | [], p => decide (p.length = 0)
 | s :: q, p => if s = deepS then (List.range' 0 (p.length + 1)).any (fun i => matchQ q (p.drop i)) else match p with
   | [] => false
   | x :: p' => globM s x && matchQ q p'
theorem matchQ_nil {p : Path} : matchQ [] p = decide (p.length = 0) := by unfold matchQ; rfl
theorem matchQ_deep {q p : Path} : matchQ (deepS :: q) p = (List.range' 0 (p.length + 1)).any (fun i => matchQ q (p.drop i)) := by
 conv => lhs; unfold matchQ
 rw [zp rfl]
theorem matchQ_none {s : List UInt8} {q : Path} (h : s ≠ deepS) : matchQ (s :: q) [] = false := by
 conv => lhs; unfold matchQ
 rw [zn h]
theorem matchQ_cons {s x : List UInt8} {q p : Path} (h : s ≠ deepS) : matchQ (s :: q) (x :: p) = (globM s x && matchQ q p) := by
 conv => lhs; unfold matchQ
 rw [zn h]
def NS (G : Prop) {A : Type} (o : Option A) (b : A) : Prop := o = some b ∨ ¬ G ∧ o = none
theorem NS.bind {G : Prop} {A B : Type} {o : Option A} {a : A} {f : A → Option B} {b : B} (h : NS G o a) (hf : NS G (f a) b) : NS G (o.bind f) b := by
 rcases h with h | ⟨h1, h2⟩
 · rw [h, zb]; exact hf
 · exact .inr ⟨h1, by rw [h2]; rfl⟩
theorem loop_none {A X : Type} {f : A → Option (A ⊕ X)} {a : A} (h : f a = none) : loopT f a = none := by rw [loopT_eq, h]; rfl
abbrev Rec1 := (Path × Path × Unit) → Option Bool
theorem deep_loop {G : Prop} {rec : Rec1} {s : List UInt8} {q p : Path} (hp : p.length < 1000000) (hrec : ∀ i, i ≤ p.length → NS G (rec (q, p.drop i, ())) (matchQ q (p.drop i))) : ∀ (k i : Nat), p.length + 1 - i ≤ k → i ≤ p.length + 1 →
   NS G (loopT (zbv_l4 (s :: q, p, ()) rec) ((i : Int), ())) (.inr (.inr (.inr ((List.range' i (p.length + 1 - i)).any fun j => matchQ q (p.drop j))))) := by
 have stop : ∀ i, ¬ i < p.length + 1 → i ≤ p.length + 1 → NS G (loopT (zbv_l4 (s :: q, p, ()) rec) ((i : Int), ())) (.inr (.inr (.inr ((List.range' i (p.length + 1 - i)).any fun j => matchQ q (p.drop j))))) := fun i h1 h2 => by
   refine .inl (loopT_inr ?_)
   unfold zbv_l4
   simp only [cond_dec]
   rw [wrap64 (by omega) (by omega), zn (by omega), show p.length + 1 - i = 0 by omega]
   rfl
 intro k
 induction k with
 | zero => intro i hk hi; exact stop i (by omega) hi
 | succ k ih =>
   intro i hk hi
   by_cases hlt : i < p.length + 1
   · have e : zbv_l4 (s :: q, p, ()) rec ((i : Int), ()) = (rec (q, p.drop i, ())).bind fun r4 => cond r4 (some (.inr (.inr (.inr (.inr true))))) (some (.inl (((i + 1 : Nat) : Int), ()))) := by
       unfold zbv_l4
       simp only [cond_dec]
       rw [wrap64 (n := (p.length : Int) + 1) (by omega) (by omega), zp (by omega), sub1]
       simp only [zb]
       rw [subI_from (by omega)]
       simp only [zb]
       rw [wrap64 (by omega) (by omega)]; rfl
     rw [show p.length + 1 - i = (p.length + 1 - (i + 1)) + 1 by omega, List.range'_succ, List.any_cons]
     rcases hrec i (by omega) with h | ⟨h1, h2⟩
     · rw [h, zb] at e
       cases hm : matchQ q (p.drop i) with
       | true =>
         rw [hm] at e
         exact .inl (by rw [loopT_inr e]; rfl)
       | false =>
         rw [hm] at e
         rw [loopT_inl e, Bool.false_or]
         exact ih (i + 1) (by omega) (by omega)
     · rw [h2] at e
       exact .inr ⟨h1, loop_none e⟩
   · exact stop i hlt hi
theorem match_done {rec : Rec1} {p : Path} : zbv_step rec [] p = some (matchQ [] p) := by
 unfold zbv_step
 rw [loopT_inr (x := (.inl (p, ()) : (Path × Unit) ⊕ Bool)) (by
   unfold zbv_l1
   simp only [cond_dec]
   rw [zn (by simp)]), bind_join_inl, matchQ_nil]
 show some (decide ((p.length : Int) = 0)) = some (decide (p.length = 0))
 congr 1
 by_cases h : p.length = 0
 · rw [zt h, zt (by omega)]
 · rw [zf h, zf (by omega)]
theorem match_deepE {rec : Rec1} {s : List UInt8} {q p : Path} (hd : s = deepS) {o : Option (Unit ⊕ ((Path × Path × Unit) ⊕ ((Path × Unit) ⊕ Bool)))} (ho : loopT (zbv_l4 (s :: q, p, ()) rec) ((0 : Int), ()) = o) {b : Bool} (hb : o = some (.inr (.inr (.inr b))) ∨ o = none) :
   zbv_step rec (s :: q) p = if o = none then none else some b := by
 unfold zbv_step
 have e : zbv_l1 rec (s :: q, p, ()) = if o = none then none else some (.inr (.inr b)) := by
   unfold zbv_l1
   simp only
   rw [zt (show (((s :: q).length : Int) > 0) by simp only [zl]; omega), cond_true, at0]
   simp only [zb]
   rw [zt (show s = [42, 42] from hd), cond_true, ho]
   rcases hb with h | h
   · rw [h, bind_join_inr, zn (by simp)]
   · rw [h, zp rfl]; rfl
 rcases hb with h | h
 · rw [zn (by rw [h]; simp)] at e ⊢
   rw [loopT_inr e, bind_join_inr]
 · rw [zp h] at e ⊢
   rw [loop_none e]; rfl
theorem match_noneE {rec : Rec1} {s : List UInt8} {q : Path} (hd : s ≠ deepS) : zbv_step rec (s :: q) [] = some false := by
 unfold zbv_step
 rw [loopT_inr (x := (.inr false : (Path × Unit) ⊕ Bool)) (by
   unfold zbv_l1
   simp only
   rw [zt (show (((s :: q).length : Int) > 0) by simp only [zl]; omega), cond_true, at0]
   simp only [zb]
   rw [zf (show ¬ s = [42, 42] from hd), cond_false, bind_join_inl, zt (by simp), cond_true]), bind_join_inr]
theorem match_turn {rec : Rec1} {s x : List UInt8} {q p : Path} {b : Bool} (hd : s ≠ deepS) (hg : zb6 s x = some b) : zbv_l1 rec (s :: q, x :: p, ()) = if b = true then some (.inl (q, p, ())) else some (.inr (.inr false)) := by
 unfold zbv_l1
 simp only
 rw [zt (show (((s :: q).length : Int) > 0) by simp only [zl]; omega), cond_true, at0, zb, zf (show ¬ s = [42, 42] from hd), cond_false, bind_join_inl, zf (by simp only [zl]; omega), cond_false, at0, zb, zb, hg, zb, sub1, zb, sub1, zb]
 cases b
 · rw [zn (by simp)]; rfl
 · rw [zp rfl]; rfl
theorem match_consE {rec : Rec1} {s x : List UInt8} {q p : Path} (hd : s ≠ deepS) (hs : s.length < 1000000) (hx : x.length < 1000000) : zbv_step rec (s :: q) (x :: p) = if globM s x = true then zbv_step rec q p else some false := by
 have e := match_turn (rec := rec) (q := q) (p := p) hd (globMatch_t hs hx)
 generalize globM s x = b at e ⊢
 unfold zbv_step
 cases b
 · rw [zn (by simp)] at e ⊢
   rw [loopT_inr e, bind_join_inr]
 · rw [zp rfl] at e ⊢
   rw [loopT_inl e]
theorem match_step {G : Prop} {rec : Rec1} : ∀ (q p : Path), p.length < 1000000 → lowS q → lowS p → (∀ (q' p' : Path), q'.length < q.length → p'.length < 1000000 → lowS q' → lowS p' → NS G (rec (q', p', ())) (matchQ q' p')) → NS G (zbv_step rec q p) (matchQ q p)
 | [], p, _, _, _, _ => .inl match_done
 | s :: q, p, hp, hq, hpl, hrec => by
   have hq' : lowS q := fun x hx => hq x (List.mem_cons_of_mem _ hx)
   by_cases hd : s = deepS
   · have hl := deep_loop (G := G) (rec := rec) (s := s) (q := q) (p := p) hp (fun i hi => hrec q (p.drop i) (by simp) (by rw [List.length_drop]; omega) hq' (fun x hx => hpl x (List.mem_of_mem_drop hx))) (p.length + 1) 0 (by omega) (by omega)
     have hm : matchQ (s :: q) p = (List.range' 0 (p.length + 1 - 0)).any (fun j => matchQ q (p.drop j)) := by rw [hd, matchQ_deep, Nat.sub_zero]
     rw [hm]
     generalize (List.range' 0 (p.length + 1 - 0)).any (fun j => matchQ q (p.drop j)) = b at hl ⊢
     rcases hl with h | ⟨h1, h2⟩
     · exact .inl (by rw [match_deepE hd h (.inl rfl), zn (by simp)])
     · exact .inr ⟨h1, by rw [match_deepE (b := b) hd h2 (.inr rfl), zp rfl]⟩
   · match p, hp, hpl with
     | [], _, _ => exact .inl (by rw [match_noneE hd, matchQ_none hd])
     | x :: p, hp, hpl =>
       rw [match_consE hd (hq s (List.mem_cons_self ..)) (hpl x (List.mem_cons_self ..)), matchQ_cons hd]
       by_cases hg : globM s x = true
       · rw [zp hg, hg, Bool.true_and]
         exact match_step q p (by simp only [zl] at hp; omega) hq' (fun y hy => hpl y (List.mem_cons_of_mem _ hy)) (fun q' p' h => hrec q' p' (by simp only [zl]; omega))
       · rw [zn hg, eq_false_of_ne_true hg, Bool.false_and]
         exact .inl rfl
theorem match_it (G : Prop) : ∀ (n : Nat) (q p : Path), p.length < 1000000 → lowS q → lowS p → (G → q.length < n) → NS G (itT (fun (rec : Rec1) v => zbv_step rec v.1 v.2.1) n (q, p, ())) (matchQ q p)
 | 0, q, p, _, _, _, h => .inr ⟨fun g => by have := h g; omega, rfl⟩
 | n + 1, q, p, hp, hq, hpl, h => by
   have e : itT (fun (rec : Rec1) v => zbv_step rec v.1 v.2.1) (n + 1) (q, p, ()) = zbv_step (itT (fun (rec : Rec1) v => zbv_step rec v.1 v.2.1) n) q p := rfl
   rw [e]
   exact match_step q p hp hq hpl fun q' p' h1 h2 h3 h4 => match_it G n q' p' h2 h3 h4 fun g => by have := h g; omega
theorem qmatch_t {q p : Path} (hp : p.length < 1000000) (hq : lowS q) (hpl : lowS p) : zbv q p = some (matchQ q p) := by
 unfold zbv query_match_fix
 refine fix_eq (fun n => ?_) ⟨q.length + 1, ?_⟩
 · rcases match_it False n q p hp hq hpl (fun h => h.elim) with h | ⟨_, h⟩
   · exact .inr h
   · exact .inl h
 · rcases match_it True (q.length + 1) q p hp hq hpl (fun _ => by omega) with h | ⟨h, _⟩
   · exact h
   · exact absurd trivial h
noncomputable def fullQ (q p : Path) : Bool := decide (qcM q = 0) && matchQ q p
theorem queryMatch_t {q p : Path} (hp : p.length < 1000000) (hq : lowS q) (hpl : lowS p) : zbi q p = some (fullQ q p) := by
 unfold zbi fullQ
 rw [queryCheck_t hq]
 simp only [zb, qmatch_t hp hq hpl]
 by_cases h : qcM q = 0
 · rw [zt h]; rfl
 · rw [zf h]; rfl
noncomputable def selM (l : List Item1) (q : Path) : List Leaf1 := (leavesM l).filter fun y => fullQ q y.1
theorem leaf_lowS {l : List Item1} (h : ItemsOk l) {y : Leaf1} (hy : y ∈ leavesM l) : y.1.length < 1000000 ∧ lowS y.1 := by
 have := leaf_short h hy
 exact ⟨by omega, fun s hs => by have := this.2 s hs; omega⟩
theorem select_t {l : List Item1} {q : Path} (h : ItemsOk l) (hq : lowS q) : za9 l q = some (selM l q) := by
 have hlen := leaves_len h
 unfold za9
 rw [leaves_t (itemsOk_low h)]
 simp only [zb]
 have this := loop_map (f := za9_l3 q (leavesM l)) (l := leavesM l) (fun i o => ((i : Int), o, ())) (fun y => if fullQ q y.1 = true then [y] else []) (fun o => o) 1 (fun x _ => by split <;> simp) (fun i hi o ho => by
   have hs := leaf_lowS h (zm hi)
   unfold za9_l3
   simp only [cond_dec]
   rw [zp (by omega), atI_lt hi]
   simp only [zb, queryMatch_t hs.1 hq hs.2]
   rw [wrap64 (by omega) (by omega), roomT_lt (by simp; omega)]
   by_cases hb : fullQ q (leavesM l)[i].1 = true
   · rw [hb, cond_true, zp rfl]; rfl
   · rw [zn hb, eq_false_of_ne_true hb, cond_false, List.append_nil]; rfl) (fun o _ => by
   unfold za9_l3
   simp only [cond_dec]
   rw [zn (by omega)])
 rw [show ((0 : Int), ([] : List Leaf1), ()) = (((0 : Nat) : Int), [], ()) from rfl, this]
 congr 1
 exact flatMap_if (q := fun y : Leaf1 => fullQ q y.1)
theorem sel_mem {l : List Item1} {q : Path} {y : Leaf1} (h : y ∈ selM l q) : y ∈ leavesM l := (List.mem_filter.1 h).1
theorem sel_len {l : List Item1} {q : Path} (h : ItemsOk l) : (selM l q).length ≤ 320 := Nat.le_trans (List.length_filter_le ..) (leaves_len h)
noncomputable def qviewM (l : List Item1) (q : Path) : List Ent := (selM l q).map fun y => entM l y.1 y.2.1
theorem queryView_t {l : List Item1} {q : Path} (h : ItemsOk l) (hq : lowS q) : zco l q = some (qviewM l q) := by
 have hlen := sel_len (q := q) h
 unfold zco
 rw [select_t h hq]
 simp only [zb]
 have this := loop_map (f := zco_l3 l (selM l q)) (l := selM l q) (fun i o => ((i : Int), o, ())) (fun y => [entM l y.1 y.2.1]) (fun o => o) 1 (fun x _ => Nat.le_refl _) (fun i hi o ho => by
   have hs := leaf_lowS h (sel_mem (zm hi))
   unfold zco_l3
   simp only [cond_dec]
   rw [zp (by omega), atI_lt hi]
   simp only [zb, viewAt_t h hs.1]
   rw [wrap64 (by omega) (by omega), roomT_lt (by simp; omega)]; rfl) (fun o _ => by
   unfold zco_l3
   simp only [cond_dec]
   rw [zn (by omega)])
 rw [show ((0 : Int), ([] : List Ent), ()) = (((0 : Nat) : Int), [], ()) from rfl, this, flat_one]
 rfl
end Go.Proofs.YtgfpkhlabdcbmaaGreatDoor.Q
namespace Go.Proofs.YtgfpkhlabdcbmaaGreatDoor.Q
open Go.EM Go.TY Go.Proofs Go.Proofs.YtgfpkhlabdcbmaaGreatDoor.Y
theorem runes_one {a : UInt8} (h : a.toNat < 128) : runesM [a] = some [(a.toNat : Int)] := by rw [runesM_ascii h, runesM_nil]; rfl
theorem pat_one {a : UInt8} (h : a.toNat < 128) (hw : specW (a.toNat : Int) = false) : pat [a] = some [(a.toNat : Int)] := by
 unfold pat
 rw [runes_one h, zb, zn (by simp), partsM_plain hw]; rfl
open Classical in
theorem globM_one {a b : UInt8} (ha : a.toNat < 128) (hb : b.toNat < 128) (hw : specW (a.toNat : Int) = false) : globM [a] [b] = decide (a.toNat = b.toNat) := by
 unfold globM
 rw [pat_one ha hw, runes_one hb]
 show decide (Mt [(a.toNat : Int)] [(b.toNat : Int)]) = _
 rw [decide_eq_decide, Mt_one (by omega)]
 constructor
 · rintro ⟨x, t, h1, h2, h3⟩
   injection h1 with h1 h4
   rcases h2 with h2 | h2 <;> omega
 · intro h
   exact ⟨_, [], rfl, .inr (by omega), rfl⟩
theorem pat_deep : pat deepS = some [-2, -2] := by
 have h : runesM deepS = some [42, 42] := by
   unfold deepS
   rw [runesM_ascii (by decide), runesM_ascii (by decide), runesM_nil]; rfl
 unfold pat
 rw [h, zb, zn (by simp), partsM_star, partsM_star]; rfl
theorem part_deep : partBad deepS = false := by
 unfold partBad
 rw [pat_deep]; rfl
theorem partBad_one {a : UInt8} (h : a.toNat < 128) (hw : specW (a.toNat : Int) = false) : partBad [a] = false := by
 unfold partBad
 rw [pat_one h hw]; rfl
theorem qc_zero {q : Path} (h1 : q.length ≠ 0) (h2 : q.length ≤ 8) (h3 : q.any partBad = false) : qcM q = 0 := by
 unfold qcM
 rw [zn h1, zn (by omega), h3, zn (by simp)]
theorem zero_qc {q : Path} (h : qcM q = 0) : q.length ≠ 0 ∧ q.length ≤ 8 ∧ q.any partBad = false := by
 unfold qcM at h
 split at h
 · omega
 rename_i h1
 split at h
 · omega
 rename_i h2
 split at h
 · omega
 rename_i h3
 exact ⟨h1, by omega, by simpa using h3⟩
abbrev adkQ : Path := [[97], [42, 42], [107]]
theorem full_adk {p : Path} : fullQ adkQ p = matchQ adkQ p := by
 unfold fullQ
 rw [qc_zero (by simp) (by simp) (by
   rw [List.any_cons, List.any_cons, List.any_cons, List.any_nil, partBad_one (by decide) (by decide), show partBad [42, 42] = false from part_deep, partBad_one (by decide) (by decide)]; rfl)]
 rfl
theorem adk_cons {x : List UInt8} {p : Path} : matchQ adkQ (x :: p) = (globM [97] x && (List.range' 0 (p.length + 1)).any (fun i => matchQ [[107]] (p.drop i))) := by
 rw [show adkQ = [97] :: deepS :: [[107]] from rfl, matchQ_cons (by decide), matchQ_deep]
theorem k_nil : matchQ [[107]] [] = false := matchQ_none (by decide)
theorem k_cons {x : List UInt8} {p : Path} : matchQ [[107]] (x :: p) = (globM [107] x && decide (p.length = 0)) := by
 rw [matchQ_cons (by decide), matchQ_nil]
theorem awake38 : zby = some true := by
 unfold zby
 rw [show (([[97], [42, 42], [107]] : List (List UInt8))) = adkQ from rfl]
 have lq : lowS adkQ := by unfold lowS; decide
 rw [queryMatch_t (by simp) lq (by unfold lowS; decide), queryMatch_t (by simp) lq (by unfold lowS; decide), queryMatch_t (by simp) lq (by unfold lowS; decide)]
 rw [full_adk, full_adk, full_adk, adk_cons, adk_cons, adk_cons]
 have g1 : globM [97] [97] = true := by rw [globM_one (by decide) (by decide) (by decide)]; decide
 have g2 : globM [107] [107] = true := by rw [globM_one (by decide) (by decide) (by decide)]; decide
 have g3 : globM [107] [98] = false := by rw [globM_one (by decide) (by decide) (by decide)]; decide
 have e1 : ((List.range' 0 (([[107]] : Path).length + 1)).any fun i => matchQ [[107]] (([[107]] : Path).drop i)) = true := List.any_eq_true.2 ⟨0, by simp, by
   show matchQ [[107]] [[107]] = true
   rw [k_cons, g2]; rfl⟩
 have e2 : ((List.range' 0 (([[98], [99], [107]] : Path).length + 1)).any fun i => matchQ [[107]] (([[98], [99], [107]] : Path).drop i)) = true := List.any_eq_true.2 ⟨2, by simp [List.mem_range'_1], by
   show matchQ [[107]] [[107]] = true
   rw [k_cons, g2]; rfl⟩
 have e3 : ((List.range' 0 (([[107], [98]] : Path).length + 1)).any fun i => matchQ [[107]] (([[107], [98]] : Path).drop i)) = false := by
   show (matchQ [[107]] [[107], [98]] || (matchQ [[107]] [[98]] || (matchQ [[107]] [] || false))) = false
   rw [k_cons, k_cons, k_nil, g3]
   simp
 rw [g1, e1, e2, e3]
 rfl
end Go.Proofs.YtgfpkhlabdcbmaaGreatDoor.Q
namespace Go.Proofs.YtgfpkhlabdcbmaaGreatDoor.Q
open Go.EM Go.TY Go.Proofs Go.Proofs.YtgfpkhlabdcbmaaGreatDoor.Y
def oneQ (s : List UInt8) (a : Path) : Prop := if s = deepS then True else ∃ x, a = [x] ∧ globM s x = true
def MQ : Path → Path → Prop
 | [], t => t = []
 | s :: q, t => ∃ a b, t = a ++ b ∧ oneQ s a ∧ MQ q b
theorem MQ_app : ∀ {o o' t : Path}, MQ (o ++ o') t ↔ ∃ a b, t = a ++ b ∧ MQ o a ∧ MQ o' b
 | [], o', t => by
   constructor
   · intro h; exact ⟨[], t, rfl, rfl, h⟩
   · rintro ⟨a, b, rfl, rfl, h⟩; exact h
 | c :: o, o', t => by
   constructor
   · rintro ⟨a, b, rfl, h1, h2⟩
     obtain ⟨a', b', rfl, h3, h4⟩ := MQ_app.1 h2
     exact ⟨a ++ a', b', by simp, ⟨a, a', rfl, h1, h3⟩, h4⟩
   · rintro ⟨a, b, rfl, ⟨a', b', rfl, h1, h2⟩, h3⟩
     exact ⟨a', b' ++ b, by simp, h1, MQ_app.2 ⟨b', b, rfl, h2, h3⟩⟩
theorem oneQ_deep {a : Path} : oneQ deepS a := by unfold oneQ; rw [zp rfl]; trivial
theorem MQ_deep {o t : Path} : MQ (deepS :: o) t ↔ ∃ j, MQ o (t.drop j) := by
 constructor
 · rintro ⟨a, b, rfl, h1, h2⟩; exact ⟨a.length, by simpa using h2⟩
 · rintro ⟨j, h⟩; exact ⟨t.take j, t.drop j, by simp, oneQ_deep, h⟩
theorem MQ_one {s : List UInt8} {o t : Path} (hc : s ≠ deepS) : MQ (s :: o) t ↔ ∃ x b, t = x :: b ∧ globM s x = true ∧ MQ o b := by
 have e : ∀ a, oneQ s a ↔ ∃ x, a = [x] ∧ globM s x = true := fun a => by unfold oneQ; rw [zn hc]
 constructor
 · rintro ⟨a, b, rfl, h1, h2⟩
   obtain ⟨x, rfl, h3⟩ := (e a).1 h1
   exact ⟨x, b, rfl, h3, h2⟩
 · rintro ⟨x, b, rfl, h1, h2⟩
   exact ⟨[x], b, rfl, (e _).2 ⟨x, rfl, h1⟩, h2⟩
theorem MQ_nil {t : Path} : MQ [] t ↔ t = [] := Iff.rfl
theorem matchQ_iff : ∀ (q p : Path), matchQ q p = true ↔ MQ q p
 | [], p => by rw [matchQ_nil, decide_eq_true_eq, List.length_eq_zero_iff]; exact Iff.rfl
 | s :: q, p => by
   by_cases hd : s = deepS
   · rw [hd, matchQ_deep, MQ_deep, List.any_eq_true]
     constructor
     · rintro ⟨i, _, h⟩; exact ⟨i, (matchQ_iff q _).1 h⟩
     · rintro ⟨j, h⟩
       by_cases hj : j ≤ p.length
       · exact ⟨j, by simp [List.mem_range'_1]; omega, (matchQ_iff q _).2 h⟩
       · refine ⟨p.length, by simp [List.mem_range'_1], (matchQ_iff q _).2 ?_⟩
         rw [List.drop_eq_nil_of_le (by omega)] at h
         rw [List.drop_length]; exact h
   · rw [MQ_one hd]
     cases p with
     | nil =>
       rw [matchQ_none hd]
       constructor
       · intro h; cases h
       · rintro ⟨x, b, h, _⟩; cases h
     | cons x p =>
       rw [matchQ_cons hd, Bool.and_eq_true, matchQ_iff q p]
       constructor
       · rintro ⟨h1, h2⟩; exact ⟨x, p, rfl, h1, h2⟩
       · rintro ⟨y, b, h, h1, h2⟩
         cases h; exact ⟨h1, h2⟩
theorem MQ_last_star {P t : Path} {i : Nat} : MQ (P ++ [deepS]) (t.take (i + 1)) ↔ MQ P (t.take (i + 1)) ∨ MQ (P ++ [deepS]) (t.take i) := by
 have key : ∀ i : Nat, MQ (P ++ [deepS]) (t.take i) ↔ ∃ j, j ≤ i ∧ MQ P (t.take j) := by
   intro i
   rw [MQ_app]
   constructor
   · rintro ⟨a, b, h1, h2, h3⟩
     by_cases hl : a.length ≤ i
     · refine ⟨a.length, hl, ?_⟩
       have : t.take a.length = a := by
         have := congrArg (List.take a.length) h1
         rw [List.take_take, Nat.min_eq_left hl, List.take_left] at this
         exact this
       rw [this]; exact h2
     · exfalso
       have := congrArg List.length h1
       simp only [List.length_append, List.length_take] at this
       omega
   · rintro ⟨j, hj, h⟩
     refine ⟨t.take j, (t.take i).drop j, ?_, h, ⟨(t.take i).drop j, [], by simp, oneQ_deep, rfl⟩⟩
     have := List.take_append_drop j (t.take i)
     rw [List.take_take, Nat.min_eq_left hj] at this
     exact this.symm
 rw [key, key]
 constructor
 · rintro ⟨j, hj, h⟩
   by_cases e : j = i + 1
   · subst e; exact Or.inl h
   · exact Or.inr ⟨j, by omega, h⟩
 · rintro (h | ⟨j, hj, h⟩)
   · exact ⟨i + 1, Nat.le_refl _, h⟩
   · exact ⟨j, by omega, h⟩
theorem MQ_last_star0 {P : Path} : MQ (P ++ [deepS]) [] ↔ MQ P [] := by
 rw [MQ_app]
 constructor
 · rintro ⟨a, b, h1, h2, h3⟩
   have := List.append_eq_nil_iff.1 h1.symm
   rw [this.1] at h2; exact h2
 · intro h; exact ⟨[], [], rfl, h, [], [], rfl, oneQ_deep, rfl⟩
theorem MQ_last_one {P t : Path} {i : Nat} {c : List UInt8} (hc : c ≠ deepS) (hi : i < t.length) : MQ (P ++ [c]) (t.take (i + 1)) ↔ MQ P (t.take i) ∧ globM c t[i] = true := by
 have e : t.take (i + 1) = t.take i ++ [t[i]] := by rw [List.take_add_one, zg hi]; rfl
 rw [MQ_app, e]
 constructor
 · rintro ⟨a, b, h1, h2, h3⟩
   rw [MQ_one hc] at h3
   obtain ⟨x, b', rfl, h4, h5⟩ := h3
   cases (MQ_nil.1 h5)
   obtain ⟨h6, h7⟩ := List.append_inj' h1 rfl
   cases h7
   rw [h6]; exact ⟨h2, h4⟩
 · rintro ⟨h1, h2⟩
   exact ⟨_, _, rfl, h1, (MQ_one hc).2 ⟨_, [], rfl, h2, rfl⟩⟩
theorem MQ_last_one0 {P : Path} {c : List UInt8} (hc : c ≠ deepS) : ¬ MQ (P ++ [c]) [] := by
 rw [MQ_app]
 rintro ⟨a, b, h1, h2, h3⟩
 rw [MQ_one hc] at h3
 obtain ⟨x, b', rfl, h4, h5⟩ := h3
 have := List.append_eq_nil_iff.1 h1.symm
 cases this.2
noncomputable def gQ (P t : Path) (i : Nat) : Bool := matchQ P (t.take i)
theorem gQ_star {P t : Path} {i : Nat} : gQ (P ++ [deepS]) t (i + 1) = (gQ P t (i + 1) || gQ (P ++ [deepS]) t i) := by
 unfold gQ
 rw [Bool.eq_iff_iff, Bool.or_eq_true, matchQ_iff, matchQ_iff, matchQ_iff]; exact MQ_last_star
theorem gQ_star0 {P t : Path} : gQ (P ++ [deepS]) t 0 = gQ P t 0 := by
 unfold gQ
 rw [Bool.eq_iff_iff, matchQ_iff, matchQ_iff, List.take_zero]; exact MQ_last_star0
theorem gQ_one {P t : Path} {i : Nat} {c : List UInt8} (hc : c ≠ deepS) (hi : i < t.length) : gQ (P ++ [c]) t (i + 1) = (gQ P t i && globM c t[i]) := by
 unfold gQ
 rw [Bool.eq_iff_iff, Bool.and_eq_true, matchQ_iff, matchQ_iff]; exact MQ_last_one hc hi
theorem gQ_one0 {P t : Path} {c : List UInt8} (hc : c ≠ deepS) : gQ (P ++ [c]) t 0 = false := by
 unfold gQ
 rw [← Bool.not_eq_true, matchQ_iff, List.take_zero]; exact MQ_last_one0 hc
open Classical in
theorem refGlob_t {s t : List UInt8} (hs : s.length < 1000000) (ht : t.length < 1000000) : zbq s t = some (globM s t) := refMatch_t (p := s) (s := t) (by omega) (by omega)
theorem innerQ {o t : Path} (ho : o.length < 1000000) (ht : t.length < 1000000) (hol : lowS o) (htl : lowS t) {k : Nat} (hk : k < o.length) {y8 : Int × List Bool × Unit} (hy : y8.1 = k) {row : List Bool} (hr : RowM t.length (gQ (o.take k) t) row) :
   ∀ (m i : Nat) (nx : List Bool), t.length + 1 - i ≤ m → i ≤ t.length + 1 → nx.length = t.length + 1 → (∀ j, j < i → nx[j]? = some (gQ (o.take (k + 1)) t j)) →
     ∃ nx', RowM t.length (gQ (o.take (k + 1)) t) nx' ∧ loopT (zbf_l10 y8 o t) ((i : Int), row, nx, ()) = some (.inl (((k + 1 : Nat) : Int), nx', ())) := by
 have hok : o[k]? = some o[k] := zg hk
 have hkl : o[k].length < 1000000 := hol _ (zm hk)
 have htk : o.take (k + 1) = o.take k ++ [o[k]] := by rw [List.take_add_one, hok]; rfl
 have fin : ∀ (i : Nat) (nx : List Bool), ¬ i ≤ t.length → nx.length = t.length + 1 → (∀ j, j < i → nx[j]? = some (gQ (o.take (k + 1)) t j)) →
     ∃ nx', RowM t.length (gQ (o.take (k + 1)) t) nx' ∧ loopT (zbf_l10 y8 o t) ((i : Int), row, nx, ()) = some (.inl (((k + 1 : Nat) : Int), nx', ())) := by
   intro i nx hi hl hn
   refine ⟨nx, ⟨hl, fun j hj => hn j (by omega)⟩, loopT_inr ?_⟩
   unfold zbf_l10
   rw [cond_dec, zn (by omega), hy, wrap64 (by omega) (by omega)]; rfl
 intro m
 induction m with
 | zero => intro i nx hm hi hl hn; exact fin i nx (by omega) hl hn
 | succ m ih =>
   intro i nx hm hi hl hn
   by_cases hlt : i ≤ t.length
   · have go : zbf_l10 y8 o t ((i : Int), row, nx, ()) = some (.inl (((i + 1 : Nat) : Int), row, nx.set i (gQ (o.take (k + 1)) t i), ())) := by
       have w1 : IntKind.wrap .i64 ((i : Int) + 1) = ((i + 1 : Nat) : Int) := by rw [wrap64 (by omega) (by omega)]; rfl
       have hri := hr.2 i hlt
       obtain ⟨b0, hb0⟩ : ∃ b0, nx[i]? = some b0 := ⟨_, zg (by omega)⟩
       have hin : inI nx.length (i : Int) = some i := inI_nat (by omega)
       have hir : inI row.length (i : Int) = some i := inI_nat (by have := hr.1; omega)
       unfold zbf_l10
       rw [cond_dec, zp (by omega)]
       simp only [hy, atI_nat, hok, zb, cond_dec, w1, hri, hin, hir, hb0]
       by_cases hc : o[k] = deepS
       · rw [zp (show o[k] = [42, 42] from hc)]
         cases i with
         | zero =>
           rw [zn (by omega)]
           have hin0 : inI nx.length 0 = some 0 := hin
           rw [htk, hc, gQ_star0]
           cases gQ (o.take k) t 0 <;> rfl
         | succ i =>
           have hg : ((i + 1 : Nat) : Int) > 0 := by omega
           have w2 : IntKind.wrap .i64 (((i + 1 : Nat) : Int) - 1) = (i : Int) := by rw [wrap64 (by omega) (by omega)]; omega
           have hni := hn i (by omega)
           have hin' : inI nx.length (i : Int) = some i := inI_nat (by omega)
           rw [zp hg, w2, hin', zb, hni, zb]
           have hgs : gQ (o.take (k + 1)) t (i + 1) = (gQ (o.take k) t (i + 1) || gQ (o.take (k + 1)) t i) := by rw [htk, hc]; exact gQ_star
           rw [hgs]
           cases gQ (o.take k) t (i + 1) <;> rfl
       · rw [zn (show ¬ o[k] = [42, 42] from hc)]
         cases i with
         | zero =>
           rw [zn (by omega), htk, gQ_one0 hc]
           simp only [zb, cond_false]
           have hin0 : inI nx.length 0 = some 0 := hin
           rw [show ((0 : Nat) : Int) = 0 from rfl] at *
           rw [hin0, zb, hb0, zb]
         | succ i =>
           have hg : ((i + 1 : Nat) : Int) > 0 := by omega
           have w2 : IntKind.wrap .i64 (((i + 1 : Nat) : Int) - 1) = (i : Int) := by rw [wrap64 (by omega) (by omega)]; omega
           have hri' := hr.2 i (by omega)
           have hir' : inI row.length (i : Int) = some i := inI_nat (by have := hr.1; omega)
           have hti : t[i]? = some t[i] := zg (by omega)
           have hgs : gQ (o.take (k + 1)) t (i + 1) = (gQ (o.take k) t i && globM o[k] t[i]) := by rw [htk]; exact gQ_one hc (by omega)
           rw [zp hg, w2, hir', zb, hri', zb, hgs]
           simp only [zb]
           cases gQ (o.take k) t i with
           | false => rw [cond_false, Bool.false_and, hin, zb, hb0, zb]
           | true => rw [cond_true, Bool.true_and, atI_nat, hti, zb, refGlob_t hkl (htl _ (zm (by omega))), zb, hin, zb, hb0, zb]
     obtain ⟨a1, a2⟩ := set_row hl hn hlt
     rw [loopT_inl go]
     exact ih (i + 1) _ (by omega) (by omega) a1 a2
   · exact fin i nx hlt hl hn
theorem outerQ {o t : Path} (ho : o.length < 1000000) (ht : t.length < 1000000) (hol : lowS o) (htl : lowS t) :
   ∀ (m k : Nat) (row : List Bool), o.length - k ≤ m → k ≤ o.length → RowM t.length (gQ (o.take k) t) row →
     ∃ row', RowM t.length (gQ o t) row' ∧ loopT (zbf_l6 o t) ((k : Int), row, ()) = some (.inl (row', ())) := by
 have fin : ∀ (k : Nat) (row : List Bool), ¬ k < o.length → RowM t.length (gQ (o.take k) t) row →
     ∃ row', RowM t.length (gQ o t) row' ∧ loopT (zbf_l6 o t) ((k : Int), row, ()) = some (.inl (row', ())) := by
   intro k row hk hr
   refine ⟨row, by rw [List.take_of_length_le (by omega)] at hr; exact hr, loopT_inr ?_⟩
   unfold zbf_l6
   rw [cond_dec, zn (by omega)]
 intro m
 induction m with
 | zero => intro k row hm hk hr; exact fin k row (by omega) hr
 | succ m ih =>
   intro k row hm hk hr
   by_cases hlt : k < o.length
   · have w : IntKind.wrap .i64 ((t.length : Int) + 1) = ((t.length + 1 : Nat) : Int) := by rw [wrap64 (by omega) (by omega)]; rfl
     obtain ⟨nx', a1, a2⟩ := innerQ ho ht hol htl hlt (y8 := ((k : Int), row, ())) rfl hr (t.length + 1) 0 (List.replicate (t.length + 1) false) (by omega) (by omega) (by simp) (by intro j hj; omega)
     obtain ⟨row', b1, b2⟩ := ih (k + 1) nx' (by omega) (by omega) a1
     refine ⟨row', b1, ?_⟩
     rw [loopT_inl (b := (((k + 1 : Nat) : Int), nx', ())), b2]
     unfold zbf_l6
     rw [cond_dec, zp (by omega), w, mkT_nat (by omega), zb, Int.toNat_natCast]
     exact a2
   · exact fin k row hlt hr
theorem refRow_t {q p : Path} (hp : p.length < 1000000) (hq : q.length < 1000000) (hql : lowS q) (hpl : lowS p) :
   ∃ row', RowM p.length (gQ q p) row' ∧ loopT (zbf_l6 q p) (0, ((List.replicate (p.length + 1) false).set 0 true), ()) = some (.inl (row', ())) := by
 have hrow : RowM p.length (gQ (q.take 0) p) ((List.replicate (p.length + 1) false).set 0 true) := by
   refine ⟨by simp, ?_⟩
   intro j hj
   unfold gQ
   rw [List.take_zero, matchQ_nil, List.length_take, Nat.min_eq_left hj]
   cases j with
   | zero => rw [List.getElem?_set_self (by simp)]; rfl
   | succ j => rw [List.getElem?_set_ne (by omega), List.getElem?_replicate, zp (by omega), zf (by omega)]
 exact outerQ hq hp hql hpl q.length 0 _ (by omega) (by omega) hrow
theorem fold_any {A R : Type} {b : A → Bool} {yes no : R} : ∀ (l : List A) (i : Nat), foldE (S := Unit) (R := R) (fun _ x _ => if b x = true then .inr yes else .inl ()) (fun _ => no) i l () = if l.any b = true then yes else no
 | [], i => by simp [foldE]
 | x :: l, i => by
   unfold foldE
   by_cases h : b x = true
   · rw [zp h, List.any_cons, h, Bool.true_or, zp rfl]
   · rw [zn h, List.any_cons, eq_false_of_ne_true h, Bool.false_or]
     exact fold_any l (i + 1)
theorem refCheckQ_t {q : Path} (hl : lowS q) : zbu q = some (qcM q) := by
 unfold zbu qcM
 simp only [cond_dec]
 by_cases h0 : q.length = 0
 · rw [zp (by omega), zp h0]
 rw [zn (by omega), zn h0]
 by_cases h8 : q.length > 8
 · rw [zp (by omega), zp h8]
 rw [zn (by omega), zn h8]
 have loop := loop_list (S := Unit) (R := Int) (f := zbu_l6 q) (l := q) (fun i _ => ((i : Int), ())) (fun _ x _ => if partBad x = true then .inr 8 else .inl ()) (fun _ => (0 : Int)) (fun _ _ => True) (fun i h s _ => by
   have turn : zbu_l6 q ((i : Int), ()) = if partBad q[i] = true then some (.inr 8) else some (.inl (((i + 1 : Nat) : Int), ())) := by
     have hs := hl _ (zm h)
     unfold zbu_l6
     simp only [cond_dec]
     rw [zp (by omega), atI_lt h]
     simp only [zb, refParts_t (show q[i].length < 4294967296 by omega)]
     rw [wrap64 (by omega) (by omega)]
     unfold partBad
     cases pat q[i] with
     | none =>
       by_cases hn : q[i] = []
       · rw [zp hn, zp (by simp)]
       · rw [zn hn, zp (by simp)]; rfl
     | some o =>
       by_cases hn : q[i] = []
       · rw [zp hn, zp (by simp [hn])]
       · rw [zn hn, zn (by simp [hn])]; rfl
   by_cases hb : partBad q[i] = true
   · exact .inr ⟨_, by rw [zp hb], by rw [turn, zp hb]⟩
   · exact .inl ⟨(), by rw [zn hb], by rw [turn, zn hb], trivial⟩) (fun s _ => by
   unfold zbu_l6
   simp only [cond_dec]
   rw [zn (by omega)]) () trivial
 rw [show ((0 : Int), ()) = (((0 : Nat) : Int), ()) from rfl, loop, fold_any]
theorem refQMatch_t {q p : Path} (hp : p.length < 1000000) (hq : lowS q) (hpl : lowS p) : zbf q p = some (fullQ q p) := by
 unfold zbf fullQ
 rw [refCheckQ_t hq, zb]
 by_cases h : qcM q = 0
 · have h8 := (zero_qc h).2.1
   rw [zt h, Bool.not_true, cond_false, Bool.true_and]
   have w : IntKind.wrap .i64 ((p.length : Int) + 1) = ((p.length + 1 : Nat) : Int) := by rw [wrap64 (by omega) (by omega)]; rfl
   obtain ⟨row', b1, b2⟩ := refRow_t hp (show q.length < 1000000 by omega) hq hpl
   rw [w, mkT_nat (by omega), zb, Int.toNat_natCast, List.length_replicate]
   have i0 : inI (p.length + 1) 0 = some 0 := inI_nat (i := 0) (by omega)
   rw [i0, zb, List.getElem?_replicate, zp (by omega), zb, b2, zb, joinS_inl]
   simp only []
   rw [inI_nat (by have := b1.1; omega), zb, b1.2 _ (Nat.le_refl _), zb]
   unfold gQ
   rw [List.take_length]
 · rw [zf h]; rfl
theorem flat_pick {A B : Type} {b : A → Bool} {g : A → B} : ∀ {l : List A}, (l.flatMap fun y => if b y = true then [g y] else []) = (l.filter b).map g
 | [] => rfl
 | x :: l => by
   rw [List.flatMap_cons, flat_pick, List.filter_cons]
   by_cases h : b x = true
   · rw [zp h, zp h]; rfl
   · rw [zn h, zn h]; rfl
theorem refQView_t {l : List Item1} {q : Path} (h : ItemsOk l) (hq : lowS q) : zcp l q = some (qviewM l q) := by
 have hlen := leaves_len h
 unfold zcp
 rw [refLeaves_t (itemsOk_low h)]
 simp only [zb]
 have this := loop_map (f := zcp_l4 l q (leavesM l)) (l := leavesM l) (fun i o => ((i : Int), o, ())) (fun y => if fullQ q y.1 = true then [entM l y.1 y.2.1] else []) (fun o => o) 1 (fun x _ => by split <;> simp) (fun i hi o ho => by
   have hs := leaf_lowS h (zm hi)
   unfold zcp_l4
   simp only [cond_dec]
   rw [zp (by omega), atI_lt hi]
   simp only [zb, refQMatch_t hs.1 hq hs.2, refAtE_t h]
   rw [wrap64 (by omega) (by omega), roomT_lt (by simp; omega)]
   by_cases hb : fullQ q (leavesM l)[i].1 = true
   · rw [hb, cond_true, zp rfl]; rfl
   · rw [zn hb, eq_false_of_ne_true hb, cond_false, List.append_nil]; rfl) (fun o _ => by
   unfold zcp_l4
   simp only [cond_dec]
   rw [zn (by omega)])
 rw [show ((0 : Int), ([] : List Ent), ()) = (((0 : Nat) : Int), [], ()) from rfl, this, flat_pick]
 rfl
theorem theirs38_t {l : List Ent} (hl : l.length < 1000000) : za5 l = some l := by
 have this := loop_map (f := za5_l3 l) (l := l) (fun i o => ((i : Int), o, ())) (fun y => [y]) (fun o => o) 1 (fun x _ => Nat.le_refl _) (fun i hi o ho => by
   unfold za5_l3
   simp only [cond_dec]
   rw [zp (by omega), atI_lt hi]
   simp only [zb]
   rw [wrap64 (by omega) (by omega), roomT_lt (by simp; omega)]; rfl) (fun o _ => by
   unfold za5_l3
   simp only [cond_dec]
   rw [zn (by omega)])
 unfold za5
 rw [show ((0 : Int), ([] : List Ent), ()) = (((0 : Nat) : Int), [], ()) from rfl, this, flat_one (g := fun y : Ent => y), List.map_id']
theorem leaf_at {l : List Item1} {y : Leaf1} (hy : y ∈ leavesM l) : (atM l y.1 y.2.1).length ≠ 0 := by
 obtain ⟨x, hx, rfl⟩ := leavesM_mem.1 hy
 have : x ∈ atM l (leafOf x).1 (leafOf x).2.1 := List.mem_filter.2 ⟨hx, by simp [isAt, leafOf]⟩
 intro e
 rw [List.length_eq_zero_iff.1 e] at this
 cases this
theorem queryViews_law : ∀ v : zap_T.ps.V, okV zap_T.ps v → zap_T.fn v = some true := fun v _ => by
 obtain ⟨l, u, q, ⟨⟩⟩ := v
 show zap l u q = some true
 unfold zap
 obtain ⟨b, hb, hg⟩ := good13_t l u
 rw [hb]
 simp only [zb, awake38, shortP_t]
 cases b with
 | false => rfl
 | true =>
   obtain ⟨h1, h2⟩ := hg rfl
   simp only [Bool.not_true, cond_false]
   cases hsp : (decide (q.length ≤ 12) && q.all fun x => decide (x.length ≤ 120)) with
   | false => rfl
   | true =>
     obtain ⟨hp1, hp2⟩ := shortP_iff hsp
     have hp := txns_low h1 (by omega)
     have hu := counts_low h2
     have hi := items_ok (u := u) h1
     simp only [Bool.not_true, cond_false]
     rw [all_t hp.low hu, refAll_t hp.low hu]
     generalize hx : allM l u = x at hi
     have hq : lowS q := fun s hs => by have := hp2 s hs; omega
     have hsl := sel_len (q := q) hi
     have hvl : (qviewM x q).length = (selM x q).length := List.length_map ..
     have hlow : ∀ e ∈ qviewM x q, lowE e := fun e he => by
       obtain ⟨y, hy, rfl⟩ := List.mem_map.1 he
       have := leaf_short hi (sel_mem hy)
       exact ent_low hi this.1 this.2
     simp only [zb, select_t hi hq, queryView_t hi hq, refQView_t hi hq]
     rw [zt (show ((qviewM x q).length : Int) = ((selM x q).length : Int) by omega)]
     simp only [Bool.not_true, cond_false]
     rw [theirs38_t (by omega)]
     simp only [zb]
     rw [ref18Same_t (by omega) hlow]
     simp only [zb, decide_true, Bool.not_true, cond_false]
     have loop := loop_all (f := zap_l9 x (qviewM x q) (selM x q)) (l := selM x q) (fun i => ((i : Int), ())) (fun _ => true) true false (fun i h => by
       have hm := sel_mem (zm h)
       have hs := leaf_lowS hi hm
       have hat := leaf_at hm
       have hi' : i < (qviewM x q).length := by omega
       have he : (qviewM x q)[i] = entM x (selM x q)[i].1 (selM x q)[i].2.1 := List.getElem_map ..
       unfold zap_l9
       simp only [cond_dec]
       rw [zp (by omega), atI_lt h]
       simp only [zb]
       rw [atI_lt hi', he]
       simp only [zb]
       rw [refStrsEq_t hs.1]
       simp only [zb, at_t (itemsOk_low hi)]
       rw [zt (show (selM x q)[i].1 = (entM x (selM x q)[i].1 (selM x q)[i].2.1).1 from rfl), zt (show (selM x q)[i].2.1 = (entM x (selM x q)[i].1 (selM x q)[i].2.1).2.1 from rfl)]
       simp only [Bool.not_true, cond_false, zb]
       rw [zn (by omega), wrap64 (by omega) (by omega), zp trivial]; rfl) (by
       unfold zap_l9
       simp only [cond_dec]
       rw [zn (by omega), awake38]; rfl)
     rw [zp (by simp)] at loop
     exact loop
end Go.Proofs.YtgfpkhlabdcbmaaGreatDoor.Q
