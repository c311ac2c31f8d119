import Derived.Test.YtgfpkhlabdcbmaaGreatDoorQaa
set_option linter.unusedVariables false
set_option linter.unusedSimpArgs false
set_option maxRecDepth 100000
namespace Go.Proofs.YtgfpkhlabdcbmaaGreatDoor.Q
open Go.EM Go.TY Go.Proofs Go.Proofs.YtgfpkhlabdcbmaaGreatDoor.Y
structure OpOk (o : Op1) : Prop where
 kind : 1 ≤ o.1 ∧ o.1 ≤ 5
 path : checkM o.2.1 = 0
 val : o.1 ≠ 3 → o.1 ≠ 5 → rightV o.2.2.1 = true
 noval : o.1 = 3 ∨ o.1 = 5 → o.2.2.1 = zeroV
 num : o.1 = 3 → o.2.2.2.1 ≠ 0 ∧ o.2.2.2.1 ≤ 2147483647 ∧ -2147483647 ≤ o.2.2.2.1
 nonum : o.1 ≠ 3 → o.2.2.2.1 = 0
 noseen : o.1 = 2 ∨ o.1 = 3 → o.2.2.2.2.1 = []
 seen : o.2.2.2.2.1.length ≤ 256 ∧ refsM o.2.2.2.2.1 = true
theorem opM_ok {o : Op1} (h : opM o = 0) : OpOk o := by
 unfold opM at h
 by_cases a1 : o.1 < 1 ∨ 5 < o.1
 · rw [if_pos a1] at h; omega
 rw [if_neg a1] at h
 by_cases a2 : checkM o.2.1 ≠ 0
 · rw [if_pos a2] at h; exact absurd h a2
 rw [if_neg a2] at h
 by_cases a3 : (o.1 = 3 ∨ o.1 = 5) ∧ o.2.2.1 ≠ zeroV
 · rw [if_pos a3] at h; omega
 rw [if_neg a3] at h
 by_cases a4 : ¬ (o.1 = 3 ∨ o.1 = 5) ∧ rightV o.2.2.1 = false
 · rw [if_pos a4] at h; omega
 rw [if_neg a4] at h
 by_cases a5 : o.1 ≠ 3 ∧ o.2.2.2.1 ≠ 0
 · rw [if_pos a5] at h; omega
 rw [if_neg a5] at h
 by_cases a6 : o.1 = 3 ∧ (o.2.2.2.1 = 0 ∨ o.2.2.2.1 > 2147483647 ∨ o.2.2.2.1 < -2147483647)
 · rw [if_pos a6] at h; omega
 rw [if_neg a6] at h
 by_cases a7 : (o.1 = 2 ∨ o.1 = 3) ∧ 0 < o.2.2.2.2.1.length
 · rw [if_pos a7] at h; omega
 rw [if_neg a7] at h
 by_cases a8 : 256 < o.2.2.2.2.1.length
 · rw [if_pos a8] at h; omega
 rw [if_neg a8] at h
 by_cases a9 : refsM o.2.2.2.2.1 = true
 · refine ⟨by omega, Classical.not_not.1 a2, fun h1 h2 => ?_, fun h1 => ?_, fun h1 => ?_, fun h1 => ?_, fun h1 => ?_, by omega, a9⟩
   · cases hr : rightV o.2.2.1 with
     | true => rfl
     | false => exact absurd ⟨by omega, hr⟩ a4
   · exact Classical.not_not.1 fun h2 => a3 ⟨h1, h2⟩
   · exact ⟨fun h2 => a6 ⟨h1, .inl h2⟩, Int.not_lt.1 fun h2 => a6 ⟨h1, .inr (.inl h2)⟩, Int.not_lt.1 fun h2 => a6 ⟨h1, .inr (.inr h2)⟩⟩
   · exact Classical.not_not.1 fun h2 => a5 ⟨h1, h2⟩
   · exact List.length_eq_zero_iff.1 (by omega)
 · rw [if_neg a9] at h; omega
structure ItemsOk (l : List Item1) : Prop where
 len : l.length ≤ 320
 op : ∀ x ∈ l, OpOk x.2.1 ∧ shortO x.2.1 ∧ putKind x.2.1.1 = true
theorem items_ok {l : List Txn1} {u : List Ref1} (h : TxnsOk l 20) : ItemsOk (allM l u) := by
 constructor
 · have : (allM l u).length ≤ l.length * 16 := by
     unfold allM
     refine flat_len fun t ht => ?_
     split
     · exact Nat.le_trans items_len (h.all t ht).len
     · simp
   have := h.len; omega
 · intro x hx
   obtain ⟨t, ht, j, o, ho, hk, _, _, rfl⟩ := allM_mem hx
   obtain ⟨h1, h2⟩ := (h.all t ht).ops o ho
   refine ⟨?_, h1, hk⟩
   rcases h2 with h2 | ⟨_, h2⟩
   · exact opM_ok h2
   · unfold goneM at h2
     unfold putKind at hk
     simp only [decide_eq_true_eq] at h2 hk
     omega
theorem itemsOk_low {l : List Item1} (h : ItemsOk l) : LowI l := ⟨by have := h.len; omega, fun x hx => by
 have := (h.op x hx).2.1
 exact ⟨by have := this.1; omega, fun s hs => by have := this.2.1 s hs; omega⟩⟩
theorem itemsOk_vals {l : List Item1} (h : ItemsOk l) : ∀ x ∈ l, x.2.1.2.2.1.2.2.1.length < 1000000 := fun x hx => by
 have := (h.op x hx).2.1.2.2.1; omega
theorem atOk {l : List Item1} {p : Path} {k : Int} (h : ItemsOk l) : ItemsOk (atM l p k) := ⟨Nat.le_trans (List.length_filter_le ..) h.len, fun x hx => h.op x (List.mem_filter.1 hx).1⟩
theorem leaf_kind {k : Int} (h : putKind k = true) : leafM k = k := by
 unfold putKind at h
 simp only [decide_eq_true_eq] at h
 unfold leafM
 split
 · omega
 · split
   · omega
   · split <;> omega
theorem at_kind {l : List Item1} {p : Path} {k : Int} (h : ItemsOk l) : ∀ x ∈ atM l p k, x.2.1.1 = k ∧ x.2.1.2.1 = p := fun x hx => by
 obtain ⟨h1, h2⟩ := List.mem_filter.1 hx
 unfold isAt at h2
 simp only [Bool.and_eq_true, decide_eq_true_eq] at h2
 exact ⟨by rw [← leaf_kind (h.op x h1).2.2]; exact h2.1, h2.2⟩
theorem ins_atU {A : Type} {p q : List A} {y : A} (h : (p ++ q).length < 1000000) : insT (p ++ q) (p.length : Int) [y] = some (p ++ y :: q) := by
 simp only [List.length_append] at h
 unfold insT
 rw [if_pos ⟨by omega, by simp only [List.length_append]; omega, by simp, by simp only [List.length_append, List.length_cons, List.length_nil]; unfold most; omega⟩]
 simp
theorem valsU_uniq (l : List Val) : valsU l = uniq cmpV l := by
 refine rises_unique cv_cmp (key := fun v : Val => v) (valsU_rises l) (uniq_rises cv_cmp l) fun x => ?_
 rw [valsU_mem, uniq_mem cv_cmp]
theorem vsearch_loop {u : List Val} {d : Val} (hl : u.length < 1000000) (hr : riseA cmpV u) : ∀ (k i j : Nat), j - i ≤ k → i ≤ (loA cmpV d u).length → (loA cmpV d u).length ≤ j → j ≤ u.length →
   loopT (zab_l3 u d) ((i : Int), (j : Int), ()) = some (.inl (((loA cmpV d u).length : Int), ())) := by
 intro k
 induction k with
 | zero =>
   intro i j hk h1 h2 h3
   refine loopT_inr ?_
   unfold zab_l3
   simp only [cond_dec]
   rw [if_neg (by omega), show (loA cmpV d u).length = i by omega]
 | succ k ih =>
   intro i j hk h1 h2 h3
   by_cases hij : i < j
   · have hh : (i + j) / 2 < u.length := by omega
     have turn : zab_l3 u d ((i : Int), (j : Int), ()) = if cmpV u[(i + j) / 2] d < 0 then some (.inl ((((i + j) / 2 + 1 : Nat) : Int), (j : Int), ())) else some (.inl ((i : Int), (((i + j) / 2 : Nat) : Int), ())) := by
       unfold zab_l3
       simp only [cond_dec]
       rw [if_pos (by omega), show (i : Int) + (j : Int) = ((i + j : Nat) : Int) by omega, half_t (by omega)]
       simp only [Option.bind_some]
       rw [wrap64 (n := (((i + j) / 2 : Nat) : Int)) (by omega) (by omega), atI_lt hh]
       simp only [Option.bind_some, valueCompare_t]
       rw [wrap64 (by omega) (by omega)]; rfl
     by_cases hn : (i + j) / 2 < (loA cmpV d u).length
     · rw [if_pos (at_lo (c := cmpV) (key := fun v : Val => v) hh hn)] at turn
       rw [loopT_inl turn]
       exact ih _ _ (by omega) (by omega) h2 h3
     · have := at_hi cv_cmp (key := fun v : Val => v) hr hh (k := d) (Nat.le_of_not_lt hn)
       rw [if_neg (by omega)] at turn
       rw [loopT_inl turn]
       exact ih _ _ (by omega) h1 (by omega) (by omega)
   · refine loopT_inr ?_
     unfold zab_l3
     simp only [cond_dec]
     rw [if_neg (by omega), show (loA cmpV d u).length = i by omega]
def hereV (q : List Val) (d : Val) : Bool := match q with
 | [] => false
 | x :: _ => decide (cmpV x d = 0)
theorem vsearch_t {u : List Val} {d : Val} (hl : u.length < 1000000) (hr : riseA cmpV u) :
   zab u d () = some (((loA cmpV d u).length : Int), hereV (hiA cmpV d u) d, ()) := by
 have e2 : loA cmpV d u ++ hiA cmpV d u = u := lohiA
 have hlen : (loA cmpV d u).length + (hiA cmpV d u).length = u.length := by rw [← List.length_append, e2]
 unfold zab
 have := vsearch_loop (d := d) hl hr u.length 0 u.length (by omega) (by omega) (by omega) (by omega)
 rw [show ((0 : Int), (u.length : Int), ()) = (((0 : Nat) : Int), (u.length : Int), ()) from rfl, this, bind_join_inl]
 simp only [cond_dec]
 cases hq : hiA cmpV d u with
 | nil =>
   rw [hq] at hlen
   simp only [List.length_nil] at hlen
   rw [if_neg (by omega)]; rfl
 | cons x q =>
   rw [hq] at hlen e2
   simp only [List.length_cons] at hlen
   rw [if_pos (by omega), atI_nat]
   have e3 : u[(loA cmpV d u).length]? = some x := by
     have : (loA cmpV d u ++ x :: q)[(loA cmpV d u).length]? = some x := by simp
     rw [e2] at this
     exact this
   rw [e3]
   simp only [Option.bind_some, valueCompare_t]
   rfl
def bagAt (l : List Item1) (p : Path) : List Val := (atM l p 2).map fun x => x.2.1.2.2.1
theorem bagValues_t {l : List Item1} {p : Path} (hl : LowI l) : zcc l p = some (valsU (bagAt l p)) := by
 unfold zcc bagAt
 rw [at_t hl]
 have hlow := (atM_low (p := p) (leaf := 2) hl).len
 generalize atM l p 2 = q at hlow
 simp only [Option.bind_some]
 have loop := loop_list (S := List Val) (f := zcc_l3 q) (l := q) (fun i o => ((i : Int), o, ())) (fun _ x o => .inl (putU cmpV o x.2.1.2.2.1)) (fun o => o) (fun i o => riseA cmpV o ∧ o.length ≤ i) (fun i h o ho => by
   refine .inl ⟨_, rfl, ?_, putU_rises cv_cmp ho.1, by have := putU_len (c := cmpV) (o := o) (v := q[i].2.1.2.2.1); have := ho.2; omega⟩
   have ho2 := ho.2
   unfold zcc_l3
   simp only [cond_dec]
   rw [if_pos (by omega), atI_lt h]
   simp only [Option.bind_some, vsearch_t (show o.length < 1000000 by omega) ho.1]
   rw [wrap64 (by omega) (by omega)]
   generalize q[i].2.1.2.2.1 = v
   have e : loA cmpV v o ++ hiA cmpV v o = o := lohiA
   have ins : insT o ((loA cmpV v o).length : Int) [v] = some (loA cmpV v o ++ v :: hiA cmpV v o) := by
     have := ins_atU (p := loA cmpV v o) (q := hiA cmpV v o) (y := v) (by rw [e]; omega)
     rwa [e] at this
   unfold zah putU
   cases hq : hiA cmpV v o with
   | nil =>
     rw [hq] at ins
     simp only [hereV, Bool.not_false, cond_true, ins, Option.map_some, Option.bind_some]; rfl
   | cons y r =>
     rw [hq] at ins
     simp only [hereV]
     by_cases h0 : cmpV y v = 0
     · rw [decide_eq_true h0, Bool.not_true, cond_false, if_pos h0]; rfl
     · rw [decide_eq_false h0, Bool.not_false, cond_true, if_neg h0, ins]; rfl) (fun o _ => by
   unfold zcc_l3
   simp only [cond_dec]
   rw [if_neg (by omega)]) [] ⟨List.Pairwise.nil, by simp⟩
 rw [show ((0 : Int), ([] : List Val), ()) = (((0 : Nat) : Int), [], ()) from rfl, loop, foldE_inl, valsU_uniq, ← put_uniq cv_cmp, List.foldl_map]
theorem refBag_t {l : List Item1} {p : Path} (hl : LowI l) (hv : ∀ x ∈ l, x.2.1.2.2.1.2.2.1.length < 1000000) : zba l p = some (valsU (bagAt l p)) := by
 unfold zba bagAt
 rw [refAt_t hl]
 have hlow := (atM_low (p := p) (leaf := 2) hl).len
 have hq : ∀ x ∈ atM l p 2, x.2.1.2.2.1.2.2.1.length < 1000000 := fun x hx => hv x (List.mem_filter.1 hx).1
 generalize atM l p 2 = q at hlow hq
 simp only [Option.bind_some]
 have loop := loop_list (S := List Val) (f := zba_l4 q) (l := q) (fun i o => (o, (i : Int), ())) (fun _ x o => .inl (insV o x.2.1.2.2.1)) (fun o => o) (fun i o => riseV o ∧ o.length ≤ i) (fun i h o ho => by
   refine .inl ⟨_, rfl, ?_, insV_rises ho.1, by have := insV_len (v := q[i].2.1.2.2.1) (o := o); have := ho.2; omega⟩
   unfold zba_l4
   simp only [cond_dec]
   rw [if_pos (by omega), atI_lt h]
   have := ho.2
   simp only [Option.bind_some, refInsert_t (show o.length < 1000000 by omega) (hq _ (List.getElem_mem h)) ho.1]
   rw [wrap64 (by omega) (by omega)]; rfl) (fun o _ => by
   unfold zba_l4
   simp only [cond_dec]
   rw [if_neg (by omega)]) [] ⟨List.Pairwise.nil, by simp⟩
 rw [show (([] : List Val), (0 : Int), ()) = (([] : List Val), ((0 : Nat) : Int), ()) from rfl, loop, foldE_inl, valsU, List.foldl_map]
def sumI (q : List Item1) : Int := q.foldl (fun n x => n + x.2.1.2.2.2.1) 0
def smallN (q : List Item1) : Prop := ∀ x ∈ q, -2147483647 ≤ x.2.1.2.2.2.1 ∧ x.2.1.2.2.2.1 ≤ 2147483647
theorem sum_t {l : List Item1} {p : Path} (hl : LowI l) (hn : smallN (atM l p 3)) : zcw l p = some (sumI (atM l p 3)) := by
 unfold zcw
 rw [at_t hl]
 have hlow := (atM_low (p := p) (leaf := 3) hl).len
 generalize atM l p 3 = q at hlow hn
 simp only [Option.bind_some]
 have loop := loop_list (S := Int) (f := zcw_l3 q) (l := q) (fun i n => (n, (i : Int), ())) (fun _ x n => .inl (n + x.2.1.2.2.2.1)) (fun n => n) (fun i n => -2147483648 * (i : Int) ≤ n ∧ n ≤ 2147483648 * (i : Int)) (fun i h n hb => by
   have hx := hn _ (List.getElem_mem h)
   refine .inl ⟨_, rfl, ?_, by constructor <;> omega⟩
   unfold zcw_l3
   simp only [cond_dec]
   rw [if_pos (by omega), atI_lt h]
   simp only [Option.bind_some]
   rw [wrap64 (n := (i : Int) + 1) (by omega) (by omega), wrap64 (by omega) (by omega)]; rfl) (fun n _ => by
   unfold zcw_l3
   simp only [cond_dec]
   rw [if_neg (by omega)]) 0 (by omega)
 rw [foldE_inl] at loop
 exact loop
def upI (q : List Item1) (s : Int × Int) : Int × Int := q.foldl (fun s x => (if x.2.1.2.2.2.1 > 0 then s.1 + x.2.1.2.2.2.1 else s.1, if x.2.1.2.2.2.1 < 0 then s.2 - x.2.1.2.2.2.1 else s.2)) s
theorem up_sum : ∀ (q : List Item1) (a b n : Int), n = a - b → (upI q (a, b)).1 - (upI q (a, b)).2 = q.foldl (fun n x => n + x.2.1.2.2.2.1) n
 | [], a, b, n, h => by rw [h]; rfl
 | x :: q, a, b, n, h => by
   unfold upI
   rw [List.foldl_cons, List.foldl_cons]
   refine up_sum q _ _ _ ?_
   split <;> split <;> omega
theorem parts_t {l : List Item1} {p : Path} (hl : LowI l) (hn : smallN (atM l p 3)) : ∃ a b, zb4 l p = some (a, b, ((atM l p 3).length : Int), ()) ∧ a - b = sumI (atM l p 3) ∧ 0 ≤ a ∧ a ≤ 2147483648 * 1000000 ∧ 0 ≤ b ∧ b ≤ 2147483648 * 1000000 := by
 unfold zb4
 rw [refAt_t hl]
 have hlow := (atM_low (p := p) (leaf := 3) hl).len
 generalize atM l p 3 = q at hlow hn
 simp only [Option.bind_some]
 have loop := loop_list (S := Int × Int) (f := zb4_l4 q) (l := q) (fun i s => (s.1, s.2, (i : Int), ())) (fun _ x s => .inl (if x.2.1.2.2.2.1 > 0 then s.1 + x.2.1.2.2.2.1 else s.1, if x.2.1.2.2.2.1 < 0 then s.2 - x.2.1.2.2.2.1 else s.2)) (fun s => (.inl (s.1, s.2, ()) : (Int × Int × Unit) ⊕ (Int × Int × Int × Unit))) (fun i s => (0 ≤ s.1 ∧ s.1 ≤ 2147483648 * (i : Int)) ∧ 0 ≤ s.2 ∧ s.2 ≤ 2147483648 * (i : Int)) (fun i h s hb => by
   have hx := hn _ (List.getElem_mem h)
   refine .inl ⟨_, rfl, ?_, by simp only; constructor <;> split <;> omega⟩
   unfold zb4_l4
   simp only [cond_dec]
   rw [if_pos (by omega), atI_lt h]
   simp only [Option.bind_some]
   rw [wrap64 (n := (i : Int) + 1) (by omega) (by omega)]
   by_cases h1 : q[i].2.1.2.2.2.1 > 0
   · rw [if_pos h1, bind_join_inl, if_neg (by omega), if_pos h1, if_neg (by omega), wrap64 (by omega) (by omega)]; rfl
   · rw [if_neg h1, bind_join_inl, if_neg h1]
     by_cases h2 : q[i].2.1.2.2.2.1 < 0
     · rw [if_pos h2, if_pos h2, wrap64 (by omega) (by omega)]; rfl
     · rw [if_neg h2, if_neg h2]; rfl) (fun s _ => by
   unfold zb4_l4
   simp only [cond_dec]
   rw [if_neg (by omega)]) (0, 0) (by simp)
 rw [foldE_inl] at loop
 have bound : ∀ (q : List Item1) (s : Int × Int) (k : Nat), smallN q → (0 ≤ s.1 ∧ s.1 ≤ 2147483648 * (k : Int)) → (0 ≤ s.2 ∧ s.2 ≤ 2147483648 * (k : Int)) → (0 ≤ (upI q s).1 ∧ (upI q s).1 ≤ 2147483648 * ((k + q.length : Nat) : Int)) ∧ (0 ≤ (upI q s).2 ∧ (upI q s).2 ≤ 2147483648 * ((k + q.length : Nat) : Int)) := by
   intro q
   induction q with
   | nil => intro s k _ h1 h2; exact ⟨h1, h2⟩
   | cons x q ih =>
     intro s k hn h1 h2
     have hx := hn x (List.mem_cons_self ..)
     unfold upI
     rw [List.foldl_cons, List.length_cons, show k + (q.length + 1) = (k + 1) + q.length by omega]
     exact ih _ (k + 1) (fun y hy => hn y (List.mem_cons_of_mem _ hy)) (by simp only; split <;> omega) (by simp only; split <;> omega)
 have hb := bound q (0, 0) 0 hn (by simp) (by simp)
 refine ⟨(upI q (0, 0)).1, (upI q (0, 0)).2, ?_, up_sum q 0 0 0 rfl, hb.1.1, by omega, hb.2.1, by omega⟩
 rw [show ((0 : Int), (0 : Int), (0 : Int), ()) = (((0, 0) : Int × Int).1, ((0, 0) : Int × Int).2, ((0 : Nat) : Int), ()) from rfl, loop, bind_join_inl]
 rfl
end Go.Proofs.YtgfpkhlabdcbmaaGreatDoor.Q
namespace Go.Proofs.YtgfpkhlabdcbmaaGreatDoor.Q
open Go.EM Go.TY Go.Proofs Go.Proofs.YtgfpkhlabdcbmaaGreatDoor.Y
def entM (l : List Item1) (p : Path) (k : Int) : Ent := (p, k, if k = 1 then valsU (valsAt l p) else if k = 2 then valsU (bagAt l p) else [], if k = 3 then sumI (atM l p 3) else 0, ())
theorem nums_ok {l : List Item1} {p : Path} (h : ItemsOk l) : smallN (atM l p 3) := fun x hx => by
 have h1 := (at_kind h x hx).1
 have h2 := ((atOk h).op x hx).1.num h1
 omega
theorem clone_t {p : Path} (hp : p.length < 1000000) : zak p = some p := by
 unfold zak cloneT
 rw [if_pos (by simp only [most]; omega)]
theorem viewAt_t {l : List Item1} {p : Path} {k : Int} (h : ItemsOk l) (hp : p.length < 1000000) : zdb l p k = some (entM l p k) := by
 have hl := itemsOk_low h
 unfold zdb entM
 rw [clone_t hp]
 simp only [Option.bind_some, cond_dec, regValues_t hl, bagValues_t hl, sum_t hl (nums_ok h)]
 by_cases h1 : k = 1
 · rw [if_pos h1, if_pos h1, if_neg (by omega)]
 · rw [if_neg h1, if_neg h1]
   by_cases h2 : k = 2
   · rw [if_pos h2, if_pos h2, if_neg (by omega)]
   · rw [if_neg h2, if_neg h2]
     by_cases h3 : k = 3
     · rw [if_pos h3, if_pos h3]
     · rw [if_neg h3, if_neg h3]
theorem refAtE_t {l : List Item1} {p : Path} {k : Int} (h : ItemsOk l) : zda l p k = some (entM l p k) := by
 have hl := itemsOk_low h
 have hv := itemsOk_vals h
 obtain ⟨a, b, h1, h2, h3, h4, h5, h6⟩ := parts_t (p := p) hl (nums_ok h)
 unfold zda entM
 simp only [Option.bind_some, cond_dec, refValues_t hl hv, refBag_t hl hv, h1]
 by_cases k1 : k = 1
 · subst k1
   simp
 · rw [if_neg k1, if_neg k1, bind_join_inl]
   by_cases k2 : k = 2
   · subst k2
     simp
   · rw [if_neg k2, if_neg k2, bind_join_inl]
     by_cases k3 : k = 3
     · rw [if_pos k3, if_pos k3, wrap64 (by omega) (by omega), h2]
     · rw [if_neg k3, if_neg k3]
def viewM (l : List Item1) : List Ent := (leavesM l).map fun y => entM l y.1 y.2.1
theorem flat_one {A B : Type} {g : A → B} : ∀ {l : List A}, (l.flatMap fun x => [g x]) = l.map g
 | [] => rfl
 | x :: l => by rw [List.flatMap_cons, List.map_cons, flat_one]; rfl
theorem leaf_short {l : List Item1} (h : ItemsOk l) {y : Leaf1} (hy : y ∈ leavesM l) : y.1.length ≤ 12 ∧ ∀ s ∈ y.1, s.length ≤ 120 := by
 obtain ⟨x, hx, rfl⟩ := leavesM_mem.1 hy
 have := (h.op x hx).2.1
 exact ⟨this.1, this.2.1⟩
theorem leaves_len {l : List Item1} (h : ItemsOk l) : (leavesM l).length ≤ 320 := by
 have h1 := uniq_len (c := cmpLf) (l.map leafOf)
 rw [List.length_map] at h1
 have := h.len
 unfold leavesM; omega
theorem viewOf_t {l : List Item1} (h : ItemsOk l) : zdc l = some (viewM l) := by
 have hlen := leaves_len h
 unfold zdc
 rw [leaves_t (itemsOk_low h)]
 simp only [Option.bind_some]
 have this := loop_map (f := zdc_l3 l (leavesM l)) (l := leavesM l) (fun i o => ((i : Int), o, ())) (fun y => [entM l y.1 y.2.1]) (fun o => o) 1 (fun x _ => Nat.le_refl _) (fun i hi o ho => by
   have hs := leaf_short h (List.getElem_mem hi)
   unfold zdc_l3
   simp only [cond_dec]
   rw [if_pos (by omega), atI_lt hi]
   simp only [Option.bind_some, viewAt_t h (show (leavesM l)[i].1.length < 1000000 by omega)]
   rw [wrap64 (by omega) (by omega), roomT_lt (by simp; omega)]; rfl) (fun o _ => by
   unfold zdc_l3
   simp only [cond_dec]
   rw [if_neg (by omega)])
 rw [show ((0 : Int), ([] : List Ent), ()) = (((0 : Nat) : Int), [], ()) from rfl, this, flat_one]
 rfl
theorem refOf_t {l : List Item1} (h : ItemsOk l) : zc6 l = some (viewM l) := by
 have hlen := leaves_len h
 unfold zc6
 rw [refLeaves_t (itemsOk_low h)]
 simp only [Option.bind_some]
 have this := loop_map (f := zc6_l4 l (leavesM l)) (l := leavesM l) (fun i o => ((i : Int), o, ())) (fun y => [entM l y.1 y.2.1]) (fun o => o) 1 (fun x _ => Nat.le_refl _) (fun i hi o ho => by
   unfold zc6_l4
   simp only [cond_dec]
   rw [if_pos (by omega), atI_lt hi]
   simp only [Option.bind_some, refAtE_t h]
   rw [wrap64 (by omega) (by omega), roomT_lt (by simp; omega)]; rfl) (fun o _ => by
   unfold zc6_l4
   simp only [cond_dec]
   rw [if_neg (by omega)])
 rw [show ((0 : Int), ([] : List Ent), ()) = (((0 : Nat) : Int), [], ()) from rfl, this, flat_one]
 rfl
theorem vals_right {l : List Item1} {p : Path} {k : Int} (h : ItemsOk l) (hk : k = 1 ∨ k = 2) : ∀ v ∈ (atM l p k).map (fun x => x.2.1.2.2.1), rightV v = true := fun v hv => by
 obtain ⟨x, hx, rfl⟩ := List.mem_map.1 hv
 have h1 := (at_kind h x hx).1
 exact ((atOk h).op x hx).1.val (by omega) (by omega)
theorem valsU_small {q : List Val} (hq : q.length ≤ 320) (hr : ∀ v ∈ q, rightV v = true) : (valsU q).length ≤ 400 ∧ ∀ v ∈ valsU q, rightV v = true := by
 constructor
 · have := valsU_len q []
   simp only [List.length_nil, Nat.zero_add] at this
   unfold valsU; omega
 · intro v hv
   exact hr v ((valsU_mem q v).1 hv)
theorem sum_in : ∀ (q : List Item1) (n : Int) (k : Nat), smallN q → (-2147483647 * (k : Int) ≤ n ∧ n ≤ 2147483647 * (k : Int)) → -2147483647 * ((k + q.length : Nat) : Int) ≤ q.foldl (fun n x => n + x.2.1.2.2.2.1) n ∧ q.foldl (fun n x => n + x.2.1.2.2.2.1) n ≤ 2147483647 * ((k + q.length : Nat) : Int)
 | [], n, k, _, h => h
 | x :: q, n, k, hn, h => by
   have hx := hn x (List.mem_cons_self ..)
   rw [List.foldl_cons, List.length_cons, show k + (q.length + 1) = (k + 1) + q.length by omega]
   exact sum_in q _ (k + 1) (fun y hy => hn y (List.mem_cons_of_mem _ hy)) (by omega)
theorem ent_small {l : List Item1} {p : Path} {k : Int} (h : ItemsOk l) (hp : p.length ≤ 12) (hs : ∀ s ∈ p, s.length ≤ 120) : smallE (entM l p k) ∧ inR (entM l p k).2.2.2.1 := by
 have hat : ∀ k, (atM l p k).length ≤ 320 := fun k => (atOk h).len
 refine ⟨⟨hp, hs, ?_⟩, ?_⟩
 · unfold entM
   simp only
   by_cases h1 : k = 1
   · rw [if_pos h1]
     exact valsU_small (by rw [valsAt, List.length_map]; exact hat 1) (vals_right h (.inl rfl))
   · rw [if_neg h1]
     by_cases h2 : k = 2
     · rw [if_pos h2]
       exact valsU_small (by rw [bagAt, List.length_map]; exact hat 2) (vals_right h (.inr rfl))
     · rw [if_neg h2]
       exact ⟨by simp, fun v hv => by cases hv⟩
 · unfold entM inR
   simp only
   have h1 := sum_in (atM l p 3) 0 0 (nums_ok h) (by simp)
   have := hat 3
   unfold sumI
   split <;> omega
theorem ent_low {l : List Item1} {p : Path} {k : Int} (h : ItemsOk l) (hp : p.length ≤ 12) (hs : ∀ s ∈ p, s.length ≤ 120) : lowE (entM l p k) := by
 have := (ent_small (k := k) h hp hs).1
 exact ⟨by have := this.1; omega, by have := this.2.2.1; omega⟩
theorem view_mem {l : List Item1} {e : Ent} (h : e ∈ viewM l) : ∃ y ∈ leavesM l, e = entM l y.1 y.2.1 := by
 obtain ⟨y, hy, rfl⟩ := List.mem_map.1 h
 exact ⟨y, hy, rfl⟩
theorem view_low {l : List Item1} (h : ItemsOk l) : ∀ e ∈ viewM l, lowE e := fun e he => by
 obtain ⟨y, hy, rfl⟩ := view_mem he
 have := leaf_short h hy
 exact ent_low h this.1 this.2
theorem view_small {l : List Item1} (h : ItemsOk l) : ∀ e ∈ viewM l, smallE e ∧ inR e.2.2.2.1 := fun e he => by
 obtain ⟨y, hy, rfl⟩ := view_mem he
 have := leaf_short h hy
 exact ent_small h this.1 this.2
theorem view_len {l : List Item1} (h : ItemsOk l) : (viewM l).length ≤ 320 := by unfold viewM; rw [List.length_map]; exact leaves_len h
theorem viewSameAll_t {l m : List Ent} (hl : l.length < 1000000) (hs : ∀ e ∈ l, lowE e) : zcu l m = some (decide (l = m)) := by
 unfold zcu zaa
 by_cases hlen : l.length = m.length
 · rw [decide_eq_true (by omega)]
   simp only [Bool.not_true, cond_false]
   have := loop_all2 (f := zaa_l4 l m) (l := l) (m := m) (fun i => ((i : Int), ())) (fun x y => decide (x = y)) true false hlen (fun i h h' => by
     unfold zaa_l4
     simp only [cond_dec]
     rw [if_pos (by omega), atI_lt h, atI_lt h']
     simp only [Option.bind_some, viewSame_t (hs _ (List.getElem_mem h)), cond_ndec]
     rw [wrap64 (by omega) (by omega)]
     by_cases e : l[i] = m[i]
     · rw [if_pos e, if_pos (decide_eq_true e)]; rfl
     · rw [if_neg e, if_neg (by simpa using e)]) (by
     unfold zaa_l4
     simp only [cond_dec]
     rw [if_neg (by omega)])
   rw [all2_dec, ite_bool] at this
   rw [show ((0 : Int), ()) = (((0 : Nat) : Int), ()) from rfl, this]; rfl
 · rw [decide_eq_false (by omega)]
   have : l ≠ m := fun e => hlen (by rw [e])
   rw [decide_eq_false this]; rfl
theorem theirs18_t {l : List Ent} (hl : l.length < 1000000) : zbg l = some l := by
 have this := loop_map (f := zbg_l3 l) (l := l) (fun i o => ((i : Int), o, ())) (fun y => [y]) (fun o => o) 1 (fun x _ => Nat.le_refl _) (fun i hi o ho => by
   unfold zbg_l3
   simp only [cond_dec]
   rw [if_pos (by omega), atI_lt hi]
   simp only [Option.bind_some]
   rw [wrap64 (by omega) (by omega), roomT_lt (by simp; omega)]; rfl) (fun o _ => by
   unfold zbg_l3
   simp only [cond_dec]
   rw [if_neg (by omega)])
 unfold zbg
 rw [show ((0 : Int), ([] : List Ent), ()) = (((0 : Nat) : Int), [], ()) from rfl, this, flat_one (g := fun y : Ent => y), List.map_id']
def textL (l : List Ent) : List UInt8 := l.flatMap fun e => lineM e ++ [10]
theorem text_fold {R : Type} {fin : List UInt8 × Bool → R} : ∀ (l : List Ent) (i : Nat) (s : List UInt8 × Bool), foldE (fun _ e s => .inl (s.1 ++ (lineM e ++ [10]), true)) fin i l s = fin (s.1 ++ textL l, if l = [] then s.2 else true)
 | [], i, s => by simp [foldE, textL]
 | e :: l, i, s => by
   unfold foldE
   simp only
   rw [text_fold l (i + 1)]
   have e1 : (s.1 ++ (lineM e ++ [10])) ++ textL l = s.1 ++ textL (e :: l) := by simp [textL]
   have e2 : (if l = [] then true else true) = true := by split <;> rfl
   have e3 : ¬ (e :: l) = [] := by intro h; cases h
   rw [if_neg e3]
   simp only
   rw [e1, e2]
theorem viewText_t {l : List Ent} (hl : l.length ≤ 320) (hs : ∀ e ∈ l, smallE e ∧ inR e.2.2.2.1) : zc1 l = some (textL l) := by
 have loop := loop_list (S := List UInt8 × Bool) (f := zc1_l3 l) (l := l) (fun i s => ((i : Int), bI s.1, (s.2, (), ()), ())) (fun _ e s => .inl (s.1 ++ (lineM e ++ [10]), true)) (fun s => s.1) (fun i s => s.1.length ≤ i * 600001) (fun i hi s hb => by
   have he := hs _ (List.getElem_mem hi)
   have hll := lineM_len he.1 he.2
   refine .inl ⟨_, rfl, ?_, by simp only [List.length_append, List.length_cons, List.length_nil]; omega⟩
   unfold zc1_l3
   simp only [cond_dec]
   rw [if_pos (by omega), atI_lt hi]
   simp only [Option.bind_some, viewLine_t he.1 he.2]
   rw [catT_some (by simp; omega)]
   simp only [Option.bind_some]
   rw [writeString_t (by simp only [List.length_append, List.length_cons, List.length_nil]; omega), wrap64 (by omega) (by omega)]; rfl) (fun s hb => by
   unfold zc1_l3
   simp only [cond_dec]
   rw [if_neg (by omega), string_t (by omega)]; rfl) ([], false) (by simp)
 rw [text_fold] at loop
 unfold zc1
 rw [show ((0 : Int), ([] : List Int), (false, (), ()), ()) = (((0 : Nat) : Int), bI (([], false) : List UInt8 × Bool).1, ((([], false) : List UInt8 × Bool).2, (), ()), ()) from rfl, loop, List.nil_append]
theorem text_fold2 {R : Type} {fin : List UInt8 → R} : ∀ (l : List Ent) (i : Nat) (s : List UInt8), foldE (fun _ e s => .inl (s ++ (lineM e ++ [10]))) fin i l s = fin (s ++ textL l)
 | [], i, s => by simp [foldE, textL]
 | e :: l, i, s => by
   unfold foldE
   simp only
   rw [text_fold2 l (i + 1)]
   congr 1
   simp [textL]
theorem refText18_t {l : List Ent} (hl : l.length ≤ 320) (hs : ∀ e ∈ l, smallE e ∧ inR e.2.2.2.1) : zco l = some (textL l) := by
 have loop := loop_list (S := List UInt8) (f := zco_l3 l) (l := l) (fun i s => (s, (i : Int), ())) (fun _ e s => .inl (s ++ (lineM e ++ [10]))) (fun s => s) (fun i s => s.length ≤ i * 600001) (fun i hi s hb => by
   have he := hs _ (List.getElem_mem hi)
   have hll := lineM_len he.1 he.2
   refine .inl ⟨_, rfl, ?_, by simp only [List.length_append, List.length_cons, List.length_nil]; omega⟩
   unfold zco_l3
   simp only [cond_dec]
   rw [if_pos (by omega), atI_lt hi]
   simp only [Option.bind_some, refLine_t he.1 he.2]
   rw [catT_some (by omega)]
   simp only [Option.bind_some]
   rw [catT_some (by simp only [List.length_append, List.length_cons, List.length_nil]; omega), wrap64 (by omega) (by omega)]
   simp only [Option.bind_some, List.append_assoc]; rfl) (fun s hb => by
   unfold zco_l3
   simp only [cond_dec]
   rw [if_neg (by omega)]) [] (by simp)
 rw [text_fold2] at loop
 unfold zco
 rw [show (([] : List UInt8), (0 : Int), ()) = ([], ((0 : Nat) : Int), ()) from rfl, loop, List.nil_append]
def exV : List Txn1 := [((0, 1, ()), 0, 1, false, [(1, [[97]], (1, 2, [], ()), 0, [], ()), (1, [[97]], (1, 1, [], ()), 0, [], ())], ())]
theorem exV_low : LowP exV := by
 unfold exV
 refine ⟨⟨by decide, ?_, ?_⟩, ?_⟩
 · intro t ht
   simp only [List.mem_cons, List.mem_nil_iff, or_false] at ht
   subst ht; decide
 · intro t ht o ho
   simp only [List.mem_cons, List.mem_nil_iff, or_false] at ht
   subst ht
   simp only [List.mem_cons, List.mem_nil_iff, or_false] at ho
   rcases ho with rfl | rfl <;> decide
 · intro t ht o ho
   simp only [List.mem_cons, List.mem_nil_iff, or_false] at ht
   subst ht
   simp only [List.mem_cons, List.mem_nil_iff, or_false] at ho
   rcases ho with rfl | rfl <;> exact ⟨⟨by decide, by decide⟩, by decide⟩
end Go.Proofs.YtgfpkhlabdcbmaaGreatDoor.Q
namespace Go.Proofs.YtgfpkhlabdcbmaaGreatDoor.Q
open Go.EM Go.TY Go.Proofs Go.Proofs.YtgfpkhlabdcbmaaGreatDoor.Y
theorem exV_items : ItemsOk (allM exV []) := by
 have e : allM exV [] = [(((0, 1, ()), 0, ()), (1, [[97]], (1, 2, [], ()), 0, [], ()), 1, ()), (((0, 1, ()), 1, ()), (1, [[97]], (1, 1, [], ()), 0, [], ()), 1, ())] := rfl
 rw [e]
 have hv : ∀ n : Int, -2147483647 ≤ n → n ≤ 2147483647 → rightV (1, n, [], ()) = true := fun n h1 h2 => by
   unfold rightV; rw [decide_eq_true_eq]; exact .inl ⟨rfl, rfl, h1, h2⟩
 have hr : runesM [97] = some [97] := by
   rw [runesM_step (by simp) (by decide)]
   have e1 : ([97] : List UInt8).drop (charM [97]).2 = [] := rfl
   rw [e1, runesM_nil]; rfl
 have hname : nameM [97] = true := by unfold nameM; rw [hr]; rfl
 have hp : checkM [[97]] = 0 := by
   unfold checkM
   rw [if_neg (by simp), if_neg (by simp), if_pos (by simp [hname])]
 have hs : refsM [] = true := by unfold refsM; rw [if_pos (fun i hi => by cases hi)]
 refine ⟨by simp, fun x hx => ?_⟩
 simp only [List.mem_cons, List.mem_nil_iff, or_false] at hx
 rcases hx with rfl | rfl
 · exact ⟨⟨⟨by decide, by decide⟩, hp, fun _ _ => hv 2 (by omega) (by omega), (fun h => by rcases h with h | h <;> exact absurd h (by decide)), (fun h => absurd h (by decide)), fun _ => rfl, fun _ => rfl, ⟨by decide, hs⟩⟩, ⟨by simp, by simp, by simp, by simp⟩, rfl⟩
 · exact ⟨⟨⟨by decide, by decide⟩, hp, fun _ _ => hv 1 (by omega) (by omega), (fun h => by rcases h with h | h <;> exact absurd h (by decide)), (fun h => absurd h (by decide)), fun _ => rfl, fun _ => rfl, ⟨by decide, hs⟩⟩, ⟨by simp, by simp, by simp, by simp⟩, rfl⟩
theorem awake18 : zb1 = some true := by
 unfold zb1
 have e : ∀ n : Int, zc2 n = some (1, n, [], ()) := fun n => rfl
 have ha := all_t (l := exV) (u := []) exV_low.low nil_low
 have hi := exV_items
 simp only [e, Option.bind_some]
 unfold exV at ha hi
 rw [ha]
 simp only [Option.bind_some, viewOf_t hi, viewText_t (view_len hi) (view_small hi)]
 congr 1
 refine decide_eq_true ?_
 have ev : viewM (allM exV []) = [([[97]], 1, [(1, 1, [], ()), (1, 2, [], ())], 0, ())] := rfl
 unfold exV at ev
 rw [ev]
 have t1 : textV (1, 1, [], ()) = [49] := by
   show Lib.itoa ((1 : Nat) : Int) = [49]
   rw [itoa_pos, dec_small (by omega)]; rfl
 have t2 : textV (1, 2, [], ()) = [50] := by
   show Lib.itoa ((2 : Nat) : Int) = [50]
   rw [itoa_pos, dec_small (by omega)]; rfl
 unfold textL lineM valsM
 simp only [List.flatMap_cons, List.flatMap_nil, List.map_cons, List.map_nil, t1, t2]
 rfl
theorem same_refl {l : List Ent} (hl : l.length < 1000000) (hs : ∀ e ∈ l, lowE e) : zcu l l = some true := by rw [viewSameAll_t hl hs, decide_eq_true rfl]
theorem shortP_iff {p : Path} : (decide (p.length ≤ 12) && p.all fun x => decide (x.length ≤ 120)) = true → p.length ≤ 12 ∧ ∀ s ∈ p, s.length ≤ 120 := by
 simp only [Bool.and_eq_true, decide_eq_true_eq, List.all_eq_true]
 exact id
theorem viewTells_law : ∀ v : zaw_T.ps.V, okV zaw_T.ps v → zaw_T.fn v = some true := fun v _ => by
 obtain ⟨l, u, p, k, ⟨⟩⟩ := v
 show zaw l u p k = some true
 unfold zaw
 obtain ⟨b, hb, hg⟩ := good13_t l u
 rw [hb]
 simp only [Option.bind_some, awake18, shortP_t]
 cases b with
 | false => rfl
 | true =>
   obtain ⟨h1, h2⟩ := hg rfl
   simp only [Bool.not_true, cond_false]
   cases hsp : (decide (p.length ≤ 12) && p.all fun x => decide (x.length ≤ 120)) with
   | false => rfl
   | true =>
     obtain ⟨hp1, hp2⟩ := shortP_iff hsp
     have hp := txns_low h1 (by omega)
     have hu := counts_low h2
     have hi := items_ok (u := u) h1
     generalize hx : allM l u = x at hi
     have hlen := view_len hi
     have hlow := view_low hi
     have hsm := view_small hi
     have he := ent_low (k := k) hi hp1 hp2
     simp only [Bool.not_true, cond_false, all_t hp.low hu, refAll_t hp.low hu, hx, Option.bind_some, viewOf_t hi, refOf_t hi, viewAt_t (k := k) hi (show p.length < 1000000 by omega)]
     have loop := loop_all (f := zaw_l7 (viewM x) (viewM x)) (l := viewM x) (fun i => ((i : Int), entM x p k, ())) (fun _ => true) (.inl (entM x p k, ()) : (Ent × Unit) ⊕ Bool) (.inr false) (fun i h => by
       have hse := hsm _ (List.getElem_mem h)
       unfold zaw_l7
       simp only [cond_dec]
       rw [if_pos (by omega), if_pos (by omega), atI_lt h]
       simp only [Option.bind_some, viewLine_t hse.1 hse.2, refLine_t hse.1 hse.2, decide_true, Bool.not_true, cond_false]
       rw [wrap64 (by omega) (by omega), if_pos trivial]; rfl) (by
       unfold zaw_l7
       simp only [cond_dec]
       rw [if_neg (by omega)])
     rw [if_pos (by simp)] at loop
     rw [show ((0 : Int), entM x p k, ()) = (((0 : Nat) : Int), entM x p k, ()) from rfl, loop, bind_join_inl]
     have t1 := theirs18_t (l := viewM x) (by omega)
     have t2 := theirs18_t (l := [entM x p k]) (by simp)
     have s1 := ref18Same_t (l := viewM x) (m := viewM x) (by omega) hlow
     have s2 := ref18Same_t (l := [entM x p k]) (m := [entM x p k]) (by simp) (fun e h => by rw [List.mem_singleton] at h; rw [h]; exact he)
     simp only [t1, s1, decide_true, Option.bind_some, cond_true, viewText_t hlen hsm, refText18_t hlen hsm, same_refl (show (viewM x).length < 1000000 by omega) hlow, t2, refAtE_t hi, s2]
end Go.Proofs.YtgfpkhlabdcbmaaGreatDoor.Q
