import Derived.Test.YtgfpkhlabdcbmaaGreatDoorQqa
set_option linter.unusedVariables false
set_option linter.unusedSimpArgs false
set_option maxRecDepth 100000
namespace Go.Proofs.YtgfpkhlabdcbmaaGreatDoor.Q
open Go.EM Go.TY Go.Proofs Go.Proofs.YtgfpkhlabdcbmaaGreatDoor.Y
structure OpOk (o : Op1) : Prop where
 kind : 1 ≤ o.1 ∧ o.1 ≤ 5
 path : checkM o.2.1 = 0
 val : o.1 ≠ 3 → o.1 ≠ 5 → rightV o.2.2.1 = true
 noval : o.1 = 3 ∨ o.1 = 5 → o.2.2.1 = zeroV
 num : o.1 = 3 → o.2.2.2.1 ≠ 0 ∧ o.2.2.2.1 ≤ 2147483647 ∧ -2147483647 ≤ o.2.2.2.1
 nonum : o.1 ≠ 3 → o.2.2.2.1 = 0
 noseen : o.1 = 2 ∨ o.1 = 3 → o.2.2.2.2.1 = []
 seen : o.2.2.2.2.1.length ≤ 256 ∧ refsM o.2.2.2.2.1 = true
theorem opM_ok {o : Op1} (h : opM o = 0) : OpOk o := by
 unfold opM at h
 by_cases a1 : o.1 < 1 ∨ 5 < o.1
 · rw [if_pos a1] at h; omega
 rw [if_neg a1] at h
 by_cases a2 : checkM o.2.1 ≠ 0
 · rw [if_pos a2] at h; exact absurd h a2
 rw [if_neg a2] at h
 by_cases a3 : (o.1 = 3 ∨ o.1 = 5) ∧ o.2.2.1 ≠ zeroV
 · rw [if_pos a3] at h; omega
 rw [if_neg a3] at h
 by_cases a4 : ¬ (o.1 = 3 ∨ o.1 = 5) ∧ rightV o.2.2.1 = false
 · rw [if_pos a4] at h; omega
 rw [if_neg a4] at h
 by_cases a5 : o.1 ≠ 3 ∧ o.2.2.2.1 ≠ 0
 · rw [if_pos a5] at h; omega
 rw [if_neg a5] at h
 by_cases a6 : o.1 = 3 ∧ (o.2.2.2.1 = 0 ∨ o.2.2.2.1 > 2147483647 ∨ o.2.2.2.1 < -2147483647)
 · rw [if_pos a6] at h; omega
 rw [if_neg a6] at h
 by_cases a7 : (o.1 = 2 ∨ o.1 = 3) ∧ 0 < o.2.2.2.2.1.length
 · rw [if_pos a7] at h; omega
 rw [if_neg a7] at h
 by_cases a8 : 256 < o.2.2.2.2.1.length
 · rw [if_pos a8] at h; omega
 rw [if_neg a8] at h
 by_cases a9 : refsM o.2.2.2.2.1 = true
 · refine ⟨by omega, Classical.not_not.1 a2, fun h1 h2 => ?_, fun h1 => ?_, fun h1 => ?_, fun h1 => ?_, fun h1 => ?_, by omega, a9⟩
   · cases hr : rightV o.2.2.1 with
     | true => rfl
     | false => exact absurd ⟨by omega, hr⟩ a4
   · exact Classical.not_not.1 fun h2 => a3 ⟨h1, h2⟩
   · exact ⟨fun h2 => a6 ⟨h1, .inl h2⟩, Int.not_lt.1 fun h2 => a6 ⟨h1, .inr (.inl h2)⟩, Int.not_lt.1 fun h2 => a6 ⟨h1, .inr (.inr h2)⟩⟩
   · exact Classical.not_not.1 fun h2 => a5 ⟨h1, h2⟩
   · exact List.length_eq_zero_iff.1 (by omega)
 · rw [if_neg a9] at h; omega
structure ItemsOk (l : List Item1) : Prop where
 len : l.length ≤ 320
 op : ∀ x ∈ l, OpOk x.2.1 ∧ shortO x.2.1 ∧ putKind x.2.1.1 = true
theorem items_ok {l : List Txn1} {u : List Ref1} (h : TxnsOk l 20) : ItemsOk (allM l u) := by
 constructor
 · have : (allM l u).length ≤ l.length * 16 := by
     unfold allM
     refine flat_len fun t ht => ?_
     split
     · exact Nat.le_trans items_len (h.all t ht).len
     · simp
   have := h.len; omega
 · intro x hx
   obtain ⟨t, ht, j, o, ho, hk, _, _, rfl⟩ := allM_mem hx
   obtain ⟨h1, h2⟩ := (h.all t ht).ops o ho
   refine ⟨?_, h1, hk⟩
   rcases h2 with h2 | ⟨_, h2⟩
   · exact opM_ok h2
   · unfold goneM at h2
     unfold putKind at hk
     simp only [decide_eq_true_eq] at h2 hk
     omega
theorem itemsOk_low {l : List Item1} (h : ItemsOk l) : LowI l := ⟨by have := h.len; omega, fun x hx => by
 have := (h.op x hx).2.1
 exact ⟨by have := this.1; omega, fun s hs => by have := this.2.1 s hs; omega⟩⟩
theorem atOk {l : List Item1} {p : Path} {k : Int} (h : ItemsOk l) : ItemsOk (atM l p k) := ⟨Nat.le_trans (List.length_filter_le ..) h.len, fun x hx => h.op x (List.mem_filter.1 hx).1⟩
theorem leaf_kind {k : Int} (h : putKind k = true) : leafM k = k := by
 unfold putKind at h
 simp only [decide_eq_true_eq] at h
 unfold leafM
 split
 · omega
 · split
   · omega
   · split <;> omega
theorem at_kind {l : List Item1} {p : Path} {k : Int} (h : ItemsOk l) : ∀ x ∈ atM l p k, x.2.1.1 = k ∧ x.2.1.2.1 = p := fun x hx => by
 obtain ⟨h1, h2⟩ := List.mem_filter.1 hx
 unfold isAt at h2
 simp only [Bool.and_eq_true, decide_eq_true_eq] at h2
 exact ⟨by rw [← leaf_kind (h.op x h1).2.2]; exact h2.1, h2.2⟩
theorem ins_atU {A : Type} {p q : List A} {y : A} (h : (p ++ q).length < 1000000) : insT (p ++ q) (p.length : Int) [y] = some (p ++ y :: q) := by
 simp only [List.length_append] at h
 unfold insT
 rw [if_pos ⟨by omega, by simp only [List.length_append]; omega, by simp, by simp only [List.length_append, List.length_cons, List.length_nil]; unfold most; omega⟩]
 simp
theorem valsU_uniq (l : List Val) : valsU l = uniq cmpV l := by
 refine rises_unique cv_cmp (key := fun v : Val => v) (valsU_rises l) (uniq_rises cv_cmp l) fun x => ?_
 rw [valsU_mem, uniq_mem cv_cmp]
theorem vsearch_loop {u : List Val} {d : Val} (hl : u.length < 1000000) (hr : riseA cmpV u) : ∀ (k i j : Nat), j - i ≤ k → i ≤ (loA cmpV d u).length → (loA cmpV d u).length ≤ j → j ≤ u.length →
   loopT (zab_l3 u d) ((i : Int), (j : Int), ()) = some (.inl (((loA cmpV d u).length : Int), ())) := by
 intro k
 induction k with
 | zero =>
   intro i j hk h1 h2 h3
   refine loopT_inr ?_
   unfold zab_l3
   simp only [cond_dec]
   rw [if_neg (by omega), show (loA cmpV d u).length = i by omega]
 | succ k ih =>
   intro i j hk h1 h2 h3
   by_cases hij : i < j
   · have hh : (i + j) / 2 < u.length := by omega
     have turn : zab_l3 u d ((i : Int), (j : Int), ()) = if cmpV u[(i + j) / 2] d < 0 then some (.inl ((((i + j) / 2 + 1 : Nat) : Int), (j : Int), ())) else some (.inl ((i : Int), (((i + j) / 2 : Nat) : Int), ())) := by
       unfold zab_l3
       simp only [cond_dec]
       rw [if_pos (by omega), show (i : Int) + (j : Int) = ((i + j : Nat) : Int) by omega, half_t (by omega)]
       simp only [Option.bind_some]
       rw [wrap64 (n := (((i + j) / 2 : Nat) : Int)) (by omega) (by omega), atI_lt hh]
       simp only [Option.bind_some, valueCompare_t]
       rw [wrap64 (by omega) (by omega)]; rfl
     by_cases hn : (i + j) / 2 < (loA cmpV d u).length
     · rw [if_pos (at_lo (c := cmpV) (key := fun v : Val => v) hh hn)] at turn
       rw [loopT_inl turn]
       exact ih _ _ (by omega) (by omega) h2 h3
     · have := at_hi cv_cmp (key := fun v : Val => v) hr hh (k := d) (Nat.le_of_not_lt hn)
       rw [if_neg (by omega)] at turn
       rw [loopT_inl turn]
       exact ih _ _ (by omega) h1 (by omega) (by omega)
   · refine loopT_inr ?_
     unfold zab_l3
     simp only [cond_dec]
     rw [if_neg (by omega), show (loA cmpV d u).length = i by omega]
def hereV (q : List Val) (d : Val) : Bool := match q with
 | [] => false
 | x :: _ => decide (cmpV x d = 0)
theorem vsearch_t {u : List Val} {d : Val} (hl : u.length < 1000000) (hr : riseA cmpV u) :
   zab u d () = some (((loA cmpV d u).length : Int), hereV (hiA cmpV d u) d, ()) := by
 have e2 : loA cmpV d u ++ hiA cmpV d u = u := lohiA
 have hlen : (loA cmpV d u).length + (hiA cmpV d u).length = u.length := by rw [← List.length_append, e2]
 unfold zab
 have := vsearch_loop (d := d) hl hr u.length 0 u.length (by omega) (by omega) (by omega) (by omega)
 rw [show ((0 : Int), (u.length : Int), ()) = (((0 : Nat) : Int), (u.length : Int), ()) from rfl, this, bind_join_inl]
 simp only [cond_dec]
 cases hq : hiA cmpV d u with
 | nil =>
   rw [hq] at hlen
   simp only [List.length_nil] at hlen
   rw [if_neg (by omega)]; rfl
 | cons x q =>
   rw [hq] at hlen e2
   simp only [List.length_cons] at hlen
   rw [if_pos (by omega), atI_nat]
   have e3 : u[(loA cmpV d u).length]? = some x := by
     have : (loA cmpV d u ++ x :: q)[(loA cmpV d u).length]? = some x := by simp
     rw [e2] at this
     exact this
   rw [e3]
   simp only [Option.bind_some, valueCompare_t]
   rfl
def bagAt (l : List Item1) (p : Path) : List Val := (atM l p 2).map fun x => x.2.1.2.2.1
theorem bagValues_t {l : List Item1} {p : Path} (hl : LowI l) : zb4 l p = some (valsU (bagAt l p)) := by
 unfold zb4 bagAt
 rw [at_t hl]
 have hlow := (atM_low (p := p) (leaf := 2) hl).len
 generalize atM l p 2 = q at hlow
 simp only [Option.bind_some]
 have loop := loop_list (S := List Val) (f := zb4_l3 q) (l := q) (fun i o => ((i : Int), o, ())) (fun _ x o => .inl (putU cmpV o x.2.1.2.2.1)) (fun o => o) (fun i o => riseA cmpV o ∧ o.length ≤ i) (fun i h o ho => by
   refine .inl ⟨_, rfl, ?_, putU_rises cv_cmp ho.1, by have := putU_len (c := cmpV) (o := o) (v := q[i].2.1.2.2.1); have := ho.2; omega⟩
   have ho2 := ho.2
   unfold zb4_l3
   simp only [cond_dec]
   rw [if_pos (by omega), atI_lt h]
   simp only [Option.bind_some, vsearch_t (show o.length < 1000000 by omega) ho.1]
   rw [wrap64 (by omega) (by omega)]
   generalize q[i].2.1.2.2.1 = v
   have e : loA cmpV v o ++ hiA cmpV v o = o := lohiA
   have ins : insT o ((loA cmpV v o).length : Int) [v] = some (loA cmpV v o ++ v :: hiA cmpV v o) := by
     have := ins_atU (p := loA cmpV v o) (q := hiA cmpV v o) (y := v) (by rw [e]; omega)
     rwa [e] at this
   unfold zaj putU
   cases hq : hiA cmpV v o with
   | nil =>
     rw [hq] at ins
     simp only [hereV, Bool.not_false, cond_true, ins, Option.map_some, Option.bind_some]; rfl
   | cons y r =>
     rw [hq] at ins
     simp only [hereV]
     by_cases h0 : cmpV y v = 0
     · rw [decide_eq_true h0, Bool.not_true, cond_false, if_pos h0]; rfl
     · rw [decide_eq_false h0, Bool.not_false, cond_true, if_neg h0, ins]; rfl) (fun o _ => by
   unfold zb4_l3
   simp only [cond_dec]
   rw [if_neg (by omega)]) [] ⟨List.Pairwise.nil, by simp⟩
 rw [show ((0 : Int), ([] : List Val), ()) = (((0 : Nat) : Int), [], ()) from rfl, loop, foldE_inl, valsU_uniq, ← put_uniq cv_cmp, List.foldl_map]
def sumI (q : List Item1) : Int := q.foldl (fun n x => n + x.2.1.2.2.2.1) 0
def smallN (q : List Item1) : Prop := ∀ x ∈ q, -2147483647 ≤ x.2.1.2.2.2.1 ∧ x.2.1.2.2.2.1 ≤ 2147483647
theorem sum_t {l : List Item1} {p : Path} (hl : LowI l) (hn : smallN (atM l p 3)) : zb6 l p = some (sumI (atM l p 3)) := by
 unfold zb6
 rw [at_t hl]
 have hlow := (atM_low (p := p) (leaf := 3) hl).len
 generalize atM l p 3 = q at hlow hn
 simp only [Option.bind_some]
 have loop := loop_list (S := Int) (f := zb6_l3 q) (l := q) (fun i n => (n, (i : Int), ())) (fun _ x n => .inl (n + x.2.1.2.2.2.1)) (fun n => n) (fun i n => -2147483648 * (i : Int) ≤ n ∧ n ≤ 2147483648 * (i : Int)) (fun i h n hb => by
   have hx := hn _ (List.getElem_mem h)
   refine .inl ⟨_, rfl, ?_, by constructor <;> omega⟩
   unfold zb6_l3
   simp only [cond_dec]
   rw [if_pos (by omega), atI_lt h]
   simp only [Option.bind_some]
   rw [wrap64 (n := (i : Int) + 1) (by omega) (by omega), wrap64 (by omega) (by omega)]; rfl) (fun n _ => by
   unfold zb6_l3
   simp only [cond_dec]
   rw [if_neg (by omega)]) 0 (by omega)
 rw [foldE_inl] at loop
 exact loop
def entM (l : List Item1) (p : Path) (k : Int) : Ent := (p, k, if k = 1 then valsU (valsAt l p) else if k = 2 then valsU (bagAt l p) else [], if k = 3 then sumI (atM l p 3) else 0, ())
theorem nums_ok {l : List Item1} {p : Path} (h : ItemsOk l) : smallN (atM l p 3) := fun x hx => by
 have h1 := (at_kind h x hx).1
 have h2 := ((atOk h).op x hx).1.num h1
 omega
theorem clone_t {p : Path} (hp : p.length < 1000000) : zam p = some p := by
 unfold zam cloneT
 rw [if_pos (by simp only [most]; omega)]
theorem viewAt_t {l : List Item1} {p : Path} {k : Int} (h : ItemsOk l) (hp : p.length < 1000000) : zci l p k = some (entM l p k) := by
 have hl := itemsOk_low h
 unfold zci entM
 rw [clone_t hp]
 simp only [Option.bind_some, cond_dec, regValues_t hl, bagValues_t hl, sum_t hl (nums_ok h)]
 by_cases h1 : k = 1
 · rw [if_pos h1, if_pos h1, if_neg (by omega)]
 · rw [if_neg h1, if_neg h1]
   by_cases h2 : k = 2
   · rw [if_pos h2, if_pos h2, if_neg (by omega)]
   · rw [if_neg h2, if_neg h2]
     by_cases h3 : k = 3
     · rw [if_pos h3, if_pos h3]
     · rw [if_neg h3, if_neg h3]
def viewM (l : List Item1) : List Ent := (leavesM l).map fun y => entM l y.1 y.2.1
theorem flat_one {A B : Type} {g : A → B} : ∀ {l : List A}, (l.flatMap fun x => [g x]) = l.map g
 | [] => rfl
 | x :: l => by rw [List.flatMap_cons, List.map_cons, flat_one]; rfl
theorem leaf_short {l : List Item1} (h : ItemsOk l) {y : Leaf1} (hy : y ∈ leavesM l) : y.1.length ≤ 12 ∧ ∀ s ∈ y.1, s.length ≤ 120 := by
 obtain ⟨x, hx, rfl⟩ := leavesM_mem.1 hy
 have := (h.op x hx).2.1
 exact ⟨this.1, this.2.1⟩
theorem leaves_len {l : List Item1} (h : ItemsOk l) : (leavesM l).length ≤ 320 := by
 have h1 := uniq_len (c := cmpLf) (l.map leafOf)
 rw [List.length_map] at h1
 have := h.len
 unfold leavesM; omega
theorem viewOf_t {l : List Item1} (h : ItemsOk l) : zch l = some (viewM l) := by
 have hlen := leaves_len h
 unfold zch
 rw [leaves_t (itemsOk_low h)]
 simp only [Option.bind_some]
 have this := loop_map (f := zch_l3 l (leavesM l)) (l := leavesM l) (fun i o => ((i : Int), o, ())) (fun y => [entM l y.1 y.2.1]) (fun o => o) 1 (fun x _ => Nat.le_refl _) (fun i hi o ho => by
   have hs := leaf_short h (List.getElem_mem hi)
   unfold zch_l3
   simp only [cond_dec]
   rw [if_pos (by omega), atI_lt hi]
   simp only [Option.bind_some, viewAt_t h (show (leavesM l)[i].1.length < 1000000 by omega)]
   rw [wrap64 (by omega) (by omega), roomT_lt (by simp; omega)]; rfl) (fun o _ => by
   unfold zch_l3
   simp only [cond_dec]
   rw [if_neg (by omega)])
 rw [show ((0 : Int), ([] : List Ent), ()) = (((0 : Nat) : Int), [], ()) from rfl, this, flat_one]
 rfl
theorem vals_right {l : List Item1} {p : Path} {k : Int} (h : ItemsOk l) (hk : k = 1 ∨ k = 2) : ∀ v ∈ (atM l p k).map (fun x => x.2.1.2.2.1), rightV v = true := fun v hv => by
 obtain ⟨x, hx, rfl⟩ := List.mem_map.1 hv
 have h1 := (at_kind h x hx).1
 exact ((atOk h).op x hx).1.val (by omega) (by omega)
theorem valsU_small {q : List Val} (hq : q.length ≤ 320) (hr : ∀ v ∈ q, rightV v = true) : (valsU q).length ≤ 400 ∧ ∀ v ∈ valsU q, rightV v = true := by
 constructor
 · have := valsU_len q []
   simp only [List.length_nil, Nat.zero_add] at this
   unfold valsU; omega
 · intro v hv
   exact hr v ((valsU_mem q v).1 hv)
theorem sum_in : ∀ (q : List Item1) (n : Int) (k : Nat), smallN q → (-2147483647 * (k : Int) ≤ n ∧ n ≤ 2147483647 * (k : Int)) → -2147483647 * ((k + q.length : Nat) : Int) ≤ q.foldl (fun n x => n + x.2.1.2.2.2.1) n ∧ q.foldl (fun n x => n + x.2.1.2.2.2.1) n ≤ 2147483647 * ((k + q.length : Nat) : Int)
 | [], n, k, _, h => h
 | x :: q, n, k, hn, h => by
   have hx := hn x (List.mem_cons_self ..)
   rw [List.foldl_cons, List.length_cons, show k + (q.length + 1) = (k + 1) + q.length by omega]
   exact sum_in q _ (k + 1) (fun y hy => hn y (List.mem_cons_of_mem _ hy)) (by omega)
theorem ent_small {l : List Item1} {p : Path} {k : Int} (h : ItemsOk l) (hp : p.length ≤ 12) (hs : ∀ s ∈ p, s.length ≤ 120) : smallE (entM l p k) ∧ inR (entM l p k).2.2.2.1 := by
 have hat : ∀ k, (atM l p k).length ≤ 320 := fun k => (atOk h).len
 refine ⟨⟨hp, hs, ?_⟩, ?_⟩
 · unfold entM
   simp only
   by_cases h1 : k = 1
   · rw [if_pos h1]
     exact valsU_small (by rw [valsAt, List.length_map]; exact hat 1) (vals_right h (.inl rfl))
   · rw [if_neg h1]
     by_cases h2 : k = 2
     · rw [if_pos h2]
       exact valsU_small (by rw [bagAt, List.length_map]; exact hat 2) (vals_right h (.inr rfl))
     · rw [if_neg h2]
       exact ⟨by simp, fun v hv => by cases hv⟩
 · unfold entM inR
   simp only
   have h1 := sum_in (atM l p 3) 0 0 (nums_ok h) (by simp)
   have := hat 3
   unfold sumI
   split <;> omega
theorem ent_low {l : List Item1} {p : Path} {k : Int} (h : ItemsOk l) (hp : p.length ≤ 12) (hs : ∀ s ∈ p, s.length ≤ 120) : lowE (entM l p k) := by
 have := (ent_small (k := k) h hp hs).1
 exact ⟨by have := this.1; omega, by have := this.2.2.1; omega⟩
theorem view_mem {l : List Item1} {e : Ent} (h : e ∈ viewM l) : ∃ y ∈ leavesM l, e = entM l y.1 y.2.1 := by
 obtain ⟨y, hy, rfl⟩ := List.mem_map.1 h
 exact ⟨y, hy, rfl⟩
theorem view_low {l : List Item1} (h : ItemsOk l) : ∀ e ∈ viewM l, lowE e := fun e he => by
 obtain ⟨y, hy, rfl⟩ := view_mem he
 have := leaf_short h hy
 exact ent_low h this.1 this.2
theorem view_len {l : List Item1} (h : ItemsOk l) : (viewM l).length ≤ 320 := by unfold viewM; rw [List.length_map]; exact leaves_len h
theorem viewSameAll_t {l m : List Ent} (hl : l.length < 1000000) (hs : ∀ e ∈ l, lowE e) : zca l m = some (decide (l = m)) := by
 unfold zca zaa
 by_cases hlen : l.length = m.length
 · rw [decide_eq_true (by omega)]
   simp only [Bool.not_true, cond_false]
   have := loop_all2 (f := zaa_l4 l m) (l := l) (m := m) (fun i => ((i : Int), ())) (fun x y => decide (x = y)) true false hlen (fun i h h' => by
     unfold zaa_l4
     simp only [cond_dec]
     rw [if_pos (by omega), atI_lt h, atI_lt h']
     simp only [Option.bind_some, viewSame_t (hs _ (List.getElem_mem h)), cond_ndec]
     rw [wrap64 (by omega) (by omega)]
     by_cases e : l[i] = m[i]
     · rw [if_pos e, if_pos (decide_eq_true e)]; rfl
     · rw [if_neg e, if_neg (by simpa using e)]) (by
     unfold zaa_l4
     simp only [cond_dec]
     rw [if_neg (by omega)])
   rw [all2_dec, ite_bool] at this
   rw [show ((0 : Int), ()) = (((0 : Nat) : Int), ()) from rfl, this]; rfl
 · rw [decide_eq_false (by omega)]
   have : l ≠ m := fun e => hlen (by rw [e])
   rw [decide_eq_false this]; rfl
theorem same_refl {l : List Ent} (hl : l.length < 1000000) (hs : ∀ e ∈ l, lowE e) : zca l l = some true := by rw [viewSameAll_t hl hs, decide_eq_true rfl]
theorem shortP_iff {p : Path} : (decide (p.length ≤ 12) && p.all fun x => decide (x.length ≤ 120)) = true → p.length ≤ 12 ∧ ∀ s ∈ p, s.length ≤ 120 := by
 simp only [Bool.and_eq_true, decide_eq_true_eq, List.all_eq_true]
 exact id
end Go.Proofs.YtgfpkhlabdcbmaaGreatDoor.Q
namespace Go.Proofs.YtgfpkhlabdcbmaaGreatDoor.Q
open Go.EM Go.TY Go.Proofs Go.Proofs.YtgfpkhlabdcbmaaGreatDoor.Y
def deepS : List UInt8 := [42, 42]
open Classical in
noncomputable def globM (s t : List UInt8) : Bool := match pat s, runesM t with | some o, some x => decide (Mt o x) | _, _ => false
def lowS (q : Path) : Prop := ∀ s ∈ q, s.length < 1000000
open Classical in
theorem globMatch_t {s t : List UInt8} (hs : s.length < 1000000) (ht : t.length < 1000000) : zbz s t = some (globM s t) := match_t (p := s) (s := t) (by omega) (by omega)
noncomputable def partBad (s : List UInt8) : Bool := decide (s = []) || !(pat s).isSome
noncomputable def qcM (q : Path) : Int := if q.length = 0 then 8 else if q.length > 8 then 9 else if q.any partBad = true then 8 else 0
theorem partBad_t {s : List UInt8} (hs : s.length < 1000000) : zaz s = some (partBad s) := by
 unfold zaz partBad
 simp only [cond_dec]
 by_cases h : s = []
 · rw [if_pos h, decide_eq_true h]; rfl
 · rw [if_neg h, decide_eq_false h, right_t (by omega)]; rfl
theorem idx_ge {A : Type} {b : A → Bool} : ∀ (l : List A) (i : Nat), foldE (S := Unit) (R := Int) (fun i x _ => if b x = true then .inr (i : Int) else .inl ()) (fun _ => (-1 : Int)) i l () ≥ 0 ↔ l.any b = true
 | [], i => by simp [foldE]
 | x :: l, i => by
   unfold foldE
   by_cases h : b x = true
   · rw [if_pos h, List.any_cons, h]
     simp
   · rw [if_neg h, List.any_cons, eq_false_of_ne_true h, Bool.false_or]
     exact idx_ge l (i + 1)
theorem queryCheck_t {q : Path} (hl : lowS q) : zbl q = some (qcM q) := by
 unfold zbl qcM
 simp only [cond_dec]
 by_cases h0 : q.length = 0
 · rw [if_pos (by omega), if_pos h0]
 rw [if_neg (by omega), if_neg h0]
 by_cases h8 : q.length > 8
 · rw [if_pos (by omega), if_pos h8]
 rw [if_neg (by omega), if_neg h8]
 have loop := loop_list (S := Unit) (R := Int) (f := zah_l2 q) (l := q) (fun i _ => ((i : Int), ())) (fun i x _ => if partBad x = true then .inr (i : Int) else .inl ()) (fun _ => (-1 : Int)) (fun _ _ => True) (fun i h s _ => by
   have turn : zah_l2 q ((i : Int), ()) = if partBad q[i] = true then some (.inr (i : Int)) else some (.inl (((i + 1 : Nat) : Int), ())) := by
     unfold zah_l2
     simp only [cond_dec]
     rw [if_pos (by omega), atI_lt h]
     simp only [Option.bind_some, partBad_t (hl _ (List.getElem_mem h))]
     rw [wrap64 (by omega) (by omega)]
     cases partBad q[i] with
     | true => rfl
     | false => rfl
   by_cases hb : partBad q[i] = true
   · exact .inr ⟨_, by rw [if_pos hb], by rw [turn, if_pos hb]⟩
   · exact .inl ⟨(), by rw [if_neg hb], by rw [turn, if_neg hb], trivial⟩) (fun s _ => by
   unfold zah_l2
   simp only [cond_dec]
   rw [if_neg (by omega)]) () trivial
 have hi := idx_ge (b := partBad) q 0
 unfold zag zah
 rw [show ((0 : Int), ()) = (((0 : Nat) : Int), ()) from rfl, loop]
 simp only [Option.bind_some]
 by_cases hb : q.any partBad = true
 · rw [if_pos hb, decide_eq_true (hi.2 hb)]; rfl
 · rw [if_neg hb, decide_eq_false (fun e => hb (hi.1 e))]; rfl
noncomputable def matchQ : Path → Path → Bool
 | [], p => decide (p.length = 0)
 | s :: q, p => if s = deepS then (List.range' 0 (p.length + 1)).any (fun i => matchQ q (p.drop i)) else match p with
   | [] => false
   | x :: p' => globM s x && matchQ q p'
theorem matchQ_nil {p : Path} : matchQ [] p = decide (p.length = 0) := by unfold matchQ; rfl
theorem matchQ_deep {q p : Path} : matchQ (deepS :: q) p = (List.range' 0 (p.length + 1)).any (fun i => matchQ q (p.drop i)) := by
 conv => lhs; unfold matchQ
 rw [if_pos rfl]
theorem matchQ_none {s : List UInt8} {q : Path} (h : s ≠ deepS) : matchQ (s :: q) [] = false := by
 conv => lhs; unfold matchQ
 rw [if_neg h]
theorem matchQ_cons {s x : List UInt8} {q p : Path} (h : s ≠ deepS) : matchQ (s :: q) (x :: p) = (globM s x && matchQ q p) := by
 conv => lhs; unfold matchQ
 rw [if_neg h]
def NS (G : Prop) {A : Type} (o : Option A) (b : A) : Prop := o = some b ∨ ¬ G ∧ o = none
theorem NS.bind {G : Prop} {A B : Type} {o : Option A} {a : A} {f : A → Option B} {b : B} (h : NS G o a) (hf : NS G (f a) b) : NS G (o.bind f) b := by
 rcases h with h | ⟨h1, h2⟩
 · rw [h, Option.bind_some]; exact hf
 · exact .inr ⟨h1, by rw [h2]; rfl⟩
theorem loop_none {A X : Type} {f : A → Option (A ⊕ X)} {a : A} (h : f a = none) : loopT f a = none := by rw [loopT_eq, h]; rfl
abbrev Rec1 := (Path × Path × Unit) → Option Bool
theorem deep_loop {G : Prop} {rec : Rec1} {s : List UInt8} {q p : Path} (hp : p.length < 1000000) (hrec : ∀ i, i ≤ p.length → NS G (rec (q, p.drop i, ())) (matchQ q (p.drop i))) : ∀ (k i : Nat), p.length + 1 - i ≤ k → i ≤ p.length + 1 →
   NS G (loopT (za8_l4 (s :: q, p, ()) rec) ((i : Int), ())) (.inr (.inr (.inr ((List.range' i (p.length + 1 - i)).any fun j => matchQ q (p.drop j))))) := by
 have stop : ∀ i, ¬ i < p.length + 1 → i ≤ p.length + 1 → NS G (loopT (za8_l4 (s :: q, p, ()) rec) ((i : Int), ())) (.inr (.inr (.inr ((List.range' i (p.length + 1 - i)).any fun j => matchQ q (p.drop j))))) := fun i h1 h2 => by
   refine .inl (loopT_inr ?_)
   unfold za8_l4
   simp only [cond_dec]
   rw [wrap64 (by omega) (by omega), if_neg (by omega), show p.length + 1 - i = 0 by omega]
   rfl
 intro k
 induction k with
 | zero => intro i hk hi; exact stop i (by omega) hi
 | succ k ih =>
   intro i hk hi
   by_cases hlt : i < p.length + 1
   · have e : za8_l4 (s :: q, p, ()) rec ((i : Int), ()) = (rec (q, p.drop i, ())).bind fun r4 => cond r4 (some (.inr (.inr (.inr (.inr true))))) (some (.inl (((i + 1 : Nat) : Int), ()))) := by
       unfold za8_l4
       simp only [cond_dec]
       rw [wrap64 (n := (p.length : Int) + 1) (by omega) (by omega), if_pos (by omega), sub1]
       simp only [Option.bind_some]
       rw [subI_from (by omega)]
       simp only [Option.bind_some]
       rw [wrap64 (by omega) (by omega)]; rfl
     rw [show p.length + 1 - i = (p.length + 1 - (i + 1)) + 1 by omega, List.range'_succ, List.any_cons]
     rcases hrec i (by omega) with h | ⟨h1, h2⟩
     · rw [h, Option.bind_some] at e
       cases hm : matchQ q (p.drop i) with
       | true =>
         rw [hm] at e
         exact .inl (by rw [loopT_inr e]; rfl)
       | false =>
         rw [hm] at e
         rw [loopT_inl e, Bool.false_or]
         exact ih (i + 1) (by omega) (by omega)
     · rw [h2] at e
       exact .inr ⟨h1, loop_none e⟩
   · exact stop i hlt hi
theorem match_done {rec : Rec1} {p : Path} : za8_step rec [] p = some (matchQ [] p) := by
 unfold za8_step
 rw [loopT_inr (x := (.inl (p, ()) : (Path × Unit) ⊕ Bool)) (by
   unfold za8_l1
   simp only [cond_dec]
   rw [if_neg (by simp)]), bind_join_inl, matchQ_nil]
 show some (decide ((p.length : Int) = 0)) = some (decide (p.length = 0))
 congr 1
 by_cases h : p.length = 0
 · rw [decide_eq_true h, decide_eq_true (by omega)]
 · rw [decide_eq_false h, decide_eq_false (by omega)]
theorem match_deepE {rec : Rec1} {s : List UInt8} {q p : Path} (hd : s = deepS) {o : Option (Unit ⊕ ((Path × Path × Unit) ⊕ ((Path × Unit) ⊕ Bool)))} (ho : loopT (za8_l4 (s :: q, p, ()) rec) ((0 : Int), ()) = o) {b : Bool} (hb : o = some (.inr (.inr (.inr b))) ∨ o = none) :
   za8_step rec (s :: q) p = if o = none then none else some b := by
 unfold za8_step
 have e : za8_l1 rec (s :: q, p, ()) = if o = none then none else some (.inr (.inr b)) := by
   unfold za8_l1
   simp only
   rw [decide_eq_true (show (((s :: q).length : Int) > 0) by simp only [List.length_cons]; omega), cond_true, at0]
   simp only [Option.bind_some]
   rw [decide_eq_true (show s = [42, 42] from hd), cond_true, ho]
   rcases hb with h | h
   · rw [h, bind_join_inr, if_neg (by simp)]
   · rw [h, if_pos rfl]; rfl
 rcases hb with h | h
 · rw [if_neg (by rw [h]; simp)] at e ⊢
   rw [loopT_inr e, bind_join_inr]
 · rw [if_pos h] at e ⊢
   rw [loop_none e]; rfl
theorem match_noneE {rec : Rec1} {s : List UInt8} {q : Path} (hd : s ≠ deepS) : za8_step rec (s :: q) [] = some false := by
 unfold za8_step
 rw [loopT_inr (x := (.inr false : (Path × Unit) ⊕ Bool)) (by
   unfold za8_l1
   simp only
   rw [decide_eq_true (show (((s :: q).length : Int) > 0) by simp only [List.length_cons]; omega), cond_true, at0]
   simp only [Option.bind_some]
   rw [decide_eq_false (show ¬ s = [42, 42] from hd), cond_false, bind_join_inl, decide_eq_true (by simp), cond_true]), bind_join_inr]
theorem match_turn {rec : Rec1} {s x : List UInt8} {q p : Path} {b : Bool} (hd : s ≠ deepS) (hg : zbz s x = some b) : za8_l1 rec (s :: q, x :: p, ()) = if b = true then some (.inl (q, p, ())) else some (.inr (.inr false)) := by
 unfold za8_l1
 simp only
 rw [decide_eq_true (show (((s :: q).length : Int) > 0) by simp only [List.length_cons]; omega), cond_true, at0, Option.bind_some, decide_eq_false (show ¬ s = [42, 42] from hd), cond_false, bind_join_inl, decide_eq_false (by simp only [List.length_cons]; omega), cond_false, at0, Option.bind_some, Option.bind_some, hg, Option.bind_some, sub1, Option.bind_some, sub1, Option.bind_some]
 cases b
 · rw [if_neg (by simp)]; rfl
 · rw [if_pos rfl]; rfl
theorem match_consE {rec : Rec1} {s x : List UInt8} {q p : Path} (hd : s ≠ deepS) (hs : s.length < 1000000) (hx : x.length < 1000000) : za8_step rec (s :: q) (x :: p) = if globM s x = true then za8_step rec q p else some false := by
 have e := match_turn (rec := rec) (q := q) (p := p) hd (globMatch_t hs hx)
 generalize globM s x = b at e ⊢
 unfold za8_step
 cases b
 · rw [if_neg (by simp)] at e ⊢
   rw [loopT_inr e, bind_join_inr]
 · rw [if_pos rfl] at e ⊢
   rw [loopT_inl e]
theorem match_step {G : Prop} {rec : Rec1} : ∀ (q p : Path), p.length < 1000000 → lowS q → lowS p → (∀ (q' p' : Path), q'.length < q.length → p'.length < 1000000 → lowS q' → lowS p' → NS G (rec (q', p', ())) (matchQ q' p')) → NS G (za8_step rec q p) (matchQ q p)
 | [], p, _, _, _, _ => .inl match_done
 | s :: q, p, hp, hq, hpl, hrec => by
   have hq' : lowS q := fun x hx => hq x (List.mem_cons_of_mem _ hx)
   by_cases hd : s = deepS
   · have hl := deep_loop (G := G) (rec := rec) (s := s) (q := q) (p := p) hp (fun i hi => hrec q (p.drop i) (by simp) (by rw [List.length_drop]; omega) hq' (fun x hx => hpl x (List.mem_of_mem_drop hx))) (p.length + 1) 0 (by omega) (by omega)
     have hm : matchQ (s :: q) p = (List.range' 0 (p.length + 1 - 0)).any (fun j => matchQ q (p.drop j)) := by rw [hd, matchQ_deep, Nat.sub_zero]
     rw [hm]
     generalize (List.range' 0 (p.length + 1 - 0)).any (fun j => matchQ q (p.drop j)) = b at hl ⊢
     rcases hl with h | ⟨h1, h2⟩
     · exact .inl (by rw [match_deepE hd h (.inl rfl), if_neg (by simp)])
     · exact .inr ⟨h1, by rw [match_deepE (b := b) hd h2 (.inr rfl), if_pos rfl]⟩
   · match p, hp, hpl with
     | [], _, _ => exact .inl (by rw [match_noneE hd, matchQ_none hd])
     | x :: p, hp, hpl =>
       rw [match_consE hd (hq s (List.mem_cons_self ..)) (hpl x (List.mem_cons_self ..)), matchQ_cons hd]
       by_cases hg : globM s x = true
       · rw [if_pos hg, hg, Bool.true_and]
         exact match_step q p (by simp only [List.length_cons] at hp; omega) hq' (fun y hy => hpl y (List.mem_cons_of_mem _ hy)) (fun q' p' h => hrec q' p' (by simp only [List.length_cons]; omega))
       · rw [if_neg hg, eq_false_of_ne_true hg, Bool.false_and]
         exact .inl rfl
theorem match_it (G : Prop) : ∀ (n : Nat) (q p : Path), p.length < 1000000 → lowS q → lowS p → (G → q.length < n) → NS G (itT (fun (rec : Rec1) v => za8_step rec v.1 v.2.1) n (q, p, ())) (matchQ q p)
 | 0, q, p, _, _, _, h => .inr ⟨fun g => by have := h g; omega, rfl⟩
 | n + 1, q, p, hp, hq, hpl, h => by
   have e : itT (fun (rec : Rec1) v => za8_step rec v.1 v.2.1) (n + 1) (q, p, ()) = za8_step (itT (fun (rec : Rec1) v => za8_step rec v.1 v.2.1) n) q p := rfl
   rw [e]
   exact match_step q p hp hq hpl fun q' p' h1 h2 h3 h4 => match_it G n q' p' h2 h3 h4 fun g => by have := h g; omega
theorem qmatch_t {q p : Path} (hp : p.length < 1000000) (hq : lowS q) (hpl : lowS p) : za8 q p = some (matchQ q p) := by
 unfold za8 query_match_fix
 refine fix_eq (fun n => ?_) ⟨q.length + 1, ?_⟩
 · rcases match_it False n q p hp hq hpl (fun h => h.elim) with h | ⟨_, h⟩
   · exact .inr h
   · exact .inl h
 · rcases match_it True (q.length + 1) q p hp hq hpl (fun _ => by omega) with h | ⟨h, _⟩
   · exact h
   · exact absurd trivial h
noncomputable def fullQ (q p : Path) : Bool := decide (qcM q = 0) && matchQ q p
theorem queryMatch_t {q p : Path} (hp : p.length < 1000000) (hq : lowS q) (hpl : lowS p) : zbn q p = some (fullQ q p) := by
 unfold zbn fullQ
 rw [queryCheck_t hq]
 simp only [Option.bind_some, qmatch_t hp hq hpl]
 by_cases h : qcM q = 0
 · rw [decide_eq_true h]; rfl
 · rw [decide_eq_false h]; rfl
noncomputable def selM (l : List Item1) (q : Path) : List Leaf1 := (leavesM l).filter fun y => fullQ q y.1
theorem leaf_lowS {l : List Item1} (h : ItemsOk l) {y : Leaf1} (hy : y ∈ leavesM l) : y.1.length < 1000000 ∧ lowS y.1 := by
 have := leaf_short h hy
 exact ⟨by omega, fun s hs => by have := this.2 s hs; omega⟩
theorem select_t {l : List Item1} {q : Path} (h : ItemsOk l) (hq : lowS q) : za4 l q = some (selM l q) := by
 have hlen := leaves_len h
 unfold za4
 rw [leaves_t (itemsOk_low h)]
 simp only [Option.bind_some]
 have this := loop_map (f := za4_l3 q (leavesM l)) (l := leavesM l) (fun i o => ((i : Int), o, ())) (fun y => if fullQ q y.1 = true then [y] else []) (fun o => o) 1 (fun x _ => by split <;> simp) (fun i hi o ho => by
   have hs := leaf_lowS h (List.getElem_mem hi)
   unfold za4_l3
   simp only [cond_dec]
   rw [if_pos (by omega), atI_lt hi]
   simp only [Option.bind_some, queryMatch_t hs.1 hq hs.2]
   rw [wrap64 (by omega) (by omega), roomT_lt (by simp; omega)]
   by_cases hb : fullQ q (leavesM l)[i].1 = true
   · rw [hb, cond_true, if_pos rfl]; rfl
   · rw [if_neg hb, eq_false_of_ne_true hb, cond_false, List.append_nil]; rfl) (fun o _ => by
   unfold za4_l3
   simp only [cond_dec]
   rw [if_neg (by omega)])
 rw [show ((0 : Int), ([] : List Leaf1), ()) = (((0 : Nat) : Int), [], ()) from rfl, this]
 congr 1
 exact flatMap_if (q := fun y : Leaf1 => fullQ q y.1)
theorem sel_mem {l : List Item1} {q : Path} {y : Leaf1} (h : y ∈ selM l q) : y ∈ leavesM l := (List.mem_filter.1 h).1
theorem sel_len {l : List Item1} {q : Path} (h : ItemsOk l) : (selM l q).length ≤ 320 := Nat.le_trans (List.length_filter_le ..) (leaves_len h)
noncomputable def qviewM (l : List Item1) (q : Path) : List Ent := (selM l q).map fun y => entM l y.1 y.2.1
theorem queryView_t {l : List Item1} {q : Path} (h : ItemsOk l) (hq : lowS q) : zb0 l q = some (qviewM l q) := by
 have hlen := sel_len (q := q) h
 unfold zb0
 rw [select_t h hq]
 simp only [Option.bind_some]
 have this := loop_map (f := zb0_l3 l (selM l q)) (l := selM l q) (fun i o => ((i : Int), o, ())) (fun y => [entM l y.1 y.2.1]) (fun o => o) 1 (fun x _ => Nat.le_refl _) (fun i hi o ho => by
   have hs := leaf_lowS h (sel_mem (List.getElem_mem hi))
   unfold zb0_l3
   simp only [cond_dec]
   rw [if_pos (by omega), atI_lt hi]
   simp only [Option.bind_some, viewAt_t h hs.1]
   rw [wrap64 (by omega) (by omega), roomT_lt (by simp; omega)]; rfl) (fun o _ => by
   unfold zb0_l3
   simp only [cond_dec]
   rw [if_neg (by omega)])
 rw [show ((0 : Int), ([] : List Ent), ()) = (((0 : Nat) : Int), [], ()) from rfl, this, flat_one]
 rfl
end Go.Proofs.YtgfpkhlabdcbmaaGreatDoor.Q
namespace Go.Proofs.YtgfpkhlabdcbmaaGreatDoor.Q
open Go.EM Go.TY Go.Proofs Go.Proofs.YtgfpkhlabdcbmaaGreatDoor.Y
theorem runes_one {a : UInt8} (h : a.toNat < 128) : runesM [a] = some [(a.toNat : Int)] := by rw [runesM_ascii h, runesM_nil]; rfl
theorem pat_one {a : UInt8} (h : a.toNat < 128) (hw : specW (a.toNat : Int) = false) : pat [a] = some [(a.toNat : Int)] := by
 unfold pat
 rw [runes_one h, Option.bind_some, if_neg (by simp), partsM_plain hw]; rfl
open Classical in
theorem globM_one {a b : UInt8} (ha : a.toNat < 128) (hb : b.toNat < 128) (hw : specW (a.toNat : Int) = false) : globM [a] [b] = decide (a.toNat = b.toNat) := by
 unfold globM
 rw [pat_one ha hw, runes_one hb]
 show decide (Mt [(a.toNat : Int)] [(b.toNat : Int)]) = _
 rw [decide_eq_decide, Mt_one (by omega)]
 constructor
 · rintro ⟨x, t, h1, h2, h3⟩
   injection h1 with h1 h4
   rcases h2 with h2 | h2 <;> omega
 · intro h
   exact ⟨_, [], rfl, .inr (by omega), rfl⟩
theorem pat_deep : pat deepS = some [-2, -2] := by
 have h : runesM deepS = some [42, 42] := by
   unfold deepS
   rw [runesM_ascii (by decide), runesM_ascii (by decide), runesM_nil]; rfl
 unfold pat
 rw [h, Option.bind_some, if_neg (by simp), partsM_star, partsM_star]; rfl
theorem part_deep : partBad deepS = false := by
 unfold partBad
 rw [pat_deep]; rfl
theorem partBad_one {a : UInt8} (h : a.toNat < 128) (hw : specW (a.toNat : Int) = false) : partBad [a] = false := by
 unfold partBad
 rw [pat_one h hw]; rfl
theorem qc_zero {q : Path} (h1 : q.length ≠ 0) (h2 : q.length ≤ 8) (h3 : q.any partBad = false) : qcM q = 0 := by
 unfold qcM
 rw [if_neg h1, if_neg (by omega), h3, if_neg (by simp)]
theorem zero_qc {q : Path} (h : qcM q = 0) : q.length ≠ 0 ∧ q.length ≤ 8 ∧ q.any partBad = false := by
 unfold qcM at h
 split at h
 · omega
 rename_i h1
 split at h
 · omega
 rename_i h2
 split at h
 · omega
 rename_i h3
 exact ⟨h1, by omega, by simpa using h3⟩
abbrev adkQ : Path := [[97], [42, 42], [107]]
theorem full_adk {p : Path} : fullQ adkQ p = matchQ adkQ p := by
 unfold fullQ
 rw [qc_zero (by simp) (by simp) (by
   rw [List.any_cons, List.any_cons, List.any_cons, List.any_nil, partBad_one (by decide) (by decide), show partBad [42, 42] = false from part_deep, partBad_one (by decide) (by decide)]; rfl)]
 rfl
theorem adk_cons {x : List UInt8} {p : Path} : matchQ adkQ (x :: p) = (globM [97] x && (List.range' 0 (p.length + 1)).any (fun i => matchQ [[107]] (p.drop i))) := by
 rw [show adkQ = [97] :: deepS :: [[107]] from rfl, matchQ_cons (by decide), matchQ_deep]
theorem k_nil : matchQ [[107]] [] = false := matchQ_none (by decide)
theorem k_cons {x : List UInt8} {p : Path} : matchQ [[107]] (x :: p) = (globM [107] x && decide (p.length = 0)) := by
 rw [matchQ_cons (by decide), matchQ_nil]
theorem awake38 : zbg = some true := by
 unfold zbg
 rw [show (([[97], [42, 42], [107]] : List (List UInt8))) = adkQ from rfl]
 have lq : lowS adkQ := by unfold lowS; decide
 rw [queryMatch_t (by simp) lq (by unfold lowS; decide), queryMatch_t (by simp) lq (by unfold lowS; decide), queryMatch_t (by simp) lq (by unfold lowS; decide)]
 rw [full_adk, full_adk, full_adk, adk_cons, adk_cons, adk_cons]
 have g1 : globM [97] [97] = true := by rw [globM_one (by decide) (by decide) (by decide)]; decide
 have g2 : globM [107] [107] = true := by rw [globM_one (by decide) (by decide) (by decide)]; decide
 have g3 : globM [107] [98] = false := by rw [globM_one (by decide) (by decide) (by decide)]; decide
 have e1 : ((List.range' 0 (([[107]] : Path).length + 1)).any fun i => matchQ [[107]] (([[107]] : Path).drop i)) = true := List.any_eq_true.2 ⟨0, by simp, by
   show matchQ [[107]] [[107]] = true
   rw [k_cons, g2]; rfl⟩
 have e2 : ((List.range' 0 (([[98], [99], [107]] : Path).length + 1)).any fun i => matchQ [[107]] (([[98], [99], [107]] : Path).drop i)) = true := List.any_eq_true.2 ⟨2, by simp [List.mem_range'_1], by
   show matchQ [[107]] [[107]] = true
   rw [k_cons, g2]; rfl⟩
 have e3 : ((List.range' 0 (([[107], [98]] : Path).length + 1)).any fun i => matchQ [[107]] (([[107], [98]] : Path).drop i)) = false := by
   show (matchQ [[107]] [[107], [98]] || (matchQ [[107]] [[98]] || (matchQ [[107]] [] || false))) = false
   rw [k_cons, k_cons, k_nil, g3]
   simp
 rw [g1, e1, e2, e3]
 rfl
theorem full_deep {p : Path} : fullQ [deepS] p = true := by
 unfold fullQ
 rw [qc_zero (by simp) (by simp) (by rw [List.any_cons, List.any_nil, part_deep]; rfl), matchQ_deep, decide_eq_true rfl, Bool.true_and]
 exact List.any_eq_true.2 ⟨p.length, by simp [List.mem_range'_1], by rw [matchQ_nil, List.drop_length]; rfl⟩
theorem full_more {q p : Path} (hq : q.length ≤ 7) (h : fullQ q p = true) : fullQ (deepS :: q) p = true := by
 unfold fullQ at h ⊢
 rw [Bool.and_eq_true, decide_eq_true_eq] at h
 obtain ⟨h1, h2, h3⟩ := zero_qc h.1
 rw [qc_zero (by simp) (by simp only [List.length_cons]; omega) (by rw [List.any_cons, part_deep, h3]; rfl), matchQ_deep, decide_eq_true rfl, Bool.true_and]
 exact List.any_eq_true.2 ⟨0, by simp [List.mem_range'_1], h.2⟩
theorem sel_deep {l : List Item1} : selM l [deepS] = leavesM l := List.filter_eq_self.2 fun y _ => full_deep
theorem sel_more {l : List Item1} {q : Path} (hq : q.length ≤ 7) : (selM l q).length ≤ (selM l (deepS :: q)).length := by
 unfold selM
 rw [← List.countP_eq_length_filter, ← List.countP_eq_length_filter]
 exact List.countP_mono_left fun y _ h => full_more hq h
theorem qview_deep {l : List Item1} : qviewM l [deepS] = viewM l := by
 unfold qviewM viewM
 rw [sel_deep]
theorem queryAll_law : ∀ v : zav_T.ps.V, okV zav_T.ps v → zav_T.fn v = some true := fun v _ => by
 obtain ⟨l, u, q, ⟨⟩⟩ := v
 show zav l u q = some true
 unfold zav
 obtain ⟨b, hb, hg⟩ := good13_t l u
 rw [hb]
 simp only [Option.bind_some, awake38, shortP_t]
 cases b with
 | false => rfl
 | true =>
   obtain ⟨h1, h2⟩ := hg rfl
   simp only [Bool.not_true, cond_false]
   cases hsp : (decide (q.length ≤ 12) && q.all fun x => decide (x.length ≤ 120)) with
   | false => rfl
   | true =>
     obtain ⟨hp1, hp2⟩ := shortP_iff hsp
     simp only [Bool.not_true, cond_false, cond_dec]
     by_cases h7 : q.length > 7
     · rw [if_pos (by omega)]
     rw [if_neg (by omega)]
     have hp := txns_low h1 (by omega)
     have hu := counts_low h2
     have hi := items_ok (u := u) h1
     rw [all_t hp.low hu]
     generalize hx : allM l u = x at hi
     have hlen := view_len hi
     have hlow := view_low hi
     have hq : lowS q := fun s hs => by have := hp2 s hs; omega
     have hd : lowS [deepS] := by unfold lowS; decide
     have hdq : lowS (deepS :: q) := fun s hs => by
       rcases List.mem_cons.1 hs with h | h
       · rw [h]; decide
       · exact hq s h
     rw [show ([[42, 42]] : List (List UInt8)) = [deepS] from rfl, show [deepS] ++ q = deepS :: q from rfl]
     simp only [Option.bind_some, select_t hi hd, select_t hi hq, select_t hi hdq, queryView_t hi hd, sel_deep, qview_deep, leaves_t (itemsOk_low hi), viewOf_t hi, same_refl (show (viewM x).length < 1000000 by omega) hlow, decide_true, Bool.not_true, cond_false, cond_dec]
     rw [roomT_lt (by simp), roomT_lt (by simp only [List.length_cons, List.length_nil]; omega)]
     simp only [Option.bind_some]
     rw [if_pos (by have := sel_more (l := x) (q := q) (by omega); omega)]
end Go.Proofs.YtgfpkhlabdcbmaaGreatDoor.Q
