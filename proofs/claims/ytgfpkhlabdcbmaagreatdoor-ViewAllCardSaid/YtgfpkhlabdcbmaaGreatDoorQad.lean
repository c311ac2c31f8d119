import Derived.Test.YtgfpkhlabdcbmaaGreatDoorQaa
set_option linter.unusedVariables false
set_option linter.unusedSimpArgs false
set_option maxRecDepth 100000
namespace Go.Proofs.YtgfpkhlabdcbmaaGreatDoor.Q
open Go.EM Go.TY Go.Proofs Go.Proofs.YtgfpkhlabdcbmaaGreatDoor.Y
structure OpOk (o : Op1) : Prop where
 kind : 1 ≤ o.1 ∧ o.1 ≤ 5
 path : checkM o.2.1 = 0
 val : o.1 ≠ 3 → o.1 ≠ 5 → rightV o.2.2.1 = true
 noval : o.1 = 3 ∨ o.1 = 5 → o.2.2.1 = zeroV
 num : o.1 = 3 → o.2.2.2.1 ≠ 0 ∧ o.2.2.2.1 ≤ 2147483647 ∧ -2147483647 ≤ o.2.2.2.1
 nonum : o.1 ≠ 3 → o.2.2.2.1 = 0
 noseen : o.1 = 2 ∨ o.1 = 3 → o.2.2.2.2.1 = []
 seen : o.2.2.2.2.1.length ≤ 256 ∧ refsM o.2.2.2.2.1 = true
theorem opM_ok {o : Op1} (h : opM o = 0) : OpOk o := by
 unfold opM at h
 by_cases a1 : o.1 < 1 ∨ 5 < o.1
 · rw [if_pos a1] at h; omega
 rw [if_neg a1] at h
 by_cases a2 : checkM o.2.1 ≠ 0
 · rw [if_pos a2] at h; exact absurd h a2
 rw [if_neg a2] at h
 by_cases a3 : (o.1 = 3 ∨ o.1 = 5) ∧ o.2.2.1 ≠ zeroV
 · rw [if_pos a3] at h; omega
 rw [if_neg a3] at h
 by_cases a4 : ¬ (o.1 = 3 ∨ o.1 = 5) ∧ rightV o.2.2.1 = false
 · rw [if_pos a4] at h; omega
 rw [if_neg a4] at h
 by_cases a5 : o.1 ≠ 3 ∧ o.2.2.2.1 ≠ 0
 · rw [if_pos a5] at h; omega
 rw [if_neg a5] at h
 by_cases a6 : o.1 = 3 ∧ (o.2.2.2.1 = 0 ∨ o.2.2.2.1 > 2147483647 ∨ o.2.2.2.1 < -2147483647)
 · rw [if_pos a6] at h; omega
 rw [if_neg a6] at h
 by_cases a7 : (o.1 = 2 ∨ o.1 = 3) ∧ 0 < o.2.2.2.2.1.length
 · rw [if_pos a7] at h; omega
 rw [if_neg a7] at h
 by_cases a8 : 256 < o.2.2.2.2.1.length
 · rw [if_pos a8] at h; omega
 rw [if_neg a8] at h
 by_cases a9 : refsM o.2.2.2.2.1 = true
 · refine ⟨by omega, Classical.not_not.1 a2, fun h1 h2 => ?_, fun h1 => ?_, fun h1 => ?_, fun h1 => ?_, fun h1 => ?_, by omega, a9⟩
   · cases hr : rightV o.2.2.1 with
     | true => rfl
     | false => exact absurd ⟨by omega, hr⟩ a4
   · exact Classical.not_not.1 fun h2 => a3 ⟨h1, h2⟩
   · exact ⟨fun h2 => a6 ⟨h1, .inl h2⟩, Int.not_lt.1 fun h2 => a6 ⟨h1, .inr (.inl h2)⟩, Int.not_lt.1 fun h2 => a6 ⟨h1, .inr (.inr h2)⟩⟩
   · exact Classical.not_not.1 fun h2 => a5 ⟨h1, h2⟩
   · exact List.length_eq_zero_iff.1 (by omega)
 · rw [if_neg a9] at h; omega
structure ItemsOk (l : List Item1) : Prop where
 len : l.length ≤ 320
 op : ∀ x ∈ l, OpOk x.2.1 ∧ shortO x.2.1 ∧ putKind x.2.1.1 = true
theorem items_ok {l : List Txn1} {u : List Ref1} (h : TxnsOk l 20) : ItemsOk (allM l u) := by
 constructor
 · have : (allM l u).length ≤ l.length * 16 := by
     unfold allM
     refine flat_len fun t ht => ?_
     split
     · exact Nat.le_trans items_len (h.all t ht).len
     · simp
   have := h.len; omega
 · intro x hx
   obtain ⟨t, ht, j, o, ho, hk, _, _, rfl⟩ := allM_mem hx
   obtain ⟨h1, h2⟩ := (h.all t ht).ops o ho
   refine ⟨?_, h1, hk⟩
   rcases h2 with h2 | ⟨_, h2⟩
   · exact opM_ok h2
   · unfold goneM at h2
     unfold putKind at hk
     simp only [decide_eq_true_eq] at h2 hk
     omega
theorem itemsOk_low {l : List Item1} (h : ItemsOk l) : LowI l := ⟨by have := h.len; omega, fun x hx => by
 have := (h.op x hx).2.1
 exact ⟨by have := this.1; omega, fun s hs => by have := this.2.1 s hs; omega⟩⟩
theorem atOk {l : List Item1} {p : Path} {k : Int} (h : ItemsOk l) : ItemsOk (atM l p k) := ⟨Nat.le_trans (List.length_filter_le ..) h.len, fun x hx => h.op x (List.mem_filter.1 hx).1⟩
theorem leaf_kind {k : Int} (h : putKind k = true) : leafM k = k := by
 unfold putKind at h
 simp only [decide_eq_true_eq] at h
 unfold leafM
 split
 · omega
 · split
   · omega
   · split <;> omega
theorem at_kind {l : List Item1} {p : Path} {k : Int} (h : ItemsOk l) : ∀ x ∈ atM l p k, x.2.1.1 = k ∧ x.2.1.2.1 = p := fun x hx => by
 obtain ⟨h1, h2⟩ := List.mem_filter.1 hx
 unfold isAt at h2
 simp only [Bool.and_eq_true, decide_eq_true_eq] at h2
 exact ⟨by rw [← leaf_kind (h.op x h1).2.2]; exact h2.1, h2.2⟩
theorem ins_atU {A : Type} {p q : List A} {y : A} (h : (p ++ q).length < 1000000) : insT (p ++ q) (p.length : Int) [y] = some (p ++ y :: q) := by
 simp only [List.length_append] at h
 unfold insT
 rw [if_pos ⟨by omega, by simp only [List.length_append]; omega, by simp, by simp only [List.length_append, List.length_cons, List.length_nil]; unfold most; omega⟩]
 simp
theorem valsU_uniq (l : List Val) : valsU l = uniq cmpV l := by
 refine rises_unique cv_cmp (key := fun v : Val => v) (valsU_rises l) (uniq_rises cv_cmp l) fun x => ?_
 rw [valsU_mem, uniq_mem cv_cmp]
theorem vsearch_loop {u : List Val} {d : Val} (hl : u.length < 1000000) (hr : riseA cmpV u) : ∀ (k i j : Nat), j - i ≤ k → i ≤ (loA cmpV d u).length → (loA cmpV d u).length ≤ j → j ≤ u.length →
   loopT (zab_l3 u d) ((i : Int), (j : Int), ()) = some (.inl (((loA cmpV d u).length : Int), ())) := by
 intro k
 induction k with
 | zero =>
   intro i j hk h1 h2 h3
   refine loopT_inr ?_
   unfold zab_l3
   simp only [cond_dec]
   rw [if_neg (by omega), show (loA cmpV d u).length = i by omega]
 | succ k ih =>
   intro i j hk h1 h2 h3
   by_cases hij : i < j
   · have hh : (i + j) / 2 < u.length := by omega
     have turn : zab_l3 u d ((i : Int), (j : Int), ()) = if cmpV u[(i + j) / 2] d < 0 then some (.inl ((((i + j) / 2 + 1 : Nat) : Int), (j : Int), ())) else some (.inl ((i : Int), (((i + j) / 2 : Nat) : Int), ())) := by
       unfold zab_l3
       simp only [cond_dec]
       rw [if_pos (by omega), show (i : Int) + (j : Int) = ((i + j : Nat) : Int) by omega, half_t (by omega)]
       simp only [Option.bind_some]
       rw [wrap64 (n := (((i + j) / 2 : Nat) : Int)) (by omega) (by omega), atI_lt hh]
       simp only [Option.bind_some, valueCompare_t]
       rw [wrap64 (by omega) (by omega)]; rfl
     by_cases hn : (i + j) / 2 < (loA cmpV d u).length
     · rw [if_pos (at_lo (c := cmpV) (key := fun v : Val => v) hh hn)] at turn
       rw [loopT_inl turn]
       exact ih _ _ (by omega) (by omega) h2 h3
     · have := at_hi cv_cmp (key := fun v : Val => v) hr hh (k := d) (Nat.le_of_not_lt hn)
       rw [if_neg (by omega)] at turn
       rw [loopT_inl turn]
       exact ih _ _ (by omega) h1 (by omega) (by omega)
   · refine loopT_inr ?_
     unfold zab_l3
     simp only [cond_dec]
     rw [if_neg (by omega), show (loA cmpV d u).length = i by omega]
def hereV (q : List Val) (d : Val) : Bool := match q with
 | [] => false
 | x :: _ => decide (cmpV x d = 0)
theorem vsearch_t {u : List Val} {d : Val} (hl : u.length < 1000000) (hr : riseA cmpV u) :
   zab u d () = some (((loA cmpV d u).length : Int), hereV (hiA cmpV d u) d, ()) := by
 have e2 : loA cmpV d u ++ hiA cmpV d u = u := lohiA
 have hlen : (loA cmpV d u).length + (hiA cmpV d u).length = u.length := by rw [← List.length_append, e2]
 unfold zab
 have := vsearch_loop (d := d) hl hr u.length 0 u.length (by omega) (by omega) (by omega) (by omega)
 rw [show ((0 : Int), (u.length : Int), ()) = (((0 : Nat) : Int), (u.length : Int), ()) from rfl, this, bind_join_inl]
 simp only [cond_dec]
 cases hq : hiA cmpV d u with
 | nil =>
   rw [hq] at hlen
   simp only [List.length_nil] at hlen
   rw [if_neg (by omega)]; rfl
 | cons x q =>
   rw [hq] at hlen e2
   simp only [List.length_cons] at hlen
   rw [if_pos (by omega), atI_nat]
   have e3 : u[(loA cmpV d u).length]? = some x := by
     have : (loA cmpV d u ++ x :: q)[(loA cmpV d u).length]? = some x := by simp
     rw [e2] at this
     exact this
   rw [e3]
   simp only [Option.bind_some, valueCompare_t]
   rfl
def bagAt (l : List Item1) (p : Path) : List Val := (atM l p 2).map fun x => x.2.1.2.2.1
theorem bagValues_t {l : List Item1} {p : Path} (hl : LowI l) : zbu l p = some (valsU (bagAt l p)) := by
 unfold zbu bagAt
 rw [at_t hl]
 have hlow := (atM_low (p := p) (leaf := 2) hl).len
 generalize atM l p 2 = q at hlow
 simp only [Option.bind_some]
 have loop := loop_list (S := List Val) (f := zbu_l3 q) (l := q) (fun i o => ((i : Int), o, ())) (fun _ x o => .inl (putU cmpV o x.2.1.2.2.1)) (fun o => o) (fun i o => riseA cmpV o ∧ o.length ≤ i) (fun i h o ho => by
   refine .inl ⟨_, rfl, ?_, putU_rises cv_cmp ho.1, by have := putU_len (c := cmpV) (o := o) (v := q[i].2.1.2.2.1); have := ho.2; omega⟩
   have ho2 := ho.2
   unfold zbu_l3
   simp only [cond_dec]
   rw [if_pos (by omega), atI_lt h]
   simp only [Option.bind_some, vsearch_t (show o.length < 1000000 by omega) ho.1]
   rw [wrap64 (by omega) (by omega)]
   generalize q[i].2.1.2.2.1 = v
   have e : loA cmpV v o ++ hiA cmpV v o = o := lohiA
   have ins : insT o ((loA cmpV v o).length : Int) [v] = some (loA cmpV v o ++ v :: hiA cmpV v o) := by
     have := ins_atU (p := loA cmpV v o) (q := hiA cmpV v o) (y := v) (by rw [e]; omega)
     rwa [e] at this
   unfold zah putU
   cases hq : hiA cmpV v o with
   | nil =>
     rw [hq] at ins
     simp only [hereV, Bool.not_false, cond_true, ins, Option.map_some, Option.bind_some]; rfl
   | cons y r =>
     rw [hq] at ins
     simp only [hereV]
     by_cases h0 : cmpV y v = 0
     · rw [decide_eq_true h0, Bool.not_true, cond_false, if_pos h0]; rfl
     · rw [decide_eq_false h0, Bool.not_false, cond_true, if_neg h0, ins]; rfl) (fun o _ => by
   unfold zbu_l3
   simp only [cond_dec]
   rw [if_neg (by omega)]) [] ⟨List.Pairwise.nil, by simp⟩
 rw [show ((0 : Int), ([] : List Val), ()) = (((0 : Nat) : Int), [], ()) from rfl, loop, foldE_inl, valsU_uniq, ← put_uniq cv_cmp, List.foldl_map]
def sumI (q : List Item1) : Int := q.foldl (fun n x => n + x.2.1.2.2.2.1) 0
def smallN (q : List Item1) : Prop := ∀ x ∈ q, -2147483647 ≤ x.2.1.2.2.2.1 ∧ x.2.1.2.2.2.1 ≤ 2147483647
theorem sum_t {l : List Item1} {p : Path} (hl : LowI l) (hn : smallN (atM l p 3)) : zci l p = some (sumI (atM l p 3)) := by
 unfold zci
 rw [at_t hl]
 have hlow := (atM_low (p := p) (leaf := 3) hl).len
 generalize atM l p 3 = q at hlow hn
 simp only [Option.bind_some]
 have loop := loop_list (S := Int) (f := zci_l3 q) (l := q) (fun i n => (n, (i : Int), ())) (fun _ x n => .inl (n + x.2.1.2.2.2.1)) (fun n => n) (fun i n => -2147483648 * (i : Int) ≤ n ∧ n ≤ 2147483648 * (i : Int)) (fun i h n hb => by
   have hx := hn _ (List.getElem_mem h)
   refine .inl ⟨_, rfl, ?_, by constructor <;> omega⟩
   unfold zci_l3
   simp only [cond_dec]
   rw [if_pos (by omega), atI_lt h]
   simp only [Option.bind_some]
   rw [wrap64 (n := (i : Int) + 1) (by omega) (by omega), wrap64 (by omega) (by omega)]; rfl) (fun n _ => by
   unfold zci_l3
   simp only [cond_dec]
   rw [if_neg (by omega)]) 0 (by omega)
 rw [foldE_inl] at loop
 exact loop
end Go.Proofs.YtgfpkhlabdcbmaaGreatDoor.Q
namespace Go.Proofs.YtgfpkhlabdcbmaaGreatDoor.Q
open Go.EM Go.TY Go.Proofs Go.Proofs.YtgfpkhlabdcbmaaGreatDoor.Y
def entM (l : List Item1) (p : Path) (k : Int) : Ent := (p, k, if k = 1 then valsU (valsAt l p) else if k = 2 then valsU (bagAt l p) else [], if k = 3 then sumI (atM l p 3) else 0, ())
theorem nums_ok {l : List Item1} {p : Path} (h : ItemsOk l) : smallN (atM l p 3) := fun x hx => by
 have h1 := (at_kind h x hx).1
 have h2 := ((atOk h).op x hx).1.num h1
 omega
theorem clone_t {p : Path} (hp : p.length < 1000000) : zal p = some p := by
 unfold zal cloneT
 rw [if_pos (by simp only [most]; omega)]
theorem viewAt_t {l : List Item1} {p : Path} {k : Int} (h : ItemsOk l) (hp : p.length < 1000000) : zco l p k = some (entM l p k) := by
 have hl := itemsOk_low h
 unfold zco entM
 rw [clone_t hp]
 simp only [Option.bind_some, cond_dec, regValues_t hl, bagValues_t hl, sum_t hl (nums_ok h)]
 by_cases h1 : k = 1
 · rw [if_pos h1, if_pos h1, if_neg (by omega)]
 · rw [if_neg h1, if_neg h1]
   by_cases h2 : k = 2
   · rw [if_pos h2, if_pos h2, if_neg (by omega)]
   · rw [if_neg h2, if_neg h2]
     by_cases h3 : k = 3
     · rw [if_pos h3, if_pos h3]
     · rw [if_neg h3, if_neg h3]
def viewM (l : List Item1) : List Ent := (leavesM l).map fun y => entM l y.1 y.2.1
theorem flat_one {A B : Type} {g : A → B} : ∀ {l : List A}, (l.flatMap fun x => [g x]) = l.map g
 | [] => rfl
 | x :: l => by rw [List.flatMap_cons, List.map_cons, flat_one]; rfl
theorem leaf_short {l : List Item1} (h : ItemsOk l) {y : Leaf1} (hy : y ∈ leavesM l) : y.1.length ≤ 12 ∧ ∀ s ∈ y.1, s.length ≤ 120 := by
 obtain ⟨x, hx, rfl⟩ := leavesM_mem.1 hy
 have := (h.op x hx).2.1
 exact ⟨this.1, this.2.1⟩
theorem leaves_len {l : List Item1} (h : ItemsOk l) : (leavesM l).length ≤ 320 := by
 have h1 := uniq_len (c := cmpLf) (l.map leafOf)
 rw [List.length_map] at h1
 have := h.len
 unfold leavesM; omega
theorem viewOf_t {l : List Item1} (h : ItemsOk l) : zcm l = some (viewM l) := by
 have hlen := leaves_len h
 unfold zcm
 rw [leaves_t (itemsOk_low h)]
 simp only [Option.bind_some]
 have this := loop_map (f := zcm_l3 l (leavesM l)) (l := leavesM l) (fun i o => ((i : Int), o, ())) (fun y => [entM l y.1 y.2.1]) (fun o => o) 1 (fun x _ => Nat.le_refl _) (fun i hi o ho => by
   have hs := leaf_short h (List.getElem_mem hi)
   unfold zcm_l3
   simp only [cond_dec]
   rw [if_pos (by omega), atI_lt hi]
   simp only [Option.bind_some, viewAt_t h (show (leavesM l)[i].1.length < 1000000 by omega)]
   rw [wrap64 (by omega) (by omega), roomT_lt (by simp; omega)]; rfl) (fun o _ => by
   unfold zcm_l3
   simp only [cond_dec]
   rw [if_neg (by omega)])
 rw [show ((0 : Int), ([] : List Ent), ()) = (((0 : Nat) : Int), [], ()) from rfl, this, flat_one]
 rfl
theorem vals_right {l : List Item1} {p : Path} {k : Int} (h : ItemsOk l) (hk : k = 1 ∨ k = 2) : ∀ v ∈ (atM l p k).map (fun x => x.2.1.2.2.1), rightV v = true := fun v hv => by
 obtain ⟨x, hx, rfl⟩ := List.mem_map.1 hv
 have h1 := (at_kind h x hx).1
 exact ((atOk h).op x hx).1.val (by omega) (by omega)
theorem valsU_small {q : List Val} (hq : q.length ≤ 320) (hr : ∀ v ∈ q, rightV v = true) : (valsU q).length ≤ 400 ∧ ∀ v ∈ valsU q, rightV v = true := by
 constructor
 · have := valsU_len q []
   simp only [List.length_nil, Nat.zero_add] at this
   unfold valsU; omega
 · intro v hv
   exact hr v ((valsU_mem q v).1 hv)
theorem sum_in : ∀ (q : List Item1) (n : Int) (k : Nat), smallN q → (-2147483647 * (k : Int) ≤ n ∧ n ≤ 2147483647 * (k : Int)) → -2147483647 * ((k + q.length : Nat) : Int) ≤ q.foldl (fun n x => n + x.2.1.2.2.2.1) n ∧ q.foldl (fun n x => n + x.2.1.2.2.2.1) n ≤ 2147483647 * ((k + q.length : Nat) : Int)
 | [], n, k, _, h => h
 | x :: q, n, k, hn, h => by
   have hx := hn x (List.mem_cons_self ..)
   rw [List.foldl_cons, List.length_cons, show k + (q.length + 1) = (k + 1) + q.length by omega]
   exact sum_in q _ (k + 1) (fun y hy => hn y (List.mem_cons_of_mem _ hy)) (by omega)
theorem ent_small {l : List Item1} {p : Path} {k : Int} (h : ItemsOk l) (hp : p.length ≤ 12) (hs : ∀ s ∈ p, s.length ≤ 120) : smallE (entM l p k) ∧ inR (entM l p k).2.2.2.1 := by
 have hat : ∀ k, (atM l p k).length ≤ 320 := fun k => (atOk h).len
 refine ⟨⟨hp, hs, ?_⟩, ?_⟩
 · unfold entM
   simp only
   by_cases h1 : k = 1
   · rw [if_pos h1]
     exact valsU_small (by rw [valsAt, List.length_map]; exact hat 1) (vals_right h (.inl rfl))
   · rw [if_neg h1]
     by_cases h2 : k = 2
     · rw [if_pos h2]
       exact valsU_small (by rw [bagAt, List.length_map]; exact hat 2) (vals_right h (.inr rfl))
     · rw [if_neg h2]
       exact ⟨by simp, fun v hv => by cases hv⟩
 · unfold entM inR
   simp only
   have h1 := sum_in (atM l p 3) 0 0 (nums_ok h) (by simp)
   have := hat 3
   unfold sumI
   split <;> omega
theorem ent_low {l : List Item1} {p : Path} {k : Int} (h : ItemsOk l) (hp : p.length ≤ 12) (hs : ∀ s ∈ p, s.length ≤ 120) : lowE (entM l p k) := by
 have := (ent_small (k := k) h hp hs).1
 exact ⟨by have := this.1; omega, by have := this.2.2.1; omega⟩
theorem view_mem {l : List Item1} {e : Ent} (h : e ∈ viewM l) : ∃ y ∈ leavesM l, e = entM l y.1 y.2.1 := by
 obtain ⟨y, hy, rfl⟩ := List.mem_map.1 h
 exact ⟨y, hy, rfl⟩
theorem view_low {l : List Item1} (h : ItemsOk l) : ∀ e ∈ viewM l, lowE e := fun e he => by
 obtain ⟨y, hy, rfl⟩ := view_mem he
 have := leaf_short h hy
 exact ent_low h this.1 this.2
theorem view_small {l : List Item1} (h : ItemsOk l) : ∀ e ∈ viewM l, smallE e ∧ inR e.2.2.2.1 := fun e he => by
 obtain ⟨y, hy, rfl⟩ := view_mem he
 have := leaf_short h hy
 exact ent_small h this.1 this.2
theorem view_len {l : List Item1} (h : ItemsOk l) : (viewM l).length ≤ 320 := by unfold viewM; rw [List.length_map]; exact leaves_len h
theorem viewSameAll_t {l m : List Ent} (hl : l.length < 1000000) (hs : ∀ e ∈ l, lowE e) : zcd l m = some (decide (l = m)) := by
 unfold zcd zaa
 by_cases hlen : l.length = m.length
 · rw [decide_eq_true (by omega)]
   simp only [Bool.not_true, cond_false]
   have := loop_all2 (f := zaa_l4 l m) (l := l) (m := m) (fun i => ((i : Int), ())) (fun x y => decide (x = y)) true false hlen (fun i h h' => by
     unfold zaa_l4
     simp only [cond_dec]
     rw [if_pos (by omega), atI_lt h, atI_lt h']
     simp only [Option.bind_some, viewSame_t (hs _ (List.getElem_mem h)), cond_ndec]
     rw [wrap64 (by omega) (by omega)]
     by_cases e : l[i] = m[i]
     · rw [if_pos e, if_pos (decide_eq_true e)]; rfl
     · rw [if_neg e, if_neg (by simpa using e)]) (by
     unfold zaa_l4
     simp only [cond_dec]
     rw [if_neg (by omega)])
   rw [all2_dec, ite_bool] at this
   rw [show ((0 : Int), ()) = (((0 : Nat) : Int), ()) from rfl, this]; rfl
 · rw [decide_eq_false (by omega)]
   have : l ≠ m := fun e => hlen (by rw [e])
   rw [decide_eq_false this]; rfl
def textL (l : List Ent) : List UInt8 := l.flatMap fun e => lineM e ++ [10]
theorem text_fold {R : Type} {fin : List UInt8 × Bool → R} : ∀ (l : List Ent) (i : Nat) (s : List UInt8 × Bool), foldE (fun _ e s => .inl (s.1 ++ (lineM e ++ [10]), true)) fin i l s = fin (s.1 ++ textL l, if l = [] then s.2 else true)
 | [], i, s => by simp [foldE, textL]
 | e :: l, i, s => by
   unfold foldE
   simp only
   rw [text_fold l (i + 1)]
   have e1 : (s.1 ++ (lineM e ++ [10])) ++ textL l = s.1 ++ textL (e :: l) := by simp [textL]
   have e2 : (if l = [] then true else true) = true := by split <;> rfl
   have e3 : ¬ (e :: l) = [] := by intro h; cases h
   rw [if_neg e3]
   simp only
   rw [e1, e2]
theorem viewText_t {l : List Ent} (hl : l.length ≤ 320) (hs : ∀ e ∈ l, smallE e ∧ inR e.2.2.2.1) : zcc l = some (textL l) := by
 have loop := loop_list (S := List UInt8 × Bool) (f := zcc_l3 l) (l := l) (fun i s => ((i : Int), bI s.1, (s.2, (), ()), ())) (fun _ e s => .inl (s.1 ++ (lineM e ++ [10]), true)) (fun s => s.1) (fun i s => s.1.length ≤ i * 600001) (fun i hi s hb => by
   have he := hs _ (List.getElem_mem hi)
   have hll := lineM_len he.1 he.2
   refine .inl ⟨_, rfl, ?_, by simp only [List.length_append, List.length_cons, List.length_nil]; omega⟩
   unfold zcc_l3
   simp only [cond_dec]
   rw [if_pos (by omega), atI_lt hi]
   simp only [Option.bind_some, viewLine_t he.1 he.2]
   rw [catT_some (by simp; omega)]
   simp only [Option.bind_some]
   rw [writeString_t (by simp only [List.length_append, List.length_cons, List.length_nil]; omega), wrap64 (by omega) (by omega)]; rfl) (fun s hb => by
   unfold zcc_l3
   simp only [cond_dec]
   rw [if_neg (by omega), string_t (by omega)]; rfl) ([], false) (by simp)
 rw [text_fold] at loop
 unfold zcc
 rw [show ((0 : Int), ([] : List Int), (false, (), ()), ()) = (((0 : Nat) : Int), bI (([], false) : List UInt8 × Bool).1, ((([], false) : List UInt8 × Bool).2, (), ()), ()) from rfl, loop, List.nil_append]
def exV : List Txn1 := [((0, 1, ()), 0, 1, false, [(1, [[97]], (1, 2, [], ()), 0, [], ()), (1, [[97]], (1, 1, [], ()), 0, [], ())], ())]
theorem exV_low : LowP exV := by
 unfold exV
 refine ⟨⟨by decide, ?_, ?_⟩, ?_⟩
 · intro t ht
   simp only [List.mem_cons, List.mem_nil_iff, or_false] at ht
   subst ht; decide
 · intro t ht o ho
   simp only [List.mem_cons, List.mem_nil_iff, or_false] at ht
   subst ht
   simp only [List.mem_cons, List.mem_nil_iff, or_false] at ho
   rcases ho with rfl | rfl <;> decide
 · intro t ht o ho
   simp only [List.mem_cons, List.mem_nil_iff, or_false] at ht
   subst ht
   simp only [List.mem_cons, List.mem_nil_iff, or_false] at ho
   rcases ho with rfl | rfl <;> exact ⟨⟨by decide, by decide⟩, by decide⟩
end Go.Proofs.YtgfpkhlabdcbmaaGreatDoor.Q
namespace Go.Proofs.YtgfpkhlabdcbmaaGreatDoor.Q
open Go.EM Go.TY Go.Proofs Go.Proofs.YtgfpkhlabdcbmaaGreatDoor.Y
theorem exV_items : ItemsOk (allM exV []) := by
 have e : allM exV [] = [(((0, 1, ()), 0, ()), (1, [[97]], (1, 2, [], ()), 0, [], ()), 1, ()), (((0, 1, ()), 1, ()), (1, [[97]], (1, 1, [], ()), 0, [], ()), 1, ())] := rfl
 rw [e]
 have hv : ∀ n : Int, -2147483647 ≤ n → n ≤ 2147483647 → rightV (1, n, [], ()) = true := fun n h1 h2 => by
   unfold rightV; rw [decide_eq_true_eq]; exact .inl ⟨rfl, rfl, h1, h2⟩
 have hr : runesM [97] = some [97] := by
   rw [runesM_step (by simp) (by decide)]
   have e1 : ([97] : List UInt8).drop (charM [97]).2 = [] := rfl
   rw [e1, runesM_nil]; rfl
 have hname : nameM [97] = true := by unfold nameM; rw [hr]; rfl
 have hp : checkM [[97]] = 0 := by
   unfold checkM
   rw [if_neg (by simp), if_neg (by simp), if_pos (by simp [hname])]
 have hs : refsM [] = true := by unfold refsM; rw [if_pos (fun i hi => by cases hi)]
 refine ⟨by simp, fun x hx => ?_⟩
 simp only [List.mem_cons, List.mem_nil_iff, or_false] at hx
 rcases hx with rfl | rfl
 · exact ⟨⟨⟨by decide, by decide⟩, hp, fun _ _ => hv 2 (by omega) (by omega), (fun h => by rcases h with h | h <;> exact absurd h (by decide)), (fun h => absurd h (by decide)), fun _ => rfl, fun _ => rfl, ⟨by decide, hs⟩⟩, ⟨by simp, by simp, by simp, by simp⟩, rfl⟩
 · exact ⟨⟨⟨by decide, by decide⟩, hp, fun _ _ => hv 1 (by omega) (by omega), (fun h => by rcases h with h | h <;> exact absurd h (by decide)), (fun h => absurd h (by decide)), fun _ => rfl, fun _ => rfl, ⟨by decide, hs⟩⟩, ⟨by simp, by simp, by simp, by simp⟩, rfl⟩
theorem awake18 : zbm = some true := by
 unfold zbm
 have e : ∀ n : Int, zcf n = some (1, n, [], ()) := fun n => rfl
 have ha := all_t (l := exV) (u := []) exV_low.low nil_low
 have hi := exV_items
 simp only [e, Option.bind_some]
 unfold exV at ha hi
 rw [ha]
 simp only [Option.bind_some, viewOf_t hi, viewText_t (view_len hi) (view_small hi)]
 congr 1
 refine decide_eq_true ?_
 have ev : viewM (allM exV []) = [([[97]], 1, [(1, 1, [], ()), (1, 2, [], ())], 0, ())] := rfl
 unfold exV at ev
 rw [ev]
 have t1 : textV (1, 1, [], ()) = [49] := by
   show Lib.itoa ((1 : Nat) : Int) = [49]
   rw [itoa_pos, dec_small (by omega)]; rfl
 have t2 : textV (1, 2, [], ()) = [50] := by
   show Lib.itoa ((2 : Nat) : Int) = [50]
   rw [itoa_pos, dec_small (by omega)]; rfl
 unfold textL lineM valsM
 simp only [List.flatMap_cons, List.flatMap_nil, List.map_cons, List.map_nil, t1, t2]
 rfl
theorem same_refl {l : List Ent} (hl : l.length < 1000000) (hs : ∀ e ∈ l, lowE e) : zcd l l = some true := by rw [viewSameAll_t hl hs, decide_eq_true rfl]
theorem shortP_iff {p : Path} : (decide (p.length ≤ 12) && p.all fun x => decide (x.length ≤ 120)) = true → p.length ≤ 12 ∧ ∀ s ∈ p, s.length ≤ 120 := by
 simp only [Bool.and_eq_true, decide_eq_true_eq, List.all_eq_true]
 exact id
theorem viewAll_law : ∀ v : za3_T.ps.V, okV za3_T.ps v → za3_T.fn v = some true := fun v _ => by
 obtain ⟨l, u, p, k, ⟨⟩⟩ := v
 show za3 l u p k = some true
 unfold za3
 obtain ⟨b, hb, hg⟩ := good13_t l u
 rw [hb]
 simp only [Option.bind_some, awake18, shortP_t]
 cases b with
 | false => rfl
 | true =>
   obtain ⟨h1, h2⟩ := hg rfl
   simp only [Bool.not_true, cond_false]
   cases hsp : (decide (p.length ≤ 12) && p.all fun x => decide (x.length ≤ 120)) with
   | false => rfl
   | true =>
     obtain ⟨hp1, hp2⟩ := shortP_iff hsp
     have hp := txns_low h1 (by omega)
     have hu := counts_low h2
     have hi := items_ok (u := u) h1
     generalize hx : allM l u = x at hi
     have hlen := view_len hi
     have hlow := view_low hi
     have he := ent_low (k := k) hi hp1 hp2
     simp only [Bool.not_true, cond_false, all_t hp.low hu, hx, Option.bind_some, viewOf_t hi, viewAt_t (k := k) hi (show p.length < 1000000 by omega)]
     have loop := loop_any (f := za3_l7 p k (viewM x)) (l := viewM x) (fun i => ((i : Int), entM x p k, ())) (fun e => decide (e.2.1 = k ∧ e.1 = p)) (.inr true : (Ent × Unit) ⊕ Bool) (.inl (entM x p k, ())) (fun i h => by
       obtain ⟨y, hy, hye⟩ := view_mem (List.getElem_mem h)
       have hys := leaf_short hi hy
       have hk : (viewM x)[i].2.1 = y.2.1 := by rw [hye]; rfl
       have hpy : (viewM x)[i].1 = y.1 := by rw [hye]; rfl
       unfold za3_l7
       simp only [cond_dec]
       rw [if_pos (by omega), atI_lt h]
       simp only [Option.bind_some]
       rw [refPathCompare_t (a := (viewM x)[i].1) (by rw [hpy]; omega) (fun s hs => by rw [hpy] at hs; have := hys.2 s hs; omega)]
       simp only [Option.bind_some]
       rw [wrap64 (by omega) (by omega)]
       by_cases e1 : (viewM x)[i].2.1 = k
       · rw [if_pos e1]
         by_cases e2 : (viewM x)[i].1 = p
         · rw [if_pos ((cp_zero _ _).2 e2), if_pos (by simp [e1, e2])]
           have ee : (viewM x)[i] = entM x p k := by rw [hye, ← hk, ← hpy, e1, e2]
           rw [ee, same_refl (by simp) (fun e h => by rw [List.mem_singleton] at h; rw [h]; exact he)]
           simp only [Option.bind_some, cond_true, awake18]
         · rw [if_neg (fun e => e2 ((cp_zero _ _).1 e)), if_neg (by simp [e2])]; rfl
       · rw [if_neg e1, if_neg (by simp [e1])]; rfl) (by
       unfold za3_l7
       simp only [cond_dec]
       rw [if_neg (by omega)])
     rw [show ((0 : Int), entM x p k, ()) = (((0 : Nat) : Int), entM x p k, ()) from rfl, loop]
     by_cases ha : (viewM x).any (fun e => decide (e.2.1 = k ∧ e.1 = p)) = true
     · rw [if_pos ha, bind_join_inr]
     · rw [if_neg ha, bind_join_inl]
       have none_at : putKind k = true → atM x p k = [] := fun hk => by
         rw [List.eq_nil_iff_forall_not_mem]
         intro y hy
         have h3 := at_kind hi y hy
         apply ha
         rw [List.any_eq_true]
         have hyl : y ∈ x := (List.mem_filter.1 hy).1
         refine ⟨entM x (leafOf y).1 (leafOf y).2.1, List.mem_map.2 ⟨leafOf y, leavesM_mem.2 ⟨y, hyl, rfl⟩, rfl⟩, ?_⟩
         simp only [decide_eq_true_eq]
         exact ⟨by show leafM y.2.1.1 = k; rw [h3.1]; exact leaf_kind hk, h3.2⟩
       have hL : (entM x p k).2.2.1 = [] := by
         unfold entM
         simp only
         by_cases k1 : k = 1
         · rw [if_pos k1, valsAt, ← k1, none_at (by rw [k1]; rfl)]; rfl
         · rw [if_neg k1]
           by_cases k2 : k = 2
           · rw [if_pos k2, bagAt, ← k2, none_at (by rw [k2]; rfl)]; rfl
           · rw [if_neg k2]
       have hN : (entM x p k).2.2.2.1 = 0 := by
         unfold entM
         simp only
         by_cases k3 : k = 3
         · rw [if_pos k3, ← k3, none_at (by rw [k3]; rfl)]; rfl
         · rw [if_neg k3]
       simp only [hL, hN, List.length_nil, decide_true, cond_true, Option.bind_some]
       rfl
end Go.Proofs.YtgfpkhlabdcbmaaGreatDoor.Q
