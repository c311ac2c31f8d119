/- make, slice literals, conversions and iterators, in the model. -/
import Derived.Test.YtnafmjbakholcaaDoorE10
import Derived.Lib.Builder
import Derived.Lib.UnsafeStr
set_option linter.unusedVariables false
set_option linter.unusedSimpArgs false
namespace Go.EM
section
variable {P : Program} {w w' : World} {O : Nat → Prop} {α : AM} {st : Store}

theorem ofConst_cells {zv : Value} (h : (ofConst zv).cells.all AVal.isCell = true) : (ofConst zv).cells.length = zv.cells.size := by
  unfold ofConst at h ⊢
  split
  · simp [AVal.cells, Value.cells]
  · rename_i hna
    have e : zv.cells = #[zv] := by cases zv <;> first | rfl | exact absurd rfl (hna _)
    rw [e]
    unfold ofConst1
    split <;> simp [AVal.cells]

theorem replicate_vals {n : Nat} {z : AVal} {zv : Value} (hz : Rep w O α z zv ∧ z.cells.length = n ∧ zv.cells.size = n ∧ ∀ u ∈ zv.cells, u.oneCell' = true) : ∀ k, RowVals w O α n (List.replicate k z) (List.replicate k zv)
  | 0 => by simp [RowVals]
  | k + 1 => by
    simp only [List.replicate_succ, RowVals]
    exact ⟨zv, _, rfl, hz, replicate_vals hz k⟩
theorem flat_replicate_get {zv : Value} {n : Nat} (hz : zv.cells.size = n) (hn : n ≠ 0) : ∀ (k j : Nat), j < k * n → (flat (List.replicate k zv))[j]? = some (zv.cells[j % n]!)
  | 0, j, h => by simp at h
  | k + 1, j, h => by
    have e : flat (List.replicate (k + 1) zv) = zv.cells.toList ++ flat (List.replicate k zv) := by simp [flat, List.replicate_succ]
    rw [e]
    by_cases hj : j < n
    · rw [List.getElem?_append_left (by simp; omega), Nat.mod_eq_of_lt hj]
      simp [getElem!_pos, hz, hj]
    · rw [List.getElem?_append_right (by simp; omega)]
      simp only [Array.length_toList, hz]
      rw [flat_replicate_get hz hn k (j - n) (by rw [Nat.add_mul] at h; omega)]
      rw [Nat.mod_eq_sub_mod (by omega : n ≤ j)]

theorem done_make (hi : Inv w O α st) {t : TypeId} {l c v : AVal} {st' : Store} {ul uc : Value} (h : amake P t l c st = some (v, st')) (hl : Rep w O α l ul) (hc : Rep w O α c uc) :
    Done P (Instr.makeSlice t ul uc) w O α v st' := by
  unfold amake at h
  split at h
  · rename_i n z hei
    obtain ⟨e, i, zv, he1, he2, he3, he4, he5, he6, he7, he8, he9⟩ := elemInfo_spec hei
    split at h
    · rename_i l c
      split at h
      · rename_i hcond
        obtain ⟨rfl, h0, hlt, hcell⟩ := hcond
        simp only [freshRow, Option.some.injEq, Prod.mk.injEq, elemTy_of he1] at h
        obtain ⟨rfl, rfl⟩ := h
        simp only [Rep] at hl hc
        subst hl; subst hc
        subst he4
        have hb : (i.bytes : Int) * l ≤ 281474976710656 := by
          have h1 : (i.bytes : Int) * l ≤ 16384 * 4294967296 := Int.mul_le_mul (by omega) (by simp only [most] at hlt; omega) h0 (by omega)
          omega
        have hr := run_make (P := P) w t e i zv he1 he2 he3 .i64 .i64 l l h0 (Int.le_refl _) hb (by simp only [most] at hlt; omega)
        have hzz : Rep w O α z zv := by rw [he9]; exact ofConst_rep zv
        obtain ⟨r1, r2⟩ := cells_rep hcell hzz
        have hzl : z.cells.length = i.size := by rw [he9] at hcell ⊢; rw [ofConst_cells hcell, he8]
        have hv := replicate_vals ⟨hzz, hzl, he8, r2⟩ l.toNat
        have hfl := flat_length hv
        rw [List.length_replicate] at hfl
        obtain ⟨g1, g2⟩ := push_row hi (c := madeCells zv.cells (l.toNat * i.size)) (el := e) (fz := (0, 0)) (cap := l.toNat) he5 hv (by rw [size_madeCells]) (by simp) (fun j hj => by
          rw [hfl] at hj
          rw [flat_replicate_get he8 he5 _ _ hj]
          simp only [madeCells, Array.getElem?_map, he8]
          rw [Array.getElem?_range]
          simp [hj]) (by simp)
        rw [List.length_replicate] at g1 g2
        exact ⟨_, _, _, hr, g1, g2, by rw [hi.len, List.length_replicate]; exact own_new (Nat.le_refl _)⟩
      · cases h
    · cases h
  · cases h

/-! ### slice literals -/
theorem fill_slice {n : Nat} : ∀ (parts : List (Nat × AVal)) (vs : List (Nat × Value)) (k : Nat) (cells : Array Value), idxOk k parts = true → RepParts w O α parts vs →
    (∀ p ∈ parts, p.2.cells.length = n ∧ p.2.cells.all AVal.isCell = true) → (k + parts.length) * n ≤ cells.size →
      ∃ us, RowVals w O α n (parts.map (·.2)) us ∧ ∃ cs : Array Value, Instr.fill (fun i => some (i * n, n)) cells vs = some cs ∧ cs.toList = cells.toList.take (k * n) ++ flat us ++ cells.toList.drop ((k + parts.length) * n)
  | [], vs, k, cells, _, hv, _, hs => by
    simp only [RepParts] at hv; subst hv
    exact ⟨[], by simp [RowVals], cells, by simp [Instr.fill], by simp [flat]⟩
  | (i, x) :: parts, vs, k, cells, hidx, hv, hf, hs => by
    simp only [RepParts] at hv
    obtain ⟨u, us, rfl, h1, h2⟩ := hv
    simp only [idxOk, Bool.and_eq_true, beq_iff_eq] at hidx
    obtain ⟨rfl, hidx⟩ := hidx
    obtain ⟨f1, f2⟩ := hf (i, x) List.mem_cons_self
    obtain ⟨r1, r2⟩ := cells_rep f2 h1
    have hsz : u.cells.size = n := by rw [← f1]; simpa using RepL_length r1
    simp only [List.length_cons] at hs
    have hin : i * n + n ≤ cells.size := by
      have := Nat.mul_le_mul_right n (show i + 1 ≤ i + (parts.length + 1) by omega)
      rw [Nat.add_mul] at this; omega
    have hfold : (u.cells.zipIdx.foldl (fun cs (p : Value × Nat) => cs.setIfInBounds (i * n + p.2) p.1) cells).toList = cells.toList.take (i * n) ++ u.cells.toList ++ cells.toList.drop (i * n + n) := by
      rw [← Array.foldl_toList, Array.toList_zipIdx]
      have := foldl_set (i * n) u.cells.toList 0 cells (by simp; omega)
      rw [this]
      simp [hsz]
    obtain ⟨us', q1, cs, q2, q3⟩ := fill_slice parts us (i + 1) (u.cells.zipIdx.foldl (fun cs (p : Value × Nat) => cs.setIfInBounds (i * n + p.2) p.1) cells) hidx h2
      (fun p hp => hf p (List.mem_cons_of_mem _ hp)) (by rw [← Array.length_toList, hfold]; simp only [List.length_append, List.length_take, List.length_drop, Array.length_toList]; rw [show i + 1 + parts.length = i + (parts.length + 1) by omega]; omega)
    refine ⟨u :: us', by simp only [List.map_cons, RowVals]; exact ⟨u, us', rfl, ⟨h1, f1, hsz, r2⟩, q1⟩, cs, ?_, ?_⟩
    · simp only [Instr.fill]
      rw [if_neg (by simp [hsz]; omega)]
      exact q2
    · rw [q3, hfold]
      have e : flat (u :: us') = u.cells.toList ++ flat us' := by simp [flat]
      have hl1 : (cells.toList.take (i * n)).length = i * n := by simp; omega
      have hul : u.cells.toList.length = n := by simp [hsz]
      rw [e]
      have t1 : (cells.toList.take (i * n) ++ u.cells.toList ++ cells.toList.drop (i * n + n)).take ((i + 1) * n) = cells.toList.take (i * n) ++ u.cells.toList := by
        rw [show (i + 1) * n = (cells.toList.take (i * n) ++ u.cells.toList).length by rw [List.length_append, hl1, hul, Nat.add_mul]; omega]
        exact List.take_left
      have t2 : (cells.toList.take (i * n) ++ u.cells.toList ++ cells.toList.drop (i * n + n)).drop ((i + 1 + parts.length) * n) = cells.toList.drop ((i + (parts.length + 1)) * n) := by
        rw [List.drop_append, List.length_append, hl1, hul, List.drop_eq_nil_of_le (by rw [List.length_append, hl1, hul, Nat.add_mul, Nat.add_mul]; omega), List.nil_append, List.drop_drop]
        congr 1
        simp only [Nat.add_mul]; omega
      rw [t1, t2]
      simp only [List.length_cons, List.append_assoc]

theorem run_abuildSlice (hi : Inv w O α st) {t : TypeId} {len n : Nat} {parts : List (Nat × AVal)} {xs : List AVal} {vs : Array (Nat × Value)} (h : abuildSlice P t len parts = some (n, xs)) (hv : RepParts w O α parts vs.toList) :
    ∃ (c : Array Value) (e : TypeId) (us : List Value), (Instr.buildSlice t len vs).run P w = .ok (.slice (some ⟨w.heap.size, 0, none⟩) len len) (w.alloc (.cells c e)) ∧ RowVals w O α n xs us ∧ c.toList = flat us ∧ xs.length = len ∧ n ≠ 0 ∧ elemTy P t = e := by
  unfold abuildSlice at h
  split at h
  · rename_i e hu
    split at h
    · rename_i n' z hn hz
      split at h
      · rename_i hcond
        simp only [Bool.and_eq_true, beq_iff_eq, decide_eq_true_eq] at hcond
        obtain ⟨⟨⟨h1, h2⟩, h3⟩, h4, h5⟩ := hcond
        simp only [Option.some.injEq, Prod.mk.injEq] at h
        obtain ⟨rfl, rfl⟩ := h
        obtain ⟨zv, hz1, hz2⟩ := zeroOf_run (P := P) (w := w) (O := O) (α := α) hz
        have hfit : ∀ p ∈ parts, p.2.cells.length = n' ∧ p.2.cells.all AVal.isCell = true ∧ n' ≠ 0 := by
          intro p hp
          have := List.all_eq_true.1 h3 p hp
          unfold fits at this
          rw [hn] at this
          split at this
          · rename_i n2 d e1 e2
            cases e1
            simp only [Bool.and_eq_true, beq_iff_eq, bne_iff_ne, ne_eq] at this
            exact ⟨this.1.1.1, this.1.2, this.2⟩
          · cases this
        obtain ⟨us, q1, cs, q2, q3⟩ := fill_slice (n := n') parts vs.toList 0 ((Array.range (len * n')).map (zv.cells[· % zv.cells.size]!)) h1 hv (fun p hp => ⟨(hfit p hp).1, (hfit p hp).2.1⟩) (by simp [h2])
        have hcs : cs.toList = flat us := by
          rw [q3]
          simp only [Nat.zero_mul, List.take_zero, List.nil_append, Nat.zero_add]
          rw [List.drop_eq_nil_of_le (by simp [h2]), List.append_nil]
        refine ⟨cs, e, us, ?_, q1, hcs, by simp [h2], h5, elemTy_of hu⟩
        unfold Instr.buildSlice
        rw [Sem.run_bind, run_underlying hu, Result.andThen_ok]
        simp only [Sem.run_bind, EM.run_sizeOf hn, Result.andThen_ok]
        rw [if_neg (by omega)]
        by_cases h0 : len * n' = 0
        · have hl0 : len = 0 := by
            rcases Nat.mul_eq_zero.1 h0 with h | h
            · exact h
            · exact absurd h h5
          subst hl0
          have hp0 : parts = [] := List.eq_nil_of_length_eq_zero h2
          subst hp0
          simp only [RepParts] at hv
          simp only [Nat.zero_mul, if_true, Sem.run_pure, Result.andThen_ok]
          simp only [List.map_nil, RowVals] at q1
          subst q1
          have : cs = #[] := by apply Array.ext'; rw [hcs]; rfl
          subst this
          have hr0 : Array.range 0 = #[] := rfl
          simp [hv, Instr.fill, newRow, hr0]
        · rw [if_neg h0]
          simp only [Sem.run_bind, hz1, Result.andThen_ok, Sem.run_pure, q2, newRow, run_newObj, World.alloc_eq]
      · cases h
    · cases h
  · cases h

theorem not_owned_new (hi : Inv w O α st) : ¬ O w.heap.size ∧ ¬ Owned α w.heap.size := by
  refine ⟨fun h => by have := hi.bound _ h; omega, fun ⟨r, ri, h1, h2⟩ => ?_⟩
  have := (hi.fresh r ri h1).2
  omega

theorem done_buildSlice (hi : Inv w O α st) {t : TypeId} {len n : Nat} {parts : List (Nat × AVal)} {xs : List AVal} {vs : Array (Nat × Value)} (h : abuildSlice P t len parts = some (n, xs)) (hv : RepParts w O α parts vs.toList) :
    Done P (Instr.buildSlice t len vs) w O α (.tree true n xs) st := by
  obtain ⟨c, e, us, h1, h2, h3, h4, h5, _⟩ := run_abuildSlice hi h hv
  have hq := Quiet.alloc w (.cells c e)
  obtain ⟨n1, n2⟩ := not_owned_new hi
  refine ⟨_, _, α, h1, hq.ext α, hq.inv hi, ?_⟩
  simp only [Rep]
  refine ⟨_, _, by rw [h4], by omega, fun _ => h4.symm, .inr ⟨h5, w.heap.size, 0, rfl, n1, n2, ?_⟩⟩
  refine row_of 0 (RowVals_pres (Pres.of_ext (hq.ext α)) h2) (fun j hj => ?_)
  have hb := cells_alloc (w := w) c e (0, 0)
  simp only [World.cell?, hb, Option.isSome_none, Bool.false_eq_true, if_false, Nat.zero_add]
  rw [← Array.getElem?_toList, h3]

theorem done_buildSliceS (hi : Inv w O α st) {t : TypeId} {len n : Nat} {parts : List (Nat × AVal)} {xs : List AVal} {vs : Array (Nat × Value)} (h : abuildSlice P t len parts = some (n, xs)) (hv : RepParts w O α parts vs.toList) :
    Done P (Instr.buildSlice t len vs) w O α (freshRow st (elemTy P t) n xs).1 (freshRow st (elemTy P t) n xs).2 := by
  obtain ⟨c, e, us, h1, h2, h3, h4, h5, h6⟩ := run_abuildSlice hi h hv
  subst h6
  have hfl := flat_length h2
  obtain ⟨g1, g2⟩ := push_row hi (c := c) (el := elemTy P t) (fz := (0, 0)) (cap := xs.length) h5 h2 (by rw [← Array.length_toList, h3, hfl]) (Nat.le_refl _) (fun j hj => by rw [← Array.getElem?_toList, h3]) (by simp)
  refine ⟨_, _, _, h1, g1, g2, ?_⟩
  simp only [freshRow]
  rw [hi.len, h4]
  rw [h4] at g1
  exact own_new (Nat.le_refl _)

/-! ### conversions -/
theorem bytes_vals : ∀ s : List UInt8, RowVals w O α 1 (s.map fun b => AVal.int .u8 b.toNat) (s.map fun b => Value.int .u8 b.toNat) ∧ flat (s.map fun b => Value.int .u8 b.toNat) = s.map fun b => Value.int .u8 b.toNat
  | [] => by simp [RowVals, flat]
  | b :: s => by
    obtain ⟨h1, h2⟩ := bytes_vals s
    simp only [List.map_cons, RowVals]
    refine ⟨⟨_, _, rfl, ⟨by simp [Rep], by simp [AVal.cells], by simp [Value.cells], by simp [Value.cells, Value.oneCell']⟩, h1⟩, ?_⟩
    have e : ∀ (v : Value) l, flat (v :: l) = v.cells.toList ++ flat l := by intro v l; simp [flat]
    rw [e, h2]; rfl

theorem bytesWorld_eq (w : World) (e : TypeId) (s : ByteArray) : Lib.bytesWorld w e s = w.drew.alloc (.cells (Lib.bytesCells w e s) e ((Lib.bytesCells w e s).size, (Lib.bytesCells w e s).size + 1)) := by
  have : ∀ (a b : World), a.heap = b.heap → a.tape = b.tape → a.drawn = b.drawn → a.os = b.os → a.output = b.output → a = b := by
    intro a b; cases a; cases b; simp_all
  refine this _ _ ?_ rfl rfl rfl rfl
  apply Array.ext_getElem?
  intro j
  by_cases hj : j < w.heap.size
  · rw [Lib.bytesWorld_at_old w e s j hj]
    exact ((Quiet.alloc w.drew _).old j hj).symm
  · by_cases hj' : j = w.heap.size
    · subst hj'
      rw [Lib.bytesWorld_at_new]
      exact (cells_alloc (w := w.drew) _ _ _).symm
    · rw [Array.getElem?_eq_none (by rw [Lib.bytesWorld_size]; omega), Array.getElem?_eq_none (by simp; omega)]

theorem RepRow_bytes (hi : Inv w O α st) {x : AVal} {xs : List AVal} {u : Value} (h : contents st 1 x = some xs) (hx : Rep w O α x u) (hs : ∀ s, x ≠ .str s) :
    (∃ len cap, u = .slice none len cap ∧ xs = []) ∨ ∃ a len cap vs, u = .slice (some a) len cap ∧ RowVals w O α 1 xs vs ∧ (loadCells a len).run P w = .ok (flat vs).toArray w := by
  obtain ⟨h1, vs, h2, h3⟩ := run_contents (P := P) hi h hx (by omega)
  have h3 := h3 w (fun _ _ _ h => h)
  cases x <;> simp only [contents] at h <;> first
    | (cases h; done)
    | exact absurd rfl (hs _)
    | skip
  all_goals simp only [Rep] at hx
  · subst hx
    exact .inl ⟨0, 0, rfl, by cases h; rfl⟩
  · obtain ⟨a, cap, rfl, _⟩ := hx
    simp only [Builtin.lenOf, Sem.run_pure, Result.ok.injEq, and_true] at h1
    cases a with
    | none =>
      refine .inl ⟨_, _, rfl, ?_⟩
      simp only [Builtin.firstCells, Sem.run_pure, Result.ok.injEq, and_true] at h3
      have hfl := flat_length h2
      have : (flat vs).length = 0 := by have := congrArg Array.size h3; simpa using this.symm
      exact List.eq_nil_of_length_eq_zero (by omega)
    | some a => exact .inr ⟨a, _, _, vs, rfl, h2, by simp only [Builtin.firstCells, Nat.mul_one, ← h1] at h3; exact h3⟩
  · obtain ⟨_, a, cap, rfl, _⟩ := hx
    simp only [Builtin.lenOf, Sem.run_pure, Result.ok.injEq, and_true] at h1
    cases a with
    | none =>
      refine .inl ⟨_, _, rfl, ?_⟩
      simp only [Builtin.firstCells, Sem.run_pure, Result.ok.injEq, and_true] at h3
      have hfl := flat_length h2
      have : (flat vs).length = 0 := by have := congrArg Array.size h3; simpa using this.symm
      exact List.eq_nil_of_length_eq_zero (by omega)
    | some a => exact .inr ⟨a, _, _, vs, rfl, h2, by simp only [Builtin.firstCells, Nat.mul_one, ← h1] at h3; exact h3⟩

theorem abyte_vals : ∀ {xs : List AVal} {vs : List Value} {s : List UInt8}, abyteList xs = some s → RowVals w O α 1 xs vs → ∃ ns : List Int, flat vs = ns.map (Value.int .u8) ∧ s = ns.map fun n => UInt8.ofNat n.toNat
  | [], vs, s, h, hv => by
    simp only [RowVals] at hv; subst hv
    simp only [abyteList, Option.some.injEq] at h; subst h
    exact ⟨[], by simp [flat], rfl⟩
  | x :: xs, vs, s, h, hv => by
    simp only [RowVals] at hv
    obtain ⟨v, us, rfl, ⟨h1, _⟩, h2⟩ := hv
    unfold abyteList at h
    split at h
    · rename_i hx; cases hx
    · rename_i n l hx
      cases hx
      simp only [Option.map_eq_some_iff] at h
      obtain ⟨s', hs', rfl⟩ := h
      obtain ⟨ns, e1, e2⟩ := abyte_vals hs' h2
      simp only [Rep] at h1
      subst h1
      refine ⟨n :: ns, ?_, by simp [e2]⟩
      have e : ∀ (v : Value) l, flat (v :: l) = v.cells.toList ++ flat l := by intro v l; simp [flat]
      rw [e, e1]; rfl
    · cases h

theorem foldl_push (ns : List Int) : ∀ (b : ByteArray), (ns.foldl (fun r n => r.push (UInt8.ofNat n.toNat)) b).data.toList = b.data.toList ++ ns.map fun n => UInt8.ofNat n.toNat := by
  induction ns with
  | nil => intro b; simp
  | cons n ns ih => intro b; simp only [List.foldl_cons, ih]; simp [ByteArray.push]


theorem arune_vals : ∀ {xs : List AVal} {vs : List Value} {s : List UInt8}, aruneList xs = some s → RowVals w O α 1 xs vs → ∃ ns : List Int, flat vs = ns.map (Value.int .i32) ∧ s = ns.flatMap fun n => (Utf8.encode n).data.toList
  | [], vs, s, h, hv => by
    simp only [RowVals] at hv; subst hv
    simp only [aruneList, Option.some.injEq] at h; subst h
    exact ⟨[], by simp [flat], rfl⟩
  | x :: xs, vs, s, h, hv => by
    simp only [RowVals] at hv
    obtain ⟨v, us, rfl, ⟨h1, _⟩, h2⟩ := hv
    unfold aruneList at h
    split at h
    · rename_i hx; cases hx
    · rename_i n l hx
      cases hx
      simp only [Option.map_eq_some_iff] at h
      obtain ⟨s', hs', rfl⟩ := h
      obtain ⟨ns, e1, e2⟩ := arune_vals hs' h2
      simp only [Rep] at h1
      subst h1
      refine ⟨n :: ns, ?_, by simp [e2]⟩
      have e : ∀ (v : Value) l, flat (v :: l) = v.cells.toList ++ flat l := by intro v l; simp [flat]
      rw [e, e1]; rfl
    · cases h

theorem run_forIn_runes {f : Value → ByteArray → Sem (ForInStep ByteArray)}
    (hf : ∀ (n : Int) (r : ByteArray), (f (.int .i32 n) r).run P w = .ok (.yield (r ++ Utf8.encode n)) w) :
    ∀ (ns : List Int) (s : ByteArray), (forIn (ns.map (Value.int .i32)) s f).run P w = .ok (ns.foldl (fun r n => r ++ Utf8.encode n) s) w := by
  intro ns
  induction ns with
  | nil => intro s; simp [Sem.run_pure]
  | cons n ns ih =>
    intro s
    simp only [List.map_cons, List.forIn_cons, Sem.run_bind, hf, Result.andThen, List.foldl_cons]
    exact ih _
theorem run_runesToString {a : Addr} {len cap : Nat} {ns : List Int} (h : (loadCells a len).run P w = .ok (ns.map (Value.int .i32)).toArray w) :
    (Conv.runesToString (.slice (some a) len cap)).run P w = .ok (.string (ns.foldl (fun r n => r ++ Utf8.encode n) ByteArray.empty)) w := by
  unfold Conv.runesToString
  simp only [Sem.run_bind, h, Result.andThen, List.forIn_toArray]
  rw [run_forIn_runes (by intro n r; simp [Sem.run_pure])]
  simp [Sem.run_pure]
theorem foldl_enc (ns : List Int) : ∀ (b : ByteArray), (ns.foldl (fun r n => r ++ Utf8.encode n) b).data.toList = b.data.toList ++ ns.flatMap fun n => (Utf8.encode n).data.toList := by
  induction ns with
  | nil => intro b; simp
  | cons n ns ih => intro b; simp only [List.foldl_cons, ih]; simp [ByteArray.data_append]

theorem rune_row : ∀ (l : List Value), (∀ v ∈ l, ∃ n, v = .int .i32 n) → RowVals w O α 1 (l.map ofConst1) l ∧ flat l = l
  | [], _ => by simp [RowVals, flat]
  | v :: l, h => by
    obtain ⟨h1, h2⟩ := rune_row l (fun u hu => h u (List.mem_cons_of_mem _ hu))
    obtain ⟨n, rfl⟩ := h v List.mem_cons_self
    refine ⟨?_, ?_⟩
    · simp only [List.map_cons, RowVals]
      exact ⟨_, _, rfl, ⟨ofConst1_rep _, by simp [ofConst1, AVal.cells], by simp [Value.cells], by simp [Value.cells, Value.oneCell']⟩, h1⟩
    · have e : ∀ (v : Value) l, flat (v :: l) = v.cells.toList ++ flat l := by intro v l; simp [flat]
      rw [e, h2]; rfl
theorem runesFrom_ints (s : ByteArray) : ∀ (b i : Nat) (acc : Array Value), (∀ v ∈ acc, ∃ n, v = Value.int .i32 n) → ∀ v ∈ Conv.runesFrom s b i acc, ∃ n, v = Value.int .i32 n
  | 0, i, acc, h => by simpa [Conv.runesFrom] using h
  | b + 1, i, acc, h => by
    simp only [Conv.runesFrom]
    split
    · refine runesFrom_ints s b _ _ (fun v hv => ?_)
      rw [Array.mem_push] at hv
      rcases hv with hv | rfl
      · exact h v hv
      · exact ⟨_, rfl⟩
    · exact h

theorem liesAt_own {e n : Nat} (hc : P.cellsOf e = n) (hn : n ≠ 0) (count i k : Nat) (h : i + k ≤ count) : liesAt P P.depth e count (i * n) e k = true := by
  have e1 : i * n / n = i := Nat.mul_div_cancel _ (by omega)
  have hs : ∀ d, sameLayout P (d + 1) e e = true := by intro d; unfold sameLayout; simp
  have hr : ∀ (f : TypeId → Bool) (d : Nat), f e = true → Go.rowAt P f (d + 1) e count (i * n) k = true := by
    intro f d hf
    unfold Go.rowAt
    simp [hc, hn, h, e1, hf]
  have hd : P.depth = (2 * (P.types.size + Made.depth) + 1) + 1 := rfl
  have hl : ∀ d, sameLayout P P.depth e e = true → liesAt P (d + 1) e count (i * n) e k = true := by
    intro d h0
    unfold liesAt
    rw [Bool.or_eq_true]
    left
    have := hr (fun x => sameLayout P P.depth x e) (2 * (P.types.size + Made.depth) + 1) h0
    rw [← hd] at this
    exact this
  exact hl _ (hs _)
theorem szOf_info {t n : Nat} (h : szOf P t = some n) : ∃ j, P.info? t = some j ∧ j.size = n := by
  simpa [szOf, Option.map_eq_some_iff] using h
theorem szOf_cells {t n : Nat} (h : szOf P t = some n) : P.cellsOf t = n := by
  show (szOf P t).getD 0 = n
  rw [h]; rfl

theorem done_convS (hi : Inv w O α st) {src dst : TypeId} {x v : AVal} {st' : Store} {u : Value} (h : aconvS P src dst x st = some (v, st')) (hx : Rep w O α x u) : Done P (convert src dst u) w O α v st' := by
  unfold aconvS at h
  split at h
  · rename_i e hs hd
    split at h
    · rename_i s he
      simp only [Rep] at hx; subst hx
      simp only [freshRow, Option.some.injEq, Prod.mk.injEq] at h
      obtain ⟨rfl, rfl⟩ := h
      have hr := Lib.run_convert_string_bytes (P := P) w src dst e ⟨s.toArray⟩ hs hd he
      have hq := Quiet.drew w
      obtain ⟨b1, b2⟩ := bytes_vals (w := w.drew) (O := O) (α := α) s
      have hsz : (⟨s.toArray⟩ : ByteArray).size = s.length := by simp [ByteArray.size]
      have hge := grownCap_ge w s.length 0 e
      have hcs : (Lib.bytesCells w e ⟨s.toArray⟩).size = grownCap w s.length 0 e * 1 := by
        simp only [Lib.bytesCells, hsz, Array.size_append, Array.size_map, List.size_toArray, Array.size_replicate]; omega
      rw [bytesWorld_eq, hsz] at hr
      obtain ⟨g1, g2⟩ := push_row (w := w.drew) (hq.inv hi) (c := Lib.bytesCells w e ⟨s.toArray⟩) (el := e) (fz := ((Lib.bytesCells w e ⟨s.toArray⟩).size, (Lib.bytesCells w e ⟨s.toArray⟩).size + 1)) (cap := grownCap w s.length 0 e)
        (by omega) b1 hcs (by simpa using hge) (fun j hj => by
          rw [b2] at hj ⊢
          simp only [Lib.bytesCells]
          rw [Array.getElem?_append_left (by simpa using hj)]
          simp) (fun o ho => by omega)
      rw [List.length_map] at g1 g2
      exact ⟨_, _, _, hr, (hq.ext α).trans g1, g2, by rw [hi.len, List.length_map]; exact own_new hge⟩
    · rename_i s he
      simp only [Rep] at hx; subst hx
      simp only [freshRow, Option.some.injEq, Prod.mk.injEq] at h
      obtain ⟨rfl, rfl⟩ := h
      have hq := Quiet.drew w
      have hints := runesFrom_ints ⟨s.toArray⟩ s.length 0 #[] (by simp)
      obtain ⟨b1, b2⟩ := rune_row (w := w.drew) (O := O) (α := α) (Conv.runesFrom ⟨s.toArray⟩ s.length 0 #[]).toList (fun v hv => hints v (by simpa using hv))
      have hsz : (⟨s.toArray⟩ : ByteArray).size = s.length := by simp [ByteArray.size]
      have hge := grownCap_ge w (Conv.runesFrom ⟨s.toArray⟩ s.length 0 #[]).size 0 e
      have hr : (convert src dst (.string ⟨s.toArray⟩)).run P w = .ok (.slice (some ⟨w.heap.size, 0, none⟩) (Conv.runesFrom ⟨s.toArray⟩ s.length 0 #[]).size (grownCap w (Conv.runesFrom ⟨s.toArray⟩ s.length 0 #[]).size 0 e))
          (w.drew.alloc (.cells (Conv.runesFrom ⟨s.toArray⟩ s.length 0 #[] ++ Array.replicate (grownCap w (Conv.runesFrom ⟨s.toArray⟩ s.length 0 #[]).size 0 e - (Conv.runesFrom ⟨s.toArray⟩ s.length 0 #[]).size) (.int .i32 0)) e)) := by
        simp [convert, run_underlying hs, run_underlying hd, run_underlying he, Conv.stringToRunes, newRow, Question.forced, grownCap, hsz]
      have hrl : (runesOf s).length = (Conv.runesFrom ⟨s.toArray⟩ s.length 0 #[]).size := by simp [runesOf]
      obtain ⟨g1, g2⟩ := push_row (w := w.drew) (hq.inv hi) (c := Conv.runesFrom ⟨s.toArray⟩ s.length 0 #[] ++ Array.replicate (grownCap w (Conv.runesFrom ⟨s.toArray⟩ s.length 0 #[]).size 0 e - (Conv.runesFrom ⟨s.toArray⟩ s.length 0 #[]).size) (.int .i32 0)) (el := e) (fz := (0, 0))
        (cap := grownCap w (Conv.runesFrom ⟨s.toArray⟩ s.length 0 #[]).size 0 e)
        (by omega) b1 (by simp only [Array.size_append, Array.size_replicate]; omega) (by simpa using hge) (fun j hj => by
          rw [b2] at hj ⊢
          rw [Array.getElem?_append_left (by simpa using hj)]
          simp) (by simp)
      rw [show List.map ofConst1 (Conv.runesFrom ⟨s.toArray⟩ s.length 0 #[]).toList = runesOf s from rfl, hrl] at g1 g2
      exact ⟨_, _, _, hr, (hq.ext α).trans g1, g2, by rw [hi.len, hrl]; exact own_new hge⟩
    · cases h
  · rename_i e hs hd
    split at h
    · rename_i he
      simp only [Option.bind_eq_some_iff, Option.map_eq_some_iff, Prod.mk.injEq] at h
      obtain ⟨xs, hxs, s, hs', rfl, rfl⟩ := h
      by_cases hstr : ∃ s, x = .str s
      · obtain ⟨s0, rfl⟩ := hstr
        simp only [Rep] at hx; subst hx
        refine ⟨.string ⟨s0.toArray⟩, w, α, ?_, Ext.refl w α, hi, ?_⟩
        · simp [convert, run_underlying hs, run_underlying hd]
        · simp only [contents, if_true, Option.some.injEq] at hxs
          subst hxs
          have : ∀ (l : List UInt8) (s : List UInt8), abyteList (l.map fun b => AVal.int .u8 b.toNat) = some s → s = l := by
            intro l
            induction l with
            | nil => intro s h; simp [abyteList] at h; exact h
            | cons b l ih =>
              intro s h
              simp only [List.map_cons, abyteList, Option.map_eq_some_iff] at h
              obtain ⟨s', h1, rfl⟩ := h
              rw [ih s' h1]
              simp
          rw [this _ _ hs']
          simp [Rep]
      · rcases RepRow_bytes (P := P) hi hxs hx (fun s e => hstr ⟨s, e⟩) with ⟨len, cap, rfl, rfl⟩ | ⟨a, len, cap, vs, rfl, hv, hl⟩
        · simp only [abyteList, Option.some.injEq] at hs'
          subst hs'
          refine ⟨.string .empty, w, α, ?_, Ext.refl w α, hi, by simp only [Rep]; rfl⟩
          rw [run_convert_bytes_string w src dst e _ _ _ hs he hd]
          simp [Conv.bytesToString]
        · obtain ⟨ns, e1, rfl⟩ := abyte_vals hs' hv
          rw [e1] at hl
          refine ⟨.string (ns.foldl (fun r n => r.push (UInt8.ofNat n.toNat)) ByteArray.empty), w, α, ?_, Ext.refl w α, hi, ?_⟩
          · rw [run_convert_bytes_string w src dst e _ _ _ hs he hd]
            exact run_bytesToString w a len cap ns hl
          · simp only [Rep]
            congr 1
            apply ByteArray.ext
            apply Array.ext'
            rw [foldl_push]
            rfl
    · rename_i he
      simp only [Option.bind_eq_some_iff, Option.map_eq_some_iff, Prod.mk.injEq] at h
      obtain ⟨xs, hxs, s, hs', rfl, rfl⟩ := h
      by_cases hstr : ∃ s, x = .str s
      · obtain ⟨s0, rfl⟩ := hstr
        simp only [contents, if_true, Option.some.injEq] at hxs
        subst hxs
        cases s0 with
        | nil =>
          simp only [List.map_nil, aruneList, Option.some.injEq] at hs'
          subst hs'
          simp only [Rep] at hx; subst hx
          exact ⟨.string ⟨#[]⟩, w, α, by simp [convert, run_underlying hs, run_underlying hd], Ext.refl w α, hi, by simp [Rep]⟩
        | cons b l => simp [aruneList] at hs'
      · rcases RepRow_bytes (P := P) hi hxs hx (fun s e => hstr ⟨s, e⟩) with ⟨len, cap, rfl, rfl⟩ | ⟨a, len, cap, vs, rfl, hv, hl⟩
        · simp only [aruneList, Option.some.injEq] at hs'
          subst hs'
          refine ⟨.string .empty, w, α, ?_, Ext.refl w α, hi, by simp only [Rep]; rfl⟩
          simp [convert, run_underlying hs, run_underlying hd, run_underlying he, Conv.runesToString]
        · obtain ⟨ns, e1, rfl⟩ := arune_vals hs' hv
          rw [e1] at hl
          refine ⟨.string (ns.foldl (fun r n => r ++ Utf8.encode n) ByteArray.empty), w, α, ?_, Ext.refl w α, hi, ?_⟩
          · have := run_runesToString (P := P) (cap := cap) hl
            simp only [convert, Sem.run_bind, run_underlying hs, run_underlying hd, run_underlying he, Result.andThen_ok]
            exact this
          · simp only [Rep]
            congr 1
            apply ByteArray.ext
            apply Array.ext'
            rw [foldl_enc]
            rfl
    · cases h
  · rename_i t hs hd
    split at h
    · rename_i r top i off
      split at h
      · rename_i n xs v' hc
        split at h
        · rename_i m hm
          cases hle : Nat.ble (off + 1) n with
          | false => rw [hle] at h; cases h
          | true =>
            rw [hle] at h
            simp only [cond_true, Option.some.injEq, Prod.mk.injEq] at h
            obtain ⟨rfl, rfl⟩ := h
            obtain ⟨h1, h2⟩ := cellsAt_spec hi hc
            obtain ⟨ri, g1, g2, g3, g4, g5, g6, c, el, fz, g7, g8, g9, g10, g11⟩ := hi.alive h1
            have hx' := hx
            simp only [Rep] at hx
            obtain ⟨_, b, o, rfl, hk⟩ := hx
            obtain ⟨rfl, rfl⟩ := (hk ri g1).2 g4
            obtain ⟨j, hj, hjs⟩ := szOf_info hm
            have hilt : i < xs.length := by
              rcases Nat.lt_or_ge i xs.length with h | h
              · exact h
              · rw [List.getElem?_eq_none h] at h2; cases h2
            have hsh : w.shape? ri.block = some (el, c.size) := by simp [World.shape?, g7]
            have hle' := Nat.le_of_ble_eq_true hle
            have hlt : i * ri.stride + off < c.size := by
              rw [g8, g2]
              have := Nat.mul_le_mul_right n (show i + 1 ≤ ri.cap by omega)
              rw [Nat.add_mul] at this; omega
            have hr := Lib.run_to_unsafe (P := P) w ⟨ri.block, i * ri.stride + off, none⟩ hs hd hj (by omega) hsh hlt
            exact ⟨_, w, α, hr, Ext.refl w α, hi, hx'⟩
        · cases h
      · cases h
    · cases h
  · rename_i u hs hd
    split at h
    · rename_i r top i
      split at h
      · rename_i n xs v' hc
        split at h
        · rename_i m hm
          cases hle : (Nat.beq m n && Nat.beq (rowTy st r) u) with
          | false => rw [hle] at h; cases h
          | true =>
            rw [hle] at h
            simp only [cond_true, Option.some.injEq, Prod.mk.injEq] at h
            obtain ⟨rfl, rfl⟩ := h
            obtain ⟨h1, h2⟩ := cellsAt_spec hi hc
            obtain ⟨ri, g1, g2, g3, g4, g5, g6, c, el, fz, g7, g8, g9, g10, g11⟩ := hi.alive h1
            have hx' := hx
            simp only [Rep] at hx
            obtain ⟨_, b, o, rfl, hk⟩ := hx
            obtain ⟨rfl, rfl⟩ := (hk ri g1).2 g4
            obtain ⟨j, hj, hjs⟩ := szOf_info hm
            have hilt : i < xs.length := by
              rcases Nat.lt_or_ge i xs.length with h | h
              · exact h
              · rw [List.getElem?_eq_none h] at h2; cases h2
            simp only [Bool.and_eq_true] at hle
            have e1 : m = n := Nat.eq_of_beq_eq_true hle.1
            have e2 : rowTy st r = u := Nat.eq_of_beq_eq_true hle.2
            have e3 : el = u := by simpa [rowTy, g11] using e2
            subst e1; subst e3
            have hsh : w.shape? ri.block = some (el, c.size) := by simp [World.shape?, g7]
            have hcn := szOf_cells hm
            have hlies : liesAt P P.depth el (c.size / P.cellsOf el) (i * ri.stride + 0) el 1 = true := by
              rw [hcn, g8, g2, Nat.add_zero, Nat.mul_div_cancel _ (by omega)]
              exact liesAt_own hcn g3 _ _ _ (by omega)
            have hr := Lib.run_from_unsafe (P := P) w ⟨ri.block, i * ri.stride + 0, none⟩ hs hd hj hsh hlies
            exact ⟨_, w, α, hr, Ext.refl w α, hi, hx'⟩
        · cases h
      · cases h
    · cases h
  · cases h

/-! ### a string over bytes -/
theorem run_sliceData (hi : Inv w O α st) {x v : AVal} {u : Value} {ts : Array TypeId} {ty : TypeId} (h : asliceData x st = some v) (hx : Rep w O α x u) :
    ∃ r, (Builtin.unsafeSliceData_ ts ty #[u]).run P w = .ok r w ∧ Rep w O α v r := by
  unfold asliceData at h
  split at h
  · cases h
    simp only [Rep] at hx; subst hx
    exact ⟨_, Lib.run_unsafeSliceData_nil w ts ty 0 0, by simp [Rep]⟩
  · rename_i r n top off len
    split at h
    · rename_i xs hxs
      cases hl : Nat.beq len 0 with
      | true => rw [hl] at h; cases h
      | false =>
        rw [hl] at h
        cases h
        have hl0 : len ≠ 0 := fun e => by subst e; cases hl
        obtain ⟨ri, g1, g2, g3, g4, g5, g6, c, el, fz, g7, g8, g9, g10, g11⟩ := hi.alive hxs
        simp only [Rep] at hx
        obtain ⟨hr, a, cap, rfl, h1, h2, h3⟩ := hx
        obtain ⟨k1, k2, k3, k4⟩ := (h3 ri g1).2 g4
        have ha := k4 (by omega)
        subst ha
        refine ⟨_, Lib.run_unsafeSliceData_row w ts ty _ len cap (by omega), ?_⟩
        simp only [Rep]
        refine ⟨hr, _, _, rfl, fun ri' hr' => ?_⟩
        rw [g1] at hr'
        cases hr'
        exact ⟨by omega, fun _ => ⟨rfl, by rw [g2]; omega⟩⟩
    · cases h
  · cases h

theorem run_loadBytesI : ∀ (l : List Int) (a : Addr) (acc : ByteArray), (∀ j x, l[j]? = some x → w.cell? (a.add j) = some (.int .u8 x)) →
    (loadBytes a acc l.length).run P w = .ok ⟨acc.data ++ (l.map fun n => UInt8.ofNat n.toNat).toArray⟩ w
  | [], a, acc, _ => by simp [loadBytes]
  | x :: l, a, acc, h => by
    have h0 : w.cell? a = some (.int .u8 x) := by
      have := h 0 x rfl
      simpa [Addr.add] using this
    have ih := run_loadBytesI l (a.add 1) (acc.push x.toNat.toUInt8) (fun j y hy => by
      have := h (j + 1) y (by simpa using hy)
      have e : (a.add 1).add j = a.add (j + 1) := by
        unfold Addr.add
        by_cases hj : j = 0
        · subst hj; simp
        · simp [hj]; omega
      rw [e]; exact this)
    simp only [List.length_cons, loadBytes, Sem.run_bind, run_load, h0, Result.andThen]
    rw [ih]
    congr 1
    apply ByteArray.ext
    simp [ByteArray.push]

theorem done_unsafeStr (hi : Inv w O α st) {tys : List TypeId} {p l v : AVal} {st' : Store} {up ul : Value} {ty : TypeId} (h : aunsafeStr P tys p l st = some (v, st')) (hp : Rep w O α p up) (hl : Rep w O α l ul) :
    Done P (Builtin.unsafeString_ tys.toArray ty #[up, ul]) w O α v st' := by
  unfold aunsafeStr at h
  split at h
  · rename_i n a b
    split at h
    · rename_i hn
      subst hn
      cases h
      simp only [Rep] at hp hl
      subst hp; subst hl
      exact ⟨_, w, α, Lib.run_unsafeString_none w a b ty none, Ext.refl w α, hi, by simp only [Rep]; rfl⟩
    · cases h
  · rename_i r top n pt b
    split at h
    · rename_i xs e hxs hpt
      split at h
      · rename_i hsz
        split at h
        · rename_i hc
          obtain ⟨hn0, hnl, hn63, hrt⟩ := hc
          simp only [Option.map_eq_some_iff, Prod.mk.injEq] at h
          obtain ⟨s, hs, rfl, rfl⟩ := h
          obtain ⟨ri, g1, g2, g3, g4, g5, g6, c, el, fz, g7, g8, g9, g10, g11⟩ := hi.alive hxs
          have e3 : el = e := by simpa [rowTy, g11] using hrt
          subst e3
          simp only [Rep] at hp hl
          subst hl
          obtain ⟨hrl, b', o, rfl, hk⟩ := hp
          obtain ⟨rfl, ho⟩ := (hk ri g1).2 g4
          have ho : o = 0 := by rw [ho, Nat.zero_mul]
          subst ho
          obtain ⟨vs, q1, q2⟩ := of_row 0 (RepRow_take n.toNat g9)
          obtain ⟨ns, e1, rfl⟩ := abyte_vals hs q1
          have hlen : ns.length = n.toNat := by
            have := flat_length q1
            rw [e1] at this
            simp only [List.length_map, List.length_take, Nat.mul_one] at this
            omega
          have hcells : ∀ j x, ns[j]? = some x → w.cell? ((⟨ri.block, 0, none⟩ : Addr).add j) = some (.int .u8 x) := by
            intro j x hj
            have hjl : j < ns.length := by
              rcases Nat.lt_or_ge j ns.length with h | h
              · exact h
              · rw [List.getElem?_eq_none h] at hj; cases hj
            have := q2 j (by rw [e1]; simpa using hjl)
            rw [e1] at this
            simp only [List.getElem?_map, hj, Option.map_some, Nat.zero_add] at this
            rw [← this]
            unfold Addr.add
            by_cases hj0 : j = 0
            · subst hj0; simp
            · simp [hj0]
          have hlb := run_loadBytesI (P := P) (w := w) ns ⟨ri.block, 0, none⟩ .empty hcells
          have hcn := szOf_cells hsz
          have hlies : liesAt P P.depth el (c.size / P.cellsOf el) 0 el n.toNat = true := by
            have := liesAt_own (P := P) hcn (by omega) (c.size / P.cellsOf el) 0 n.toNat (by rw [hcn, g8, Nat.mul_one, Nat.div_one]; omega)
            simpa using this
          have hsh : w.shape? ri.block = some (el, c.size) := by simp [World.shape?, g7]
          have hmax : IntKind.i64.max = 9223372036854775807 := rfl
          have hneg : ¬ n < 0 := by omega
          have hgt : ¬ (9223372036854775807 < n) := by omega
          have hnz : ¬ n = 0 := by omega
          rw [hlen] at hlb
          have hrun : (Builtin.unsafeString_ [pt, b].toArray ty #[.pointer (some ⟨ri.block, 0, none⟩), .int .i64 n]).run P w = .ok (.string ⟨(ns.map fun n => UInt8.ofNat n.toNat).toArray⟩) (w.freeze ⟨ri.block, 0, none⟩ n.toNat) := by
            delta Builtin.unsafeString_ Builtin.unsafeString_.match_3 Builtin.unsafeString_._sparseCasesOn_3 Array.getLit; dsimp only
            simp [asInt, asIntOf, hmax, hneg, hgt, hnz, variablesAt, hsh, elemOf, run_underlying hpt, hlies, hlb]
          refine ⟨_, _, α.set r none, hrun, ?_⟩
          have hrest := hi.drop (w' := w.freeze ⟨ri.block, 0, none⟩ n.toNat) g1 (by unfold World.freeze; split <;> rfl) (by unfold World.freeze; split <;> rfl) (by unfold World.freeze; split <;> rfl)
            (by unfold World.freeze; split <;> simp) (fun k _ hk => by
              unfold World.freeze; split
              · rfl
              · simp only [Array.getElem?_modify]; rw [if_neg (fun e => hk e.symm)])
          exact ⟨hrest.1, hrest.2, by simp only [Rep]⟩
        · cases h
      · cases h
    · cases h
  · cases h

/-! ### iterators -/
theorem done_range (hi : Inv w O α st) {t : TypeId} {x v : AVal} {st' : Store} {u : Value} (h : arange P t x st = some (v, st')) (hx : Rep w O α x u) : Done P (Instr.range t u) w O α v st' := by
  unfold arange at h
  split at h
  · rename_i hu
    split at h
    · rename_i s
      simp only [Rep] at hx; subst hx
      simp only [Option.some.injEq, Prod.mk.injEq] at h
      obtain ⟨rfl, rfl⟩ := h
      have hr := run_range_string (P := P) w t ⟨s.toArray⟩ hu
      obtain ⟨g1, g2⟩ := hi.push ⟨w.heap.size, 0, 0, 0⟩ (.iter s 0) (.stringIter ⟨s.toArray⟩ 0) rfl (by
        simp only [RegRep]
        exact ⟨⟨w.heap.size, 0, 0, 0⟩, by simp, rfl, rfl, World.iter_heap w ⟨s.toArray⟩ 0⟩)
      exact ⟨_, _, _, hr, g1, g2, by rw [hi.len]; exact ptr_new⟩
    · cases h
  · cases h

theorem done_next (hi : Inv w O α st) {it v : AVal} {b : Bool} {ty : TypeId} {st' : Store} {u : Value} (h : anext it b st = some (v, st')) (hx : Rep w O α it u) : Done P (Instr.next u b ty) w O α v st' := by
  unfold anext at h
  split at h
  · rename_i r
    split at h
    · rename_i s pos hr
      cases b with
      | false => simp at h
      | true =>
        simp only [cond_true] at h
        obtain ⟨ri, g1, g2, g3, g4⟩ := hi.reg r _ hr
        simp only [Rep] at hx
        obtain ⟨hrl, b, o, rfl, hx⟩ := hx
        obtain ⟨rfl, rfl⟩ := (hx ri g1).2 g2
        have hsz : (⟨s.toArray⟩ : ByteArray).size = s.length := by simp [ByteArray.size]
        have hlt : ri.block < w.heap.size := (hi.fresh r ri g1).2
        simp only [g3, Nat.mul_zero, Nat.add_zero, Nat.zero_mul] at hx ⊢
        split at h
        · rename_i hp
          simp only [Option.some.injEq, Prod.mk.injEq] at h
          obtain ⟨rfl, rfl⟩ := h
          obtain ⟨t1, t2⟩ := hi.turn (w' := { w with heap := w.heap.setIfInBounds ri.block (.stringIter ⟨s.toArray⟩ (pos + (Utf8.decode ⟨s.toArray⟩ pos).2)) }) (ri' := ri) (g := .iter s (pos + (Utf8.decode ⟨s.toArray⟩ pos).2)) g1 rfl rfl rfl
            (by simp) (fun k _ hk => by simp [Array.getElem?_setIfInBounds, Ne.symm hk]) (.inl rfl) (Nat.le_refl _) (fun _ => rfl) (by
              intro hpr
              simp only [RegRep]
              exact ⟨ri, List.getElem?_set_self hrl, g2, g3, by simp [Array.getElem?_setIfInBounds, hlt]⟩)
          refine ⟨.tuple #[.bool true, .int .i64 pos, .int .i32 (Utf8.decode ⟨s.toArray⟩ pos).1], _, _, ?_, t1, t2, ?_⟩
          · simp only [Instr.next, getObj, setObj, Sem.run_bind, Sem.run, g4, Result.andThen, hsz, hp, if_true]
            simp only [goInt, Sem.run, g4, Sem.run_pure]
          · simp only [Rep]
            exact ⟨[_, _, _], rfl, by simp only [RepL, Rep]; exact ⟨_, _, rfl, rfl, _, _, rfl, rfl, _, _, rfl, rfl, rfl⟩⟩
        · rename_i hp
          simp only [Option.some.injEq, Prod.mk.injEq] at h
          obtain ⟨rfl, rfl⟩ := h
          refine ⟨.tuple #[.bool false], w, α, ?_, Ext.refl w α, hi, ?_⟩
          · simp [Instr.next, getObj, Sem.run, g4, hsz, hp]
          · simp only [Rep]
            exact ⟨[_], rfl, by simp only [RepL, Rep]; exact ⟨_, _, rfl, rfl, rfl⟩⟩
    · cases h
  · cases h
end
end Go.EM
