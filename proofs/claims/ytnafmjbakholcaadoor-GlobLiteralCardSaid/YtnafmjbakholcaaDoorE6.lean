/- Slice expressions, struct and slice literals, in the model. -/
import Derived.Test.YtnafmjbakholcaaDoorE5
set_option linter.unusedVariables false
set_option linter.unusedSimpArgs false
namespace Go.EM
section
variable {P : Program} {w : World} {O : Nat → Prop} {α : AM}

def RepO (w : World) (O : Nat → Prop) (α : AM) : Option AVal → Option Value → Prop
  | none, v => v = none
  | some x, v => ∃ u, v = some u ∧ Rep w O α x u

theorem asNat_bound {x : Option AVal} {v : Option Value} {d n : Nat} (h : asNat x d = some n) (hx : RepO w O α x v) :
    (v = none ∧ n = d) ∨ ∃ k i, v = some (.int k i) ∧ 0 ≤ i ∧ i.toNat = n := by
  unfold asNat at h
  split at h
  · simp only [RepO] at hx; cases h; exact .inl ⟨hx, rfl⟩
  · split at h
    · cases h
      simp only [RepO, Rep] at hx
      obtain ⟨u, rfl, rfl⟩ := hx
      exact .inr ⟨_, _, rfl, by assumption, rfl⟩
    · cases h
  · cases h

theorem run_bounds {isS : Bool} {len cap l h : Nat} {lo hi : Option AVal} {lv hv : Option Value} (hl : asNat lo 0 = some l) (hh : asNat hi len = some h)
    (h1 : l ≤ h) (h2 : h ≤ cap) (rl : RepO w O α lo lv) (rh : RepO w O α hi hv) : (Instr.sliceBounds isS len cap lv hv none).run P w = .ok (l, h, cap) w := by
  rcases asNat_bound hl rl with ⟨rfl, rfl⟩ | ⟨k, i, rfl, i0, rfl⟩ <;> rcases asNat_bound hh rh with ⟨rfl, rfl⟩ | ⟨k', i', rfl, i0', rfl⟩
  · simp [Instr.sliceBounds]
  · simp [Instr.sliceBounds, run_sliceBound w k' i' cap _ i0' (by omega)]
  · simp [Instr.sliceBounds, run_sliceBound w k i h _ i0 (by omega)]
  · simp [Instr.sliceBounds, run_sliceBound w k' i' cap _ i0' (by omega), run_sliceBound w k i _ _ i0 (by omega : i ≤ (i'.toNat : Int))]

theorem run_bounds0 {isS : Bool} {len cap : Nat} {lo hi : Option AVal} {mx : AVal} {lv hv mv : Option Value} (hl : asNat lo 0 = some 0) (hh : asNat hi 0 = some 0) (hm : asNat (some mx) 0 = some 0)
    (hs : hi.isNone = false) (rl : RepO w O α lo lv) (rh : RepO w O α hi hv) (rm : RepO w O α (some mx) mv) : (Instr.sliceBounds isS len cap lv hv mv).run P w = .ok (0, 0, 0) w := by
  rcases asNat_bound hm rm with ⟨e, _⟩ | ⟨km, im, rfl, im0, im1⟩
  · simp only [RepO] at rm; obtain ⟨u, hu, _⟩ := rm; rw [hu] at e; cases e
  rcases asNat_bound hh rh with ⟨e, _⟩ | ⟨k', i', rfl, i0', i1'⟩
  · cases hi with
    | none => simp at hs
    | some x => simp only [RepO] at rh; obtain ⟨u, hu, _⟩ := rh; rw [hu] at e; cases e
  have em : im = 0 := by omega
  have ei : i' = 0 := by omega
  subst em; subst ei
  rcases asNat_bound hl rl with ⟨rfl, _⟩ | ⟨k, i, rfl, i0, i1⟩
  · simp [Instr.sliceBounds, run_sliceBound w km 0 cap _ (by omega) (by omega), run_sliceBound w k' 0 0 _ (by omega) (by omega)]
  · have e0 : i = 0 := by omega
    subst e0
    simp [Instr.sliceBounds, run_sliceBound w km 0 cap _ (by omega) (by omega), run_sliceBound w k' 0 0 _ (by omega) (by omega), run_sliceBound w k 0 0 _ (by omega) (by omega)]

theorem run_sliceAt {t e : TypeId} {n : Nat} {a : Option Addr} {len cap l h m : Nat} {lv hv mv : Option Value} (hu : P.underlying t = some (.slice e)) (hn : szOf P e = some n)
    (hb : (Instr.sliceBounds true len cap lv hv mv).run P w = .ok (l, h, m) w) :
    (Instr.sliceAt t (.slice a len cap) lv hv mv).run P w = .ok (.slice (if m = l then a else a.map (·.add (l * n))) (h - l) (m - l)) w := by
  unfold Instr.sliceAt
  rw [Sem.run_bind, run_underlying hu, Result.andThen_ok]
  simp only [Instr.slice, Sem.run_bind, run_underlying hu, Result.andThen_ok, hb, EM.run_sizeOf hn, Sem.run_pure]

theorem run_aslice {t : TypeId} {x v : AVal} {lo hi mx : Option AVal} {u : Value} {lv hv mv : Option Value} (h : aslice P t x lo hi mx = some v) (hx : Rep w O α x u)
    (rl : RepO w O α lo lv) (rh : RepO w O α hi hv) (rm : RepO w O α mx mv) : ∃ r, (Instr.sliceAt t u lv hv mv).run P w = .ok r w ∧ Rep w O α v r := by
  unfold aslice at h
  split at h
  · rename_i hu
    split at h
    · rename_i s
      simp only [Rep] at hx; subst hx
      split at h
      · cases h
      · split at h
        · rename_i l h' hl hh
          split at h
          · rename_i hle
            cases h
            simp only [RepO] at rm; subst rm
            have hb := run_bounds (isS := false) (P := P) hl hh hle.1 hle.2 rl rh
            refine ⟨.string ((⟨s.toArray⟩ : ByteArray).extract l h'), ?_, ?_⟩
            · unfold Instr.sliceAt
              rw [Sem.run_bind, run_underlying hu, Result.andThen_ok]
              simp only [Instr.slice, Sem.run_bind, run_underlying hu, Result.andThen_ok, Option.isSome_none, Bool.false_eq_true, if_false]
              have : (⟨s.toArray⟩ : ByteArray).size = s.length := by simp [ByteArray.size]
              rw [this, hb]
              rfl
            · simp only [Rep]
              congr 1
              apply ByteArray.ext
              rw [ByteArray.data_extract]
              apply Array.ext'
              simp [List.extract_eq_take_drop, List.drop_take]
          · cases h
        · cases h
    · cases h
  · rename_i e hu
    split at h
    · rename_i n hn
      split at h
      · simp only [Rep] at hx
        obtain ⟨a, rfl⟩ := hx
        split at h
        · rename_i hl hh hm
          split at h
          · cases h
          · rename_i hns
            cases h
            cases mx with
            | none =>
              simp only [RepO] at rm; subst rm
              have hb := run_bounds (isS := true) (P := P) (len := 0) (cap := 0) hl hh (by omega) (by omega) rl rh
              exact ⟨_, run_sliceAt hu hn hb, by simp [Rep]⟩
            | some y =>
              have hb := run_bounds0 (isS := true) (P := P) (len := 0) (cap := 0) hl hh hm (by cases hi <;> simp_all) rl rh rm
              exact ⟨_, run_sliceAt hu hn hb, by simp [Rep]⟩
        · cases h
      · rename_i full m xs
        simp only [Rep] at hx
        obtain ⟨a, cap, rfl, h1, h2, h3⟩ := hx
        split at h
        · rename_i y
          split at h
          · rename_i hl hh hm
            split at h
            · cases h
            · rename_i hns
              cases h
              have hb := run_bounds0 (isS := true) (P := P) (len := xs.length) (cap := cap) hl hh hm (by cases hi <;> simp_all) rl rh rm
              exact ⟨_, run_sliceAt hu hn hb, by simp [Rep]⟩
          · cases h
        · split at h
          · rename_i l h' hl hh
            split at h
            · rename_i hle
              obtain ⟨hmn, hle1, hle2⟩ := hle
              cases h
              simp only [RepO] at rm; subst rm
              have hb := run_bounds (isS := true) (P := P) (cap := cap) hl hh hle1 (by omega) rl rh
              refine ⟨_, run_sliceAt hu hn hb, ?_⟩
              simp only [Rep]
              have hlen : ((xs.take h').drop l).length = h' - l := by simp; omega
              refine ⟨_, cap - l, by rw [hlen], by omega, fun hf => ?_, ?_⟩
              · simp only [Bool.and_eq_true, beq_iff_eq] at hf
                have := h2 hf.1
                omega
              · by_cases he : h' ≤ l
                · left
                  exact List.eq_nil_of_length_eq_zero (by omega)
                · right
                  have hmn : m = n := hmn.resolve_right (by omega)
                  subst hmn
                  rcases h3 with rfl | ⟨hn0, b, off, rfl, hO, hW, hr⟩
                  · simp at hle2; omega
                  · refine ⟨hn0, b, off + l * m, ?_, hO, hW, ?_⟩
                    · rw [if_neg (by omega)]
                      simp [add_addr]
                    · exact RepRow_drop l (RepRow_take h' hr)
            · cases h
          · cases h
      · rename_i r m top off len
        simp only [Rep] at hx
        obtain ⟨hr, a, cap, rfl, h1, h2, h3⟩ := hx
        split at h
        · rename_i y
          split at h
          · rename_i hl hh hm
            split at h
            · cases h
            · rename_i hns
              cases h
              have hb := run_bounds0 (isS := true) (P := P) (len := len) (cap := cap) hl hh hm (by cases hi <;> simp_all) rl rh rm
              exact ⟨_, run_sliceAt hu hn hb, by simp [Rep]⟩
          · cases h
        · split at h
          · rename_i l h' hl hh
            split at h
            · rename_i hle
              obtain ⟨rfl, hle1, hle2⟩ := hle
              cases h
              simp only [RepO] at rm; subst rm
              have hb := run_bounds (isS := true) (P := P) (cap := cap) hl hh hle1 (by omega) rl rh
              refine ⟨_, run_sliceAt hu hn hb, ?_⟩
              simp only [Rep]
              refine ⟨hr, _, cap - l, rfl, by omega, ?_, fun ri hri => ⟨(h3 ri hri).1, fun ht => ?_⟩⟩
              · by_cases he : h' ≤ l
                · left; omega
                · right
                  rcases h2 with h2 | ⟨b, o, rfl⟩
                  · omega
                  · exact ⟨b, o + l * m, by rw [if_neg (by omega)]; simp [add_addr]⟩
              · obtain ⟨g1, g2, g3, g4⟩ := (h3 ri hri).2 ht
                refine ⟨g1, by omega, by omega, fun hlt => ?_⟩
                rw [if_neg (by omega), g4 (by omega)]
                simp [add_addr, Nat.add_mul]
            · cases h
          · cases h
      · cases h
    · cases h
  · cases h

/-! ### literals -/
theorem isCell_one {c : AVal} {u : Value} (hc : c.isCell = true) (h : Rep w O α c u) : u.oneCell' = true := by
  cases c <;> simp [AVal.isCell] at hc <;> simp only [Rep] at h <;> first
    | (subst h; rfl)
    | (rcases h with ⟨_, rfl⟩; rfl)
    | (rcases h with ⟨_, rfl, _⟩; rfl)
    | (rcases h with ⟨_, _, rfl, _⟩; rfl)
    | (rcases h with ⟨_, _, _, rfl, _⟩; rfl)

theorem cells_rep {x : AVal} {u : Value} (hc : x.cells.all AVal.isCell = true) (h : Rep w O α x u) : RepL w O α x.cells u.cells.toList ∧ ∀ c ∈ u.cells, c.oneCell' = true := by
  have one : ∀ (cs : List AVal) (l : List Value), cs.all AVal.isCell = true → RepL w O α cs l → ∀ c ∈ l, c.oneCell' = true := by
    intro cs
    induction cs with
    | nil => intro l _ hl c hc; simp only [RepL] at hl; subst hl; simp at hc
    | cons y ys ih =>
      intro l ha hl c hc
      simp only [RepL] at hl
      obtain ⟨v, vs, rfl, h1, h2⟩ := hl
      simp only [List.all_cons, Bool.and_eq_true] at ha
      rcases List.mem_cons.1 hc with rfl | hc
      · exact isCell_one ha.1 h1
      · exact ih vs ha.2 h2 c hc
  by_cases hx : ∃ cs, x = .agg cs
  · obtain ⟨cs, rfl⟩ := hx
    simp only [Rep] at h
    obtain ⟨l, rfl, hl⟩ := h
    exact ⟨by simpa [AVal.cells, Value.cells] using hl, fun c hc' => one cs l hc hl c (by simpa [Value.cells] using hc')⟩
  · have e : x.cells = [x] := by cases x <;> first | rfl | exact absurd ⟨_, rfl⟩ hx
    rw [e] at hc ⊢
    simp only [List.all_cons, List.all_nil, Bool.and_true] at hc
    have h1 := isCell_one hc h
    have e2 : u.cells = #[u] := by cases u <;> first | rfl | simp [Value.oneCell'] at h1
    rw [e2]
    exact ⟨by simp only [RepL]; exact ⟨u, [], rfl, h, rfl⟩, fun c hc' => by simp at hc'; subst hc'; exact h1⟩

theorem foldl_set (off : Nat) : ∀ (vs : List Value) (k : Nat) (cells : Array Value), off + k + vs.length ≤ cells.size →
    ((vs.zipIdx k).foldl (fun cs (p : Value × Nat) => cs.setIfInBounds (off + p.2) p.1) cells).toList = cells.toList.take (off + k) ++ vs ++ cells.toList.drop (off + k + vs.length)
  | [], k, cells, h => by simp
  | v :: vs, k, cells, h => by
    simp only [List.length_cons] at h
    simp only [List.zipIdx_cons, List.foldl_cons]
    rw [foldl_set off vs (k + 1) _ (by simp; omega)]
    have hlt : off + k < cells.toList.length := by simp; omega
    simp only [Array.toList_setIfInBounds]
    rw [show off + (k + 1) = off + k + 1 by omega]
    rw [List.take_set, List.drop_set_of_lt (by omega)]
    rw [List.take_succ_eq_append_getElem hlt]
    rw [List.set_append_right _ _ (by simp; omega)]
    have : off + k - (List.take (off + k) cells.toList).length = 0 := by simp; omega
    rw [this]
    simp only [List.set_cons_zero, List.append_assoc, List.cons_append, List.nil_append, List.length_cons]
    congr 4
    omega

def RepParts (w : World) (O : Nat → Prop) (α : AM) : List (Nat × AVal) → List (Nat × Value) → Prop
  | [], l => l = []
  | p :: ps, l => ∃ u us, l = (p.1, u) :: us ∧ Rep w O α p.2 u ∧ RepParts w O α ps us

theorem afill_fill {fs : Array Field} {places : List (Nat × Nat)} (hp : ∀ (i : Nat) (fd : Field) (n : Nat), fs[i]? = some fd → szOf P fd.type = some n → places[i]? = some (fd.offset, n)) :
    ∀ (parts : List (Nat × AVal)) (cs cs' : List AVal) (l : List Value) (vs : List (Nat × Value)), afill P fs cs parts = some cs' → RepL w O α cs l → RepParts w O α parts vs →
      ∃ l', Instr.fill (places.toArray[·]?) l.toArray vs = some l'.toArray ∧ RepL w O α cs' l'
  | [], cs, cs', l, vs, h, hl, hv => by
    simp only [RepParts] at hv; subst hv
    simp only [afill, Option.some.injEq] at h; subst h
    exact ⟨l, by simp [Instr.fill], hl⟩
  | p :: parts, cs, cs', l, vs, h, hl, hv => by
    simp only [RepParts] at hv
    obtain ⟨u, us, rfl, h1, h2⟩ := hv
    obtain ⟨i, x⟩ := p
    simp only [afill] at h
    split at h
    · cases h
    · rename_i fd hfd
      split at h
      · cases h
      · rename_i n hn
        split at h
        · rename_i hc
          obtain ⟨c1, c2, c3⟩ := hc
          obtain ⟨r1, r2⟩ := cells_rep c3 h1
          have hsz : u.cells.size = n := by rw [← c1]; simpa using RepL_length r1
          have hll := RepL_length hl
          have hpl := hp i fd n hfd hn
          have e : (u.cells.zipIdx.foldl (fun cs (p : Value × Nat) => cs.setIfInBounds (fd.offset + p.2) p.1) l.toArray) = (l.take fd.offset ++ u.cells.toList ++ l.drop (fd.offset + n)).toArray := by
            apply Array.ext'
            rw [← Array.foldl_toList, Array.toList_zipIdx]
            have := foldl_set fd.offset u.cells.toList 0 l.toArray (by simp; omega)
            rw [this]
            simp [hsz]
          obtain ⟨l', g1, g2⟩ := afill_fill hp parts _ cs' (l.take fd.offset ++ u.cells.toList ++ l.drop (fd.offset + n)) us h
            (RepL_append (RepL_append (RepL_take _ hl) r1) (RepL_drop _ hl)) h2
          refine ⟨l', ?_, g2⟩
          simp only [Instr.fill, List.getElem?_toArray, hpl]
          rw [if_neg (by simp [hsz]; omega)]
          rw [e]
          simpa only [List.getElem?_toArray] using g1
        · cases h

theorem run_abuild {t : TypeId} {parts : List (Nat × AVal)} {v : AVal} {vs : Array (Nat × Value)} (h : abuild P t parts = some v) (hv : RepParts w O α parts vs.toList) :
    ∃ r, (Instr.build t vs).run P w = .ok r w ∧ Rep w O α v r := by
  unfold abuild at h
  split at h
  · rename_i z fs hz hu
    split at h
    · rename_i hall
      simp only [Option.map_eq_some_iff] at h
      obtain ⟨cs', hc, rfl⟩ := h
      unfold zeroOf at hz
      cases hi : P.info? t with
      | none => simp [hi] at hz
      | some i =>
        cases hzz : i.zero with
        | none => simp [hi, hzz] at hz
        | some zv =>
          simp [hi, hzz] at hz
          have hzr : Rep w O α z zv := by rw [← hz]; exact ofConst_rep zv
          -- the places
          have hpl : ∃ places, fs.toList.mapM (fun f => (P.info? f.type).map fun i => (f.offset, i.size)) = some places ∧
              ∀ (i : Nat) (fd : Field) (n : Nat), fs[i]? = some fd → szOf P fd.type = some n → places[i]? = some (fd.offset, n) := by
            have gen : ∀ (l : List Field), (∀ f ∈ l, (P.info? f.type).isSome = true) → ∃ places, l.mapM (fun f => (P.info? f.type).map fun i => (f.offset, i.size)) = some places ∧
                ∀ (i : Nat) (fd : Field) (n : Nat), l[i]? = some fd → szOf P fd.type = some n → places[i]? = some (fd.offset, n) := by
              intro l
              induction l with
              | nil => intro _; exact ⟨[], by simp, by simp⟩
              | cons f l ih =>
                intro ha
                obtain ⟨ps, q1, q2⟩ := ih (fun g hg => ha g (List.mem_cons_of_mem _ hg))
                obtain ⟨fi, hfi⟩ := Option.isSome_iff_exists.1 (ha f List.mem_cons_self)
                refine ⟨(f.offset, fi.size) :: ps, by simp [hfi, q1], fun i fd n hfd hn => ?_⟩
                cases i with
                | zero => simp at hfd; subst hfd; simp [szOf, hfi] at hn; simp [hn]
                | succ i => simpa using q2 i fd n (by simpa using hfd) hn
            obtain ⟨ps, q1, q2⟩ := gen fs.toList (fun f hf => by
              rw [Array.all_eq_true] at hall
              obtain ⟨j, hj, rfl⟩ := List.mem_iff_getElem.1 hf
              simpa using hall j (by simpa using hj))
            exact ⟨ps, q1, fun i fd n hfd hn => q2 i fd n (by simpa using hfd) hn⟩
          obtain ⟨places, hp1, hp2⟩ := hpl
          have hzc : RepL w O α z.cells zv.cells.toList := by
            by_cases hx : ∃ cs, z = .agg cs
            · obtain ⟨cs, rfl⟩ := hx
              simp only [Rep] at hzr
              obtain ⟨l, rfl, hl⟩ := hzr
              simpa [AVal.cells, Value.cells] using hl
            · have : ∀ cs, zv ≠ .agg cs := by
                intro cs hcs
                subst hcs
                rw [← hz] at hx
                exact hx ⟨_, rfl⟩
              have e1 : z.cells = [z] := by cases z <;> first | rfl | exact absurd ⟨_, rfl⟩ hx
              have e2 : zv.cells = #[zv] := by cases zv <;> first | rfl | exact absurd rfl (this _)
              rw [e1, e2]
              simp only [RepL]
              exact ⟨zv, [], rfl, hzr, rfl⟩
          obtain ⟨l', g1, g2⟩ := afill_fill hp2 parts z.cells cs' zv.cells.toList vs.toList hc hzc hv
          refine ⟨.agg l'.toArray, run_build w t vs l'.toArray ?_, by simp only [Rep]; exact ⟨l', rfl, g2⟩⟩
          unfold Program.built
          simp only [hi, hu, hzz, hp1]
          simpa using g1
    · cases h
  · cases h
end
end Go.EM
