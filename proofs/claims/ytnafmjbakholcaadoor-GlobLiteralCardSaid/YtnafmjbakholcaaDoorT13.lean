/- Rows: tables that are laid; a law of texts. -/
import Derived.Test.YtnafmjbakholcaaDoorT12
import Derived.WalkKit
import Derived.ProofKit
import Derived.OpenShut
import Derived.ChangeMaps5
import Derived.Deep.DeepHandedRow
import Derived.Lib.LaidTab
set_option linter.unusedVariables false
set_option linter.unusedSimpArgs false
namespace Go.TY
open Go.EM Go.RowKit
abbrev O0 : Nat → Prop := fun _ => False
/-! ### tables -/
mutual
def flatD : DataW Unit → Option (List AVal)
  | .lit (.int k z) => some [.int k z]
  | .lit (.bool b) => some [.bool b]
  | .lit (.string s) => some [.str s]
  | .agg ps => flatDs ps
  | _ => none
def flatDs : List (DataW Unit) → Option (List AVal)
  | [] => some []
  | d :: ds => (flatD d).bind fun a => (flatDs ds).bind fun b => some (a ++ b)
end
def tileF (P : Program) : Nat → List Field → Option Nat
  | o, [] => some o
  | o, f :: fs => if f.offset = o then tileF P (o + P.cellsOf f.type) fs else none
/-- How a type is laid: its parts fill it. -/
def laysB (P : Program) : Nat → TypeId → Bool
  | 0, _ => false
  | n + 1, t => match P.underlying t with
    | some .bool => true
    | some (.int _) => true
    | some .string => true
    | some (.struct fs) => decide (tileF P 0 fs.toList = some (P.cellsOf t)) && fs.toList.all fun f => laysB P n f.type
    | some (.array m e) => Nat.beq (m * P.cellsOf e) (P.cellsOf t) && laysB P n e
    | _ => false
section
variable {P : Program} {w : World} {enc : TypeId × Value → Unit} {base : Nat} {sp : Nat → Bool} {held : Bool}
theorem fields_flat {fuel n : Nat} (ih : ∀ t cs (x : DataW Unit × List MemPlace) as, DataW.trod enc P w base sp held fuel t cs = some x → laysB P n t = true → flatD x.1 = some as → All2 (fun a v => Rep w O0 [] a v) as cs) {cs : List Value} :
    ∀ (fs : List Field) (o e : Nat) (xs : List (DataW Unit × List MemPlace)) (as : List AVal), tileF P o fs = some e → e ≤ cs.length → (fs.mapM fun f => DataW.trod enc P w base sp held fuel f.type ((cs.drop f.offset).take (P.cellsOf f.type))) = some xs →
      (fs.all fun f => laysB P n f.type) = true → flatDs (xs.map (·.1)) = some as → o ≤ e ∧ All2 (fun a v => Rep w O0 [] a v) as ((cs.drop o).take (e - o))
  | [], o, e, xs, as, h, he, hm, hl, hf => by
    simp only [tileF, Option.some.injEq] at h
    simp only [List.mapM_nil, Option.pure_def, Option.some.injEq] at hm
    subst h; subst hm
    simp only [List.map_nil, flatDs, Option.some.injEq] at hf
    subst hf
    simp [All2]
  | f :: fs, o, e, xs, as, h, he, hm, hl, hf => by
    simp only [tileF] at h
    split at h
    · rename_i ho
      subst ho
      rw [List.mapM_cons] at hm
      simp only [Option.pure_def, Option.bind_eq_bind, Option.bind_eq_some_iff, Option.some.injEq] at hm
      obtain ⟨x, hx, ys, hy, rfl⟩ := hm
      simp only [List.all_cons, Bool.and_eq_true] at hl
      simp only [List.map_cons, flatDs, Option.bind_eq_some_iff, Option.some.injEq] at hf
      obtain ⟨a, ha, b, hb, rfl⟩ := hf
      obtain ⟨h1, h2⟩ := fields_flat ih fs _ e ys b h he hy hl.2 hb
      refine ⟨by omega, ?_⟩
      have e1 : (cs.drop f.offset).take (e - f.offset) = (cs.drop f.offset).take (P.cellsOf f.type) ++ (cs.drop (f.offset + P.cellsOf f.type)).take (e - (f.offset + P.cellsOf f.type)) := by
        rw [← List.drop_drop, ← List.take_add]
        congr 1; omega
      rw [e1]
      exact All2_app (ih _ _ _ _ hx hl.1 ha) h2
    · cases h
theorem elems_flat {fuel : Nat} {e : TypeId} (ih : ∀ cs (x : DataW Unit × List MemPlace) as, DataW.trod enc P w base sp held fuel e cs = some x → flatD x.1 = some as → All2 (fun a v => Rep w O0 [] a v) as cs) {cs : List Value} {c : Nat} :
    ∀ (m i : Nat) (xs : List (DataW Unit × List MemPlace)) (as : List AVal), (i + m) * c ≤ cs.length → ((List.range' i m).mapM fun i => DataW.trod enc P w base sp held fuel e ((cs.drop (i * c)).take c)) = some xs →
      flatDs (xs.map (·.1)) = some as → All2 (fun a v => Rep w O0 [] a v) as ((cs.drop (i * c)).take (m * c))
  | 0, i, xs, as, he, hm, hf => by
    simp only [List.range'_zero, List.mapM_nil, Option.pure_def, Option.some.injEq] at hm
    subst hm
    simp only [List.map_nil, flatDs, Option.some.injEq] at hf
    subst hf
    simp [All2]
  | m + 1, i, xs, as, he, hm, hf => by
    rw [List.range'_succ, List.mapM_cons] at hm
    simp only [Option.pure_def, Option.bind_eq_bind, Option.bind_eq_some_iff, Option.some.injEq] at hm
    obtain ⟨x, hx, ys, hy, rfl⟩ := hm
    simp only [List.map_cons, flatDs, Option.bind_eq_some_iff, Option.some.injEq] at hf
    obtain ⟨a, ha, b, hb, rfl⟩ := hf
    have e0 : (i + 1 + m) * c = (i + (m + 1)) * c := by rw [Nat.add_assoc, Nat.add_comm 1 m]
    have h2 := elems_flat ih m (i + 1) ys b (by rw [e0]; exact he) hy hb
    have e1 : (cs.drop (i * c)).take ((m + 1) * c) = (cs.drop (i * c)).take c ++ (cs.drop ((i + 1) * c)).take (m * c) := by
      rw [Nat.succ_mul, Nat.succ_mul, ← List.drop_drop, ← List.take_add, Nat.add_comm]
    rw [e1]
    exact All2_app (ih _ _ _ hx ha) h2
theorem trod_flat : ∀ (fuel n : Nat) (t : TypeId) (cs : List Value) (x : DataW Unit × List MemPlace) (as : List AVal), DataW.trod enc P w base sp held fuel t cs = some x → laysB P n t = true → flatD x.1 = some as → All2 (fun a v => Rep w O0 [] a v) as cs
  | 0, n, t, cs, x, as, h, hl, hf => by simp [DataW.trod] at h
  | fuel + 1, 0, t, cs, x, as, h, hl, hf => by simp [laysB] at hl
  | fuel + 1, n + 1, t, cs, x, as, h, hl, hf => by
    unfold laysB at hl
    split at hl
    · rename_i hu
      obtain ⟨b, rfl, rfl⟩ := DataW.trod_bool hu h
      simp only [flatD, Option.some.injEq] at hf; subst hf
      exact ⟨by simp only [Rep], trivial⟩
    · rename_i k hu
      obtain ⟨z, rfl, rfl, _⟩ := DataW.trod_int hu h
      simp only [flatD, Option.some.injEq] at hf; subst hf
      exact ⟨by simp only [Rep], trivial⟩
    · rename_i hu
      obtain ⟨s, rfl, rfl, _⟩ := DataW.trod_string hu h
      simp only [flatD, Option.some.injEq] at hf; subst hf
      exact ⟨by simp only [Rep], trivial⟩
    · rename_i fs hu
      simp only [Bool.and_eq_true, decide_eq_true_eq] at hl
      unfold DataW.trod at h
      rw [hu] at h
      simp only at h
      split at h
      · rename_i hc
        rw [Option.map_eq_some_iff] at h
        obtain ⟨xs, hm, rfl⟩ := h
        simp only [flatD] at hf
        have := (fields_flat (fun t cs x as h hl hf => trod_flat fuel n t cs x as h hl hf) fs.toList 0 _ xs as hl.1 (by omega) hm hl.2 hf).2
        simpa [← hc] using this
      · cases h
    · rename_i m e hu
      simp only [Bool.and_eq_true, Nat.beq_eq] at hl
      unfold DataW.trod at h
      rw [hu] at h
      simp only at h
      split at h
      · rename_i hc
        rw [Option.map_eq_some_iff] at h
        obtain ⟨xs, hm, rfl⟩ := h
        simp only [flatD] at hf
        rw [List.range_eq_range'] at hm
        have := elems_flat (c := P.cellsOf e) (fun cs x as h hf => trod_flat fuel n e cs x as h hl.2 hf) m 0 xs as (by rw [Nat.zero_add]; omega) hm hf
        rw [hl.1, ← hc] at this
        simpa using this
      · cases h
    · cases hl
end
theorem All2_at {A B : Type} {p : A → B → Prop} : ∀ {l : List A} {m : List B} {i : Nat} {a : A}, All2 p l m → l[i]? = some a → ∃ b, m[i]? = some b ∧ p a b
  | [], _, i, a, _, h => by simp at h
  | x :: l, y :: m, 0, a, h, h' => by simp at h'; subst h'; exact ⟨y, rfl, h.1⟩
  | x :: l, y :: m, i + 1, a, h, h' => by simpa using All2_at h.2 (by simpa using h')
  | _ :: _, [], _, _, h, _ => h.elim
theorem mem_row {w : World} {b : Nat} : ∀ (as : List AVal) (off : Nat), (∀ i a, as[i]? = some a → ∃ v, w.cell? ⟨b, off + i, none⟩ = some v ∧ Rep w O0 [] a v) → RepMem w O0 [] b off as
  | [], off, h => by simp only [RepMem]
  | a :: as, off, h => by
    simp only [RepMem]
    refine ⟨?_, mem_row as (off + 1) fun i a' ha => ?_⟩
    · simpa using h 0 a rfl
    · obtain ⟨v, h1, h2⟩ := h (i + 1) a' (by simpa using ha)
      exact ⟨v, by rw [← h1]; congr 2; omega, h2⟩
/-- What a list of tables gives. -/
theorem laid_rep {P : Program} {w : World} : ∀ {laid : List (String × DataW Unit)} {ps : List MemPlace}, DataW.LaidVars P w laid ps → ∀ nm d, (nm, d) ∈ laid → ∀ g t n as, P.globalNamed nm = some g → (P.globals[g]?).map (·.type) = some t → laysB P n t = true → flatD d = some as →
    Rep w O0 [] (.rptr as) (.pointer (some ⟨g, 0, none⟩))
  | [], _, h, nm, d, hm => by cases hm
  | (nm', d') :: laid, ps, h, nm, d, hm => by
    obtain ⟨g', t', cs, fuel, p, q, hg', ht', hvar, hd, hrest, _⟩ := h
    intro g t n as hg ht hl hf
    rcases List.mem_cons.1 hm with e | hm
    · cases e
      obtain rfl := Option.some.inj (hg.symm.trans hg')
      obtain rfl := Option.some.inj (ht.symm.trans ht')
      have h2 := trod_flat _ n _ _ _ _ hd hl hf
      simp only [Rep]
      refine ⟨_, _, rfl, .inr ⟨fun e => e, ?_, mem_row as 0 fun i a ha => ?_⟩⟩
      · rintro ⟨r, ri, h, _⟩; simp at h
      · obtain ⟨v, h3, h4⟩ := All2_at h2 ha
        refine ⟨v, ?_, h4⟩
        rw [World.var?_cell hg hvar, Nat.zero_add, ← h3]; simp
    · exact laid_rep hrest nm d hm g t n as hg ht hl hf
theorem closed_ints : ∀ {zs : List Int} {k : IntKind}, closedL (zs.map (AVal.int k)) = true
  | [], k => rfl
  | z :: zs, k => by simp only [List.map_cons, closedL, closed, Bool.true_and]; exact closed_ints
theorem globOk_nil {w : World} : GlobOk [] w O0 [] := fun g v h => by cases h
theorem globOk_cons {G : List (Nat × AVal)} {w : World} {k : Nat} {a : AVal} (hc : closed a = true) (hr : Rep w O0 [] a (.pointer (some ⟨k, 0, none⟩))) (h : GlobOk G w O0 []) : GlobOk ((k, a) :: G) w O0 [] := fun g v hv => by
  simp only [lookN] at hv
  cases e : Nat.beq k g with
  | true =>
    rw [e, cond_true] at hv
    cases hv
    rw [← Nat.eq_of_beq_eq_true e]
    exact ⟨hc, hr⟩
  | false => rw [e, cond_false] at hv; exact h g v hv
/-! ### a law of texts -/
section
variable {H : Type} {enc : TypeId × Value → H} {P : Program}
theorem quiet_frozen {w w' : World} (h : Quiet w w') {b off : Nat} (hb : b < w.heap.size) : w'.frozen? ⟨b, off, none⟩ = w.frozen? ⟨b, off, none⟩ := by
  unfold World.frozen?
  simp only [h.old b hb]
theorem quiet_kept {w w' : World} (h : Quiet w w') (may : MemPlace → Prop) : w.keptBut w' may := by
  refine ⟨h.os, h.output, ?_⟩
  intro i hi
  rw [h.old i hi]
  cases w.heap[i]? with
  | none => trivial
  | some o => cases o <;> simp
/-- What a quiet call of a law comes to. -/
theorem post_quiet {fn : Func} {s : ChangeSpec} {apart fresh handsOn again : Bool} {W W' : World} {args : Array Value} {v : Value} {ds : List (DataW H)} {before : List MemPlace}
    (hv : s.vars = []) (hW : DataW.Whole enc P fn.params.toList s.vars apart W args.toList ds [] before)
    (hres : ∀ (b : Nat) (sp : Nat → Bool) (hd : Bool), DataW.TrodAll enc P W' b sp hd fn.resultTypes.toList (v.resultList fn.resultTypes.size) (s.fn H ds).results [])
    (hargs : ∀ sp : Nat → Bool, (∀ p ∈ before, sp p.block = true) → DataW.TrodAll enc P W' 0 sp true fn.params.toList args.toList (s.fn H ds).args before)
    (hvars : (s.fn H ds).vars = []) (hq : Quiet W W')
    (hok : ∀ (j : Nat) (t : TypeId) (r : Value), fn.resultTypes[j]? = some t → (v.resultList fn.resultTypes.size)[j]? = some r → Value.okWide P W' .any 0 t r) :
    s.post enc P fn apart fresh handsOn again W args v W' := by
  have lt := hW.lt
  have hb : ∀ p ∈ before, (fun b => decide (b < W.heap.size)) p.block = true := fun p hp => decide_eq_true (lt p hp)
  have hV : ∀ sp : Nat → Bool, DataW.TrodVars enc P W' sp s.vars (s.fn H ds).vars [] := fun sp => by rw [hv, hvars]; exact rfl
  obtain ⟨p, q, hA, hV0, he, hz, hn⟩ := id hW
  refine ⟨ds, [], before, [], before, [], hW, ?_, ?_, ?_, ?_, ?_⟩
  · simpa using hres _ _ _
  · simpa using hargs _ hb
  · simpa using hV _
  · exact World.keptBut_mono (fun p hp => ⟨hp, Or.inr (Or.inl hp)⟩) (quiet_kept hq _)
  · intro _
    refine ⟨hok, (s.fn H ds).results ++ (s.fn H ds).args, [], before, ⟨before, [], ?_, ?_, (List.append_nil _).symm, ?_, hn⟩, fun p hp _ => hp⟩
    · have := ChangeShapes.trodAll_append (hargs _ (fun _ _ => rfl)) (hres 0 (fun _ => true) true)
      simpa using this
    · have := hV (fun _ => true); rw [hvars] at this; exact this
    · intro b off hp
      have hlt : b < W.heap.size := lt _ hp
      rw [quiet_frozen hq hlt]
      exact hz b off hp
theorem trodAll_len {W : World} {base : Nat} {sp : Nat → Bool} {held : Bool} : ∀ {ts : List TypeId} {vs : List Value} {ds : List (DataW H)} {ps : List MemPlace}, DataW.TrodAll enc P W base sp held ts vs ds ps → vs.length = ts.length
  | [], vs, ds, ps, h => by obtain ⟨rfl, rfl, rfl⟩ := ChangeShapes.trodAll_nil h; rfl
  | t :: ts, vs, ds, ps, h => by
    obtain ⟨v0, vs0, d0, ds0, p0, q0, rfl, rfl, rfl, h0, r0⟩ := ChangeShapes.trodAll_cons h
    simp [trodAll_len r0]
def strV (ss : List (List UInt8)) : List Value := ss.map fun s => .string ⟨s.toArray⟩
def strD (ss : List (List UInt8)) : List (DataW H) := ss.map fun s => .lit (.string s)
theorem open_strs {W : World} {r : Reach} {b0 : Nat} {tS : TypeId} (hS : P.underlying tS = some .string) : ∀ (n : Nat) {vs : List Value} {ds : List (DataW H)} {ps : List MemPlace} {base : Nat} {sp : Nat → Bool} {held : Bool},
    (∀ v ∈ vs, Value.okWide P W r b0 tS v) → DataW.TrodAll enc P W base sp held (List.replicate n tS) vs ds ps → ∃ ss : List (List UInt8), ss.length = n ∧ vs = strV ss ∧ ds = strD ss ∧ ps = [] ∧ ∀ s ∈ ss, s.length ≤ maxLen
  | 0, vs, ds, ps, base, sp, held, hv, h => by
    obtain ⟨rfl, rfl, rfl⟩ := ChangeShapes.trodAll_nil h
    exact ⟨[], rfl, rfl, rfl, rfl, fun s hs => by cases hs⟩
  | n + 1, vs, ds, ps, base, sp, held, hv, h => by
    rw [List.replicate_succ] at h
    obtain ⟨v0, vs0, d0, ds0, p0, q0, rfl, rfl, rfl, h0, r0⟩ := ChangeShapes.trodAll_cons h
    obtain ⟨ss, h1, rfl, rfl, rfl, h2⟩ := open_strs hS n (fun v hv' => hv v (List.mem_cons_of_mem _ hv')) r0
    obtain ⟨s, rfl, rfl, rfl, hs⟩ := ChangeMaps.open_string hS (hv v0 (List.mem_cons_self ..)) h0
    refine ⟨s.data.toList :: ss, by simp [h1], ?_, rfl, rfl, ?_⟩
    · simp only [strV, List.map_cons]
    · intro x hx
      rcases List.mem_cons.1 hx with rfl | hx
      · simpa using hs
      · exact h2 x hx
theorem shut_strs {W : World} {tS : TypeId} (hS : P.underlying tS = some .string) {base : Nat} {sp : Nat → Bool} {held : Bool} : ∀ (ss : List (List UInt8)), (∀ s ∈ ss, s.length ≤ maxLen) → DataW.TrodAll enc P W base sp held (List.replicate ss.length tS) (strV ss) (strD ss) []
  | [], _ => rfl
  | s :: ss, h => by
    have h1 := ChangeMaps.shut_string (enc := enc) (P := P) (w := W) (base := base) (sp := sp) (held := held) (s := ⟨s.toArray⟩) hS (by simpa [ByteArray.size] using h s (List.mem_cons_self ..))
    exact ⟨[], [], by simpa using h1, shut_strs hS ss (fun x hx => h x (List.mem_cons_of_mem _ hx)), rfl⟩
theorem strs_rep {w : World} : ∀ (ss : List (List UInt8)), RepL w O0 [] (ss.map AVal.str) (strV ss)
  | [] => rfl
  | s :: ss => ⟨_, _, rfl, by simp only [Rep], strs_rep ss⟩
theorem strs_closed : ∀ (ss : List (List UInt8)), closedL (ss.map AVal.str) = true
  | [] => rfl
  | s :: ss => by simp only [List.map_cons, closedL, closed, Bool.true_and]; exact strs_closed ss
/-- A law of n texts that says yes. -/
theorem law_strs {f : Nat} {fn : Func} {G : List (Nat × AVal)} {F : PFn} {s : ChangeSpec} {n : Nat} {tS tB : TypeId} {apart fresh handsOn again : Bool} (hF : SoundP P G f F) (hp : fn.params.toList = List.replicate n tS) (hS : P.underlying tS = some .string)
    (hr : fn.resultTypes = #[tB]) (hB : P.underlying tB = some .bool) (hv : s.vars = []) (hs : ∀ ss : List (List UInt8), ss.length = n → s.fn H (strD ss) = { results := [.lit (.bool true)], args := strD ss })
    {W : World} {base : Nat} {args : Array Value} {ds gs : List (DataW H)} {before : List MemPlace} (hG : GlobOk G W O0 [])
    (hval : ∀ (j : Nat) t v, fn.params[j]? = some t → args[j]? = some v → Value.okWide P W .any base t v) (hW : DataW.Whole enc P fn.params.toList s.vars apart W args.toList ds gs before)
    (hlaw : ∀ ss : List (List UInt8), ss.length = n → ds = strD ss → gs = [] → F (ss.map AVal.str) = some (.bool true)) :
    Calls P f args W fun e W' => ∃ v, e = .returned v ∧ s.post enc P fn apart fresh handsOn again W args v W' := by
  obtain ⟨p, q, hA, hV, rfl, hz, hn⟩ := id hW
  rw [hv] at hV
  obtain ⟨rfl, rfl⟩ := ChangeShapes.trodVars_none hV
  have hA' := hA
  rw [hp] at hA'
  have hlen : ∀ v ∈ args.toList, Value.okWide P W .any base tS v := by
    intro v hm
    obtain ⟨j, hj, rfl⟩ := List.mem_iff_getElem.1 hm
    have hl : args.toList.length = n := by
      have := trodAll_len hA'
      simpa using this
    refine hval j tS _ ?_ ?_
    · rw [← Array.getElem?_toList, hp, List.getElem?_replicate, if_pos (by omega)]
    · rw [← Array.getElem?_toList, List.getElem?_eq_getElem hj]
  obtain ⟨ss, h1, h2, rfl, rfl, h3⟩ := open_strs hS n hlen hA'
  have he : args = (strV ss).toArray := by rw [← h2]
  subst he
  refine (hF.2 _ _ (hlaw ss h1 rfl rfl) (strs_closed ss) W O0 _ (fun b h => h.elim) hG (strs_rep ss)).mono fun e W' ⟨v, h4, h5, h6, _⟩ => ?_
  simp only [Rep] at h6
  subst h6
  refine ⟨_, h4, post_quiet hv hW ?_ ?_ ?_ h5 ?_⟩
  · intro b sp hd
    rw [hs ss h1, hr]
    exact trodAll_cons_mk (shut_bool hB _) ChangeShapes.trodAll_mk0
  · intro sp _
    rw [hs ss h1, hp]
    have := shut_strs (enc := enc) (W := W') hS (base := 0) (sp := sp) (held := true) ss h3
    rw [h1] at this
    simpa using this
  · rw [hs ss h1]
  · exact ok_one hr rfl (okWide_bool_mk hB _)
end
end Go.TY
