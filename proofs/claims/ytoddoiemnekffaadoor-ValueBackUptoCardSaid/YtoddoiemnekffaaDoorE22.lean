import Derived.Test.YtoddoiemnekffaaDoorE19
import Derived.Lib.ItoaNum
import Derived.Lib.LaidTab
import Derived.Sort.Grow
import Derived.Deep.Draws
import Derived.Shelf.Strconv.Itoa3
import Derived.Lib.AtoiAll
import Derived.Lib.Bytealg
import Derived.Shelf.Unicode.DecodeAny
/- Functions of Go's library, by the shelf's contracts. -/
set_option linter.unusedVariables false
set_option linter.unusedSimpArgs false
namespace Go.EM
theorem repMem_at {w : World} {O : Nat → Prop} {α : AM} {b : Nat} : ∀ {cs : List AVal} {off i : Nat} {a : AVal}, RepMem w O α b off cs → cs[i]? = some a → ∃ v, w.cell? ⟨b, off + i, none⟩ = some v ∧ Rep w O α a v
  | [], off, i, a, h, hi => by simp at hi
  | c :: cs, off, 0, a, h, hi => by
    simp only [RepMem] at h
    simp only [List.getElem?_cons_zero, Option.some.injEq] at hi
    subst hi
    exact h.1
  | c :: cs, off, i + 1, a, h, hi => by
    simp only [RepMem] at h
    obtain ⟨v, h1, h2⟩ := repMem_at h.2 (by simpa using hi)
    exact ⟨v, by rw [← h1]; congr 2; omega, h2⟩
/-- A package variable's row, as the model holds it. -/
theorem tab_of {P : Program} {G : List (Nat × AVal)} {w : World} {O : Nat → Prop} {g : Nat} {nm : String} {k : IntKind} {zs : List Int} (hG : GlobOk G w O []) (hl : lookN G g = some (.rptr (zs.map (AVal.int k)))) (hg : P.globalNamed nm = some g) : Lib.TabIs P w nm k zs := by
  obtain ⟨h1, h2, h3⟩ := hG g _ hl
  obtain ⟨_, _, c, t, fr, h4, h5, _⟩ := h3 _ rfl
  unfold Lib.TabIs World.var?
  rw [hg, Option.bind_some, h4]
  simp only [Option.some.injEq]
  apply Array.ext'
  apply List.ext_getElem?
  intro i
  simp only [List.length_map] at h5
  rcases Nat.lt_or_ge i zs.length with hi | hi
  · simp only [Rep] at h2
    obtain ⟨b, off, he, h2⟩ := h2
    cases he
    have hne : zs.map (AVal.int k) ≠ [] := fun e => by
      have := congrArg List.length e
      simp at this
      rw [this] at hi; simp at hi
    rcases h2 with h2 | ⟨_, _, h2⟩
    · exact absurd h2 hne
    · obtain ⟨v, g1, g2⟩ := repMem_at (i := i) (a := .int k zs[i]) h2 (by rw [List.getElem?_map, List.getElem?_eq_getElem hi]; rfl)
      simp only [Rep] at g2
      subst g2
      rw [Nat.zero_add] at g1
      unfold World.cell? at g1
      rw [h4] at g1
      simp only [Option.isSome_none, Bool.false_eq_true, if_false] at g1
      rw [Array.getElem?_toList, g1, List.getElem?_map, List.getElem?_eq_getElem hi]
      rfl
  · rw [List.getElem?_eq_none (by rw [Array.length_toList]; omega), List.getElem?_eq_none (by simpa using hi)]
theorem grow_quiet {w : World} {k : Nat} {os : Array Obj} : Quiet w (Go.Sort.grow (w.drewN k) os) := by
  refine ⟨rfl, rfl, rfl, ?_, fun b hb => ?_⟩
  · show w.heap.size ≤ (w.heap ++ os).size
    rw [Array.size_append]; omega
  · show (w.heap ++ os)[b]? = w.heap[b]?
    rw [Array.getElem?_append_left hb]
def itoaF : PFn := fun xs => match xs with
  | [.int .i64 n] => if -9223372036854775808 ≤ n ∧ n ≤ 9223372036854775807 then some (.str (Lib.itoa n)) else none
  | _ => none
theorem itoa_sound {P : Program} {G : List (Nat × AVal)} {f g : Nat} (h0 : Goes P f) (hl : lookN G g = some (.rptr (Lib.pow10Tab.map (AVal.int .u64)))) (hg : P.globalNamed "internal/strconv.uint64pow10" = some g)
    (hcon : ∀ n : Int, -9223372036854775808 ≤ n → n ≤ 9223372036854775807 → ∀ w : World, Lib.TabIs P w "internal/strconv.uint64pow10" .u64 Lib.pow10Tab → Calls P f #[.int .i64 n] w fun e w' => e = .returned (.string ⟨(Lib.itoa n).toArray⟩) ∧ ∃ k os, w' = Go.Sort.grow (w.drewN k) os) : SoundP P G f itoaF := by
  refine ⟨h0, fun xs r hF hc w O vs hb hG hv => ?_⟩
  unfold itoaF at hF
  split at hF
  · rename_i n
    split at hF
    · rename_i hn
      cases hF
      simp only [RepL, Rep] at hv
      obtain ⟨v, vs, rfl, rfl, rfl⟩ := hv
      refine (hcon n hn.1 hn.2 w (tab_of hG hl hg)).mono ?_
      rintro e w' ⟨rfl, k, os, rfl⟩
      exact ⟨_, rfl, grow_quiet, by simp only [Rep], rfl⟩
    · cases hF
  · cases hF
end Go.EM

/- strconv.Atoi, by the shelf's contracts. -/
set_option linter.unusedVariables false
set_option linter.unusedSimpArgs false
namespace Go.EM
def atoiF (te : Nat) : PFn := fun xs => match xs with
  | [.str s] => if s.length ≤ 281474976710656 then some (match Lib.atoiAll s with
    | .ok v => .tup [.int .i64 v, .niliface]
    | Lib.NumEnd.syntax => .tup [.int .i64 0, .iface te (.rptr [])]
    | .range => .tup [.int .i64 (Lib.atoiSat s), .iface te (.rptr [])]) else none
  | _ => none
theorem below_quiet {w w' : World} (h : RowKit.Below w.heap.size w w') : Quiet w w' := ⟨h.os, h.tape, h.output, h.size, h.block⟩
theorem bytes_quiet {w : World} {e : TypeId} {t : ByteArray} : Quiet w (Lib.bytesWorld w e t) := by
  rw [bytesWorld_eq]
  refine ⟨rfl, rfl, rfl, ?_, fun b hb => ?_⟩
  · show w.heap.size ≤ (w.heap.push _).size
    rw [Array.size_push]; omega
  · show (w.heap.push _)[b]? = w.heap[b]?
    rw [Array.getElem?_push, if_neg (by omega)]
theorem iface_at {G : List (Nat × AVal)} {w : World} {O : Nat → Prop} {g : Nat} (hG : GlobOk G w O []) (hl : lookN G g = some (.rptr [.any])) : ∃ ev, w.cell? ⟨g, 0, none⟩ = some ev ∧ (ev = .nilIface ∨ ∃ te pe, ev = .iface te pe) := by
  obtain ⟨_, _, c, t, fr, h4, _, h5⟩ := (hG g _ hl).2.2 _ rfl
  obtain ⟨te, pe, h6⟩ := h5 rfl
  refine ⟨.iface te pe, ?_, .inr ⟨te, pe, rfl⟩⟩
  unfold World.cell?
  rw [h4]
  simpa using h6
theorem atoi_sound {P : Program} {G : List (Nat × AVal)} {f te t5 gs gr : Nat} (h0 : Goes P f) (hs : lookN G gs = some (.rptr [.any])) (hr : lookN G gr = some (.rptr [.any]))
    (hok : ∀ (s : ByteArray), s.size ≤ 9223372036854775806 → ∀ v : Int, Lib.atoiAll s.data.toList = .ok v → ∀ w : World, Calls P f #[.string s] w fun e w' => e = .returned (.tuple #[.int .i64 v, .nilIface]) ∧ (w' = w ∨ ∃ t, w' = Lib.bytesWorld w t5 t))
    (hsyn : ∀ (s : ByteArray), s.size ≤ 281474976710656 → Lib.atoiAll s.data.toList = Lib.NumEnd.syntax → ∀ (ev : Value) (w : World), w.cell? ⟨gs, 0, none⟩ = some ev → (ev = .nilIface ∨ ∃ te pe, ev = .iface te pe) →
      Calls P f #[.string s] w fun e w' => ∃ N, e = .returned (.tuple #[.int .i64 (0), .iface te (.pointer (some ⟨N, 0, none⟩))]) ∧ RowKit.Below w.heap.size w w')
    (hran : ∀ (s : ByteArray), s.size ≤ 281474976710656 → Lib.atoiAll s.data.toList = .range → ∀ (ev : Value) (w : World), w.cell? ⟨gr, 0, none⟩ = some ev → (ev = .nilIface ∨ ∃ te pe, ev = .iface te pe) →
      Calls P f #[.string s] w fun e w' => ∃ N, e = .returned (.tuple #[.int .i64 (Lib.atoiSat s.data.toList), .iface te (.pointer (some ⟨N, 0, none⟩))]) ∧ RowKit.Below w.heap.size w w') : SoundP P G f (atoiF te) := by
  refine ⟨h0, fun xs r hF hc w O vs hb hG hv => ?_⟩
  unfold atoiF at hF
  split at hF
  · rename_i s
    split at hF
    · rename_i hn
      simp only [RepL, Rep] at hv
      obtain ⟨v, vs, rfl, rfl, rfl⟩ := hv
      have hsz : (⟨s.toArray⟩ : ByteArray).size = s.length := by show s.toArray.size = _; simp
      cases ha : Lib.atoiAll s with
      | ok v =>
        rw [ha] at hF
        cases hF
        refine (hok ⟨s.toArray⟩ (by rw [hsz]; omega) v (by simpa using ha) w).mono ?_
        rintro e w' ⟨rfl, hw⟩
        refine ⟨_, rfl, ?_, ?_, rfl⟩
        · rcases hw with rfl | ⟨t, rfl⟩
          · exact Quiet.refl _
          · exact bytes_quiet
        · simp only [Rep, RepL]
          exact ⟨[.int .i64 v, .nilIface], rfl, _, _, rfl, rfl, _, _, rfl, rfl, rfl⟩
      | range =>
        rw [ha] at hF
        cases hF
        obtain ⟨ev, h1, h2⟩ := iface_at hG hr
        refine (hran ⟨s.toArray⟩ (by rw [hsz]; exact hn) (by simpa using ha) ev w h1 h2).mono ?_
        rintro e w' ⟨N, rfl, hw⟩
        refine ⟨_, rfl, below_quiet hw, ?_, rfl⟩
        simp only [Rep, RepL]
        exact ⟨[.int .i64 (Lib.atoiSat s), .iface te (.pointer (some ⟨N, 0, none⟩))], rfl, _, _, rfl, (by simp), _, _, rfl, ⟨_, rfl, N, 0, rfl, .inl trivial⟩, rfl⟩
      | _ =>
        rw [ha] at hF
        cases hF
        obtain ⟨ev, h1, h2⟩ := iface_at hG hs
        refine (hsyn ⟨s.toArray⟩ (by rw [hsz]; exact hn) (by simpa using ha) ev w h1 h2).mono ?_
        rintro e w' ⟨N, rfl, hw⟩
        refine ⟨_, rfl, below_quiet hw, ?_, rfl⟩
        simp only [Rep, RepL]
        exact ⟨[.int .i64 0, .iface te (.pointer (some ⟨N, 0, none⟩))], rfl, _, _, rfl, rfl, _, _, rfl, ⟨_, rfl, N, 0, rfl, .inl trivial⟩, rfl⟩
    · cases hF
  · cases hF
end Go.EM

/- strings.Compare, utf8.DecodeRuneInString, by the shelf's contracts. -/
set_option linter.unusedVariables false
namespace Go.EM
def cmpF : PFn := fun xs => match xs with
  | [.str a, .str b] => some (.int .i64 (Lib.compareBytes a b))
  | _ => none
theorem cmp_sound {P : Program} {G : List (Nat × AVal)} {f : Nat} (h0 : Goes P f)
    (hcon : ∀ (a b : ByteArray) (w : World), Calls P f #[.string a, .string b] w fun e w' => e = .returned (.int .i64 (Lib.compareBytes a.data.toList b.data.toList)) ∧ w' = w) : SoundP P G f cmpF := by
  refine ⟨h0, fun xs r hF hc w O vs hb hG hv => ?_⟩
  unfold cmpF at hF
  split at hF
  · rename_i a b
    cases hF
    simp only [RepL, Rep] at hv
    obtain ⟨v, vs, rfl, rfl, v', vs', rfl, rfl, rfl⟩ := hv
    refine (hcon _ _ w).mono ?_
    rintro e w' ⟨rfl, rfl⟩
    exact ⟨_, rfl, Quiet.refl _, by simp only [Rep], rfl⟩
  · cases hF
def tabFirst8 : List AVal := (List.range 256).map fun c => AVal.int .u8 (Lib.firstT c : Nat)
def tabAccept8 : List AVal := (List.range 16).flatMap fun i => [AVal.int .u8 (Lib.accLo i : Nat), AVal.int .u8 (Lib.accHi i : Nat)]
def decodeF : PFn := fun xs => match xs with
  | [.str s] => some (.tup [.int .i32 (Lib.decodeGo ⟨s.toArray⟩).1, .int .i64 (Lib.decodeGo ⟨s.toArray⟩).2])
  | _ => none
theorem glob_cell {G : List (Nat × AVal)} {w : World} {O : Nat → Prop} {g i : Nat} {cs : List AVal} {a : AVal} (hG : GlobOk G w O []) (hl : lookN G g = some (.rptr cs)) (hi : cs[i]? = some a) : ∃ v, w.cell? ⟨g, i, none⟩ = some v ∧ Rep w O [] a v := by
  have h2 := (hG g _ hl).2.1
  simp only [Rep] at h2
  obtain ⟨b, off, he, h2⟩ := h2
  cases he
  rcases h2 with h2 | ⟨_, _, h2⟩
  · rw [h2] at hi; simp at hi
  · obtain ⟨v, g1, g2⟩ := repMem_at h2 hi
    rw [Nat.zero_add] at g1
    exact ⟨v, g1, g2⟩
theorem acc_get : ∀ i : Fin 16, (List.range 16).flatMap (fun i => [(Lib.accLo i), (Lib.accHi i)]) |>.drop (2 * i.val) |>.take 2 |> (· = [Lib.accLo i.val, Lib.accHi i.val]) := by decide
theorem tabs8 {G : List (Nat × AVal)} {w : World} {O : Nat → Prop} {g3 g4 : Nat} (hG : GlobOk G w O []) (h3 : lookN G g3 = some (.rptr tabFirst8)) (h4 : lookN G g4 = some (.rptr tabAccept8)) : Lib.Utf8Tabs g3 g4 w := by
  refine ⟨fun c hc => ?_, fun i hi => ?_⟩
  · obtain ⟨v, e1, e2⟩ := glob_cell (i := c) (a := AVal.int .u8 (Lib.firstT c : Nat)) hG h3 (by unfold tabFirst8; rw [List.getElem?_map, List.getElem?_range hc]; rfl)
    simp only [Rep] at e2
    subst e2; exact e1
  · have hm : tabAccept8 = ((List.range 16).flatMap fun i => [(Lib.accLo i), (Lib.accHi i)]).map fun (n : Nat) => AVal.int .u8 n := rfl
    have ha := acc_get ⟨i, hi⟩
    simp only at ha
    have k0 : ((List.range 16).flatMap fun i => [(Lib.accLo i), (Lib.accHi i)])[2 * i]? = some (Lib.accLo i) := by
      have := congrArg (fun l => l[0]?) ha
      simpa [List.getElem?_take, List.getElem?_drop] using this
    have k1 : ((List.range 16).flatMap fun i => [(Lib.accLo i), (Lib.accHi i)])[2 * i + 1]? = some (Lib.accHi i) := by
      have := congrArg (fun l => l[1]?) ha
      simpa [List.getElem?_take, List.getElem?_drop] using this
    obtain ⟨v, e1, e2⟩ := glob_cell (i := 2 * i) (a := AVal.int .u8 (Lib.accLo i : Nat)) hG h4 (by rw [hm, List.getElem?_map, k0]; rfl)
    obtain ⟨u, e3, e4⟩ := glob_cell (i := 2 * i + 1) (a := AVal.int .u8 (Lib.accHi i : Nat)) hG h4 (by rw [hm, List.getElem?_map, k1]; rfl)
    simp only [Rep] at e2 e4
    subst e2; subst e4
    exact ⟨e1, e3⟩
theorem decode_sound {P : Program} {G : List (Nat × AVal)} {f g3 g4 : Nat} (h0 : Goes P f) (h3 : lookN G g3 = some (.rptr tabFirst8)) (h4 : lookN G g4 = some (.rptr tabAccept8))
    (hcon : ∀ (s : ByteArray) (w : World), Lib.Utf8Tabs g3 g4 w → Calls P f #[.string s] w fun e w' => e = .returned (.tuple #[.int .i32 (Lib.decodeGo s).1, .int .i64 (Lib.decodeGo s).2]) ∧ RowKit.Below w.heap.size w w') : SoundP P G f decodeF := by
  refine ⟨h0, fun xs r hF hc w O vs hb hG hv => ?_⟩
  unfold decodeF at hF
  split at hF
  · rename_i s
    cases hF
    simp only [RepL, Rep] at hv
    obtain ⟨v, vs, rfl, rfl, rfl⟩ := hv
    refine (hcon _ w (tabs8 hG h3 h4)).mono ?_
    rintro e w' ⟨rfl, hw⟩
    refine ⟨_, rfl, below_quiet hw, ?_, rfl⟩
    simp only [Rep, RepL]
    exact ⟨[.int .i32 (Lib.decodeGo ⟨s.toArray⟩).1, .int .i64 (Lib.decodeGo ⟨s.toArray⟩).2], rfl, _, _, rfl, rfl, _, _, rfl, rfl, rfl⟩
  · cases hF
end Go.EM
