import Derived.Test.YtkoicblnbbncbaaGreatDoorE19
import Derived.Lib.ItoaNum
import Derived.Lib.LaidTab
import Derived.Sort.Grow
import Derived.Deep.Draws
import Derived.Shelf.Strconv.Itoa3
import Derived.Lib.AtoiAll
import Derived.Lib.Bytealg
import Derived.Shelf.Unicode.DecodeAny
import Derived.Shelf.SlicesE.Clone
import Derived.Maps.AppendAt
import Derived.Shelf.Strings.OnBuilder
/- Functions of Go's library, by the shelf's contracts. -/
set_option linter.unusedVariables false
set_option linter.unusedSimpArgs false
namespace Go.EM
theorem repMem_at {w : World} {O : Nat → Prop} {α : AM} {b : Nat} : ∀ {cs : List AVal} {off i : Nat} {a : AVal}, RepMem w O α b off cs → cs[i]? = some a → ∃ v, w.cell? ⟨b, off + i, none⟩ = some v ∧ Rep w O α a v
  | [], off, i, a, h, hi => by simp at hi
  | c :: cs, off, 0, a, h, hi => by
    simp only [RepMem] at h
    simp only [List.getElem?_cons_zero, Option.some.injEq] at hi
    subst hi
    exact h.1
  | c :: cs, off, i + 1, a, h, hi => by
    simp only [RepMem] at h
    obtain ⟨v, h1, h2⟩ := repMem_at h.2 (by simpa using hi)
    exact ⟨v, by rw [← h1]; congr 2; omega, h2⟩
/-- A package variable's row, as the model holds it. -/
theorem tab_of {P : Program} {G : List (Nat × AVal)} {w : World} {O : Nat → Prop} {g : Nat} {nm : String} {k : IntKind} {zs : List Int} (hG : GlobOk G w O []) (hl : lookN G g = some (.rptr (zs.map (AVal.int k)))) (hg : P.globalNamed nm = some g) : Lib.TabIs P w nm k zs := by
  obtain ⟨h1, h2, h3⟩ := hG g _ hl
  obtain ⟨_, _, c, t, fr, h4, h5, _⟩ := h3 _ rfl
  unfold Lib.TabIs World.var?
  rw [hg, Option.bind_some, h4]
  simp only [Option.some.injEq]
  apply Array.ext'
  apply List.ext_getElem?
  intro i
  simp only [List.length_map] at h5
  rcases Nat.lt_or_ge i zs.length with hi | hi
  · simp only [Rep] at h2
    obtain ⟨b, off, he, h2⟩ := h2
    cases he
    have hne : zs.map (AVal.int k) ≠ [] := fun e => by
      have := congrArg List.length e
      simp at this
      rw [this] at hi; simp at hi
    rcases h2 with h2 | ⟨_, _, h2⟩
    · exact absurd h2 hne
    · obtain ⟨v, g1, g2⟩ := repMem_at (i := i) (a := .int k zs[i]) h2 (by rw [List.getElem?_map, List.getElem?_eq_getElem hi]; rfl)
      simp only [Rep] at g2
      subst g2
      rw [Nat.zero_add] at g1
      unfold World.cell? at g1
      rw [h4] at g1
      simp only [Option.isSome_none, Bool.false_eq_true, if_false] at g1
      rw [Array.getElem?_toList, g1, List.getElem?_map, List.getElem?_eq_getElem hi]
      rfl
  · rw [List.getElem?_eq_none (by rw [Array.length_toList]; omega), List.getElem?_eq_none (by simpa using hi)]
theorem grow_quiet {w : World} {k : Nat} {os : Array Obj} : Quiet w (Go.Sort.grow (w.drewN k) os) := by
  refine ⟨rfl, rfl, rfl, ?_, fun b hb => ?_⟩
  · show w.heap.size ≤ (w.heap ++ os).size
    rw [Array.size_append]; omega
  · show (w.heap ++ os)[b]? = w.heap[b]?
    rw [Array.getElem?_append_left hb]
def itoaF : PFn := fun xs => match xs with
  | [.int .i64 n] => if -9223372036854775808 ≤ n ∧ n ≤ 9223372036854775807 then some (.str (Lib.itoa n)) else none
  | _ => none
theorem itoa_sound {P : Program} {G : List (Nat × AVal)} {f g : Nat} (h0 : Goes P f) (hl : lookN G g = some (.rptr (Lib.pow10Tab.map (AVal.int .u64)))) (hg : P.globalNamed "internal/strconv.uint64pow10" = some g)
    (hcon : ∀ n : Int, -9223372036854775808 ≤ n → n ≤ 9223372036854775807 → ∀ w : World, Lib.TabIs P w "internal/strconv.uint64pow10" .u64 Lib.pow10Tab → Calls P f #[.int .i64 n] w fun e w' => e = .returned (.string ⟨(Lib.itoa n).toArray⟩) ∧ ∃ k os, w' = Go.Sort.grow (w.drewN k) os) : SoundP P G f itoaF := by
  refine ⟨h0, fun xs r hF hc w O vs hb hG hv => ?_⟩
  unfold itoaF at hF
  split at hF
  · rename_i n
    split at hF
    · rename_i hn
      cases hF
      simp only [RepL, Rep] at hv
      obtain ⟨v, vs, rfl, rfl, rfl⟩ := hv
      refine (hcon n hn.1 hn.2 w (tab_of hG hl hg)).mono ?_
      rintro e w' ⟨rfl, k, os, rfl⟩
      exact ⟨_, rfl, grow_quiet, by simp only [Rep], rfl⟩
    · cases hF
  · cases hF
end Go.EM

/- strconv.Atoi, by the shelf's contracts. -/
set_option linter.unusedVariables false
set_option linter.unusedSimpArgs false
namespace Go.EM
def atoiF (te : Nat) : PFn := fun xs => match xs with
  | [.str s] => if s.length ≤ 281474976710656 then some (match Lib.atoiAll s with
    | .ok v => .tup [.int .i64 v, .niliface]
    | Lib.NumEnd.syntax => .tup [.int .i64 0, .iface te (.rptr [])]
    | .range => .tup [.int .i64 (Lib.atoiSat s), .iface te (.rptr [])]) else none
  | _ => none
theorem below_quiet {w w' : World} (h : RowKit.Below w.heap.size w w') : Quiet w w' := ⟨h.os, h.tape, h.output, h.size, h.block⟩
theorem bytes_quiet {w : World} {e : TypeId} {t : ByteArray} : Quiet w (Lib.bytesWorld w e t) := by
  rw [bytesWorld_eq]
  refine ⟨rfl, rfl, rfl, ?_, fun b hb => ?_⟩
  · show w.heap.size ≤ (w.heap.push _).size
    rw [Array.size_push]; omega
  · show (w.heap.push _)[b]? = w.heap[b]?
    rw [Array.getElem?_push, if_neg (by omega)]
theorem iface_at {G : List (Nat × AVal)} {w : World} {O : Nat → Prop} {g : Nat} (hG : GlobOk G w O []) (hl : lookN G g = some (.rptr [.any])) : ∃ ev, w.cell? ⟨g, 0, none⟩ = some ev ∧ (ev = .nilIface ∨ ∃ te pe, ev = .iface te pe) := by
  obtain ⟨_, _, c, t, fr, h4, _, h5⟩ := (hG g _ hl).2.2 _ rfl
  obtain ⟨te, pe, h6⟩ := h5 rfl
  refine ⟨.iface te pe, ?_, .inr ⟨te, pe, rfl⟩⟩
  unfold World.cell?
  rw [h4]
  simpa using h6
theorem atoi_sound {P : Program} {G : List (Nat × AVal)} {f te t5 gs gr : Nat} (h0 : Goes P f) (hs : lookN G gs = some (.rptr [.any])) (hr : lookN G gr = some (.rptr [.any]))
    (hok : ∀ (s : ByteArray), s.size ≤ 9223372036854775806 → ∀ v : Int, Lib.atoiAll s.data.toList = .ok v → ∀ w : World, Calls P f #[.string s] w fun e w' => e = .returned (.tuple #[.int .i64 v, .nilIface]) ∧ (w' = w ∨ ∃ t, w' = Lib.bytesWorld w t5 t))
    (hsyn : ∀ (s : ByteArray), s.size ≤ 281474976710656 → Lib.atoiAll s.data.toList = Lib.NumEnd.syntax → ∀ (ev : Value) (w : World), w.cell? ⟨gs, 0, none⟩ = some ev → (ev = .nilIface ∨ ∃ te pe, ev = .iface te pe) →
      Calls P f #[.string s] w fun e w' => ∃ N, e = .returned (.tuple #[.int .i64 (0), .iface te (.pointer (some ⟨N, 0, none⟩))]) ∧ RowKit.Below w.heap.size w w')
    (hran : ∀ (s : ByteArray), s.size ≤ 281474976710656 → Lib.atoiAll s.data.toList = .range → ∀ (ev : Value) (w : World), w.cell? ⟨gr, 0, none⟩ = some ev → (ev = .nilIface ∨ ∃ te pe, ev = .iface te pe) →
      Calls P f #[.string s] w fun e w' => ∃ N, e = .returned (.tuple #[.int .i64 (Lib.atoiSat s.data.toList), .iface te (.pointer (some ⟨N, 0, none⟩))]) ∧ RowKit.Below w.heap.size w w') : SoundP P G f (atoiF te) := by
  refine ⟨h0, fun xs r hF hc w O vs hb hG hv => ?_⟩
  unfold atoiF at hF
  split at hF
  · rename_i s
    split at hF
    · rename_i hn
      simp only [RepL, Rep] at hv
      obtain ⟨v, vs, rfl, rfl, rfl⟩ := hv
      have hsz : (⟨s.toArray⟩ : ByteArray).size = s.length := by show s.toArray.size = _; simp
      cases ha : Lib.atoiAll s with
      | ok v =>
        rw [ha] at hF
        cases hF
        refine (hok ⟨s.toArray⟩ (by rw [hsz]; omega) v (by simpa using ha) w).mono ?_
        rintro e w' ⟨rfl, hw⟩
        refine ⟨_, rfl, ?_, ?_, rfl⟩
        · rcases hw with rfl | ⟨t, rfl⟩
          · exact Quiet.refl _
          · exact bytes_quiet
        · simp only [Rep, RepL]
          exact ⟨[.int .i64 v, .nilIface], rfl, _, _, rfl, rfl, _, _, rfl, rfl, rfl⟩
      | range =>
        rw [ha] at hF
        cases hF
        obtain ⟨ev, h1, h2⟩ := iface_at hG hr
        refine (hran ⟨s.toArray⟩ (by rw [hsz]; exact hn) (by simpa using ha) ev w h1 h2).mono ?_
        rintro e w' ⟨N, rfl, hw⟩
        refine ⟨_, rfl, below_quiet hw, ?_, rfl⟩
        simp only [Rep, RepL]
        exact ⟨[.int .i64 (Lib.atoiSat s), .iface te (.pointer (some ⟨N, 0, none⟩))], rfl, _, _, rfl, (by simp), _, _, rfl, ⟨_, rfl, N, 0, rfl, .inl trivial⟩, rfl⟩
      | _ =>
        rw [ha] at hF
        cases hF
        obtain ⟨ev, h1, h2⟩ := iface_at hG hs
        refine (hsyn ⟨s.toArray⟩ (by rw [hsz]; exact hn) (by simpa using ha) ev w h1 h2).mono ?_
        rintro e w' ⟨N, rfl, hw⟩
        refine ⟨_, rfl, below_quiet hw, ?_, rfl⟩
        simp only [Rep, RepL]
        exact ⟨[.int .i64 0, .iface te (.pointer (some ⟨N, 0, none⟩))], rfl, _, _, rfl, rfl, _, _, rfl, ⟨_, rfl, N, 0, rfl, .inl trivial⟩, rfl⟩
    · cases hF
  · cases hF
end Go.EM

/- strings.Compare, utf8.DecodeRuneInString, by the shelf's contracts. -/
set_option linter.unusedVariables false
namespace Go.EM
def cmpF : PFn := fun xs => match xs with
  | [.str a, .str b] => some (.int .i64 (Lib.compareBytes a b))
  | _ => none
theorem cmp_sound {P : Program} {G : List (Nat × AVal)} {f : Nat} (h0 : Goes P f)
    (hcon : ∀ (a b : ByteArray) (w : World), Calls P f #[.string a, .string b] w fun e w' => e = .returned (.int .i64 (Lib.compareBytes a.data.toList b.data.toList)) ∧ w' = w) : SoundP P G f cmpF := by
  refine ⟨h0, fun xs r hF hc w O vs hb hG hv => ?_⟩
  unfold cmpF at hF
  split at hF
  · rename_i a b
    cases hF
    simp only [RepL, Rep] at hv
    obtain ⟨v, vs, rfl, rfl, v', vs', rfl, rfl, rfl⟩ := hv
    refine (hcon _ _ w).mono ?_
    rintro e w' ⟨rfl, rfl⟩
    exact ⟨_, rfl, Quiet.refl _, by simp only [Rep], rfl⟩
  · cases hF
def tabFirst8 : List AVal := (List.range 256).map fun c => AVal.int .u8 (Lib.firstT c : Nat)
def tabAccept8 : List AVal := (List.range 16).flatMap fun i => [AVal.int .u8 (Lib.accLo i : Nat), AVal.int .u8 (Lib.accHi i : Nat)]
def decodeF : PFn := fun xs => match xs with
  | [.str s] => some (.tup [.int .i32 (Lib.decodeGo ⟨s.toArray⟩).1, .int .i64 (Lib.decodeGo ⟨s.toArray⟩).2])
  | _ => none
theorem glob_cell {G : List (Nat × AVal)} {w : World} {O : Nat → Prop} {g i : Nat} {cs : List AVal} {a : AVal} (hG : GlobOk G w O []) (hl : lookN G g = some (.rptr cs)) (hi : cs[i]? = some a) : ∃ v, w.cell? ⟨g, i, none⟩ = some v ∧ Rep w O [] a v := by
  have h2 := (hG g _ hl).2.1
  simp only [Rep] at h2
  obtain ⟨b, off, he, h2⟩ := h2
  cases he
  rcases h2 with h2 | ⟨_, _, h2⟩
  · rw [h2] at hi; simp at hi
  · obtain ⟨v, g1, g2⟩ := repMem_at h2 hi
    rw [Nat.zero_add] at g1
    exact ⟨v, g1, g2⟩
theorem acc_get : ∀ i : Fin 16, (List.range 16).flatMap (fun i => [(Lib.accLo i), (Lib.accHi i)]) |>.drop (2 * i.val) |>.take 2 |> (· = [Lib.accLo i.val, Lib.accHi i.val]) := by decide
theorem tabs8 {G : List (Nat × AVal)} {w : World} {O : Nat → Prop} {g3 g4 : Nat} (hG : GlobOk G w O []) (h3 : lookN G g3 = some (.rptr tabFirst8)) (h4 : lookN G g4 = some (.rptr tabAccept8)) : Lib.Utf8Tabs g3 g4 w := by
  refine ⟨fun c hc => ?_, fun i hi => ?_⟩
  · obtain ⟨v, e1, e2⟩ := glob_cell (i := c) (a := AVal.int .u8 (Lib.firstT c : Nat)) hG h3 (by unfold tabFirst8; rw [List.getElem?_map, List.getElem?_range hc]; rfl)
    simp only [Rep] at e2
    subst e2; exact e1
  · have hm : tabAccept8 = ((List.range 16).flatMap fun i => [(Lib.accLo i), (Lib.accHi i)]).map fun (n : Nat) => AVal.int .u8 n := rfl
    have ha := acc_get ⟨i, hi⟩
    simp only at ha
    have k0 : ((List.range 16).flatMap fun i => [(Lib.accLo i), (Lib.accHi i)])[2 * i]? = some (Lib.accLo i) := by
      have := congrArg (fun l => l[0]?) ha
      simpa [List.getElem?_take, List.getElem?_drop] using this
    have k1 : ((List.range 16).flatMap fun i => [(Lib.accLo i), (Lib.accHi i)])[2 * i + 1]? = some (Lib.accHi i) := by
      have := congrArg (fun l => l[1]?) ha
      simpa [List.getElem?_take, List.getElem?_drop] using this
    obtain ⟨v, e1, e2⟩ := glob_cell (i := 2 * i) (a := AVal.int .u8 (Lib.accLo i : Nat)) hG h4 (by rw [hm, List.getElem?_map, k0]; rfl)
    obtain ⟨u, e3, e4⟩ := glob_cell (i := 2 * i + 1) (a := AVal.int .u8 (Lib.accHi i : Nat)) hG h4 (by rw [hm, List.getElem?_map, k1]; rfl)
    simp only [Rep] at e2 e4
    subst e2; subst e4
    exact ⟨e1, e3⟩
theorem decode_sound {P : Program} {G : List (Nat × AVal)} {f g3 g4 : Nat} (h0 : Goes P f) (h3 : lookN G g3 = some (.rptr tabFirst8)) (h4 : lookN G g4 = some (.rptr tabAccept8))
    (hcon : ∀ (s : ByteArray) (w : World), Lib.Utf8Tabs g3 g4 w → Calls P f #[.string s] w fun e w' => e = .returned (.tuple #[.int .i32 (Lib.decodeGo s).1, .int .i64 (Lib.decodeGo s).2]) ∧ RowKit.Below w.heap.size w w') : SoundP P G f decodeF := by
  refine ⟨h0, fun xs r hF hc w O vs hb hG hv => ?_⟩
  unfold decodeF at hF
  split at hF
  · rename_i s
    cases hF
    simp only [RepL, Rep] at hv
    obtain ⟨v, vs, rfl, rfl, rfl⟩ := hv
    refine (hcon _ w (tabs8 hG h3 h4)).mono ?_
    rintro e w' ⟨rfl, hw⟩
    refine ⟨_, rfl, below_quiet hw, ?_, rfl⟩
    simp only [Rep, RepL]
    exact ⟨[.int .i32 (Lib.decodeGo ⟨s.toArray⟩).1, .int .i64 (Lib.decodeGo ⟨s.toArray⟩).2], rfl, _, _, rfl, rfl, _, _, rfl, rfl, rfl⟩
  · cases hF
end Go.EM

/- slices.Clone, strings.Join, by the shelf's contracts. -/
set_option linter.unusedVariables false
namespace Go.EM
open Go.Proofs Go.Shelf Go.RowKit Go.Lib in
set_option maxHeartbeats 2000000 in
set_option maxRecDepth 100000 in
/-- slices.Clone of a slice that is not nil, wherever it lies. -/
theorem clone_any {P : Program} {ρ : Ren} (L : SlLaysE0.n41 P ρ) (i0 : TypeInfo) (z : Value) (size bytes : Nat) (hi : P.info? (ρ.t 23) = some i0) (hz0 : i0.zero = some z) (hz1 : i0.size = size) (hz2 : i0.bytes = bytes) (hzs : z.cells.size = size) (hsz : 0 < size)
    (z23 : ∀ w, (Go.sizeOf (ρ.t 23)).run P w = .ok size w) (ad : Addr) (n c : Nat) (news : List Value) (w : World) (hl : news.length = n * size) (hn : n ≤ maxLen) (hbig : n * bytes ≤ 140737488355328)
    (hc : ∀ j u, news[j]? = some u → w.cell? (ad.add j) = some u) (h1 : ∀ u ∈ news, u.oneCell' = true) :
    Calls P (ρ.f 41) #[.slice (some ad) n c] w fun e w' => ∃ v', e = .returned v' ∧ w'.ownsRow w.heap.size (ρ.t 23) size v' n news ∧ v' ≠ .slice none 0 0 ∧ Below w.heap.size w w' := by
  have mixed := L.mixed; have t4 := L.t4; have a4 := L.a4; have z4 := L.z4; have v4 := L.v4; have t22 := L.t22; have a22 := L.a22; have z22 := L.z22; have v22 := L.v22
  have q22 : ∀ (w : World) (a : Option Addr) (n c n' c' : Nat), (binOp .eql (ρ.t 22) (.slice a n c) (.slice none n' c')).run P w = .ok (.bool a.isNone) w := fun w a n c n' c' => Lib.run_eql_slice_nil w _ _ a n c n' c' L.t22
  have u22 : ∀ w, Sem.run P (underlying (ρ.t 22)) w = .ok (TypeDesc.slice (ρ.t 23)) w := run_underlying t22
  have A : Aside (∀ j u, news[j]? = some u → w.cell? (ad.add j) = some u) := hc
  clear hc
  obtain ⟨_, _, FG⟩ := L.f41
  go_enter FG, SlBodyN.n41_ntmps ρ
  go_wp2_with (at_builtin; refine wpList_append_own_at _ rfl _ _ (ρ.t 22) rfl w.heap.size (ρ.t 23) i0 z size bytes t22 hi hz0 hz1 hz2 hzs hsz _ _ _ rfl (World.ownsRow_made w #[] 0 (Nat.le_refl _) (Nat.zero_le _) (by simp)) ad n c news rfl ?qc1 ?qc2 ?qc3 ?qc4 ?qc5 ?qc6 ?_)
  case qc1 => exact hl
  case qc2 =>
    intro j u hj
    exact Lib.cell?_alloc_some _ (A.out j u hj)
  case qc3 => exact h1
  case qc4 => rw [Nat.zero_add]; exact hn
  case qc5 => rw [Nat.zero_add]; exact hbig
  case qc6 => simp
  intro v' w1 hown hgrow hnil _
  go_wp2
  go_ret
  refine ⟨v', rfl, by simpa using hown, ?_, ?_⟩
  · exact hnil
  · exact ((Below.refl _ w).alloc (Nat.le_refl _) _).grown hgrow (by simp) (by intro k hk; simp [Value.ownBlock] at hk; omega)
section
variable {P : Program} {G : List (Nat × AVal)}
def cloneF (M : Nat) : PFn := fun xs => match xs with
  | [.nil] => some (.tree false 0 [])
  | [.tree _ m ys] => match ys with
    | [] => some (.tree false 0 [])
    | y :: r => if m = M ∧ r.length + 1 < most then some (.tree false M (y :: r)) else none
  | _ => none
theorem clone_sound {f te M bytes : Nat} (h0 : Goes P f) (hM : M ≠ 0) (hb : bytes ≤ 16384)
    (hcon : ∀ (ad : Addr) (n c : Nat) (news : List Value) (w : World), news.length = n * M → n ≤ maxLen → n * bytes ≤ 140737488355328 → (∀ j u, news[j]? = some u → w.cell? (ad.add j) = some u) → (∀ u ∈ news, u.oneCell' = true) →
      Calls P f #[.slice (some ad) n c] w fun e w' => ∃ v', e = .returned v' ∧ w'.ownsRow w.heap.size te M v' n news ∧ v' ≠ .slice none 0 0 ∧ RowKit.Below w.heap.size w w')
    (hnil : ∀ (n c : Nat) (w : World), Calls P f #[.slice none n c] w fun e w' => e = .returned (.slice none 0 0) ∧ w' = w) : SoundP P G f (cloneF M) := by
  refine ⟨h0, fun xs r hF hc w O vs hb' hG hv => ?_⟩
  unfold cloneF at hF
  split at hF
  · cases hF
    simp only [RepL, Rep] at hv
    obtain ⟨v, vs, rfl, rfl, rfl⟩ := hv
    refine (hnil 0 0 w).mono ?_
    rintro e w' ⟨rfl, rfl⟩
    exact ⟨_, rfl, Quiet.refl _, by simp only [Rep]; exact ⟨none, 0, rfl, Nat.le_refl _, (fun h => by cases h), .inl trivial⟩, rfl⟩
  · rename_i fl m ys
    simp only [RepL, Rep] at hv
    obtain ⟨v, vs, rfl, ⟨a, cap, rfl, hle, _, hrow⟩, rfl⟩ := hv
    split at hF
    · cases hF
      cases a with
      | none =>
        refine (hnil _ cap w).mono ?_
        rintro e w' ⟨rfl, rfl⟩
        exact ⟨_, rfl, Quiet.refl _, by simp only [Rep]; exact ⟨none, 0, rfl, Nat.le_refl _, (fun h => by cases h), .inl trivial⟩, rfl⟩
      | some ad =>
        refine (hcon ad 0 cap [] w (by simp) (Nat.zero_le _) (by simp) (fun j u hj => by simp at hj) (fun u hu => by cases hu)).mono ?_
        rintro e w' ⟨v', rfl, hown, _, hw⟩
        refine ⟨_, rfl, below_quiet hw, ?_, rfl⟩
        simp only [Rep]
        rcases hown.2 with ⟨rfl, _⟩ | ⟨g, cap', cur, rfl, _, _, hn, _⟩
        · exact ⟨none, 0, rfl, Nat.le_refl _, (fun h => by cases h), .inl trivial⟩
        · exact ⟨_, cap', rfl, hn, (fun h => by cases h), .inl trivial⟩
    · rename_i y ys _
      split at hF
      · rename_i hm
        obtain ⟨rfl, hlt⟩ := hm
        cases hF
        rcases hrow with hrow | ⟨_, b, off, rfl, hO, hOw, hrow⟩
        · cases hrow
        · obtain ⟨vs, k1, k2⟩ := of_row off hrow
          have hlen := flat_length k1
          have hl : ys.length + 1 < 4294967296 := by simpa [most] using hlt
          have hsz : (y :: ys).length * bytes ≤ 140737488355328 := by
            have : (y :: ys).length * bytes ≤ 4294967296 * 16384 := Nat.mul_le_mul (by simp only [List.length_cons]; omega) hb
            omega
          refine (hcon ⟨b, off, none⟩ (y :: ys).length cap (flat vs) w hlen (by simp only [List.length_cons]; unfold maxLen; omega) hsz (fun j u hj => ?_) (flat_one k1)).mono ?_
          · have hj' : j < (flat vs).length := by
              rcases Nat.lt_or_ge j (flat vs).length with h | h
              · exact h
              · rw [List.getElem?_eq_none h] at hj; cases hj
            rw [Addr.add_lit, k2 j hj', hj]
          · rintro e w' ⟨v', rfl, hown, _, hw⟩
            have hq := below_quiet hw
            have hc' : closedL (y :: ys) = true := by
              simp only [closedL, closed, Bool.and_true] at hc
              simpa only [closedL] using hc
            refine ⟨_, rfl, hq, ?_, by simpa only [closed] using hc'⟩
            simp only [Rep]
            rcases hown.2 with ⟨_, h⟩ | ⟨g, cap', cur, rfl, hg, hcur, hn, _, _, htake⟩
            · simp at h
            · refine ⟨_, cap', rfl, hn, (fun h => by cases h), .inr ⟨hM, g, 0, rfl, (fun h => by have := hb' _ h; omega), (fun ⟨r, ri, h, _⟩ => by simp at h), ?_⟩⟩
              refine row_of 0 (RowVals_pres (Pres.of_ext (hq.ext [])) k1) fun j hj => ?_
              rw [← htake, List.getElem?_take, if_pos (by rw [← hlen]; exact hj)]
              unfold World.cell?
              rw [hcur]
              simp
      · cases hF
  · cases hF
theorem clone_lays {ρ : Shelf.Ren} (L : Proofs.SlLaysE0.n41 P ρ) (M : Nat) (h0 : Goes P (ρ.f 41)) (h1 : (P.info? (ρ.t 23)).isSome = true) (h2 : ((P.info? (ρ.t 23)).get h1).zero.isSome = true) (h3 : ((P.info? (ρ.t 23)).get h1).size = M) (h4 : (((P.info? (ρ.t 23)).get h1).zero.get h2).cells.size = M)
    (h5 : Nat.ble ((P.info? (ρ.t 23)).get h1).bytes 16384 = true) (hM : 0 < M) (z23 : ∀ w, (Go.sizeOf (ρ.t 23)).run P w = .ok M w) : SoundP P G (ρ.f 41) (cloneF M) :=
  clone_sound (te := ρ.t 23) h0 (by omega) (Nat.le_of_ble_eq_true h5) (fun ad n c news w k1 k2 k3 k4 k5 => clone_any L _ _ M _ (Option.some_get h1).symm (Option.some_get h2).symm h3 rfl h4 hM z23 ad n c news w k1 k2 k3 k4 k5) (fun n c w => Proofs.AnyE.slices_Clone_nil L n c w)
def strsA : List AVal → Option (List (List UInt8))
  | [] => some []
  | .str s :: l => (strsA l).map fun r => s :: r
  | _ => none
def joinF : PFn := fun xs => match xs with
  | [.nil, .str _] => some (.str [])
  | [.tree _ m ys, .str sep] => match ys with
    | [] => some (.str [])
    | y :: r => if m = 1 then (strsA (y :: r)).bind fun l => if l.length ≤ 140737488355328 ∧ (Lib.join l sep).length ≤ 140737488355328 then some (.str (Lib.join l sep)) else none else none
  | _ => none
theorem strs_cells {w : World} {O : Nat → Prop} {b : Nat} : ∀ {ys : List AVal} {l : List (List UInt8)} {off : Nat}, strsA ys = some l → RepRow w O [] 1 b off ys → l.length = ys.length ∧ ∀ (j : Nat) x, (l.map fun s => (⟨s.toArray⟩ : ByteArray))[j]? = some x → w.cell? ⟨b, off + j, none⟩ = some (.string x)
  | [], l, off, h, hr => by
    simp only [strsA] at h; cases h
    exact ⟨rfl, fun j x hx => by simp at hx⟩
  | y :: ys, l, off, h, hr => by
    simp only [RepRow] at hr
    obtain ⟨⟨v, h1, h2, h3, h4, _⟩, h5⟩ := hr
    match y, h, h1 with
    | .str s, h, h1 =>
      simp only [strsA, Option.map_eq_some_iff] at h
      obtain ⟨l', hl', rfl⟩ := h
      simp only [Rep] at h1
      subst h1
      obtain ⟨k1, k2⟩ := strs_cells hl' h5
      refine ⟨by simp [k1], fun j x hx => ?_⟩
      cases j with
      | zero =>
        simp at hx
        subst hx
        rw [h4 0 (by omega)]
        rfl
      | succ j =>
        have := k2 j x (by simpa using hx)
        rw [show off + (j + 1) = off + 1 + j by omega]; exact this
theorem join_sound {f : Nat} (h0 : Goes P f)
    (hnone : ∀ (a : Option Addr) (c : Nat) (sep : ByteArray) (w : World), Calls P f #[.slice a 0 c, .string sep] w fun e w' => e = .returned (.string ⟨#[]⟩) ∧ w' = w)
    (hcon : ∀ (bk o c : Nat) (xs : List ByteArray) (sep : ByteArray) (w : World), (∀ (j : Nat) x, xs[j]? = some x → w.cell? ⟨bk, o + j, none⟩ = some (.string x)) → bk < w.heap.size → xs.length ≤ 140737488355328 → xs.length ≤ c → (Lib.join (xs.map (·.data.toList)) sep.data.toList).length ≤ 140737488355328 →
      Calls P f #[.slice (some ⟨bk, o, none⟩) xs.length c, .string sep] w fun e w' => e = .returned (.string ⟨(Lib.join (xs.map (·.data.toList)) sep.data.toList).toArray⟩) ∧ RowKit.Below w.heap.size w w') : SoundP P G f joinF := by
  refine ⟨h0, fun xs r hF hc w O vs hb' hG hv => ?_⟩
  unfold joinF at hF
  split at hF
  · cases hF
    simp only [RepL, Rep] at hv
    obtain ⟨v, vs, rfl, rfl, u, us, rfl, rfl, rfl⟩ := hv
    refine (hnone none 0 _ w).mono ?_
    rintro e w' ⟨rfl, rfl⟩
    exact ⟨_, rfl, Quiet.refl _, by simp only [Rep], rfl⟩
  · rename_i fl m ys sep
    simp only [RepL, Rep] at hv
    obtain ⟨v, vs, rfl, ⟨a, cap, rfl, hle, _, hrow⟩, u, us, rfl, rfl, rfl⟩ := hv
    split at hF
    · cases hF
      refine (hnone a cap _ w).mono ?_
      rintro e w' ⟨rfl, rfl⟩
      exact ⟨_, rfl, Quiet.refl _, by simp only [Rep], rfl⟩
    · rename_i y ys
      split at hF
      · rename_i hm
        subst hm
        rw [Option.bind_eq_some_iff] at hF
        obtain ⟨l, hl, hF⟩ := hF
        split at hF
        · rename_i hb
          cases hF
          rcases hrow with hrow | ⟨_, b, off, rfl, hO, hOw, hrow⟩
          · cases hrow
          · obtain ⟨k1, k2⟩ := strs_cells hl hrow
            have hmap : (l.map fun s => (⟨s.toArray⟩ : ByteArray)).map (·.data.toList) = l := by
              rw [List.map_map]
              conv => rhs; rw [← List.map_id l]
              refine List.map_congr_left fun s _ => ?_
              simp
            have hlt : b < w.heap.size := by
              cases l with
              | nil => simp at k1
              | cons s l =>
                have := k2 0 _ (by simp; rfl)
                exact block_lt this
            have := hcon b off cap (l.map fun s => (⟨s.toArray⟩ : ByteArray)) ⟨sep.toArray⟩ w k2 hlt (by simpa using hb.1) (by simp only [List.length_map]; omega) (by rw [hmap]; simpa using hb.2)
            rw [hmap, List.length_map, k1] at this
            refine this.mono ?_
            rintro e w' ⟨rfl, hw⟩
            exact ⟨_, rfl, below_quiet hw, by simp only [Rep], rfl⟩
        · cases hF
      · cases hF
  · cases hF
end
end Go.EM
