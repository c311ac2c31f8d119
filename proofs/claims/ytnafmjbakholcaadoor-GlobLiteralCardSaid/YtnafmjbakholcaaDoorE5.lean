/- More primitives that ask nothing of the store, in the model. -/
import Derived.Test.YtnafmjbakholcaaDoorE4
set_option linter.unusedVariables false
set_option linter.unusedSimpArgs false
namespace Go.EM
section
variable {P : Program} {w : World} {O : Nat → Prop} {α : AM}

theorem str_get (s : List UInt8) (n : Nat) : (⟨s.toArray⟩ : ByteArray)[n]? = s[n]? := by
  by_cases h : n < s.length
  · rw [ByteArray.getElem?_lt' _ _ (by simpa [ByteArray.size] using h), List.getElem?_eq_getElem h]
    rfl
  · rw [ByteArray.getElem?_ge' _ _ (by simpa [ByteArray.size] using h), List.getElem?_eq_none (by omega)]

theorem run_aindex {t : TypeId} {x i v : AVal} {u1 u2 : Value} (h : aindex P t x i = some v) (hx : Rep w O α x u1) (hi : Rep w O α i u2) :
    ∃ r, (Instr.index t u1 u2).run P w = .ok r w ∧ Rep w O α v r := by
  unfold aindex at h
  split at h
  · rename_i k i
    simp only [Rep] at hi; subst hi
    split at h
    · rename_i hu
      split at h
      · rename_i s
        simp only [Rep] at hx; subst hx
        split at h
        · rename_i h0
          simp only [Option.map_eq_some_iff] at h
          obtain ⟨b, hb, rfl⟩ := h
          refine ⟨.int .u8 b.toNat, ?_, by simp [Rep]⟩
          unfold Instr.index
          rw [Sem.run_bind]
          simp only [asIntOf, Sem.run_pure, Result.andThen_ok, Sem.run_bind, run_underlying hu, h0, if_true, str_get, hb]
        · cases h
      · cases h
    · rename_i len e hu
      split at h
      · rename_i cs
        simp only [Rep] at hx
        obtain ⟨l, rfl, hl⟩ := hx
        split at h
        · rename_i h0
          cases hn : szOf P e with
          | none => simp [hn] at h
          | some n =>
            simp only [hn, Option.bind_some] at h
            obtain ⟨r, h1, h2⟩ := partA_run h hl
            refine ⟨r, ?_, h2⟩
            unfold Instr.index
            rw [Sem.run_bind]
            simp only [asIntOf, Sem.run_pure, Result.andThen_ok, Sem.run_bind, run_underlying hu]
            rw [if_pos h0]
            simp only [Sem.run_bind, EM.run_sizeOf hn, Result.andThen_ok]
            exact h1
        · cases h
      · cases h
    · cases h
  · cases h

theorem add_addr (b o n : Nat) : (⟨b, o, none⟩ : Addr).add n = ⟨b, o + n, none⟩ := by
  unfold Addr.add
  split
  · rename_i h; subst h; rfl
  · rfl

theorem RepRow_drop {n b : Nat} : ∀ {xs : List AVal} {off : Nat} (k : Nat), RepRow w O α n b off xs → RepRow w O α n b (off + k * n) (xs.drop k)
  | xs, off, 0, h => by simpa using h
  | [], off, k + 1, h => by simp [RepRow]
  | x :: xs, off, k + 1, h => by
    simp only [RepRow] at h
    have := RepRow_drop k h.2
    simp only [List.drop_succ_cons]
    rw [show off + (k + 1) * n = off + n + k * n by rw [Nat.add_mul]; omega]
    exact this
theorem RepRow_take {n b : Nat} : ∀ {xs : List AVal} {off : Nat} (k : Nat), RepRow w O α n b off xs → RepRow w O α n b off (xs.take k)
  | xs, off, 0, h => by simp [RepRow]
  | [], off, k + 1, h => by simp [RepRow]
  | x :: xs, off, k + 1, h => by
    simp only [RepRow, List.take_succ_cons] at h ⊢
    exact ⟨h.1, RepRow_take k h.2⟩
theorem RepRow_get {n b : Nat} {xs : List AVal} {off i : Nat} {x : AVal} (h : RepRow w O α n b off xs) (hx : xs[i]? = some x) :
    ∃ v, Rep w O α x v ∧ x.cells.length = n ∧ v.cells.size = n ∧ (∀ j, j < n → w.cell? ⟨b, off + i * n + j, none⟩ = v.cells[j]?) ∧ ∀ u ∈ v.cells, u.oneCell' = true := by
  have h' := RepRow_drop i h
  have hi : i < xs.length := by
    rcases Nat.lt_or_ge i xs.length with h | h
    · exact h
    · rw [List.getElem?_eq_none h] at hx; cases hx
  rw [List.drop_eq_getElem_cons hi] at h'
  have : xs[i] = x := by rw [List.getElem?_eq_getElem hi] at hx; exact Option.some.inj hx
  rw [this] at h'
  simp only [RepRow] at h'
  exact h'.1
theorem RepMem_drop {b : Nat} : ∀ {cs : List AVal} {off : Nat} (k : Nat), RepMem w O α b off cs → RepMem w O α b (off + k) (cs.drop k)
  | xs, off, 0, h => by simpa using h
  | [], off, k + 1, h => by simp [RepMem]
  | x :: xs, off, k + 1, h => by
    simp only [RepMem] at h
    have := RepMem_drop k h.2
    simp only [List.drop_succ_cons]
    rw [show off + (k + 1) = off + 1 + k by omega]
    exact this
theorem RepMem_of {b : Nat} : ∀ (cs : List AVal) (off : Nat), (∀ j c, cs[j]? = some c → ∃ v, w.cell? ⟨b, off + j, none⟩ = some v ∧ Rep w O α c v) → RepMem w O α b off cs
  | [], off, _ => by simp [RepMem]
  | c :: cs, off, h => by
    simp only [RepMem]
    exact ⟨h 0 c rfl, RepMem_of cs (off + 1) (fun j d hd => by have := h (j + 1) d hd; rw [show off + 1 + j = off + (j + 1) by omega]; exact this)⟩
theorem RepMem_get {b : Nat} {cs : List AVal} {off j : Nat} {c : AVal} (h : RepMem w O α b off cs) (hc : cs[j]? = some c) : ∃ v, w.cell? ⟨b, off + j, none⟩ = some v ∧ Rep w O α c v := by
  have h' := RepMem_drop j h
  have hi : j < cs.length := by
    rcases Nat.lt_or_ge j cs.length with h | h
    · exact h
    · rw [List.getElem?_eq_none h] at hc; cases hc
  rw [List.drop_eq_getElem_cons hi] at h'
  have : cs[j] = c := by rw [List.getElem?_eq_getElem hi] at hc; exact Option.some.inj hc
  rw [this] at h'
  simp only [RepMem] at h'
  exact h'.1

theorem run_aidx {t : TypeId} {x i v : AVal} {u1 u2 : Value} (h : aidx P t x i = some v) (hx : Rep w O α x u1) (hi : Rep w O α i u2) :
    ∃ r, (Instr.indexAt t u1 u2).run P w = .ok r w ∧ Rep w O α v r := by
  unfold aidx at h
  split at h
  · rename_i k i
    simp only [Rep] at hi; subst hi
    split at h
    · rename_i e hu
      split at h
      · rename_i n hn
        split at h
        · rename_i full m xs
          split at h
          · rename_i h0
            obtain ⟨rfl, hn0, h0⟩ := h0
            simp only [Option.map_eq_some_iff] at h
            obtain ⟨y, hy, rfl⟩ := h
            have hlt : i.toNat < xs.length := by
              rcases Nat.lt_or_ge i.toNat xs.length with h | h
              · exact h
              · rw [List.getElem?_eq_none h] at hy; cases hy
            simp only [Rep] at hx
            obtain ⟨a, cap, rfl, h1, h2, h3⟩ := hx
            rcases h3 with h3 | ⟨_, b, off, rfl, hO, hW, hr⟩
            · subst h3; simp at hlt
            obtain ⟨v, hv1, hv2, hv3, hv4, _⟩ := RepRow_get hr hy
            refine ⟨.pointer (some ⟨b, off + i.toNat * m, none⟩), ?_, ?_⟩
            · unfold Instr.indexAt
              simp only [asIntOf, Sem.run_bind, Sem.run_pure, Result.andThen_ok, run_underlying hu]
              rw [if_pos ⟨h0, by omega⟩]
              simp [EM.run_sizeOf hn, add_addr]
            · simp only [Rep]
              refine ⟨b, off + i.toNat * m, rfl, .inr ⟨hO, hW, RepMem_of _ _ (fun j c hc => ?_)⟩⟩
              obtain ⟨u, g1, g2⟩ := cells_get hv1 hv2 hv3 hc
              have hj : j < m := by
                rcases Nat.lt_or_ge j m with h | h
                · exact h
                · rw [List.getElem?_eq_none (by omega)] at hc; cases hc
              exact ⟨u, by rw [hv4 j hj, g1], g2⟩
          · cases h
        · rename_i r m top off len
          split at h
          · rename_i h0
            obtain ⟨rfl, hn0, h0, hl⟩ := h0
            cases h
            simp only [Rep] at hx
            obtain ⟨hr, a, cap, rfl, h1, h2, hx⟩ := hx
            rcases h2 with h2 | ⟨b, o, rfl⟩
            · omega
            refine ⟨.pointer (some ⟨b, o + i.toNat * m, none⟩), ?_, ?_⟩
            · unfold Instr.indexAt
              simp only [asIntOf, Sem.run_bind, Sem.run_pure, Result.andThen_ok, run_underlying hu]
              rw [if_pos ⟨h0, hl⟩]
              simp [EM.run_sizeOf hn, add_addr]
            · simp only [Rep]
              refine ⟨hr, b, o + i.toNat * m, rfl, fun ri hri => ⟨(hx ri hri).1, fun ht => ?_⟩⟩
              obtain ⟨g1, g2, g3, g4⟩ := (hx ri hri).2 ht
              have := g4 (by omega)
              simp only [Option.some.injEq, Addr.mk.injEq] at this
              refine ⟨this.1, ?_⟩
              rw [this.2.1, g1, Nat.add_mul]; omega
          · cases h
        · cases h
      · cases h
    · rename_i len e hu
      split at h
      · rename_i n hn
        split at h
        · rename_i r top k off
          split at h
          · rename_i h0
            cases h
            simp only [Rep] at hx
            obtain ⟨hr, b, o, rfl, hx⟩ := hx
            refine ⟨.pointer (some ⟨b, o + i.toNat * n, none⟩), ?_, ?_⟩
            · unfold Instr.indexAt
              simp only [asIntOf, Instr.sureAddr, Sem.run_bind, Sem.run_pure, Result.andThen_ok, run_underlying hu]
              rw [if_pos h0]
              simp [EM.run_sizeOf hn, add_addr]
            · simp only [Rep]
              refine ⟨hr, b, o + i.toNat * n, rfl, fun ri hri => ⟨(hx ri hri).1, fun ht => ?_⟩⟩
              obtain ⟨g1, g2⟩ := (hx ri hri).2 ht
              exact ⟨g1, by rw [g2]; omega⟩
          · cases h
        · rename_i cs
          split at h
          · rename_i h0
            cases h
            simp only [Rep] at hx
            obtain ⟨b, o, rfl, hx⟩ := hx
            refine ⟨.pointer (some ⟨b, o + i.toNat * n, none⟩), ?_, ?_⟩
            · unfold Instr.indexAt
              simp only [asIntOf, Instr.sureAddr, Sem.run_bind, Sem.run_pure, Result.andThen_ok, run_underlying hu]
              rw [if_pos h0]
              simp [EM.run_sizeOf hn, add_addr]
            · simp only [Rep]
              refine ⟨b, o + i.toNat * n, rfl, ?_⟩
              rcases hx with rfl | ⟨g1, g2, g3⟩
              · exact .inl (by simp)
              · exact .inr ⟨g1, g2, RepMem_drop _ g3⟩
          · cases h
        · cases h
      · cases h
    · cases h
  · cases h

theorem run_afaddr {s : TypeId} {x v : AVal} {f : Nat} {u : Value} (h : afaddr P s x f = some v) (hx : Rep w O α x u) :
    ∃ r, (Instr.fieldAt s u f).run P w = .ok r w ∧ Rep w O α v r := by
  unfold afaddr fieldOf at h
  split at h
  · rename_i fd hfd
    split at hfd
    · rename_i fs hu
      split at h
      · rename_i n hn
        have hplace : ∀ b o, (fieldPlace ⟨b, o, none⟩ fd).run P w = .ok ⟨b, o + fd.offset, none⟩ w := by
          intro b o
          unfold fieldPlace
          simp [Sem.run_bind, EM.run_sizeOf hn, add_addr]
        split at h
        · cases h
          simp only [Rep] at hx
          obtain ⟨hr, b, o, rfl, hx⟩ := hx
          refine ⟨.pointer (some ⟨b, o + fd.offset, none⟩), ?_, ?_⟩
          · unfold Instr.fieldAt
            simp [Sem.run_bind, run_underlying hu, hfd, Instr.sureAddr, hplace]
          · simp only [Rep]
            refine ⟨hr, b, o + fd.offset, rfl, fun ri hri => ⟨(hx ri hri).1, fun ht => ?_⟩⟩
            obtain ⟨g1, g2⟩ := (hx ri hri).2 ht
            exact ⟨g1, by rw [g2]; omega⟩
        · cases h
          simp only [Rep] at hx
          obtain ⟨b, o, rfl, hx⟩ := hx
          refine ⟨.pointer (some ⟨b, o + fd.offset, none⟩), ?_, ?_⟩
          · unfold Instr.fieldAt
            simp [Sem.run_bind, run_underlying hu, hfd, Instr.sureAddr, hplace]
          · simp only [Rep]
            refine ⟨b, o + fd.offset, rfl, ?_⟩
            rcases hx with rfl | ⟨g1, g2, g3⟩
            · exact .inl (by simp)
            · exact .inr ⟨g1, g2, RepMem_drop _ g3⟩
        · cases h
      · cases h
    · cases hfd
  · cases h

theorem run_afield {s : TypeId} {x v : AVal} {f : Nat} {u : Value} (h : afield P s x f = some v) (hx : Rep w O α x u) :
    ∃ r, (Instr.field s u f).run P w = .ok r w ∧ Rep w O α v r := by
  unfold afield fieldOf at h
  split at h
  · rename_i fd hfd
    split at hfd
    · rename_i fs hu
      split at h
      · simp only [Rep] at hx
        obtain ⟨l, rfl, hl⟩ := hx
        obtain ⟨r, h1, h2⟩ := partA_run h hl
        exact ⟨r, by unfold Instr.field; simp [Sem.run_bind, run_underlying hu, hfd, asAgg, h1], h2⟩
      · cases h
    · cases hfd
  · cases h

theorem run_aextract {x v : AVal} {i : Nat} {u : Value} (h : aextract x i = some v) (hx : Rep w O α x u) :
    ∃ r, (Instr.extract u i).run P w = .ok r w ∧ Rep w O α v r := by
  unfold aextract at h
  split at h
  · simp only [Rep] at hx
    obtain ⟨l, rfl, hl⟩ := hx
    obtain ⟨r, h1, h2⟩ := RepL_get hl h
    exact ⟨r, by unfold Instr.extract; simp [h1], h2⟩
  · cases h

theorem run_alen {t ty : TypeId} {x v : AVal} {u : Value} (h : alen P t x = some v) (hx : Rep w O α x u) :
    ∃ r, (Builtin.len_ #[t] ty #[u]).run P w = .ok r w ∧ Rep w O α v r := by
  unfold alen at h
  split at h
  · rename_i hu
    split at h
    · simp only [Rep] at hx; subst hx; cases h
      exact ⟨_, by simp [Builtin.len_, run_underlying hu]; rfl, by simp [Rep, goInt, ByteArray.size]⟩
    · cases h
  · rename_i n e hu
    cases h
    exact ⟨_, by simp [Builtin.len_, run_underlying hu]; rfl, by simp [Rep, goInt]⟩
  · rename_i e hu
    split at h
    · simp only [Rep] at hx; obtain ⟨a, rfl⟩ := hx; cases h
      exact ⟨_, by simp [Builtin.len_, run_underlying hu]; rfl, by simp [Rep, goInt]⟩
    · simp only [Rep] at hx; obtain ⟨a, cap, rfl, _⟩ := hx; cases h
      exact ⟨_, by simp [Builtin.len_, run_underlying hu]; rfl, by simp [Rep, goInt]⟩
    · simp only [Rep] at hx; obtain ⟨_, a, cap, rfl, _⟩ := hx; cases h
      exact ⟨_, by simp [Builtin.len_, run_underlying hu]; rfl, by simp [Rep, goInt]⟩
    · cases h
  · cases h

theorem run_amkIface {t : TypeId} {x v : AVal} {u : Value} (h : amkIface P t x = some v) (hx : Rep w O α x u) :
    ∃ r, (Instr.makeInterface t u).run P w = .ok r w ∧ Rep w O α v r := by
  unfold amkIface at h
  split at h
  · cases h
  · rename_i d hd hu
    cases h
    refine ⟨.iface t u, ?_, by simp only [Rep]; exact ⟨u, rfl, hx⟩⟩
    unfold Instr.makeInterface
    rw [Sem.run_bind, run_underlying hu, Result.andThen_ok]
    cases d <;> first
      | rfl
      | exact absurd rfl (hd _)
  · cases h

theorem zeroOf_run {t : TypeId} {z : AVal} (h : zeroOf P t = some z) : ∃ v, (zeroValue t).run P w = .ok v w ∧ Rep w O α z v := by
  unfold zeroOf at h
  cases hi : P.info? t with
  | none => simp [hi] at h
  | some i =>
    cases hz : i.zero with
    | none => simp [hi, hz] at h
    | some v =>
      simp [hi, hz] at h
      subst h
      exact ⟨v, by simp [zeroValue, typeInfo, hi, hz], ofConst_rep v⟩

theorem run_aassert {x v : AVal} {xt t : TypeId} {ok : Bool} {u : Value} (h : aassert P x t ok = some v) (hx : Rep w O α x u) :
    ∃ r, (Instr.typeAssert u xt t ok).run P w = .ok r w ∧ Rep w O α v r := by
  unfold aassert at h
  split at h
  · cases h
  · rename_i d hd hu
    split at h
    · rename_i t' y
      simp only [Rep] at hx
      obtain ⟨q, rfl, hq⟩ := hx
      split at h
      · rename_i ht
        subst ht
        cases h
        cases ok
        · refine ⟨q, ?_, by simpa using hq⟩
          unfold Instr.typeAssert
          rw [Sem.run_bind, run_underlying hu, Result.andThen_ok]
          split <;> simp_all
        · refine ⟨.tuple #[q, .bool true], ?_, ?_⟩
          · unfold Instr.typeAssert
            rw [Sem.run_bind, run_underlying hu, Result.andThen_ok]
            split <;> simp_all
          · simp only [cond_true, Rep]
            exact ⟨[q, .bool true], rfl, by simp only [RepL, Rep]; exact ⟨q, _, rfl, hq, _, _, rfl, rfl, rfl⟩⟩
      · rename_i ht
        cases ok
        · simp at h
        · simp only [cond_true, Option.map_eq_some_iff] at h
          obtain ⟨z, hz, rfl⟩ := h
          obtain ⟨zv, hz1, hz2⟩ := zeroOf_run (w := w) (O := O) (α := α) hz
          refine ⟨.tuple #[zv, .bool false], ?_, ?_⟩
          · unfold Instr.typeAssert
            rw [Sem.run_bind, run_underlying hu, Result.andThen_ok]
            split <;> simp_all
          · simp only [Rep]
            exact ⟨[zv, .bool false], rfl, by simp only [RepL, Rep]; exact ⟨zv, _, rfl, hz2, _, _, rfl, rfl, rfl⟩⟩
    · simp only [Rep] at hx
      subst hx
      cases ok
      · simp at h
      · simp only [cond_true, Option.map_eq_some_iff] at h
        obtain ⟨z, hz, rfl⟩ := h
        obtain ⟨zv, hz1, hz2⟩ := zeroOf_run (w := w) (O := O) (α := α) hz
        refine ⟨.tuple #[zv, .bool false], ?_, ?_⟩
        · unfold Instr.typeAssert
          rw [Sem.run_bind, run_underlying hu, Result.andThen_ok]
          split <;> simp_all
        · simp only [Rep]
          exact ⟨[zv, .bool false], rfl, by simp only [RepL, Rep]; exact ⟨zv, _, rfl, hz2, _, _, rfl, rfl, rfl⟩⟩
    · cases h
  · cases h

theorem run_aminmax {mx : Bool} {xs : List AVal} {v : AVal} {tys : Array TypeId} {ty : TypeId} {l : List Value} (h : aminmax mx xs = some v) (hx : RepL w O α xs l) :
    ∃ r, ((cond mx (Builtin.max_ tys ty l.toArray) (Builtin.min_ tys ty l.toArray)) : Sem Value).run P w = .ok r w ∧ Rep w O α v r := by
  unfold aminmax at h
  split at h
  · split at h
    · rename_i hk; subst hk
      simp only [RepL, Rep] at hx
      obtain ⟨_, _, rfl, rfl, _, _, rfl, rfl, rfl⟩ := hx
      cases h
      cases mx
      · exact ⟨_, by simp [Builtin.min_, Builtin.min2]; rfl, by simp [Rep]⟩
      · exact ⟨_, by simp [Builtin.max_, Builtin.max2]; rfl, by simp [Rep]⟩
    · cases h
  · split at h
    · rename_i hk; obtain ⟨hk, hk2⟩ := hk; subst hk; subst hk2
      simp only [RepL, Rep] at hx
      obtain ⟨_, _, rfl, rfl, _, _, rfl, rfl, _, _, rfl, rfl, rfl⟩ := hx
      cases h
      cases mx
      · exact ⟨_, by simp [Builtin.min_, Builtin.min2]; rfl, by simp [Rep]⟩
      · exact ⟨_, by simp [Builtin.max_, Builtin.max2]; rfl, by simp [Rep]⟩
    · cases h
  · cases h

end
end Go.EM
