/- Rows that grow by one: what an append comes to; what a function tells of them. -/
import Derived.Test.YtnafmjbakholcaaDoorE16
set_option linter.unusedVariables false
set_option linter.unusedSimpArgs false
namespace Go.EM

/-- A slice that began as nil in the store st0, and grew. -/
def accV (st0 : Store) (n : Nat) : List AVal → AVal
  | [] => .nil
  | x :: xs => .own st0.length n (x :: xs).length 0 (x :: xs).length
def accS (st0 : Store) (e n : Nat) : List AVal → Store
  | [] => st0
  | x :: xs => st0 ++ [.row e n (x :: xs)]
/-- What is told of it. -/
def trV (n : Nat) : List AVal → AVal
  | [] => .tree false 0 []
  | x :: xs => .tree false n (x :: xs)

theorem at_last {st0 : Store} {g : AReg} : (st0 ++ [g])[st0.length]? = some g := by simp
theorem set_last {st0 : Store} {g g' : AReg} : (st0 ++ [g]).set st0.length g' = st0 ++ [g'] := by simp

theorem acc_app {P : Program} {t u n : Nat} {z : AVal} {d : TypeDesc} {st0 : Store} (he : elemInfo P t = some (n, z)) (hu : P.underlying u = some d) (hd : ∀ k, d ≠ .int k) {xs : List AVal} {y : AVal} (hl : xs.length + 1 < most) :
    aappendOp P [t, u] (accV st0 n xs) (.tree true n [y]) (accS st0 (elemTy P t) n xs) = some (accV st0 n (xs ++ [y]), accS st0 (elemTy P t) n (xs ++ [y])) := by
  have hc : contents (accS st0 (elemTy P t) n xs) n (.tree true n [y]) = some [y] := by simp [contents]
  have hop : aappendOp P [t, u] (accV st0 n xs) (.tree true n [y]) (accS st0 (elemTy P t) n xs) = aappend P t (accV st0 n xs) [y] (accS st0 (elemTy P t) n xs) := by
    unfold aappendOp
    simp only [he, hu]
    rw [hc]; rfl
  rw [hop]
  unfold aappend
  rw [he]
  cases xs with
  | nil =>
    have h1 : 0 + 1 < most := by simp [most]
    simp only [accV, accS, List.isEmpty_cons, cond_false, h1, if_true, freshRow, List.nil_append, List.length_cons, List.length_nil]
  | cons x xs =>
    have hr : rowAt (st0 ++ [.row (elemTy P t) n (x :: xs)]) st0.length n (x :: xs).length = some (x :: xs) := by
      simp [rowAt]
    have ht : rowTy (st0 ++ [.row (elemTy P t) n (x :: xs)]) st0.length = elemTy P t := by
      simp [rowTy]
    have h1 : (x :: xs).length + [y].length < most := by simpa using hl
    simp only [accV, accS, and_self, if_true, hr, ht, List.isEmpty_cons, cond_false, h1, List.cons_append, set_last]
    simp
theorem acc_pack {st0 : Store} {e n : Nat} {xs : List AVal} (hc : closedL xs = true) : packV (accS st0 e n xs) (accV st0 n xs) = some (trV n xs) := by
  cases xs with
  | nil => rfl
  | cons x xs =>
    simp only [accV, accS, packV, packRow, trV]
    have hr : rowAt (st0 ++ [.row e n (x :: xs)]) st0.length n (x :: xs).length = some (x :: xs) := by
      simp [rowAt]
    rw [hr]
    have hb : Nat.ble (0 + (x :: xs).length) (x :: xs).length = true := by simp
    have h0 : Nat.beq (x :: xs).length 0 = false := rfl
    simp only [hc, hb, Bool.and_self, cond_true, h0, cond_false, List.drop_zero, List.take_length]
theorem closedL_append : ∀ (xs ys : List AVal), closedL (xs ++ ys) = (closedL xs && closedL ys)
  | [], ys => by simp [closedL]
  | x :: xs, ys => by simp only [List.cons_append, closedL, closedL_append xs ys, Bool.and_assoc]
theorem trV_len {P : Program} {t e n : Nat} {xs : List AVal} (h : P.underlying t = some (.slice e)) : alen P t (trV n xs) = some (.int .i64 xs.length) := by
  cases xs <;> simp [alen, h, trV]
theorem trV_at {P : Program} {t e n : Nat} {xs : List AVal} {i : Int} {x : AVal} (h : P.underlying t = some (.slice e)) (hs : szOf P e = some n) (hn : n ≠ 0) (hi : 0 ≤ i) (hx : xs[i.toNat]? = some x) : aidx P t (trV n xs) (.int .i64 i) = some (.rptr x.cells) := by
  cases xs with
  | nil => simp at hx
  | cons y ys => simp [aidx, h, hs, trV, hn, hi, hx]
theorem closeF_of {F : SFn} {xs : List AVal} {v : AVal} {st : Store} {r : AVal} (h : F xs [] = some (v, st)) (hp : packV st v = some r) : closeF F xs = some r := by
  simp only [closeF, h, Option.bind_some, hp]
theorem callP_of {F : PFn} {xs : List AVal} {r : AVal} (hc : closedL xs = true) (h : F xs = some r) : callP F xs = some r := by
  simp only [callP, hc, cond_true, h]
end Go.EM
