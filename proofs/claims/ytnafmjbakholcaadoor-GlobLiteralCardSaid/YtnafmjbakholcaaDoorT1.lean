/- The typed evaluator. -/
import Derived.Test.YtnafmjbakholcaaDoorT0
set_option linter.unusedVariables false
set_option linter.unusedSimpArgs false
namespace Go.TY
open Go.EM

/-- Regions of a function's own memory: one value, that is written, or never again; a row; an iterator; one that is no more. -/
inductive Reg where
  | box (e : Nat) (t : Ty) (v : t.V)
  | cbox (e : Nat) (t : Ty) (v : t.V)
  | row (e : Nat) (t : Ty) (xs : List t.V)
  | iter (s : List UInt8) (pos : Nat)
  | gone
abbrev Mem := List Reg
abbrev TS := List (Nat × TV)
def getT : TS → Nat → Option TV
  | [], _ => none
  | (k, v) :: l, n => cond (Nat.beq k n) (some v) (getT l n)
def getM : Mem → Nat → Reg
  | [], _ => .gone
  | r :: _, 0 => r
  | _ :: m, n + 1 => getM m n
def setM : Mem → Nat → Reg → Mem
  | [], _, _ => []
  | _ :: m, 0, g => g :: m
  | r :: m, n + 1, g => r :: setM m n g

/-- What an operation comes to. k: the region whose old looks are no more. -/
inductive OR : Type 1 where
  | no
  | ok (tv : TV) (m : Mem) (k : Option Nat)
  | opt (A : Type) (x : Option A) (k : A → OR)
  | br (b : Bool) (x y : OR)
def OR.go {X : Type} : OR → (TV → Mem → Option Nat → Option X) → Option X
  | .no, _ => none
  | .ok tv m k, K => K tv m k
  | .opt _ x f, K => x.bind fun a => (f a).go K
  | .br b x y, K => cond b (x.go K) (y.go K)

def isB (a b : Bool) : Bool := cond a b (!b)
/-! ### parts -/
def partT : (t : Ty) → t.V → Nat → Nat → Bool → Option TV
  | .cons t ts, v, off, n, ag =>
    cond (Nat.ble (off + 1) t.size) (cond (Nat.beq off 0 && Nat.beq t.size n && isB ag t.isAgg) (some ⟨t, v.1⟩) (partT t v.1 off n ag)) (partT ts v.2 (off - t.size) n ag)
  | .agg t, v, off, n, ag => partT t v off n ag
  | _, _, _, _, _ => none
def partTop (w : TV) (off n : Nat) (ag : Bool) : Option TV :=
  cond (Nat.beq off 0 && Nat.beq w.t.size n && isB ag w.t.isAgg) (some w) (partT w.t w.v off n ag)
def partP (P : Program) (ft : TypeId) (w : TV) (off : Nat) : Option TV :=
  match szOf P ft, P.underlying ft with
  | some n, some d => (partTop w off n (isAggD d)).bind fun x => cond (x.t.isV) (some x) none
  | _, _ => none
def putT : (t : Ty) → t.V → Nat → TV → Option TV
  | .cons t ts, v, off, w =>
    cond (Nat.ble (off + 1) t.size)
      (cond (Nat.beq off 0 && Nat.beq t.size w.t.size && isB w.t.isAgg t.isAgg) (some ⟨.cons w.t ts, (w.v, v.2)⟩)
        ((putT t v.1 off w).map fun x => ⟨.cons x.t ts, (x.v, v.2)⟩))
      ((putT ts v.2 (off - t.size) w).map fun x => ⟨.cons t x.t, (v.1, x.v)⟩)
  | .agg t, v, off, w => (putT t v off w).map fun x => ⟨.agg x.t, x.v⟩
  | _, _, _, _ => none
def putTop (u : TV) (off : Nat) (w : TV) : Option TV :=
  cond (Nat.beq off 0 && Nat.beq u.t.size w.t.size && isB w.t.isAgg u.t.isAgg) (some w) (cond u.t.isAgg (putT u.t u.v off w) none)

/-! ### other types -/
def cellsT : (t : Ty) → t.V → List TV
  | .cons t ts, v => cellsT t v.1 ++ cellsT ts v.2
  | .unit, _ => []
  | .agg t, v => cellsT t v
  | .arr _ t, v => v.flatMap (cellsT t)
  | t, v => [⟨t, v⟩]
/-- How regions are told anew: which are nowhere yet, and which one stands in a region's place. -/
structure CF where
  fr : Nat → Bool
  mu : Nat → Nat
/-- Does nothing that a type names move? -/
def Ty.fixed (mu : Nat → Nat) : Ty → Bool
  | .sl t => t.fixed mu
  | .agg t => t.fixed mu
  | .arr _ t => t.fixed mu
  | .tup t => t.fixed mu
  | .cons t ts => t.fixed mu && ts.fixed mu
  | .own i => Nat.beq (mu i) i
  | .it i => Nat.beq (mu i) i
  | .bx i _ => Nat.beq (mu i) i
  | .ptr i _ => Nat.beq (mu i) i
  | .rp t _ => t.fixed mu
  | _ => true
def sameTo (f : CF) (w : TV) (u : Ty) : Option u.V := cond (u.fixed f.mu) (castV w.t w.v u fun x => x) none
def cellTo (f : CF) (w : TV) (u : Ty) : Option u.V :=
  match u with
  | .sl t => match w.t with
    | .nilsl => some ([] : List t.V)
    | _ => sameTo f w (.sl t)
  | .own id => match w.t with
    | .nilsl => cond (f.fr id) (some ()) none
    | .own k => cond (Nat.beq (f.mu id) k) (some ()) none
    | _ => none
  | .any => cond w.t.isCell (some ()) none
  | u => sameTo f w u
def ofN {A : Type} (g : List TV → Option (A × List TV)) : Nat → List TV → Option (List A × List TV)
  | 0, l => some ([], l)
  | n + 1, l => (g l).bind fun p => (ofN g n p.2).map fun q => (p.1 :: q.1, q.2)
def ofCells (f : CF) : (u : Ty) → List TV → Option (u.V × List TV)
  | .cons t ts, l => (ofCells f t l).bind fun p => (ofCells f ts p.2).map fun q => ((p.1, q.1), q.2)
  | .unit, l => some ((), l)
  | .agg t, l => ofCells f t l
  | .arr n t, l => ofN (ofCells f t) n l
  | u, w :: l => (cellTo f w u).map fun x => (x, l)
  | _, [] => none
def coerceT (f : CF) (w : TV) (u : Ty) : Option u.V :=
  cond (w.t.beq u && u.fixed f.mu) (castV w.t w.v u fun x => x) (match u with
    | .agg u' => match w.t with
      | .agg t => match ofCells f (.agg u') (cellsT w.t w.v) with
        | some (x, []) => some x
        | _ => none
      | _ => none
    | .cons _ _ => none
    | .unit => none
    | .tup _ => none
    | u => cond w.t.isCell (cellTo f w u) none)
def noFr : CF := { fr := fun _ => false, mu := fun i => i }
/-- A row of values. -/
def coerceL : (u : Ty) → List TV → Option u.V
  | .cons t ts, w :: l => (coerceT noFr w t).bind fun x => (coerceL ts l).map fun y => (x, y)
  | .unit, [] => some ()
  | _, _ => none
/-- A value as the caller sees it. -/
def closeTo (m : Mem) : (t : Ty) → t.V → (u : Ty) → Option u.V
  | .own id, _, .sl u => match getM m id with
    | .row _ t xs => castV (.sl t) xs (.sl u) fun x => x
    | _ => none
  | .nilsl, _, .sl u => some ([] : List u.V)
  | .agg t, v, .agg u => cond (t.beq u) (castV t v u fun x => x) (closeTo m t v u)
  | .tup t, v, .tup u => closeTo m t v u
  | .cons t ts, v, .cons u us => (closeTo m t v.1 u).bind fun x => (closeTo m ts v.2 us).map fun y => (x, y)
  | t, v, u => cond t.closed (castV t v u id) none
def closeL (m : Mem) : (u : Ty) → List TV → Option u.V
  | .cons u us, w :: l => (closeTo m w.t w.v u).bind fun x => (closeL m us l).map fun y => (x, y)
  | .unit, [] => some ()
  | _, _ => none

/-! ### constants -/
mutual
def constT : AVal → Option TV
  | .int k n => some ⟨.int k, n⟩
  | .bool b => some ⟨.bool, b⟩
  | .str s => some ⟨.str, s⟩
  | .nil => some ⟨.nilsl, ()⟩
  | .nilptr => some ⟨.nilp, ()⟩
  | .agg cs => (constL cs).map fun w => ⟨.agg w.t, w.v⟩
  | _ => none
def constL : List AVal → Option TV
  | [] => some ⟨.unit, ()⟩
  | a :: l => (constT a).bind fun x => (constL l).bind fun y => cond x.t.isCell (some ⟨.cons x.t y.t, (x.v, y.v)⟩) none
end
def shapeFs (f : TypeId → Option Ty) : List Field → Option Ty
  | [] => some .unit
  | fd :: l => (f fd.type).bind fun t => (shapeFs f l).map fun ts => .cons t ts
def shapeOf (P : Program) : Nat → TypeId → Option Ty
  | 0, _ => none
  | d + 1, t => match P.underlying t with
    | some .bool => some .bool
    | some (.int k) => some (.int k)
    | some .string => some .str
    | some (.slice _) => some .nilsl
    | some (.pointer _) => some .nilp
    | some (.struct fs) => (shapeFs (shapeOf P d) fs.toList).map .agg
    | some (.array n e) => (shapeOf P d e).map (.arr n)
    | _ => none
def readN {A : Type} (g : List AVal → Option (A × List AVal)) : Nat → List AVal → Option (List A × List AVal)
  | 0, l => some ([], l)
  | n + 1, l => (g l).bind fun p => (readN g n p.2).map fun q => (p.1 :: q.1, q.2)
def readA : (u : Ty) → List AVal → Option (u.V × List AVal)
  | .cons t ts, l => (readA t l).bind fun p => (readA ts p.2).map fun q => ((p.1, q.1), q.2)
  | .unit, l => some ((), l)
  | .agg t, l => readA t l
  | .arr n t, l => readN (readA t) n l
  | .int k, .int k' n :: l => cond (kbeq k k') (some (n, l)) none
  | .bool, .bool b :: l => some (b, l)
  | .str, .str s :: l => some (s, l)
  | .nilsl, .nil :: l => some ((), l)
  | .nilp, .nilptr :: l => some ((), l)
  | _, _ => none
def zeroT (P : Program) (t : TypeId) : Option TV :=
  (zeroOf P t).bind fun a => (shapeOf P 8 t).bind fun u => (readA u a.cells).bind fun p => match p.2 with
    | [] => cond (isB u.isAgg a.isAgg && u.isV) (some ⟨u, p.1⟩) none
    | _ => none
/-- A constant as one of its type. -/
def normT (P : Program) (t : TypeId) (w : TV) : TV :=
  match w.t with
  | .agg _ => match shapeOf P 8 t with
    | some u => match coerceT noFr w u with
      | some x => ⟨u, x⟩
      | none => w
    | none => w
  | _ => w

/-! ### operations -/
def quoT (k : IntKind) (a b : Int) : Option Int := if b = 0 then none else some (k.wrap (a.tdiv b))
def remT (a b : Int) : Option Int := if b = 0 then none else some (a.tmod b)
def shlT (k : IntKind) (a b : Int) : Option Int := if b < 0 then none else some (k.wrap (a * 2 ^ (min b.toNat k.bits)))
def shrT (k : IntKind) (a b : Int) : Option Int := if b < 0 then none else some (a.fdiv (2 ^ (min b.toNat k.bits)))
def catT (x y : List UInt8) : Option (List UInt8) := if ((x.length + y.length : Nat) : Int) > 9223372036854775807 then none else some (x ++ y)
def mkT (l c : Int) : Option Unit := if l = c ∧ 0 ≤ l ∧ l < 4294967296 then some () else none
def intT (op : BinOp) (k : IntKind) (a b : Int) (m : Mem) : OR :=
  match op with
  | .add => .ok ⟨.int k, k.wrap (a + b)⟩ m none
  | .sub => .ok ⟨.int k, k.wrap (a - b)⟩ m none
  | .mul => .ok ⟨.int k, k.wrap (a * b)⟩ m none
  | .quo => .opt Int (quoT k a b) fun n => .ok ⟨.int k, n⟩ m none
  | .rem => .opt Int (remT a b) fun n => .ok ⟨.int k, n⟩ m none
  | .and => .ok ⟨.int k, k.wrap ((BitVec.ofInt k.bits a &&& BitVec.ofInt k.bits b).toNat)⟩ m none
  | .or => .ok ⟨.int k, k.wrap ((BitVec.ofInt k.bits a ||| BitVec.ofInt k.bits b).toNat)⟩ m none
  | .xor => .ok ⟨.int k, k.wrap ((BitVec.ofInt k.bits a ^^^ BitVec.ofInt k.bits b).toNat)⟩ m none
  | .andNot => .ok ⟨.int k, k.wrap ((BitVec.ofInt k.bits a &&& ~~~ BitVec.ofInt k.bits b).toNat)⟩ m none
  | .eql => .ok ⟨.bool, decide (a = b)⟩ m none
  | .neq => .ok ⟨.bool, !decide (a = b)⟩ m none
  | .lss => .ok ⟨.bool, decide (a < b)⟩ m none
  | .leq => .ok ⟨.bool, decide (a ≤ b)⟩ m none
  | .gtr => .ok ⟨.bool, decide (a > b)⟩ m none
  | .geq => .ok ⟨.bool, decide (a ≥ b)⟩ m none
  | _ => .no
def shiftT (op : BinOp) (k : IntKind) (a b : Int) (m : Mem) : OR :=
  match op with
  | .shl => .opt Int (shlT k a b) fun n => .ok ⟨.int k, n⟩ m none
  | .shr => .opt Int (shrT k a b) fun n => .ok ⟨.int k, n⟩ m none
  | _ => .no
def strT (op : BinOp) (x y : List UInt8) (m : Mem) : OR :=
  match op with
  | .add => .opt (List UInt8) (catT x y) fun s => .ok ⟨.str, s⟩ m none
  | .eql => .ok ⟨.bool, decide (x = y)⟩ m none
  | .neq => .ok ⟨.bool, !decide (x = y)⟩ m none
  | .lss => .ok ⟨.bool, Op.bytesLess x y⟩ m none
  | .leq => .ok ⟨.bool, Op.bytesLess x y || decide (x = y)⟩ m none
  | .gtr => .ok ⟨.bool, !(Op.bytesLess x y || decide (x = y))⟩ m none
  | .geq => .ok ⟨.bool, !(Op.bytesLess x y)⟩ m none
  | _ => .no
/-- Are two values the same? -/
def eqV : (t : Ty) → t.V → t.V → Bool
  | .int _, a, b => decide (a = b)
  | .bool, a, b => a == b
  | .str, a, b => decide (a = b)
  | .agg t, a, b => eqV t a b
  | .cons t ts, a, b => eqV t a.1 b.1 && eqV ts a.2 b.2
  | .unit, _, _ => true
  | _, _, _ => false
def partOk (P : Program) (ft : TypeId) (t : Ty) : Bool :=
  match szOf P ft, P.underlying ft with
  | some n, some d => Nat.beq n t.size && isB (isAggD d) t.isAgg && t.isV
  | _, _ => false
def eqFs (P : Program) (f : TypeId → Ty → Bool) : List Field → Ty → Nat → Bool
  | [], .unit, _ => true
  | fd :: fs, .cons t ts, off => !(fd.name == "_") && Nat.beq fd.offset off && partOk P fd.type t && f fd.type t && eqFs P f fs ts (off + t.size)
  | _, _, _ => false
def eqOkT (P : Program) : Nat → TypeId → Ty → Bool
  | 0, _, _ => false
  | d + 1, t, ty => match P.underlying t with
    | some .bool => match ty with
      | .bool => true
      | _ => false
    | some (.int k) => match ty with
      | .int k' => true
      | _ => false
    | some .string => match ty with
      | .str => true
      | _ => false
    | some (.struct fs) => match ty with
      | .agg row => !P.stoodInHeld t && eqFs P (eqOkT P d) fs.toList row 0
      | _ => false
    | _ => false
/-- '==' of what is no number and no text. -/
def eqOfT (P : Program) (t : TypeId) (x y : TV) : Option Bool :=
  match x.t, y.t with
  | .nilp, .nilp => match P.underlying t with
    | some (.pointer _) => some true
    | _ => none
  | .rp _ _, .nilp => match P.underlying t with
    | some (.pointer _) => some false
    | _ => none
  | .nilp, .rp _ _ => match P.underlying t with
    | some (.pointer _) => some false
    | _ => none
  | .bool, .bool => cond (eqOkT P 8 t .bool) (castV x.t x.v .bool fun a => castV y.t y.v .bool fun b => a == b).join none
  | .agg u, .agg u' =>
    cond (!(P.eqGuardType P.depth t)) (
      let x' := normT P t x; let y' := normT P t y
      cond (eqOkT P 8 t x'.t) (castV y'.t y'.v x'.t fun b => eqV x'.t x'.v b) (cond (eqOkT P 8 t y'.t) (castV x'.t x'.v y'.t fun a => eqV y'.t a y'.v) none)) none
  | _, _ => none
def binT (P : Program) (op : BinOp) (t : TypeId) (x y : TV) (m : Mem) : OR :=
  match op with
  | .shl | .shr => match x, y with
    | ⟨.int k, a⟩, ⟨.int _, b⟩ => shiftT op k a b m
    | _, _ => .no
  | op => match x, y with
    | ⟨.int k, a⟩, ⟨.int k', b⟩ => cond (kbeq k k') (intT op k a b m) .no
    | ⟨.str, a⟩, ⟨.str, b⟩ => strT op a b m
    | x, y => match op with
      | .eql => match eqOfT P t x y with
        | some b => .ok ⟨.bool, b⟩ m none
        | none => .no
      | .neq => match eqOfT P t x y with
        | some b => .ok ⟨.bool, !b⟩ m none
        | none => .no
      | _ => .no
def unT (op : UnOp) (x : TV) (m : Mem) : OR :=
  match op, x with
  | .neg, ⟨.int k, n⟩ => .ok ⟨.int k, k.wrap (0 - n)⟩ m none
  | .xor, ⟨.int k, n⟩ => intT .xor k (if k.signed then -1 else k.max) n m
  | .not, ⟨.bool, b⟩ => .ok ⟨.bool, !b⟩ m none
  | _, _ => .no
def pickT (c a b : TV) (m : Mem) : OR :=
  match c with
  | ⟨.bool, t⟩ => .br t (.ok a m none) (.ok b m none)
  | _ => .no
def convT (P : Program) (src dst : TypeId) (x : TV) (m : Mem) : OR :=
  match P.underlying src, P.underlying dst with
  | some _, some (.int k) => match x with
    | ⟨.int _, n⟩ => .ok ⟨.int k, k.wrap n⟩ m none
    | _ => .no
  | some _, some .string => match x with
    | ⟨.str, s⟩ => .ok ⟨.str, s⟩ m none
    | ⟨.int _, n⟩ => .ok ⟨.str, (Utf8.encode n).data.toList⟩ m none
    | _ => .no
  | _, _ => .no
/-- The i-th of a list, of a whole number. -/
def atI {A : Type} (l : List A) (i : Int) : Option A := if 0 ≤ i then l[i.toNat]? else none
/-- A part of a list. -/
def subI {A : Type} (l : List A) (lo hi : Int) : Option (List A) := if 0 ≤ lo ∧ lo ≤ hi ∧ hi ≤ l.length then some ((l.take hi.toNat).drop lo.toNat) else none
def inI (n : Nat) (i : Int) : Option Nat := if 0 ≤ i ∧ i < n then some i.toNat else none
def indexT (P : Program) (t : TypeId) (x i : TV) (m : Mem) : OR :=
  match i with
  | ⟨.int _, i⟩ => match P.underlying t with
    | some .string => match x with
      | ⟨.str, s⟩ => .opt UInt8 (atI s i) fun b => .ok ⟨.int .u8, (b.toNat : Int)⟩ m none
      | _ => .no
    | _ => .no
  | _ => .no
def idxT (P : Program) (t : TypeId) (x i : TV) (m : Mem) : OR :=
  match i with
  | ⟨.int _, i⟩ => match P.underlying t with
    | some (.slice e) => match szOf P e with
      | some n => match x with
        | ⟨.sl u, xs⟩ => cond (Nat.beq u.size n && !(Nat.beq n 0) && u.isV) (.opt u.V (atI xs i) fun v => .ok ⟨.rp u 0, v⟩ m none) .no
        | ⟨.own id, _⟩ => match getM m id with
          | .row e u xs => cond (Nat.beq u.size n && !(Nat.beq n 0)) (.opt Nat (inI xs.length i) fun k => .ok ⟨.ptr id 0, k⟩ m none) .no
          | _ => .no
        | _ => .no
      | none => .no
    | some (.array len e) => match szOf P e with
      | some n => match x with
        | ⟨.rp t off, v⟩ => match partTop ⟨t, v⟩ off (len * n) true with
          | some ⟨.arr len' u, xs⟩ => cond (Nat.beq u.size n && !(Nat.beq n 0) && u.isV && t.isV && Nat.beq len len') (.opt u.V (atI xs i) fun v => .ok ⟨.rp u 0, v⟩ m none) .no
          | _ => .no
        | _ => .no
      | none => .no
    | _ => .no
  | _ => .no
def faddrT (P : Program) (s : TypeId) (x : TV) (f : Nat) (m : Mem) : OR :=
  match fieldOf P s f with
  | some fd => match szOf P fd.type with
    | some (_ + 1) => match x with
      | ⟨.bx id off, _⟩ => .ok ⟨.bx id (off + fd.offset), ()⟩ m none
      | ⟨.ptr id off, i⟩ => .ok ⟨.ptr id (off + fd.offset), i⟩ m none
      | ⟨.rp t off, v⟩ => .ok ⟨.rp t (off + fd.offset), v⟩ m none
      | _ => .no
    | _ => .no
  | none => .no
def ofO (m : Mem) : Option TV → OR
  | some w => .ok w m none
  | none => .no
def fieldT (P : Program) (s : TypeId) (x : TV) (f : Nat) (m : Mem) : OR :=
  match fieldOf P s f with
  | some fd => cond x.t.isAgg (ofO m (partP P fd.type x fd.offset)) .no
  | none => .no
def nthT : (t : Ty) → t.V → Nat → Option TV
  | .cons t _, v, 0 => some ⟨t, v.1⟩
  | .cons _ ts, v, n + 1 => nthT ts v.2 n
  | _, _, _ => none
def rowV : Ty → Bool
  | .cons t ts => t.isV && rowV ts
  | .unit => true
  | _ => false
def extractT (x : TV) (i : Nat) (m : Mem) : OR :=
  match x with
  | ⟨.tup t, v⟩ => cond (rowV t) (ofO m (nthT t v i)) .no
  | _ => .no
def boundT (x : Option TV) (d : Int) : Option Int :=
  match x with
  | none => some d
  | some ⟨.int _, i⟩ => some i
  | some _ => none
def sliceT (P : Program) (t : TypeId) (x : TV) (lo hi mx : Option TV) (m : Mem) : OR :=
  match mx with
  | some _ => .no
  | none => match P.underlying t with
    | some .string => match x with
      | ⟨.str, s⟩ => match boundT lo 0, boundT hi s.length with
        | some l, some h => .opt (List UInt8) (subI s l h) fun r => .ok ⟨.str, r⟩ m none
        | _, _ => .no
      | _ => .no
    | some (.slice e) => match szOf P e with
      | some n => match x with
        | ⟨.sl u, xs⟩ => match boundT lo 0, boundT hi xs.length with
          | some l, some h => cond (Nat.beq u.size n) (.opt (List u.V) (subI xs l h) fun r => .ok ⟨.sl u, r⟩ m none) .no
          | _, _ => .no
        | _ => .no
      | none => .no
    | _ => .no
def lenT (P : Program) (t : TypeId) (x : TV) (m : Mem) : OR :=
  match P.underlying t with
  | some .string => match x with
    | ⟨.str, s⟩ => .ok ⟨.int .i64, (s.length : Int)⟩ m none
    | _ => .no
  | some (.slice _) => match x with
    | ⟨.nilsl, _⟩ => .ok ⟨.int .i64, (0 : Int)⟩ m none
    | ⟨.sl _, xs⟩ => .ok ⟨.int .i64, (xs.length : Int)⟩ m none
    | ⟨.own id, _⟩ => match getM m id with
      | .row _ _ xs => .ok ⟨.int .i64, (xs.length : Int)⟩ m none
      | _ => .no
    | _ => .no
  | _ => .no
def minmaxT (mx : Bool) (l : List TV) (m : Mem) : OR :=
  match l with
  | [⟨.int k, a⟩, ⟨.int k', b⟩] => cond (kbeq k k') (.ok ⟨.int k, cond mx (max a b) (min a b)⟩ m none) .no
  | _ => .no
def putsT (P : Program) (fs : Array Field) (u : TV) : List (Nat × TV) → Option TV
  | [] => some u
  | (i, w) :: rest => match fs[i]? with
    | none => none
    | some fd => match szOf P fd.type with
      | some n => cond (Nat.beq n w.t.size && w.t.okRow && w.t.isV) ((putTop u fd.offset w).bind fun u' => putsT P fs u' rest) none
      | none => none
def buildT (P : Program) (t : TypeId) (parts : List (Nat × TV)) (m : Mem) : OR :=
  match P.underlying t with
  | some (.struct fs) => cond (fs.all fun f => (P.info? f.type).isSome) (match zeroT P t with
    | some z => cond (z.t.isAgg && z.t.okRow) (match putT' parts fs z with
      | some w => .ok w m none
      | none => .no) .no
    | none => .no) .no
  | _ => .no
where
  putT' (parts : List (Nat × TV)) (fs : Array Field) (z : TV) : Option TV := putsT P fs z parts
/-- May it stand in an element of the type? -/
def fitsT (P : Program) (t : TypeId) (u : Ty) : Bool :=
  match szOf P t, P.underlying t with
  | some n, some d => Nat.beq n u.size && isB (isAggD d) u.isAgg && u.okRow && u.isV && !(Nat.beq n 0)
  | _, _ => false
def coerceAll (u : Ty) : List TV → Option (List u.V)
  | [] => some []
  | w :: l => (coerceT noFr w u).bind fun x => (coerceAll u l).map fun y => x :: y
def idxOkT : Nat → List (Nat × TV) → Bool
  | _, [] => true
  | k, (i, _) :: l => Nat.beq i k && idxOkT (k + 1) l
/-- A slice that is written out: its element's type and its elements. -/
def buildSlT (P : Program) (ty : List (Nat × Ty)) (t : TypeId) (len : Nat) (parts : List (Nat × TV)) : Option (Σ u : Ty, List u.V) :=
  match P.underlying t with
  | some (.slice e) => match szOf P e, zeroOf P e, lookN ty e with
    | some n, some _, some u => cond (idxOkT 0 parts && Nat.beq parts.length len && fitsT P e u && Nat.ble (len * n) 16777216 && u.closed && Nat.beq u.size n) ((coerceAll u (parts.map (·.2))).map fun xs => ⟨u, xs⟩) none
    | _, _, _ => none
  | _ => none
def nilckT (x : TV) (m : Mem) : OR :=
  match x.t with
  | .bx _ _ => .ok x m none
  | .ptr _ _ => .ok x m none
  | .rp _ _ => .ok x m none
  | _ => .no

/-! ### operations that need memory -/
def loadT (P : Program) (t : TypeId) (a : TV) (m : Mem) : OR :=
  match a with
  | ⟨.rp u off, v⟩ => cond u.isV (ofO m (partP P t ⟨u, v⟩ off)) .no
  | ⟨.bx id off, _⟩ => match getM m id with
    | .box _ u v => ofO m (partP P t ⟨u, v⟩ off)
    | .cbox _ u v => ofO m (partP P t ⟨u, v⟩ off)
    | _ => .no
  | ⟨.ptr id off, i⟩ => match getM m id with
    | .row _ u xs => .opt u.V (xs[i]?) fun v => ofO m (partP P t ⟨u, v⟩ off)
    | _ => .no
  | _ => .no
def storeT (P : Program) (t : TypeId) (a w : TV) (m : Mem) : OR :=
  cond (fitsT P t w.t) (match a with
    | ⟨.bx id off, _⟩ => match getM m id with
      | .box e u v => match putTop ⟨u, v⟩ off w with
        | some x => cond (x.t.isV && x.t.okRow && Nat.beq x.t.size u.size) (.ok ⟨.any, ()⟩ (setM m id (.box e x.t x.v)) none) .no
        | none => .no
      | _ => .no
    | ⟨.ptr id off, i⟩ => match getM m id with
      | .row e u xs => .opt u.V (xs[i]?) fun v => match putTop ⟨u, v⟩ off w with
        | some x => match coerceT noFr x u with
          | some y => .ok ⟨.any, ()⟩ (setM m id (.row e u (xs.set i y))) none
          | none => .no
        | none => .no
      | _ => .no
    | _ => .no) .no
def boxT (P : Program) (ro : Bool) (t : TypeId) (w : TV) (m : Mem) : OR :=
  cond (fitsT P t w.t && (!ro || w.t.closed)) (.ok ⟨.bx m.length 0, ()⟩ (m ++ [cond ro (.cbox t w.t w.v) (.box t w.t w.v)]) none) .no
def allocT (P : Program) (ro : Bool) (t : TypeId) (m : Mem) : OR :=
  match zeroT P t with
  | some z => boxT P ro t z m
  | none => .no
mutual
def killT (j : Nat) : (t : Ty) → t.V → TV
  | .agg t, v => let w := killT j t v; ⟨.agg w.t, w.v⟩
  | .cons t ts, v => let w := killT j t v.1; let ws := killT j ts v.2; ⟨.cons w.t ws.t, (w.v, ws.v)⟩
  | .own i, v => cond (Nat.beq i j) ⟨.any, ()⟩ ⟨.own i, v⟩
  | .ptr i off, v => cond (Nat.beq i j) ⟨.any, ()⟩ ⟨.ptr i off, v⟩
  | t, v => ⟨t, v⟩
end
def killG (j : Nat) : Reg → Reg
  | .box e t v => cond (t.names j) (let w := killT j t v; cond (w.t.names j) .gone (.box e w.t w.v)) (.box e t v)
  | .cbox e t v => .cbox e t v
  | .row e t xs => cond (t.names j) .gone (.row e t xs)
  | g => g
def killM (j : Nat) : Mem → Mem
  | [] => []
  | g :: m => killG j g :: killM j m
/-- What a slice holds. -/
def contT (m : Mem) (u : Ty) (y : TV) : Option (List u.V) :=
  match y with
  | ⟨.nilsl, _⟩ => some []
  | ⟨.sl t, xs⟩ => castV (.sl t) xs (.sl u) fun x => x
  | ⟨.own id, _⟩ => match getM m id with
    | .row _ t xs => castV (.sl t) xs (.sl u) fun x => x
    | _ => none
  | ⟨.str, s⟩ => match u with
    | .int .u8 => some (s.map fun b => (b.toNat : Int))
    | _ => none
  | _ => none
def roomT (n : Nat) : Option Unit := if n < most then some () else none
def isIntD : TypeDesc → Bool
  | .int _ => true
  | _ => false
def appendT (P : Program) (ty : List (Nat × Ty)) (tys : List TypeId) (x y : TV) (m : Mem) : OR :=
  match tys with
  | [t, u] => match elemInfo P t, P.underlying u, lookN ty (elemTy P t) with
    | some (n, _), some d, some et => cond (!isIntD d && Nat.beq et.size n && et.isV && et.closed && et.okRow) (match contT m et y with
      | some ys => match x with
        | ⟨.nilsl, _⟩ => .opt Unit (roomT ys.length) fun _ => .ok ⟨.own m.length, ()⟩ (m ++ [.row (elemTy P t) et ys]) none
        | ⟨.own id, _⟩ => match getM m id with
          | .row e t' xs => cond (Nat.beq e (elemTy P t) && Nat.ble (id + 1) m.length) (match castV (.sl t') xs (.sl et) (fun x => x) with
            | some xs => .opt Unit (roomT (xs.length + ys.length)) fun _ => .ok ⟨.own id, ()⟩ (setM (killM id m) id (.row e et (xs ++ ys))) (some id)
            | none => .no) .no
          | _ => .no
        | _ => .no
      | none => .no) .no
    | _, _, _ => .no
  | _ => .no
def makeT (P : Program) (ty : List (Nat × Ty)) (t : TypeId) (l c : TV) (m : Mem) : OR :=
  match elemInfo P t, lookN ty (elemTy P t), l, c with
  | some (n, _), some et, ⟨.int .i64, l⟩, ⟨.int .i64, c⟩ => match (zeroT P (elemTy P t)).bind fun z => coerceT noFr z et with
    | some z => cond (Nat.beq et.size n && et.isV && et.closed && et.okRow) (.opt Unit (mkT l c) fun _ => .ok ⟨.own m.length, ()⟩ (m ++ [.row (elemTy P t) et (List.replicate l.toNat z)]) none) .no
    | none => .no
  | _, _, _, _ => .no
def runesFromT (s : List UInt8) : Nat → Nat → List Int
  | 0, _ => []
  | b + 1, i => if i < s.length then ((Utf8.decode ⟨s.toArray⟩ i).1 : Int) :: runesFromT s b (i + (Utf8.decode ⟨s.toArray⟩ i).2) else []
def runesT (s : List UInt8) : List Int := runesFromT s s.length 0
def convS (P : Program) (src dst : TypeId) (x : TV) (m : Mem) : OR :=
  match P.underlying src, P.underlying dst with
  | some .string, some (.slice e) => match x, P.underlying e with
    | ⟨.str, s⟩, some (.int .u8) => .ok ⟨.own m.length, ()⟩ (m ++ [.row e (.int .u8) (s.map fun b => (b.toNat : Int))]) none
    | ⟨.str, s⟩, some (.int .i32) => .ok ⟨.own m.length, ()⟩ (m ++ [.row e (.int .i32) (runesT s)]) none
    | _, _ => .no
  | some (.slice e), some .string => match P.underlying e with
    | some (.int .u8) => match contT m (.int .u8) x with
      | some xs => .ok ⟨.str, xs.map fun n => UInt8.ofNat n.toNat⟩ m none
      | none => .no
    | some (.int .i32) => match contT m (.int .i32) x with
      | some xs => .ok ⟨.str, xs.flatMap fun n => (Utf8.encode n).data.toList⟩ m none
      | none => .no
    | _ => .no
  | _, _ => .no
def rangeT (P : Program) (t : TypeId) (x : TV) (m : Mem) : OR :=
  match P.underlying t with
  | some .string => match x with
    | ⟨.str, s⟩ => .ok ⟨.it m.length, ()⟩ (m ++ [.iter s 0]) none
    | _ => .no
  | _ => .no
def nextT (it : TV) (isStr : Bool) (m : Mem) : OR :=
  match it with
  | ⟨.it id, _⟩ => match getM m id with
    | .iter s pos => cond isStr (.br (decide (pos < s.length))
        (.ok ⟨.tup (.cons .bool (.cons (.int .i64) (.cons (.int .i32) .unit))), (true, (pos : Int), (Utf8.decode ⟨s.toArray⟩ pos).1, ())⟩ (setM m id (.iter s (pos + (Utf8.decode ⟨s.toArray⟩ pos).2))) none)
        (.ok ⟨.tup (.cons .bool .unit), (false, ())⟩ m none)) .no
    | _ => .no
  | _ => .no

/-! ### functions -/
structure TFn where
  ps : Ty
  res : Ty
  fn : ps.V → Option res.V
structure TEnv where
  pure : List (Nat × TFn) := []
  look : List (Nat × TFn) := []
  glob : List (Nat × TV) := []
  ty : List (Nat × Ty) := []
/-- What is told of a region where ways meet. -/
inductive RS where
  | same
  | box (e : Nat) (t : Ty)
  | row (e : Nat) (t : Ty)
  | iter
  | gone
/-- Where ways meet: slots, and regions. -/
structure JP where
  keep : List (Nat × Ty)
  mem : List RS
structure TH where
  joins : List (Nat × JP) := []
  loops : List (Nat × JP) := []
  cuts : List (Nat × List (Nat × JP)) := []
  ro : List Nat := []
def Ty.triv : Ty → Bool
  | .nilsl => true
  | .nilp => true
  | .undef => true
  | .any => true
  | .own _ => true
  | .it _ => true
  | .bx _ _ => true
  | _ => false
@[reducible] def jpM : List RS → Type
  | [] => Unit
  | .box _ t :: l => t.V × jpM l
  | .row _ t :: l => List t.V × jpM l
  | .iter :: l => Nat × jpM l
  | .same :: l => jpM l
  | .gone :: l => jpM l
@[reducible] def jpC (b : Bool) (T S : Type) : Type := match b with
  | true => S
  | false => T × S
def jpMk {T S : Type} : (b : Bool) → T → S → jpC b T S
  | true, _, y => y
  | false, x, y => (x, y)
def jpSnd {T S : Type} : (b : Bool) → jpC b T S → S
  | true, v => v
  | false, v => v.2
def jpFst {S : Type} : (t : Ty) → jpC t.triv t.V S → t.V
  | .int _, v => v.1
  | .bool, v => v.1
  | .str, v => v.1
  | .sl _, v => v.1
  | .agg _, v => v.1
  | .arr _ _, v => v.1
  | .tup _, v => v.1
  | .unit, v => v.1
  | .cons _ _, v => v.1
  | .nilsl, _ => ()
  | .nilp, _ => ()
  | .undef, _ => ()
  | .any, _ => ()
  | .own _, _ => ()
  | .it _, _ => ()
  | .bx _ _, _ => ()
  | .ptr _ _, v => v.1
  | .rp _ _, v => v.1
@[reducible] def jpS (R : Type) : List (Nat × Ty) → Type
  | [] => R
  | (_, t) :: l => jpC t.triv t.V (jpS R l)
abbrev JP.V (j : JP) : Type := jpS (jpM j.mem) j.keep
def muOf : List (Nat × Ty) → TS → List (Nat × Nat)
  | [], _ => []
  | (k, t) :: l, σ => match t with
    | .own j => match getT σ k with
      | some w => match w.t with
        | .own i => (j, i) :: muOf l σ
        | _ => muOf l σ
      | none => muOf l σ
    | _ => muOf l σ
def muF (l : List (Nat × Nat)) (j : Nat) : Nat :=
  match lookN l j with
  | some i => i
  | none => j
/-- Do two regions never come from one? -/
def muInj (l : List (Nat × Nat)) : Nat → Nat → Bool
  | 0, _ => true
  | j + 1, n => (List.range n).all (fun i => Nat.beq i j || !(Nat.beq (muF l i) (muF l j))) && muInj l j n
def cfM (l : List (Nat × Nat)) (m : Mem) : CF := { fr := fun j => Nat.ble m.length (muF l j), mu := muF l }
def enterM (l : List (Nat × Nat)) (m0 m : Mem) : (rs : List RS) → Nat → Option (jpM rs)
  | [], _ => some ()
  | .same :: rs, j => cond (Nat.beq (muF l j) j) (match getM m0 j with
    | .cbox _ _ _ => match getM m j with
      | .cbox _ _ _ => enterM l m0 m rs (j + 1)
      | _ => none
    | _ => none) none
  | .box e t :: rs, j => match getM m (muF l j) with
    | .box e' t' v => cond (Nat.beq e e' && t.isV && t.okRow && Nat.beq t.size t'.size) ((coerceT (cfM l m) ⟨t', v⟩ t).bind fun x => (enterM l m0 m rs (j + 1)).map fun y => (x, y)) none
    | _ => none
  | .row e t :: rs, j => cond (Nat.ble m.length (muF l j))
      (cond (t.isV && t.closed && t.okRow && !(Nat.beq t.size 0)) ((enterM l m0 m rs (j + 1)).map fun y => (([] : List t.V), y)) none)
      (match getM m (muF l j) with
       | .row e' t' xs => cond (Nat.beq e e') ((castV (.sl t') xs (.sl t) fun x => x).bind fun x => (enterM l m0 m rs (j + 1)).map fun y => (x, y)) none
       | _ => none)
  | .iter :: rs, j => cond (Nat.beq (muF l j) j) (match getM m0 j with
    | .iter _ _ => match getM m j with
      | .iter s p => (enterM l m0 m rs (j + 1)).map fun y => (p, y)
      | _ => none
    | _ => none) none
  | .gone :: rs, j => enterM l m0 m rs (j + 1)
def enterS (f : CF) {R : Type} (r : Option R) : (l : List (Nat × Ty)) → TS → Option (jpS R l)
  | [], _ => r
  | (k, t) :: l, σ => (getT σ k).bind fun w => (coerceT f w t).bind fun x => (enterS f r l σ).map fun y => jpMk t.triv x y
/-- All ids below n. -/
def Ty.lows (n : Nat) : Ty → Bool
  | .sl t => t.lows n
  | .agg t => t.lows n
  | .arr _ t => t.lows n
  | .tup t => t.lows n
  | .cons t ts => t.lows n && ts.lows n
  | .own i => Nat.ble (i + 1) n
  | .it i => Nat.ble (i + 1) n
  | .bx i _ => Nat.ble (i + 1) n
  | .ptr i _ => Nat.ble (i + 1) n
  | .rp t _ => t.lows n
  | _ => true
def rsBelow (n : Nat) : RS → Bool
  | .box _ t => t.lows n
  | .row _ t => t.lows n
  | _ => true
def JP.ok (j : JP) : Bool := (j.keep.all fun p => p.2.lows j.mem.length && p.2.isV) && j.mem.all (rsBelow j.mem.length)
/-- m0: the memory that lay when the way began. -/
def JP.enter (j : JP) (m0 : Mem) (σ : TS) (m : Mem) : Option j.V := cond (j.ok && muInj (muOf j.keep σ) j.mem.length j.mem.length && Nat.ble m0.length j.mem.length) (enterS (cfM (muOf j.keep σ) m) (enterM (muOf j.keep σ) m0 m j.mem 0) j.keep σ) none
def leaveS {R : Type} : (l : List (Nat × Ty)) → jpS R l → TS
  | [], _ => []
  | (k, t) :: l, v => (k, ⟨t, jpFst t v⟩) :: leaveS l (jpSnd t.triv v)
def restS {R : Type} : (l : List (Nat × Ty)) → jpS R l → R
  | [], v => v
  | (k, t) :: l, v => restS l (jpSnd t.triv v)
def leaveM (m0 : Mem) : (rs : List RS) → jpM rs → Nat → Mem
  | [], _, _ => []
  | .same :: rs, v, j => getM m0 j :: leaveM m0 rs v (j + 1)
  | .box e t :: rs, v, j => .box e t v.1 :: leaveM m0 rs v.2 (j + 1)
  | .row e t :: rs, v, j => .row e t v.1 :: leaveM m0 rs v.2 (j + 1)
  | .iter :: rs, v, j => (match getM m0 j with
    | .iter s _ => .iter s v.1
    | _ => .gone) :: leaveM m0 rs v.2 (j + 1)
  | .gone :: rs, v, j => .gone :: leaveM m0 rs v (j + 1)
def stayS (p : Nat → Bool) (σ0 : TS) : TS := σ0.filter fun q => p q.1 && (match getT σ0 q.1 with
  | some w => w.t.still
  | none => false)
def JP.slots (j : JP) (p : Nat → Bool) (σ0 : TS) (v : j.V) : TS := leaveS j.keep v ++ stayS p σ0
def JP.memo (j : JP) (m0 : Mem) (v : j.V) : Mem := leaveM m0 j.mem (restS j.keep v) 0

/-! ### loops -/
def joinS {A X : Type} (f : A → Option X) : A ⊕ X → Option X
  | .inl v => f v
  | .inr x => some x
def loopTn {A X : Type} (f : A → Option (A ⊕ X)) : Nat → A → Option X
  | 0, _ => none
  | n + 1, a => (f a).bind (joinS (loopTn f n))
open Classical in
noncomputable def loopT {A X : Type} (f : A → Option (A ⊕ X)) (a : A) : Option X :=
  if h : ∃ n r, loopTn f n a = some r then loopTn f h.choose a else none

/-! ### operations by their text -/
section
variable (P : Program) (E : Env) (h : Hints) (ET : TEnv) (H : TH)
def opndT (σ : TS) : Operand → Option TV
  | .tmp t => getT σ t
  | .const v => constT (ofConst v)
  | .global g => lookN ET.glob g
  | .func _ => none
def opnds (σ : TS) : List Operand → Option (List TV)
  | [] => some []
  | x :: l => (opndT ET σ x).bind fun w => (opnds σ l).map fun ws => w :: ws
def partsT (σ : TS) : List (Nat × Operand) → Option (List (Nat × TV))
  | [] => some []
  | (i, x) :: l => (opndT ET σ x).bind fun w => (partsT σ l).map fun ws => (i, w) :: ws
def w1 (x : Option TV) (f : TV → OR) : OR :=
  match x with
  | some w => f w
  | none => .no
def optT (σ : TS) (x : Option Operand) : Option (Option TV) :=
  match x with
  | none => some none
  | some x => (opndT ET σ x).map some
def callT (tf : TFn) (l : List TV) (m : Mem) : OR :=
  match coerceL tf.ps l with
  | some v => .opt tf.res.V (tf.fn v) fun r => .ok ⟨tf.res, r⟩ m none
  | none => .no
def Ty.scal : Ty → Bool
  | .int _ => true
  | .bool => true
  | .str => true
  | .tup t => t.scal
  | .cons t ts => t.scal && ts.scal
  | .unit => true
  | _ => false
def lookT (tf : TFn) (l : List TV) (m : Mem) : OR :=
  cond tf.res.scal (match closeL m tf.ps l with
  | some v => .opt tf.res.V (tf.fn v) fun r => .ok ⟨tf.res, r⟩ m none
  | none => .no) .no
def opPT (σ : TS) (m : Mem) (o : Oper) : OR :=
  match o.op with
  | .move x => ofO m (opndT ET σ x)
  | .assign x => ofO m (opndT ET σ x)
  | .pick c a b => w1 (opndT ET σ c) fun c => w1 (opndT ET σ a) fun a => w1 (opndT ET σ b) fun b => pickT c a b m
  | .binOp op t x y _ => w1 (opndT ET σ x) fun x => w1 (opndT ET σ y) fun y => binT P op t x y m
  | .unOp op _ x => w1 (opndT ET σ x) fun x => unT op x m
  | .convert src dst x => w1 (opndT ET σ x) fun x => convT P src dst x m
  | .index t x i => w1 (opndT ET σ x) fun x => w1 (opndT ET σ i) fun i => indexT P t x i m
  | .indexAddr t x i => w1 (opndT ET σ x) fun x => w1 (opndT ET σ i) fun i => idxT P t x i m
  | .fieldAddr s x f => w1 (opndT ET σ x) fun x => faddrT P s x f m
  | .field s x f => w1 (opndT ET σ x) fun x => fieldT P s x f m
  | .extract x i => w1 (opndT ET σ x) fun x => extractT x i m
  | .slice t x lo hi mx => w1 (opndT ET σ x) fun x => match optT ET σ lo, optT ET σ hi, optT ET σ mx with
    | some lo, some hi, some mx => sliceT P t x lo hi mx m
    | _, _, _ => .no
  | .build t parts => match partsT ET σ parts.toList with
    | some ps => buildT P t ps m
    | none => .no
  | .buildSlice t len parts => match partsT ET σ parts.toList with
    | some ps => match buildSlT P ET.ty t len ps with
      | some ⟨u, xs⟩ => .ok ⟨.sl u, xs⟩ m none
      | none => .no
    | none => .no
  | .nilCheck x => w1 (opndT ET σ x) fun x => nilckT x m
  | .call c => match c.callee with
    | .builtin .len => match c.args.toList, c.argTypes.toList with
      | [x], [t] => w1 (opndT ET σ x) fun x => lenT P t x m
      | _, _ => .no
    | .builtin .max => match opnds ET σ c.args.toList with
      | some l => minmaxT true l m
      | none => .no
    | .builtin .min => match opnds ET σ c.args.toList with
      | some l => minmaxT false l m
      | none => .no
    | .value (.func f) => match lookN ET.pure f with
      | some tf => match opnds ET σ c.args.toList with
        | some l => callT tf l m
        | none => .no
      | none => .no
    | _ => .no
  | _ => .no
def isRo (o : Oper) : Bool :=
  match o.dst with
  | some d => memN d H.ro
  | none => false
def normC (t : TypeId) (x : Operand) (w : TV) : TV := cond (isConst x) (normT P t w) w
def opST (σ : TS) (m : Mem) (o : Oper) : OR :=
  match o.op with
  | .convert src dst x => w1 (opndT ET σ x) fun x => convS P src dst x m
  | .buildSlice t len parts => match partsT ET σ parts.toList with
    | some ps => match buildSlT P ET.ty t len ps with
      | some ⟨u, xs⟩ => cond u.okRow (.ok ⟨.own m.length, ()⟩ (m ++ [.row (elemTy P t) u xs]) none) .no
      | none => .no
    | none => .no
  | .load t a => w1 (opndT ET σ a) fun a => loadT P t a m
  | .store t a v => match o.dst with
    | some _ => .no
    | none => w1 (opndT ET σ a) fun a => w1 (opndT ET σ v) fun w => storeT P t a (normC P t v w) m
  | .alloc t => allocT P (isRo H o) t m
  | .box t v => w1 (opndT ET σ v) fun w => boxT P (isRo H o) t (normC P t v w) m
  | .makeSlice t l c => w1 (opndT ET σ l) fun l => w1 (opndT ET σ c) fun c => makeT P ET.ty t l c m
  | .range t x => w1 (opndT ET σ x) fun x => rangeT P t x m
  | .next it b => w1 (opndT ET σ it) fun it => nextT it b m
  | .call c => match c.callee with
    | .builtin .append => match c.args.toList with
      | [x, y] => w1 (opndT ET σ x) fun x => w1 (opndT ET σ y) fun y => appendT P ET.ty c.argTypes.toList x y m
      | _ => .no
    | .value (.func f) => match lookN ET.look f with
      | some tf => match opnds ET σ c.args.toList with
        | some l => lookT tf l m
        | none => .no
      | none => .no
    | _ => .no
  | _ => .no
def opT (σ : TS) (m : Mem) (o : Oper) : OR :=
  match Nat.beq (cls E h o) 0 with
  | true => opPT P ET σ m o
  | false => opST P ET H σ m o
def killS (k : Option Nat) (σ : TS) : TS :=
  match k with
  | none => σ
  | some j => σ.filter fun q => match getT σ q.1 with
    | some w => !(w.t.names j)
    | none => false
def pushT (d : Option Nat) (w : TV) (σ : TS) : TS :=
  match d with
  | some d => (d, w) :: σ
  | none => σ
def doT {X : Type} (σ : TS) (m : Mem) (o : Oper) (K : TS → Mem → Option X) : Option X :=
  (opT P E h ET H σ m o).go fun w m' k => K (pushT o.dst w (killS k σ)) m'
def skipT {X : Type} (σ : TS) (m : Mem) (o : Oper) (K : TS → Mem → Option X) : Option X := K (pushT o.dst ⟨.undef, ()⟩ σ) m
def stepT {X : Type} (ops : List Oper) (σ : TS) (m : Mem) (o : Oper) (K : TS → Mem → Option X) : Option X :=
  match o.guard with
  | none => doT P E h ET H σ m o K
  | some (j, want) => match (ops[j]?).bind (·.dst) with
    | some g => match getT σ g with
      | some ⟨.bool, b⟩ => cond b
          (cond want (doT P E h ET H ((g, ⟨.bool, true⟩) :: σ) m o K) (skipT ((g, ⟨.bool, true⟩) :: σ) m o K))
          (cond want (skipT ((g, ⟨.bool, false⟩) :: σ) m o K) (doT P E h ET H ((g, ⟨.bool, false⟩) :: σ) m o K))
      | some ⟨.undef, _⟩ => skipT σ m o K
      | _ => none
    | none => none
def opsT {X : Type} (ops : List Oper) : List Oper → TS → Mem → (TS → Mem → Option X) → Option X
  | [], σ, m, K => K σ m
  | o :: os, σ, m, K => stepT P E h ET H ops σ m o fun σ' m' => opsT ops os σ' m' K
def notDst (os : List Oper) (k : Nat) : Bool := os.all fun o => match o.dst with
  | some d => !(Nat.beq d k)
  | none => true
/-- A region, cut where ways of it meet: at the n-th operation from here. -/
def cutT {X : Type} (ops : List Oper) : List (Nat × JP) → List Oper → TS → Mem → (TS → Mem → Option X) → Option X
  | [], os, σ, m, K => opsT P E h ET H ops os σ m K
  | (n, j) :: cs, os, σ, m, K =>
    (opsT P E h ET H (X := j.V) ops (os.take n) σ m fun σ' m' => j.enter m σ' m').bind fun v =>
      cutT ops cs (os.drop n) (j.slots (notDst (os.take n)) σ v) (j.memo m v) K
def stays : Code → Nat → Bool
  | .region _ ops _, k => notDst ops.toList k
  | .seq a b, k => stays a k && stays b k && (match lookN h.seqs (firstRegion b) with | some _ => false | none => true)
  | .cond _ a b, k => stays a k && stays b k
  | .block _ a, k => stays a k
  | .loop b, k => stays b k && (match lookN h.loops (firstRegion b) with
    | some keep => memN k keep
    | none => false)
  | _, _ => true
noncomputable def DT : Code → (X : Type) → TS → Mem → (AExit → TS → Mem → Option X) → Option X
  | .skip, _, σ, m, K => K .normal σ m
  | .region id ops draw, _, σ, m, K => cond (draw && !drawOk P E h ops) none (cutT P E h ET H ops.toList ((lookN H.cuts id).getD []) ops.toList σ m (K .normal))
  | .seq a b, X, σ, m, K =>
    match lookN h.seqs (firstRegion b) with
    | some _ => none
    | none => match lookN H.joins (firstRegion b) with
      | some j => (DT a (j.V ⊕ X) σ m (fun e σ' m' => match e with
          | .normal => (j.enter m σ' m').map .inl
          | e => (K e σ' m').map .inr)).bind (joinS fun v => DT b X (j.slots (stays h a) σ v) (j.memo m v) K)
      | none => DT a X σ m (fun e σ' m' => match e with
          | .normal => DT b X σ' m' K
          | e => K e σ' m')
  | .cond c a b, X, σ, m, K => match opndT ET σ c with
    | some ⟨.bool, t⟩ => cond t (DT a X σ m K) (DT b X σ m K)
    | _ => none
  | .block id b, X, σ, m, K => DT b X σ m (fun e σ' m' => match e with
      | .exit i => cond (Nat.beq i id) (K .normal σ' m') (K (.exit i) σ' m')
      | e => K e σ' m')
  | .loop b, X, σ, m, K =>
    match lookN h.loops (firstRegion b), lookN H.loops (firstRegion b) with
    | some keep, some j => cond (j.keep.all fun p => memN p.1 keep) ((j.enter m σ m).bind fun v0 => loopT (fun v => DT b (j.V ⊕ X) (j.slots (fun k => stays h b k && memN k keep) σ v) (j.memo m v) (fun e σ' m' => match e with
        | .normal => (j.enter m σ' m').map .inl
        | e => (K e σ' m').map .inr)) v0) none
    | _, _ => none
  | .exit id, _, σ, m, K => K (.exit id) σ m
  | .ret, _, σ, m, K => K .ret σ m
  | _, _, _, _, _ => none
def paramS : (t : Ty) → t.V → Nat → TS
  | .cons t ts, v, n => (n, ⟨t, v.1⟩) :: paramS ts v.2 (n + 1)
  | _, _, _ => []
def rowLen : Ty → Nat
  | .cons _ ts => rowLen ts + 1
  | _ => 0
def resT (σ : TS) (m : Mem) : List ResultVar → Option (List TV)
  | [] => some []
  | .tmp t :: l => (getT σ t).bind fun w => (resT σ m l).map fun ws => w :: ws
  | .cell a t :: l => (getT σ a).bind fun w => match loadT P t w m with
    | .ok x _ _ => (resT σ m l).map fun ws => x :: ws
    | _ => none
def endT (σ : TS) (m : Mem) (rs : List ResultVar) (res : Ty) : Option res.V :=
  (resT P σ m rs).bind fun l => match l, res with
    | [w], res => closeTo m w.t w.v res
    | l, .tup u => closeL m u l
    | _, _ => none
noncomputable def runY (fn : Func) (ps res : Ty) (v : ps.V) : Option res.V :=
  cond (Nat.beq (rowLen ps) (fn.params.size + fn.nfree) && rowV ps && ps.closed && res.closed && res.isV && dstsIn fn.ntmps (fn.body.getD .skip) && Nat.ble (fn.params.size + fn.nfree) fn.ntmps)
    (match fn.body with
     | some c => DT P E h ET H c res.V (paramS ps v 0) [] (fun e σ m => match e with
        | .normal => endT P σ m fn.results.toList res
        | .ret => endT P σ m fn.results.toList res
        | _ => none)
     | none => none) none
end
end Go.TY
