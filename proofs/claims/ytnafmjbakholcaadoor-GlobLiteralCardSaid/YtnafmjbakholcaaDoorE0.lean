/- The abstract machine: values, store, primitives, and the evaluator over the model's own code. -/
import Derived.Orders
import Derived.KernelRfl
set_option linter.unusedVariables false
namespace Go.EM

/-- Abstract values. -/
inductive AVal where
  | int (k : IntKind) (n : Int)
  | bool (b : Bool)
  | str (s : List UInt8)
  | agg (cs : List AVal)
  | tup (vs : List AVal)
  | nil
  | tree (full : Bool) (n : Nat) (xs : List AVal)
  | own (r n top off len : Nat)
  | ptr (r top i off : Nat)
  | rptr (cs : List AVal)
  | nilptr
  | func (fn : Fn) (first cap : List AVal)
  | nilfunc
  | iface (t : Nat) (v : AVal)
  | niliface
  | map (r : Nat)
  | nilmap
  | any

instance : Inhabited AVal := ⟨.any⟩

/-- Abstract regions. -/
inductive AReg where
  | row (e n : Nat) (xs : List AVal)
  | map (es : List (AVal × AVal))
  | iter (s : List UInt8) (pos : Nat)
  | dead

abbrev Store := List AReg
abbrev PFn := List AVal → Option AVal
abbrev SFn := List AVal → Store → Option (AVal × Store)

def AVal.cells : AVal → List AVal
  | .agg cs => cs
  | v => [v]
def AVal.isAgg : AVal → Bool
  | .agg _ => true
  | _ => false
/-- May it stand in one cell? -/
def AVal.isCell : AVal → Bool
  | .agg _ => false
  | .tup _ => false
  | .any => false
  | _ => true
def AVal.isTup : AVal → Bool
  | .tup _ => true
  | _ => false

mutual
def closed : AVal → Bool
  | .int .. => true
  | .bool _ => true
  | .str _ => true
  | .agg cs => closedL cs
  | .tup vs => closedL vs
  | .nil => true
  | .tree _ _ xs => closedL xs
  | .own .. => false
  | .ptr .. => false
  | .rptr cs => closedL cs
  | .nilptr => true
  | .func _ a b => closedL a && closedL b
  | .nilfunc => true
  | .iface _ v => closed v
  | .niliface => true
  | .map _ => false
  | .nilmap => true
  | .any => true
def closedL : List AVal → Bool
  | [] => true
  | v :: l => closed v && closedL l
end

/-- The i-th of a list, or anything. -/
def getL : List AVal → Nat → AVal
  | [], _ => .any
  | v :: _, 0 => v
  | _ :: l, n + 1 => getL l n
/-- Slots: the last that was written of each. -/
abbrev Slots := List (Nat × AVal)
def getS : Slots → Nat → AVal
  | [], _ => .any
  | (k, v) :: l, n => cond (Nat.beq k n) v (getS l n)
def plugK : List Nat → Nat → List AVal → Slots
  | [], _, _ => []
  | k :: ks, j, l => (k, getL l j) :: plugK ks (j + 1) l
def pickK : List Nat → Slots → List AVal
  | [], _ => []
  | k :: ks, σ => getS σ k :: pickK ks σ

/-! ### types -/
def szOf (P : Program) (t : TypeId) : Option Nat := (P.info? t).map (·.size)
def isAggD : TypeDesc → Bool
  | .struct _ => true
  | .array .. => true
  | _ => false
def aggT (P : Program) (t : TypeId) : Bool :=
  match P.underlying t with
  | some d => isAggD d
  | none => false

def ofConst1 : Value → AVal
  | .bool b => .bool b
  | .int k n => .int k n
  | .string s => .str s.data.toList
  | .pointer none => .nilptr
  | .slice none 0 0 => .nil
  | .map none => .nilmap
  | .nilFunc => .nilfunc
  | .nilIface => .niliface
  | _ => .any
def ofConst : Value → AVal
  | .agg cs => .agg (cs.toList.map ofConst1)
  | v => ofConst1 v
def zeroOf (P : Program) (t : TypeId) : Option AVal := ((P.info? t).bind (·.zero)).map ofConst

/-! ### pure primitives -/
def partA (P : Program) (t : TypeId) (cs : List AVal) (off : Nat) : Option AVal :=
  match szOf P t, P.underlying t with
  | some n, some d => cond (isAggD d) (cond (Nat.ble (off + n) cs.length) (some (.agg ((cs.drop off).take n))) none) (cs[off]?)
  | _, _ => none

def aint (op : BinOp) (k : IntKind) (a b : Int) : Option AVal :=
  match op with
  | .add => some (.int k (k.wrap (a + b)))
  | .sub => some (.int k (k.wrap (a - b)))
  | .mul => some (.int k (k.wrap (a * b)))
  | .quo => if b = 0 then none else some (.int k (k.wrap (a.tdiv b)))
  | .rem => if b = 0 then none else some (.int k (a.tmod b))
  | .and => some (.int k (k.wrap ((BitVec.ofInt k.bits a &&& BitVec.ofInt k.bits b).toNat)))
  | .or => some (.int k (k.wrap ((BitVec.ofInt k.bits a ||| BitVec.ofInt k.bits b).toNat)))
  | .xor => some (.int k (k.wrap ((BitVec.ofInt k.bits a ^^^ BitVec.ofInt k.bits b).toNat)))
  | .andNot => some (.int k (k.wrap ((BitVec.ofInt k.bits a &&& ~~~ BitVec.ofInt k.bits b).toNat)))
  | .eql => some (.bool (a == b))
  | .neq => some (.bool (a != b))
  | .lss => some (.bool (decide (a < b)))
  | .leq => some (.bool (decide (a ≤ b)))
  | .gtr => some (.bool (decide (a > b)))
  | .geq => some (.bool (decide (a ≥ b)))
  | _ => none
def ashift (op : BinOp) (k : IntKind) (a b : Int) : Option AVal :=
  if b < 0 then none else
  match op with
  | .shl => some (.int k (k.wrap (a * 2 ^ (min b.toNat k.bits))))
  | .shr => some (.int k (a.fdiv (2 ^ (min b.toNat k.bits))))
  | _ => none
def astr (op : BinOp) (x y : List UInt8) : Option AVal :=
  match op with
  | .add => if ((x.length + y.length : Nat) : Int) > IntKind.i64.max then none else some (.str (x ++ y))
  | .eql => some (.bool (x == y))
  | .neq => some (.bool !(x == y))
  | .lss => some (.bool (Op.bytesLess x y))
  | .leq => some (.bool (Op.bytesLess x y || x == y))
  | .gtr => some (.bool !(Op.bytesLess x y || x == y))
  | .geq => some (.bool !(Op.bytesLess x y))
  | _ => none

def aeqAll (f : AVal → AVal → TypeId → Option Bool) (P : Program) : List Field → List AVal → List AVal → Option Bool
  | [], _, _ => some true
  | fd :: fs, xs, ys =>
    if fd.name = "_" then aeqAll f P fs xs ys else
    match partA P fd.type xs fd.offset, partA P fd.type ys fd.offset with
    | some a, some b => (f a b fd.type).bind fun r => cond r (aeqAll f P fs xs ys) (some false)
    | _, _ => none
def aeqArr (f : AVal → AVal → TypeId → Option Bool) (P : Program) (e : TypeId) (n : Nat) : List Nat → List AVal → List AVal → Option Bool
  | [], _, _ => some true
  | i :: is, xs, ys =>
    match partA P e xs (i * n), partA P e ys (i * n) with
    | some a, some b => (f a b e).bind fun r => cond r (aeqArr f P e n is xs ys) (some false)
    | _, _ => none
def aeq (P : Program) : Nat → TypeId → AVal → AVal → Option Bool
  | 0, _, _, _ => none
  | d + 1, t, x, y =>
    match P.underlying t with
    | some .bool => match x, y with
      | .bool a, .bool b => some (a == b)
      | _, _ => none
    | some (.int _) => match x, y with
      | .int k a, .int k' b => if k = k' then some (a == b) else none
      | _, _ => none
    | some .string => match x, y with
      | .str a, .str b => some (a == b)
      | _, _ => none
    | some (.pointer _) => match x, y with
      | .nilptr, .nilptr => some true
      | .nilptr, .rptr _ => some false
      | .rptr _, .nilptr => some false
      | _, _ => none
    | some (.interface _) => match x, y with
      | .niliface, .niliface => some true
      | .niliface, .iface _ _ => some false
      | .iface _ _, .niliface => some false
      | _, _ => none
    | some (.func _ _ _) => match x, y with
      | .nilfunc, .nilfunc => some true
      | .nilfunc, .func _ _ _ => some false
      | .func _ _ _, .nilfunc => some false
      | _, _ => none
    | some (.struct fs) => match x, y with
      | .agg xs, .agg ys => if P.stoodInHeld t then none else aeqAll (fun a b u => aeq P d u a b) P fs.toList xs ys
      | _, _ => none
    | some (.array len e) => match x, y with
      | .agg xs, .agg ys => (szOf P e).bind fun n => aeqArr (fun a b u => aeq P d u a b) P e n (List.range len) xs ys
      | _, _ => none
    | _ => none

def eqOk (P : Program) (t : TypeId) (lit : Bool) (x y : AVal) : Bool :=
  match x, y with
  | .niliface, .niliface => lit
  | .agg _, .agg _ => !(P.eqGuardType P.depth t)
  | _, _ => true

def abin (P : Program) (op : BinOp) (t : TypeId) (lit : Bool) (x y : AVal) : Option AVal :=
  match op with
  | .shl | .shr => match x, y with
    | .int k a, .int _ b => ashift op k a b
    | _, _ => none
  | .eql => match x, y with
    | .int k a, .int k' b => if k = k' then aint .eql k a b else none
    | .str a, .str b => astr .eql a b
    | x, y => cond (eqOk P t lit x y) ((aeq P 8 t x y).map .bool) none
  | .neq => match x, y with
    | .int k a, .int k' b => if k = k' then aint .neq k a b else none
    | .str a, .str b => astr .neq a b
    | x, y => cond (eqOk P t lit x y) ((aeq P 8 t x y).map fun b => .bool !b) none
  | op => match x, y with
    | .int k a, .int k' b => if k = k' then aint op k a b else none
    | .str a, .str b => astr op a b
    | _, _ => none

def aun (op : UnOp) (x : AVal) : Option AVal :=
  match op, x with
  | .neg, .int k n => some (.int k (k.wrap (0 - n)))
  | .xor, .int k n => aint .xor k (if k.signed then -1 else k.max) n
  | .not, .bool b => some (.bool !b)
  | _, _ => none

def apick (c a b : AVal) : Option AVal :=
  match c with
  | .bool t => some (cond t a b)
  | _ => none

def aconv (P : Program) (src dst : TypeId) (x : AVal) : Option AVal :=
  match P.underlying src, P.underlying dst with
  | some _, some (.int k) => match x with
    | .int _ n => some (.int k (k.wrap n))
    | _ => none
  | some _, some .string => match x with
    | .str s => some (.str s)
    | .int _ n => some (.str (Utf8.encode n).data.toList)
    | _ => none
  | _, _ => none

def aindex (P : Program) (t : TypeId) (x i : AVal) : Option AVal :=
  match i with
  | .int _ i => match P.underlying t with
    | some .string => match x with
      | .str s => if 0 ≤ i then (s[i.toNat]?).map fun b => .int .u8 b.toNat else none
      | _ => none
    | some (.array len e) => match x with
      | .agg cs => if 0 ≤ i ∧ i < len then (szOf P e).bind fun n => partA P e cs (i.toNat * n) else none
      | _ => none
    | _ => none
  | _ => none

def aidx (P : Program) (t : TypeId) (x i : AVal) : Option AVal :=
  match i with
  | .int _ i => match P.underlying t with
    | some (.slice e) => match szOf P e with
      | some n => match x with
        | .tree _ m xs => if m = n ∧ n ≠ 0 ∧ 0 ≤ i then (xs[i.toNat]?).map fun v => .rptr v.cells else none
        | .own r m top off len => if m = n ∧ n ≠ 0 ∧ 0 ≤ i ∧ i < len then some (.ptr r top (off + i.toNat) 0) else none
        | _ => none
      | none => none
    | some (.array len e) => match szOf P e with
      | some n => match x with
        | .ptr r top k off => if 0 ≤ i ∧ i < len then some (.ptr r top k (off + i.toNat * n)) else none
        | .rptr cs => if 0 ≤ i ∧ i < len then some (.rptr (cs.drop (i.toNat * n))) else none
        | _ => none
      | none => none
    | _ => none
  | _ => none

def fieldOf (P : Program) (s : TypeId) (f : Nat) : Option Field :=
  match P.underlying s with
  | some (.struct fs) => fs[f]?
  | _ => none

def afaddr (P : Program) (s : TypeId) (x : AVal) (f : Nat) : Option AVal :=
  match fieldOf P s f with
  | some fd => match szOf P fd.type with
    | some (_ + 1) => match x with
      | .ptr r top i off => some (.ptr r top i (off + fd.offset))
      | .rptr cs => some (.rptr (cs.drop fd.offset))
      | _ => none
    | _ => none
  | none => none

def afield (P : Program) (s : TypeId) (x : AVal) (f : Nat) : Option AVal :=
  match fieldOf P s f with
  | some fd => match x with
    | .agg cs => partA P fd.type cs fd.offset
    | _ => none
  | none => none

def aextract (x : AVal) (i : Nat) : Option AVal :=
  match x with
  | .tup vs => vs[i]?
  | _ => none

/-- low, high, max of a slice expression: natural numbers. -/
def asNat (v : Option AVal) (d : Nat) : Option Nat :=
  match v with
  | none => some d
  | some (.int _ i) => if 0 ≤ i then some i.toNat else none
  | some _ => none

def aslice (P : Program) (t : TypeId) (x : AVal) (lo hi mx : Option AVal) : Option AVal :=
  match P.underlying t with
  | some .string => match x with
    | .str s => match mx with
      | some _ => none
      | none => match asNat lo 0, asNat hi s.length with
        | some l, some h => if l ≤ h ∧ h ≤ s.length then some (.str ((s.take h).drop l)) else none
        | _, _ => none
    | _ => none
  | some (.slice e) => match szOf P e with
    | some n => match x with
      | .nil => match asNat lo 0, asNat hi 0, asNat mx 0 with
        | some 0, some 0, some 0 => if mx.isSome && hi.isNone then none else some .nil
        | _, _, _ => none
      | .tree full m xs => match mx with
        | some v => match asNat lo 0, asNat hi 0, asNat (some v) 0 with
          | some 0, some 0, some 0 => if hi.isNone then none else some (.tree true m [])
          | _, _, _ => none
        | none => match asNat lo 0, asNat hi xs.length with
          | some l, some h => if (m = n ∨ xs.length = 0) ∧ l ≤ h ∧ h ≤ xs.length then some (.tree (full && h == xs.length) m ((xs.take h).drop l)) else none
          | _, _ => none
      | .own r m top off len => match mx with
        | some v => match asNat lo 0, asNat hi 0, asNat (some v) 0 with
          | some 0, some 0, some 0 => if hi.isNone then none else some (.tree true m [])
          | _, _, _ => none
        | none => match asNat lo 0, asNat hi len with
          | some l, some h => if m = n ∧ l ≤ h ∧ h ≤ len then some (.own r m top (off + l) (h - l)) else none
          | _, _ => none
      | _ => none
    | none => none
  | _ => none

def alen (P : Program) (t : TypeId) (x : AVal) : Option AVal :=
  match P.underlying t with
  | some .string => match x with
    | .str s => some (.int .i64 s.length)
    | _ => none
  | some (.array n _) => some (.int .i64 n)
  | some (.slice _) => match x with
    | .nil => some (.int .i64 0)
    | .tree _ _ xs => some (.int .i64 xs.length)
    | .own _ _ _ _ len => some (.int .i64 len)
    | _ => none
  | _ => none

def fits (P : Program) (t : TypeId) (v : AVal) : Bool :=
  match szOf P t, P.underlying t with
  | some n, some d => (v.cells.length == n) && (v.isAgg == isAggD d) && v.cells.all AVal.isCell && (n != 0)
  | _, _ => false

def afill (P : Program) (fs : Array Field) : List AVal → List (Nat × AVal) → Option (List AVal)
  | cs, [] => some cs
  | cs, (i, v) :: rest => match fs[i]? with
    | none => none
    | some fd => match szOf P fd.type with
      | none => none
      | some n => if v.cells.length = n ∧ fd.offset + n ≤ cs.length ∧ v.cells.all AVal.isCell = true then afill P fs (cs.take fd.offset ++ v.cells ++ cs.drop (fd.offset + n)) rest else none
def abuild (P : Program) (t : TypeId) (parts : List (Nat × AVal)) : Option AVal :=
  match zeroOf P t, P.underlying t with
  | some z, some (.struct fs) => if fs.all (fun f => (P.info? f.type).isSome) then (afill P fs z.cells parts).map .agg else none
  | _, _ => none

def idxOk : Nat → List (Nat × AVal) → Bool
  | _, [] => true
  | k, (i, _) :: l => (i == k) && idxOk (k + 1) l
def abuildSlice (P : Program) (t : TypeId) (len : Nat) (parts : List (Nat × AVal)) : Option (Nat × List AVal) :=
  match P.underlying t with
  | some (.slice e) => match szOf P e, zeroOf P e with
    | some n, some _ => if idxOk 0 parts && (parts.length == len) && parts.all (fun p => fits P e p.2) && decide (len * n ≤ 2 ^ 24 ∧ n ≠ 0) then some (n, parts.map (·.2)) else none
    | _, _ => none
  | _ => none

def amkIface (P : Program) (t : TypeId) (x : AVal) : Option AVal :=
  match P.underlying t with
  | some (.interface _) => none
  | some _ => some (.iface t x)
  | none => none

def aassert (P : Program) (x : AVal) (asserted : TypeId) (ok : Bool) : Option AVal :=
  match P.underlying asserted with
  | some (.interface _) => none
  | some _ => match x with
    | .iface t v => if t = asserted then some (cond ok (.tup [v, .bool true]) v) else cond ok ((zeroOf P asserted).map fun z => .tup [z, .bool false]) none
    | .niliface => cond ok ((zeroOf P asserted).map fun z => .tup [z, .bool false]) none
    | _ => none
  | none => none

def anilck (x : AVal) : Option AVal :=
  match x with
  | .ptr r top i off => some (.ptr r top i off)
  | .rptr cs => some (.rptr cs)
  | _ => none

def aminmax (mx : Bool) : List AVal → Option AVal
  | [.int k a, .int k' b] => if k = k' then some (.int k (cond mx (if b > a then b else a) (if b < a then b else a))) else none
  | [.int k a, .int k' b, .int k'' c] => if k = k' ∧ k = k'' then
      some (.int k (cond mx (if c > (if b > a then b else a) then c else (if b > a then b else a)) (if c < (if b < a then b else a) then c else (if b < a then b else a)))) else none
  | _ => none

/-! ### primitives on the store -/
def rowAt (st : Store) (r n top : Nat) : Option (List AVal) :=
  match st[r]? with
  | some (.row _ m xs) => if m = n ∧ xs.length = top then some xs else none
  | _ => none
def rowTy (st : Store) (r : Nat) : Nat :=
  match st[r]? with
  | some (.row e _ _) => e
  | _ => 0
def cellsAt (st : Store) (r top i : Nat) : Option (Nat × List AVal × AVal) :=
  match st[r]? with
  | some (.row _ n xs) => if xs.length = top then (xs[i]?).map fun v => (n, xs, v) else none
  | _ => none

def aload (P : Program) (t : TypeId) (a : AVal) (st : Store) : Option AVal :=
  match a with
  | .rptr cs => partA P t cs 0
  | .ptr r top i off => match cellsAt st r top i with
    | some (_, _, v) => partA P t v.cells off
    | none => none
  | _ => none
def putCells (x : AVal) (off : Nat) (v : AVal) : AVal :=
  match x with
  | .agg cs => .agg (cs.take off ++ v.cells ++ cs.drop (off + v.cells.length))
  | _ => v
def astore (P : Program) (t : TypeId) (a v : AVal) (st : Store) : Option Store :=
  match a with
  | .ptr r top i off => match cellsAt st r top i with
    | some (n, xs, x) => if fits P t v ∧ off + v.cells.length ≤ x.cells.length ∧ (x.isAgg ∨ ¬ v.isAgg) then some (st.set r (.row (rowTy st r) n (xs.set i (putCells x off v)))) else none
    | none => none
  | _ => none
def abox (P : Program) (t : TypeId) (v : AVal) (st : Store) : Option (AVal × Store) :=
  if fits P t v then some (.ptr st.length 1 0 0, st ++ [.row t v.cells.length [v]]) else none
def aalloc (P : Program) (t : TypeId) (st : Store) : Option (AVal × Store) := (zeroOf P t).bind fun v => abox P t v st

def contents (st : Store) (n : Nat) : AVal → Option (List AVal)
  | .nil => some []
  | .tree _ m xs => if m = n ∨ xs.length = 0 then some xs else none
  | .own r m top off len => if m = n then (rowAt st r m top).map fun xs => (xs.drop off).take len else none
  | .str s => if n = 1 then some (s.map fun b => .int .u8 b.toNat) else none
  | _ => none

def most : Nat := 4294967296
def elemInfo (P : Program) (t : TypeId) : Option (Nat × AVal) :=
  match P.underlying t with
  | some (.slice e) => match P.info? e with
    | some i => match i.zero with
      | some z => if i.size ≠ 0 ∧ i.bytes ≤ 16384 ∧ i.bytes ≠ 0 ∧ z.cells.size = i.size then some (i.size, ofConst z) else none
      | none => none
    | none => none
  | _ => none
def elemTy (P : Program) (t : TypeId) : Nat :=
  match P.underlying t with
  | some (.slice e) => e
  | _ => 0
def freshRow (st : Store) (e n : Nat) (xs : List AVal) : AVal × Store := (.own st.length n xs.length 0 xs.length, st ++ [.row e n xs])
def aappend (P : Program) (t : TypeId) (x : AVal) (ys : List AVal) (st : Store) : Option (AVal × Store) :=
  match elemInfo P t with
  | some (n, _) =>
    match x with
    | .nil => cond ys.isEmpty (some (.nil, st)) (if ys.length < most then some (freshRow st (elemTy P t) n ys) else none)
    | .tree true m xs => if m = n ∨ xs.length = 0 then (cond ys.isEmpty (some (x, st)) (if xs.length + ys.length < most then some (freshRow st (elemTy P t) n (xs ++ ys)) else none)) else none
    | .own r m top off len =>
      if m = n ∧ off = 0 ∧ rowTy st r = elemTy P t then
        match rowAt st r m top with
        | some xs =>
          cond ys.isEmpty (some (x, st)) <|
          if top + ys.length < most then
            (if len = top then some (.own r m (top + ys.length) 0 (top + ys.length), st.set r (.row (elemTy P t) m (xs ++ ys))) else none)
          else none
        | none => none
      else none
    | _ => none
  | none => none
def aappendOp (P : Program) (tys : List TypeId) (x y : AVal) (st : Store) : Option (AVal × Store) :=
  match tys with
  | [t, u] => match elemInfo P t with
    | some (n, z) => match P.underlying u with
      | some (.int _) => none
      | some _ => (contents st n y).bind fun ys => aappend P t x ys st
      | none => none
    | none => none
  | _ => none
def amake (P : Program) (t : TypeId) (l c : AVal) (st : Store) : Option (AVal × Store) :=
  match elemInfo P t with
  | some (n, z) => match l, c with
    | .int .i64 l, .int .i64 c => if l = c ∧ 0 ≤ l ∧ l < most ∧ z.cells.all AVal.isCell = true then some (freshRow st (elemTy P t) n (List.replicate l.toNat z)) else none
    | _, _ => none
  | none => none
def aruneList : List AVal → Option (List UInt8)
  | [] => some []
  | .int .i32 n :: l => (aruneList l).map fun s => (Utf8.encode n).data.toList ++ s
  | _ => none
def abyteList : List AVal → Option (List UInt8)
  | [] => some []
  | .int .u8 n :: l => (abyteList l).map fun s => UInt8.ofNat n.toNat :: s
  | _ => none
def runesOf (s : List UInt8) : List AVal := (Conv.runesFrom ⟨s.toArray⟩ s.length 0 #[]).toList.map ofConst1
def aconvS (P : Program) (src dst : TypeId) (x : AVal) (st : Store) : Option (AVal × Store) :=
  match P.underlying src, P.underlying dst with
  | some .string, some (.slice e) => match x, P.underlying e with
    | .str s, some (.int .u8) => some (freshRow st e 1 (s.map fun b => .int .u8 b.toNat))
    | .str s, some (.int .i32) => some (freshRow st e 1 (runesOf s))
    | _, _ => none
  | some (.slice e), some .string => match P.underlying e with
    | some (.int .u8) => (contents st 1 x).bind fun xs => (abyteList xs).map fun s => (.str s, st)
    | some (.int .i32) => (contents st 1 x).bind fun xs => (aruneList xs).map fun s => (.str s, st)
    | _ => none
  | some (.pointer t), some .unsafePointer => match x with
    | .ptr r top i off => match cellsAt st r top i with
      | some (n, _, _) => match szOf P t with
        | some (_ + 1) => cond (Nat.ble (off + 1) n) (some (.ptr r top i off, st)) none
        | _ => none
      | none => none
    | _ => none
  | some .unsafePointer, some (.pointer u) => match x with
    | .ptr r top i 0 => match cellsAt st r top i with
      | some (n, _, _) => match szOf P u with
        | some m => cond (Nat.beq m n && Nat.beq (rowTy st r) u) (some (.ptr r top i 0, st)) none
        | none => none
      | none => none
    | _ => none
  | _, _ => none
def asliceData (x : AVal) (st : Store) : Option AVal :=
  match x with
  | .nil => some .nilptr
  | .own r n top off len => match rowAt st r n top with
    | some _ => cond (Nat.beq len 0) none (some (.ptr r top off 0))
    | none => none
  | _ => none
def aunsafeStr (P : Program) (tys : List TypeId) (p l : AVal) (st : Store) : Option (AVal × Store) :=
  match p, l, tys with
  | .nilptr, .int .i64 n, [_, _] => if n = 0 then some (.str [], st) else none
  | .ptr r top 0 0, .int .i64 n, [pt, _] => match rowAt st r 1 top, P.underlying pt with
    | some xs, some (.pointer e) => match szOf P e with
      | some 1 => if 0 < n ∧ n ≤ xs.length ∧ n ≤ 9223372036854775807 ∧ rowTy st r = e then (abyteList (xs.take n.toNat)).map fun s => (.str s, st.set r .dead) else none
      | _ => none
    | _, _ => none
  | _, _, _ => none
def arange (P : Program) (t : TypeId) (x : AVal) (st : Store) : Option (AVal × Store) :=
  match P.underlying t with
  | some .string => match x with
    | .str s => some (.ptr st.length 0 0 0, st ++ [.iter s 0])
    | _ => none
  | _ => none
def anext (it : AVal) (isStr : Bool) (st : Store) : Option (AVal × Store) :=
  match it with
  | .ptr r 0 0 0 => match st[r]? with
    | some (.iter s pos) => cond isStr (
        if pos < s.length then
          some (.tup [.bool true, .int .i64 pos, .int .i32 (Utf8.decode ⟨s.toArray⟩ pos).1], st.set r (.iter s (pos + (Utf8.decode ⟨s.toArray⟩ pos).2)))
        else some (.tup [.bool false], st)) none
    | _ => none
  | _ => none

/-! ### calls -/
def lookN {α : Type} : List (Nat × α) → Nat → Option α
  | [], _ => none
  | (k, v) :: l, n => cond (Nat.beq k n) (some v) (lookN l n)
structure Env where
  pure : List (Nat × PFn)
  raw : List (Nat × SFn)
  glob : List (Nat × AVal)
  same : List Nat := []
  look : List (Nat × PFn) := []
def callP (F : PFn) (args : List AVal) : Option AVal := cond (closedL args) (F args) none

/-- What a function leaves behind, told without its own memory. -/
def packRow (st : Store) (r n top off len : Nat) : Option AVal :=
  match rowAt st r n top with
  | some xs => cond (closedL xs && Nat.ble (off + len) xs.length) (cond (Nat.beq len 0) (some (.tree false 0 [])) (some (.tree false n ((xs.drop off).take len)))) none
  | none => none
mutual
def packV (st : Store) : AVal → Option AVal
  | .own r n top off len => packRow st r n top off len
  | .ptr r top i off => match cellsAt st r top i with
    | some (_, _, v) => cond (closedL v.cells) (some (.rptr (v.cells.drop off))) none
    | none => none
  | .nil => some (.tree false 0 [])
  | .tree _ n xs => cond (closedL xs) (match xs with | [] => some (.tree false 0 []) | _ => some (.tree false n xs)) none
  | .agg cs => (packL st cs).map .agg
  | .tup vs => (packL st vs).map .tup
  | .iface t v => (packV st v).map (.iface t)
  | .int k n => some (.int k n)
  | .bool b => some (.bool b)
  | .str s => some (.str s)
  | .rptr cs => cond (closedL cs) (some (.rptr cs)) none
  | .nilptr => some .nilptr
  | .func f a b => cond (closedL a && closedL b) (some (.func f a b)) none
  | .nilfunc => some .nilfunc
  | .niliface => some .niliface
  | .map _ => none
  | .nilmap => some .nilmap
  | .any => some .any
def packL (st : Store) : List AVal → Option (List AVal)
  | [] => some []
  | v :: l => (packV st v).bind fun x => (packL st l).map fun y => x :: y
end
mutual
def scalar : AVal → Bool
  | .int .. => true
  | .bool _ => true
  | .str _ => true
  | .tup vs => scalarL vs
  | _ => false
def scalarL : List AVal → Bool
  | [] => true
  | v :: l => scalar v && scalarL l
end
/-- A function that but looks at its caller's memory, and tells numbers, truths and texts alone. -/
def callQ (F : PFn) (args : List AVal) (st : Store) : Option AVal := (packL st args).bind fun ys => (F ys).bind fun v => cond (scalar v) (some v) none
def closeF (F : SFn) : PFn := fun args => (F args []).bind fun p => packV p.2 p.1

end Go.EM
