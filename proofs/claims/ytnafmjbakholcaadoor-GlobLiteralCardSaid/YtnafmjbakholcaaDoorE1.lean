/- The evaluator over the model's own code. -/
import Derived.Test.YtnafmjbakholcaaDoorE0
set_option linter.unusedVariables false
namespace Go.EM

inductive AExit where
  | normal
  | exit (id : Nat)
  | ret

structure Hints where
  seqs : List (Nat × List Nat)
  loops : List (Nat × List Nat)
  own : List Nat

def memN : Nat → List Nat → Bool
  | _, [] => false
  | n, k :: l => cond (Nat.beq n k) true (memN n l)

def opnd (E : Env) (σ : Slots) : Operand → AVal
  | .tmp t => getS σ t
  | .const v => ofConst v
  | .global g => (lookN E.glob g).getD .any
  | .func f => .func (.func f) [] []

/-- 0: asks nothing of the store and leaves it; 1: asks; 2: may turn it. -/
def cls (E : Env) (h : Hints) (o : Oper) : Nat :=
  match o.op with
  | .move _ | .assign _ | .pick .. | .unOp .. | .index .. | .indexAddr .. | .fieldAddr .. | .field .. | .extract .. | .slice .. | .build ..
  | .makeInterface .. | .typeAssert .. | .makeFunc .. | .nilCheck _ => 0
  | .binOp .. => match o.dst with
    | some d => cond (memN d h.own) 1 0
    | none => 1
  | .convert .. | .buildSlice .. => match o.dst with
    | some d => cond (memN d h.own) 2 0
    | none => 2
  | .load .. => 1
  | .call c => match c.callee with
    | .builtin .len => match o.dst with
      | some d => cond (memN d h.own) 1 0
      | none => 1
    | .builtin .max | .builtin .min => 0
    | .builtin .unsafeSliceData => 1
    | .value (.func f) => match lookN E.pure f with
      | some _ => 0
      | none => cond (memN f E.same) 0 (match lookN E.look f with
        | some _ => 1
        | none => 2)
    | _ => 2
  | _ => 2

def isConst : Operand → Bool
  | .const _ => true
  | _ => false

def args (E : Env) (σ : Slots) : List Operand → List AVal
  | [] => []
  | x :: l => opnd E σ x :: args E σ l

/-- What an operation of class 0 comes to. -/
def opP (P : Program) (E : Env) (σ : Slots) (o : Oper) : Option AVal :=
  match o.op with
  | .move x => some (opnd E σ x)
  | .assign x => some (opnd E σ x)
  | .pick c a b => apick (opnd E σ c) (opnd E σ a) (opnd E σ b)
  | .binOp op t x y _ => abin P op t (isConst x || isConst y) (opnd E σ x) (opnd E σ y)
  | .unOp op _ x => aun op (opnd E σ x)
  | .convert src dst x => aconv P src dst (opnd E σ x)
  | .index t x i => aindex P t (opnd E σ x) (opnd E σ i)
  | .indexAddr t x i => aidx P t (opnd E σ x) (opnd E σ i)
  | .fieldAddr s x f => afaddr P s (opnd E σ x) f
  | .field s x f => afield P s (opnd E σ x) f
  | .extract x i => aextract (opnd E σ x) i
  | .slice t x lo hi mx => aslice P t (opnd E σ x) (lo.map (opnd E σ)) (hi.map (opnd E σ)) (mx.map (opnd E σ))
  | .build t parts => abuild P t (parts.toList.map fun p => (p.1, opnd E σ p.2))
  | .buildSlice t len parts => (abuildSlice P t len (parts.toList.map fun p => (p.1, opnd E σ p.2))).map fun p => .tree true p.1 p.2
  | .makeInterface t x => amkIface P t (opnd E σ x)
  | .typeAssert x _ a ok => aassert P (opnd E σ x) a ok
  | .makeFunc fn a c => some (.func fn (args E σ a.toList) (args E σ c.toList))
  | .nilCheck x => anilck (opnd E σ x)
  | .call c => match c.callee with
    | .builtin .len => match c.args.toList, c.argTypes.toList with
      | [x], [t] => alen P t (opnd E σ x)
      | _, _ => none
    | .builtin .max => aminmax true (args E σ c.args.toList)
    | .builtin .min => aminmax false (args E σ c.args.toList)
    | .value (.func f) => match lookN E.pure f with
      | some F => callP F (args E σ c.args.toList)
      | none => cond (memN f E.same) (match args E σ c.args.toList with | [x] => some x | _ => none) none
    | _ => none
  | _ => none

def aptrEq (st : Store) (x y : AVal) : Option Bool :=
  match x, y with
  | .nilptr, .nilptr => some true
  | .nilptr, .rptr _ => some false
  | .rptr _, .nilptr => some false
  | .nilptr, .ptr r top i _ => (cellsAt st r top i).map fun _ => false
  | .ptr r top i _, .nilptr => (cellsAt st r top i).map fun _ => false
  | .ptr r top i off, .ptr r' top' i' off' => if r = r' ∧ top = top' ∧ i = i' ∧ off = off' then (cellsAt st r top i).map fun _ => true else none
  | _, _ => none
def ptrSize (P : Program) (t : TypeId) : Nat :=
  match P.underlying t with
  | some (.pointer e) => (szOf P e).getD 0
  | _ => 0
def aptrOp (P : Program) (op : BinOp) (t : TypeId) (st : Store) (x y : AVal) : Option AVal :=
  cond (Nat.beq (ptrSize P t) 0) none (match op with
  | .eql => (aptrEq st x y).map .bool
  | .neq => (aptrEq st x y).map fun b => .bool !b
  | _ => none)

def callA (E : Env) (f : Nat) (xs : List AVal) (st : Store) : Option (AVal × Store) :=
  match lookN E.pure f with
  | some F => (callP F xs).map fun v => (v, st)
  | none => match lookN E.look f with
  | some F => (callQ F xs st).map fun v => (v, st)
  | none => match lookN E.raw f with
    | some F => F xs st
    | none => none
def callV (E : Env) (f : AVal) (xs : List AVal) (st : Store) : Option (AVal × Store) :=
  match f with
  | .func (.func f) a c => callA E f (a ++ xs ++ c) st
  | _ => none

/-- What any other operation comes to. -/
def opS (P : Program) (E : Env) (σ : Slots) (st : Store) (o : Oper) : Option (AVal × Store) :=
  match o.op with
  | .binOp op t x y _ => (aptrOp P op t st (opnd E σ x) (opnd E σ y)).map fun v => (v, st)
  | .convert src dst x => aconvS P src dst (opnd E σ x) st
  | .buildSlice t len parts => (abuildSlice P t len (parts.toList.map fun p => (p.1, opnd E σ p.2))).map fun p => freshRow st (elemTy P t) p.1 p.2
  | .load t a => (aload P t (opnd E σ a) st).map fun v => (v, st)
  | .store t a v => (astore P t (opnd E σ a) (opnd E σ v) st).map fun s => (.any, s)
  | .alloc t => aalloc P t st
  | .box t v => abox P t (opnd E σ v) st
  | .makeSlice t l c => amake P t (opnd E σ l) (opnd E σ c) st
  | .range t x => arange P t (opnd E σ x) st
  | .next it b => anext (opnd E σ it) b st
  | .call c => match c.callee with
    | .builtin .append => match c.args.toList with
      | [x, y] => aappendOp P c.argTypes.toList (opnd E σ x) (opnd E σ y) st
      | _ => none
    | .builtin .unsafeSliceData => match args E σ c.args.toList with
      | [x] => (asliceData x st).map fun v => (v, st)
      | _ => none
    | .builtin .unsafeString => match args E σ c.args.toList with
      | [x, y] => aunsafeStr P c.argTypes.toList x y st
      | _ => none
    | .value (.func f) => callA E f (args E σ c.args.toList) st
    | .value x => callV E (opnd E σ x) (args E σ c.args.toList) st
    | _ => none
  | _ => none

def guardV (c : AVal) (want : Bool) (f : Unit → Option AVal) : Option AVal :=
  match c with
  | .bool b => cond want (cond b (f ()) (some (.tup []))) (cond b (some (.tup [])) (f ()))
  | .tup [] => some (.tup [])
  | _ => none
def guardS (c : AVal) (want : Bool) (st : Store) (f : Unit → Option (AVal × Store)) : Option (AVal × Store) :=
  match c with
  | .bool b => cond want (cond b (f ()) (some (.tup [], st))) (cond b (some (.tup [], st)) (f ()))
  | .tup [] => some (.tup [], st)
  | _ => none
def condA {R : Type} (c : AVal) (a b : Unit → Option R) : Option R :=
  match c with
  | .bool t => cond t (a ()) (b ())
  | _ => none

def guardOf (ops : List Oper) (j : Nat) (σ : Slots) : AVal :=
  match (ops[j]?).bind (·.dst) with
  | some d => getS σ d
  | none => .any

def evalOps (P : Program) (E : Env) (h : Hints) {R : Type} (ops : List Oper) : List Oper → Slots → Store → (Slots → Store → Option R) → Option R
  | [], σ, st, K => K σ st
  | o :: os, σ, st, K =>
    match Nat.beq (cls E h o) 0 with
    | true => (match o.guard with
        | none => opP P E σ o
        | some (j, want) => guardV (guardOf ops j σ) want fun _ => opP P E σ o).bind fun v => match o.dst with
          | some d => evalOps P E h ops os ((d, v) :: σ) st K
          | none => evalOps P E h ops os σ st K
    | false => (match o.guard with
        | none => opS P E σ st o
        | some (j, want) => guardS (guardOf ops j σ) want st fun _ => opS P E σ st o).bind fun p => match o.dst with
          | some d => evalOps P E h ops os ((d, p.1) :: σ) p.2 K
          | none => evalOps P E h ops os σ p.2 K

/-- What needs no look. -/
def told (E : Env) (σ : Slots) (o : Oper) : Option AVal :=
  match o.guard with
  | some _ => none
  | none => match o.op with
    | .move x => some (opnd E σ x)
    | .assign x => some (opnd E σ x)
    | .makeFunc fn a c => some (.func fn (args E σ a.toList) (args E σ c.toList))
    | _ => none
def evalT (P : Program) (E : Env) (h : Hints) {R : Type} (ops : List Oper) : List Oper → Slots → Store → (Slots → Store → Option R) → Option R
  | [], σ, st, K => K σ st
  | o :: os, σ, st, K =>
    match told E σ o with
    | some v => match o.dst with
      | some d => evalT P E h ops os ((d, v) :: σ) st K
      | none => evalT P E h ops os σ st K
    | none =>
    match Nat.beq (cls E h o) 0 with
    | true => (match o.guard with
        | none => opP P E σ o
        | some (j, want) => guardV (guardOf ops j σ) want fun _ => opP P E σ o).bind fun v => match o.dst with
          | some d => evalT P E h ops os ((d, v) :: σ) st K
          | none => evalT P E h ops os σ st K
    | false => (match o.guard with
        | none => opS P E σ st o
        | some (j, want) => guardS (guardOf ops j σ) want st fun _ => opS P E σ st o).bind fun p => match o.dst with
          | some d => evalT P E h ops os ((d, p.1) :: σ) p.2 K
          | none => evalT P E h ops os σ p.2 K
theorem told_some {P : Program} {E : Env} {h : Hints} {σ : Slots} {o : Oper} {v : AVal} (ht : told E σ o = some v) : o.guard = none ∧ cls E h o = 0 ∧ opP P E σ o = some v := by
  unfold told at ht
  split at ht
  · cases ht
  · rename_i hg
    refine ⟨hg, ?_⟩
    split at ht
    · rename_i x ho; unfold cls opP; rw [ho]; exact ⟨rfl, ht⟩
    · rename_i x ho; unfold cls opP; rw [ho]; exact ⟨rfl, ht⟩
    · rename_i x y z ho; unfold cls opP; rw [ho]; exact ⟨rfl, ht⟩
    · cases ht
theorem evalT_eq {P : Program} {E : Env} {h : Hints} {R : Type} {ops : List Oper} {K : Slots → Store → Option R} : ∀ (os : List Oper) (σ : Slots) (st : Store), evalT P E h ops os σ st K = evalOps P E h ops os σ st K
  | [], σ, st => rfl
  | o :: os, σ, st => by
    have ih := fun σ st => evalT_eq (P := P) (E := E) (h := h) (ops := ops) (K := K) os σ st
    unfold evalT evalOps
    cases ht : told E σ o with
    | some v =>
      obtain ⟨h1, h2, h3⟩ := told_some (P := P) (h := h) ht
      have hb : Nat.beq (cls E h o) 0 = true := by rw [h2]; rfl
      simp only [hb, h1, h3, Option.bind_some, ih]
    | none =>
      simp only [ih]

/-! ### regions that draw their order -/
def bitsOf (acc : List Nat) : List Edge → Nat → Nat
  | [], s => s
  | e :: es, s => bitsOf acc es (cond (Region.binds .any e) (s ||| 2 ^ e.on ||| acc.getD e.on 0) s)
def befL : List Oper → List Nat → List Nat
  | [], acc => acc
  | o :: os, acc => befL os (acc ++ [bitsOf acc o.after.toList 0])
def bef (ops : List Oper) : List Nat := befL ops []
def looks (ops : List Oper) (o : Oper) : List Nat :=
  (o.op.operands.toList.filterMap fun | .tmp t => some t | _ => none) ++
  (match o.guard with
   | some (g, _) => ((ops[g]?).bind (·.dst)).toList
   | none => [])
/-- Do the two operations touch each other, by a slot, or by the store? -/
def clash (E : Env) (h : Hints) (ops : List Oper) (x y : Oper) : Bool :=
  (match x.dst with
   | some d => (looks ops y).contains d || y.dst == some d
   | none => false) ||
  (match y.dst with
   | some d => (looks ops x).contains d
   | none => false) ||
  (match cls E h x, cls E h y with
   | 0, _ => false
   | _, 0 => false
   | 1, 1 => false
   | _, _ => true)
def maskL : List Nat → Nat
  | [] => 0
  | t :: l => 2 ^ t ||| maskL l
def dstM (o : Oper) : Nat :=
  match o.dst with
  | some d => 2 ^ d
  | none => 0
/-- Does x, ahead of y, touch it? -/
def meets (dx lx cx dy ly cy : Nat) : Bool := !(Nat.beq (dx &&& (ly ||| dy)) 0) || !(Nat.beq (dy &&& lx) 0) || Nat.ble 2 (cx * cy)
def ahead (E : Env) (h : Hints) (ops : List Oper) (dy ly cy b : Nat) : List Oper → Nat → Bool
  | [], _ => true
  | x :: xs, i => (Nat.testBit b i || !(meets (dstM x) (maskL (looks ops x)) (cls E h x) dy ly cy)) && ahead E h ops dy ly cy b xs (i + 1)
def inOrder (E : Env) (h : Hints) (ops : List Oper) : List Oper → List Nat → Nat → Bool
  | [], _, _ => true
  | y :: ys, b :: bs, j => ahead E h ops (dstM y) (maskL (looks ops y)) (cls E h y) b (ops.take j) 0 && inOrder E h ops ys bs (j + 1)
  | _ :: _, [], _ => false
def backs : List Oper → Nat → Bool
  | [], _ => true
  | o :: os, j => (o.after.toList.all fun e => !Region.binds .any e || Nat.ble (e.on + 1) j) && backs os (j + 1)
def getN : List Nat → Nat → Nat
  | [], _ => 0
  | x :: _, 0 => x
  | _ :: l, n + 1 => getN l n
def bitsR (len : Nat) (acc : List Nat) : List Edge → Nat → Nat
  | [], s => s
  | e :: es, s => bitsR len acc es (cond (Region.binds .any e) (s ||| 2 ^ e.on ||| cond (Nat.ble (e.on + 1) len) (getN acc (len - (e.on + 1))) 0) s)
def befR : List Oper → Nat → List Nat → List Nat
  | [], _, acc => acc.reverse
  | o :: os, len, acc => befR os (len + 1) (bitsR len acc o.after.toList 0 :: acc)
def drawOk (P : Program) (E : Env) (h : Hints) (ops : Array Oper) : Bool := backs ops.toList 0 && inOrder E h ops.toList ops.toList (befR ops.toList 0 []) 0 && P.follows .mixedOrders

/-! ### code -/
def firstRegion : Code → Nat
  | .region id _ _ => id
  | .seq a _ => firstRegion a
  | .block _ a => firstRegion a
  | .loop a => firstRegion a
  | .cond _ a _ => firstRegion a
  | _ => 1000000

abbrev Live (R : Type) := (List AVal × Store) ⊕ R
def joinA {R : Type} (f : List AVal → Store → Option R) : Live R → Option R
  | .inl p => f p.1 p.2
  | .inr r => some r

def loopN {R : Type} (f : List AVal → Store → Option (Live R)) : Nat → List AVal → Store → Option R
  | 0, _, _ => none
  | n + 1, l, st => (f l st).bind (joinA (loopN f n))
open Classical in
noncomputable def loopA {R : Type} (f : List AVal → Store → Option (Live R)) (l : List AVal) (st : Store) : Option R :=
  if h : ∃ n r, loopN f n l st = some r then loopN f h.choose l st else none

noncomputable def D (P : Program) (E : Env) (h : Hints) : Code → (R : Type) → Slots → Store → (AExit → Slots → Store → Option R) → Option R
  | .skip, _, σ, st, K => K .normal σ st
  | .region _ ops draw, _, σ, st, K => cond (draw && !drawOk P E h ops) none (evalT P E h ops.toList ops.toList σ st (K .normal))
  | .seq a b, R, σ, st, K =>
    match lookN h.seqs (firstRegion b) with
    | some keep =>
      (D P E h a (Live R) σ st (fun e σ' st' => match e with
        | .normal => some (.inl (pickK keep σ', st'))
        | e => (K e σ' st').map .inr)).bind (joinA fun live st' => D P E h b R (plugK keep 0 live) st' K)
    | none => D P E h a R σ st (fun e σ' st' => match e with
        | .normal => D P E h b R σ' st' K
        | e => K e σ' st')
  | .cond c a b, R, σ, st, K => condA (opnd E σ c) (fun _ => D P E h a R σ st K) (fun _ => D P E h b R σ st K)
  | .block id b, R, σ, st, K => D P E h b R σ st (fun e σ' st' => match e with
      | .exit i => cond (Nat.beq i id) (K .normal σ' st') (K (.exit i) σ' st')
      | e => K e σ' st')
  | .loop b, R, σ, st, K =>
    match lookN h.loops (firstRegion b) with
    | some keep => loopA (fun live st' => D P E h b (Live R) (plugK keep 0 live) st' (fun e σ'' st'' => match e with
        | .normal => some (.inl (pickK keep σ'', st''))
        | e => (K e σ'' st'').map .inr)) (pickK keep σ) st
    | none => none
  | .exit id, _, σ, st, K => K (.exit id) σ st
  | .ret, _, σ, st, K => K .ret σ st
  | _, _, _, _, _ => none

/-! ### functions -/
def resL (P : Program) (σ : Slots) (st : Store) : List ResultVar → Option (List AVal)
  | [] => some []
  | .tmp t :: l => (resL P σ st l).map fun r => getS σ t :: r
  | .cell a t :: l => (aload P t (getS σ a) st).bind fun v => (resL P σ st l).map fun r => v :: r
def resV (P : Program) (σ : Slots) (st : Store) (rs : List ResultVar) : Option AVal :=
  match rs with
  | [.tmp t] => some (getS σ t)
  | rs => (resL P σ st rs).map fun l => match l with
    | [v] => v
    | l => .tup l
def dstsIn (n : Nat) : Code → Bool
  | .region _ ops _ => ops.toList.all fun o => match o.dst with
    | some d => Nat.ble (d + 1) n
    | none => true
  | .seq a b => dstsIn n a && dstsIn n b
  | .cond _ a b => dstsIn n a && dstsIn n b
  | .block _ b => dstsIn n b
  | .loop b => dstsIn n b
  | _ => true
noncomputable def runF (P : Program) (E : Env) (h : Hints) (fn : Func) : SFn := fun xs st =>
  cond (Nat.beq xs.length (fn.params.size + fn.nfree)) (cond (dstsIn fn.ntmps (fn.body.getD .skip) && Nat.ble (fn.params.size + fn.nfree) fn.ntmps)
    (match fn.body with
     | some c => D P E h c (AVal × Store) (plugK (List.range (fn.params.size + fn.nfree)) 0 xs) st (fun e σ st' => match e with
        | .normal => (resV P σ st' fn.results.toList).map fun v => (v, st')
        | .ret => (resV P σ st' fn.results.toList).map fun v => (v, st')
        | _ => none)
     | none => none) none) none

end Go.EM
