import Derived.Orders
import Derived.KernelRfl
import Derived.Below
import Derived.Laws.Sem
import Derived.Laws.Tables
import Derived.Laws.Cells
import Derived.Laws.Slices
import Derived.Laws.Strings
import Derived.Laws.Build
import Derived.Laws.Append
import Derived.Laws.AppendOwn
import Derived.Laws.MakeOwn
import Derived.Laws.RangeString
import Derived.Laws.StructEq
import Derived.Laws.BytesString
import Derived.Lib.ConvBytes
import Derived.ChangeKeysEq
set_option linter.unusedVariables false
namespace Go.EM
inductive AVal where
 | int (k:IntKind) (n:Int)
 | bool (b:Bool)
 | str (s:List UInt8)
 | agg (cs:List AVal)
 | tup (vs:List AVal)
 | nil
 | tree (full:Bool) (n:Nat) (xs:List AVal)
 | own (r n top off len:Nat)
 | ptr (r top i off:Nat)
 | rptr (cs:List AVal)
 | nilptr
 | func (fn:Fn) (first cap:List AVal)
 | nilfunc
 | iface (t:Nat) (v:AVal)
 | niliface
 | map (r:Nat)
 | nilmap
 | any
instance:Inhabited AVal:=⟨.any⟩
inductive AReg where
 | row (e n:Nat) (xs:List AVal)
 | map (es:List (AVal×AVal))
 | iter (s:List UInt8) (pos:Nat)
 | dead
abbrev aq:=List AReg
abbrev PFn:=List AVal→Option AVal
abbrev SFn:=List AVal→aq→Option (AVal×aq)
def AVal.cells:AVal→List AVal
 | .agg cs=>cs
 | v=>[v]
def AVal.isAgg:AVal→Bool
 | .agg _=>true
 | _=>false
def AVal.isCell:AVal→Bool
 | .agg _=>false
 | .tup _=>false
 | .any=>false
 | _=>true
mutual
def closed:AVal→Bool
 | .int .. => true
 | .bool _=>true
 | .str _=>true
 | .agg cs=>aA cs
 | .tup vs=>aA vs
 | .nil=>true
 | .tree _ _ xs=>aA xs
 | .own .. => false
 | .ptr .. => false
 | .rptr cs=>aA cs
 | .nilptr=>true
 | .func _ a b=>aA a&&aA b
 | .nilfunc=>true
 | .iface _ v=>closed v
 | .niliface=>true
 | .map _=>false
 | .nilmap=>true
 | .any=>true
def aA:List AVal→Bool
 | []=>true
 | v::l=>closed v&&aA l
end
def getL:List AVal→Nat→AVal
 | [],_=>.any
 | v::_,0=>v
 | _::l,n+1=>getL l n
abbrev aN:=List (Nat×AVal)
def getS:aN→Nat→AVal
 | [],_=>.any
 | (k,v)::l,n=>cond (Nat.beq k n) v (getS l n)
def dA:List Nat→Nat→List AVal→aN
 | [],_,_=>[]
 | k::ks,j,l=>(k,getL l j)::dA ks (j+1) l
def ff:List Nat→aN→List AVal
 | [],_=>[]
 | k::ks,σ=>getS σ k::ff ks σ
def szOf (P:Program) (t:TypeId):Option Nat:=(P.info? t).map (·.size)
def eQ:TypeDesc→Bool
 | .struct _=>true
 | .array .. => true
 | _=>false
def d7:Value→AVal
 | .bool b=>.bool b
 | .int k n=>.int k n
 | .string s=>.str s.data.toList
 | .pointer none=>.nilptr
 | .slice none 0 0=>.nil
 | .map none=>.nilmap
 | .nilFunc=>.nilfunc
 | .nilIface=>.niliface
 | _=>.any
def dW:Value→AVal
 | .agg cs=>.agg (cs.toList.map d7)
 | v=>d7 v
def zeroOf (P:Program) (t:TypeId):Option AVal:=((P.info? t).bind (·.zero)).map dW
def cS (P:Program) (t:TypeId) (cs:List AVal) (off:Nat):Option AVal :=
 match szOf P t,P.underlying t with
 | some n,some d=>cond (eQ d) (cond (Nat.ble (off+n) cs.length) (some (.agg ((cs.drop off).take n))) none) (cs[off]?)
 | _,_=>none
def aint (op:BinOp) (k:IntKind) (a b:Int):Option AVal :=
 match op with
 | .add=>some (.int k (k.wrap (a+b)))
 | .sub=>some (.int k (k.wrap (a-b)))
 | .mul=>some (.int k (k.wrap (a*b)))
 | .quo=>if b=0 then none else some (.int k (k.wrap (a.tdiv b)))
 | .rem=>if b=0 then none else some (.int k (a.tmod b))
 | .and=>some (.int k (k.wrap ((BitVec.ofInt k.bits a &&& BitVec.ofInt k.bits b).toNat)))
 | .or=>some (.int k (k.wrap ((BitVec.ofInt k.bits a ||| BitVec.ofInt k.bits b).toNat)))
 | .xor=>some (.int k (k.wrap ((BitVec.ofInt k.bits a ^^^ BitVec.ofInt k.bits b).toNat)))
 | .andNot=>some (.int k (k.wrap ((BitVec.ofInt k.bits a &&& ~~~ BitVec.ofInt k.bits b).toNat)))
 | .eql=>some (.bool (a==b))
 | .neq=>some (.bool (a != b))
 | .lss=>some (.bool (decide (a<b)))
 | .leq=>some (.bool (decide (a≤b)))
 | .gtr=>some (.bool (decide (a>b)))
 | .geq=>some (.bool (decide (a≥b)))
 | _=>none
def sm (op:BinOp) (k:IntKind) (a b:Int):Option AVal :=
 if b<0 then none else
 match op with
 | .shl=>some (.int k (k.wrap (a*2 ^ (min b.toNat k.bits))))
 | .shr=>some (.int k (a.fdiv (2 ^ (min b.toNat k.bits))))
 | _=>none
def astr (op:BinOp) (x y:List UInt8):Option AVal :=
 match op with
 | .add=>if ((x.length+y.length:Nat):Int)>IntKind.i64.max then none else some (.str (x++y))
 | .eql=>some (.bool (x==y))
 | .neq=>some (.bool !(x==y))
 | .lss=>some (.bool (Op.bytesLess x y))
 | .leq=>some (.bool (Op.bytesLess x y||x==y))
 | .gtr=>some (.bool !(Op.bytesLess x y||x==y))
 | .geq=>some (.bool !(Op.bytesLess x y))
 | _=>none
def ke (f:AVal→AVal→TypeId→Option Bool) (P:Program):List Field→List AVal→List AVal→Option Bool
 | [],_,_=>some true
 | fd::fs,xs,ys =>
   if fd.name = "_" then ke f P fs xs ys else
   match cS P fd.type xs fd.offset,cS P fd.type ys fd.offset with
   | some a,some b=>(f a b fd.type).bind fun r=>cond r (ke f P fs xs ys) (some false)
   | _,_=>none
def sr (f:AVal→AVal→TypeId→Option Bool) (P:Program) (e:TypeId) (n:Nat):List Nat→List AVal→List AVal→Option Bool
 | [],_,_=>some true
 | i::is,xs,ys =>
   match cS P e xs (i*n),cS P e ys (i*n) with
   | some a,some b=>(f a b e).bind fun r=>cond r (sr f P e n is xs ys) (some false)
   | _,_=>none
def aeq (P:Program):Nat→TypeId→AVal→AVal→Option Bool
 | 0,_,_,_=>none
 | d+1,t,x,y =>
   match P.underlying t with
   | some .bool=>match x,y with
     | .bool a,.bool b=>some (a==b)
     | _,_=>none
   | some (.int _)=>match x,y with
     | .int k a,.int k' b=>if k=k' then some (a==b) else none
     | _,_=>none
   | some .string=>match x,y with
     | .str a,.str b=>some (a==b)
     | _,_=>none
   | some (.pointer _)=>match x,y with
     | .nilptr,.nilptr=>some true
     | .nilptr,.rptr _=>some false
     | .rptr _,.nilptr=>some false
     | _,_=>none
   | some (.interface _)=>match x,y with
     | .niliface,.niliface=>some true
     | .niliface,.iface _ _=>some false
     | .iface _ _,.niliface=>some false
     | _,_=>none
   | some (.func _ _ _)=>match x,y with
     | .nilfunc,.nilfunc=>some true
     | .nilfunc,.func _ _ _=>some false
     | .func _ _ _,.nilfunc=>some false
     | _,_=>none
   | some (.slice _)=>match x,y with
     | .nil,.nil=>some true
     | .tree _ _ (_::_),.nil=>some false
     | .own _ _ _ _ (_+1),.nil=>some false
     | _,_=>none
   | some (.struct fs)=>match x,y with
     | .agg xs,.agg ys=>if P.stoodInHeld t then none else ke (fun a b u=>aeq P d u a b) P fs.toList xs ys
     | _,_=>none
   | some (.array len e)=>match x,y with
     | .agg xs,.agg ys=>(szOf P e).bind fun n=>sr (fun a b u=>aeq P d u a b) P e n (List.range len) xs ys
     | _,_=>none
   | _=>none
def eqOk (P:Program) (t:TypeId) (lit:Bool) (x y:AVal):Bool :=
 match x,y with
 | .niliface,.niliface=>lit
 | .agg _,.agg _ => !(P.eqGuardType P.depth t)
 | _,_=>true
def abin (P:Program) (op:BinOp) (t:TypeId) (lit:Bool) (x y:AVal):Option AVal :=
 match op with
 | .shl | .shr=>match x,y with
   | .int k a,.int _ b=>sm op k a b
   | _,_=>none
 | .eql=>match x,y with
   | .int k a,.int k' b=>if k=k' then aint .eql k a b else none
   | .str a,.str b=>astr .eql a b
   | x,y=>cond (eqOk P t lit x y) ((aeq P 8 t x y).map .bool) none
 | .neq=>match x,y with
   | .int k a,.int k' b=>if k=k' then aint .neq k a b else none
   | .str a,.str b=>astr .neq a b
   | x,y=>cond (eqOk P t lit x y) ((aeq P 8 t x y).map fun b=>.bool !b) none
 | op=>match x,y with
   | .int k a,.int k' b=>if k=k' then aint op k a b else none
   | .str a,.str b=>astr op a b
   | _,_=>none
def aun (op:UnOp) (x:AVal):Option AVal :=
 match op,x with
 | .neg,.int k n=>some (.int k (k.wrap (0-n)))
 | .xor,.int k n=>aint .xor k (if k.signed then -1 else k.max) n
 | .not,.bool b=>some (.bool !b)
 | _,_=>none
def acB (c a b:AVal):Option AVal :=
 match c with
 | .bool t=>some (cond t a b)
 | _=>none
def ss (P:Program) (src dst:TypeId) (x:AVal):Option AVal :=
 match P.underlying src,P.underlying dst with
 | some _,some (.int k)=>match x with
   | .int _ n=>some (.int k (k.wrap n))
   | _=>none
 | some _,some .string=>match x with
   | .str s=>some (.str s)
   | .int _ n=>some (.str (Utf8.encode n).data.toList)
   | _=>none
 | _,_=>none
def my (P:Program) (t:TypeId) (x i:AVal):Option AVal :=
 match i with
 | .int _ i=>match P.underlying t with
   | some .string=>match x with
     | .str s=>if 0≤i then (s[i.toNat]?).map fun b=>.int .u8 b.toNat else none
     | _=>none
   | some (.array len e)=>match x with
     | .agg cs=>if 0≤i∧i<len then (szOf P e).bind fun n=>cS P e cs (i.toNat*n) else none
     | _=>none
   | _=>none
 | _=>none
def aidx (P:Program) (t:TypeId) (x i:AVal):Option AVal :=
 match i with
 | .int _ i=>match P.underlying t with
   | some (.slice e)=>match szOf P e with
     | some n=>match x with
       | .tree _ m xs=>if m=n∧n≠0∧0≤i then (xs[i.toNat]?).map fun v=>.rptr v.cells else none
       | .own r m top off len=>if m=n∧n≠0∧0≤i∧i<len then some (.ptr r top (off+i.toNat) 0) else none
       | _=>none
     | none=>none
   | some (.array len e)=>match szOf P e with
     | some n=>match x with
       | .ptr r top k off=>if 0≤i∧i<len then some (.ptr r top k (off+i.toNat*n)) else none
       | .rptr cs=>if 0≤i∧i<len then some (.rptr (cs.drop (i.toNat*n))) else none
       | _=>none
     | none=>none
   | _=>none
 | _=>none
def jR (P:Program) (s:TypeId) (f:Nat):Option Field :=
 match P.underlying s with
 | some (.struct fs)=>fs[f]?
 | _=>none
def ji (P:Program) (s:TypeId) (x:AVal) (f:Nat):Option AVal :=
 match jR P s f with
 | some fd=>match szOf P fd.type with
   | some (_+1)=>match x with
     | .ptr r top i off=>some (.ptr r top i (off+fd.offset))
     | .rptr cs=>some (.rptr (cs.drop fd.offset))
     | _=>none
   | _=>none
 | none=>none
def oC (P:Program) (s:TypeId) (x:AVal) (f:Nat):Option AVal :=
 match jR P s f with
 | some fd=>match x with
   | .agg cs=>cS P fd.type cs fd.offset
   | _=>none
 | none=>none
def jj (x:AVal) (i:Nat):Option AVal :=
 match x with
 | .tup vs=>vs[i]?
 | _=>none
def dU (v:Option AVal) (d:Nat):Option Nat :=
 match v with
 | none=>some d
 | some (.int _ i)=>if 0≤i then some i.toNat else none
 | some _=>none
def hX (P:Program) (t:TypeId) (x:AVal) (lo hi mx:Option AVal):Option AVal :=
 match P.underlying t with
 | some .string=>match x with
   | .str s=>match mx with
     | some _=>none
     | none=>match dU lo 0,dU hi s.length with
       | some l,some h=>if l≤h∧h≤s.length then some (.str ((s.take h).drop l)) else none
       | _,_=>none
   | _=>none
 | some (.slice e)=>match szOf P e with
   | some n=>match x with
     | .nil=>match dU lo 0,dU hi 0,dU mx 0 with
       | some 0,some 0,some 0=>if mx.isSome&&hi.isNone then none else some .nil
       | _,_,_=>none
     | .tree full m xs=>match mx with
       | some v=>match dU lo 0,dU hi 0,dU (some v) 0 with
         | some 0,some 0,some 0=>if hi.isNone then none else some (.tree true m [])
         | _,_,_=>none
       | none=>match dU lo 0,dU hi xs.length with
         | some l,some h=>if (m=n∨xs.length=0)∧l≤h∧h≤xs.length then some (.tree (full&&h==xs.length) m ((xs.take h).drop l)) else none
         | _,_=>none
     | .own r m top off len=>match mx with
       | some v=>match dU lo 0,dU hi 0,dU (some v) 0 with
         | some 0,some 0,some 0=>if hi.isNone then none else some (.tree true m [])
         | _,_,_=>none
       | none=>match dU lo 0,dU hi len with
         | some l,some h=>if m=n∧l≤h∧h≤len then some (.own r m top (off+l) (h-l)) else none
         | _,_=>none
     | _=>none
   | none=>none
 | _=>none
def alen (P:Program) (t:TypeId) (x:AVal):Option AVal :=
 match P.underlying t with
 | some .string=>match x with
   | .str s=>some (.int .i64 s.length)
   | _=>none
 | some (.array n _)=>some (.int .i64 n)
 | some (.slice _)=>match x with
   | .nil=>some (.int .i64 0)
   | .tree _ _ xs=>some (.int .i64 xs.length)
   | .own _ _ _ _ len=>some (.int .i64 len)
   | _=>none
 | _=>none
def fits (P:Program) (t:TypeId) (v:AVal):Bool :=
 match szOf P t,P.underlying t with
 | some n,some d=>(v.cells.length==n)&&(v.isAgg==eQ d)&&v.cells.all AVal.isCell&&(n != 0)
 | _,_=>false
def uz (P:Program) (fs:Array Field):List AVal→List (Nat×AVal)→Option (List AVal)
 | cs,[]=>some cs
 | cs,(i,v)::rest=>match fs[i]? with
   | none=>none
   | some fd=>match szOf P fd.type with
     | none=>none
     | some n=>if v.cells.length=n∧fd.offset+n≤cs.length∧v.cells.all AVal.isCell=true then uz P fs (cs.take fd.offset++v.cells++cs.drop (fd.offset+n)) rest else none
def oE (P:Program) (t:TypeId) (parts:List (Nat×AVal)):Option AVal :=
 match zeroOf P t,P.underlying t with
 | some z,some (.struct fs)=>if fs.all (fun f=>(P.info? f.type).isSome) then (uz P fs z.cells parts).map .agg else none
 | _,_=>none
def xN:Nat→List (Nat×AVal)→Bool
 | _,[]=>true
 | k,(i,_)::l=>(i==k)&&xN (k+1) l
def cV (P:Program) (t:TypeId) (len:Nat) (parts:List (Nat×AVal)):Option (Nat×List AVal) :=
 match P.underlying t with
 | some (.slice e)=>match szOf P e,zeroOf P e with
   | some n,some _=>if xN 0 parts&&(parts.length==len)&&parts.all (fun p=>fits P e p.2)&&decide (len*n≤2 ^ 24∧n≠0) then some (n,parts.map (·.2)) else none
   | _,_=>none
 | _=>none
def qc (P:Program) (t:TypeId) (x:AVal):Option AVal :=
 match P.underlying t with
 | some (.interface _)=>none
 | some _=>some (.iface t x)
 | none=>none
def uB (P:Program) (x:AVal) (asserted:TypeId) (ok:Bool):Option AVal :=
 match P.underlying asserted with
 | some (.interface _)=>none
 | some _=>match x with
   | .iface t v=>if t=asserted then some (cond ok (.tup [v,.bool true]) v) else cond ok ((zeroOf P asserted).map fun z=>.tup [z,.bool false]) none
   | .niliface=>cond ok ((zeroOf P asserted).map fun z=>.tup [z,.bool false]) none
   | _=>none
 | none=>none
def wy (x:AVal):Option AVal :=
 match x with
 | .ptr r top i off=>some (.ptr r top i off)
 | .rptr cs=>some (.rptr cs)
 | _=>none
def gx (mx:Bool):List AVal→Option AVal
 | [.int k a,.int k' b]=>if k=k' then some (.int k (cond mx (if b>a then b else a) (if b<a then b else a))) else none
 | [.int k a, .int k' b, .int k'' c] => if k = k' ∧ k = k'' then
     some (.int k (cond mx (if c>(if b>a then b else a) then c else (if b>a then b else a)) (if c<(if b<a then b else a) then c else (if b<a then b else a)))) else none
 | _=>none
def rowAt (st:aq) (r n top:Nat):Option (List AVal) :=
 match st[r]? with
 | some (.row _ m xs)=>if m=n∧xs.length=top then some xs else none
 | _=>none
def rowTy (st:aq) (r:Nat):Nat :=
 match st[r]? with
 | some (.row e _ _)=>e
 | _=>0
def bm (st:aq) (r top i:Nat):Option (Nat×List AVal×AVal) :=
 match st[r]? with
 | some (.row _ n xs)=>if xs.length=top then (xs[i]?).map fun v=>(n,xs,v) else none
 | _=>none
def jg (P:Program) (t:TypeId) (a:AVal) (st:aq):Option AVal :=
 match a with
 | .rptr cs=>cS P t cs 0
 | .ptr r top i off=>match bm st r top i with
   | some (_,_,v)=>cS P t v.cells off
   | none=>none
 | _=>none
def mw (P:Program) (t:TypeId) (a:AVal):Option AVal :=
 match a with
 | .rptr cs=>cS P t cs 0
 | _=>none
theorem acC {P:Program}{t:TypeId}{a v:AVal} (st:aq) (h:mw P t a=some v):jg P t a st=some v:=by
 unfold mw at h
 split at h
 · exact h
 · cases h
def putCells (x:AVal) (off:Nat) (v:AVal):AVal :=
 match x with
 | .agg cs=>.agg (cs.take off++v.cells++cs.drop (off+v.cells.length))
 | _=>v
def kd (P:Program) (t:TypeId) (a v:AVal) (st:aq):Option aq :=
 match a with
 | .ptr r top i off=>match bm st r top i with
   | some (n,xs,x)=>if fits P t v∧off+v.cells.length≤x.cells.length∧(x.isAgg∨¬ v.isAgg) then some (st.set r (.row (rowTy st r) n (xs.set i (putCells x off v)))) else none
   | none=>none
 | _=>none
def abox (P:Program) (t:TypeId) (v:AVal) (st:aq):Option (AVal×aq) :=
 if fits P t v then some (.ptr st.length 1 0 0,st++[.row t v.cells.length [v]]) else none
def kf (P:Program) (t:TypeId) (st:aq):Option (AVal×aq):=(zeroOf P t).bind fun v=>abox P t v st
def bw (st:aq) (n:Nat):AVal→Option (List AVal)
 | .nil=>some []
 | .tree _ m xs=>if m=n∨xs.length=0 then some xs else none
 | .own r m top off len=>if m=n then (rowAt st r m top).map fun xs=>(xs.drop off).take len else none
 | .str s=>if n=1 then some (s.map fun b=>.int .u8 b.toNat) else none
 | _=>none
def most:Nat:=4294967296
def cG (P:Program) (t:TypeId):Option (Nat×AVal) :=
 match P.underlying t with
 | some (.slice e)=>match P.info? e with
   | some i=>match i.zero with
     | some z=>if i.size≠0∧i.bytes≤16384∧i.bytes≠0∧z.cells.size=i.size then some (i.size,dW z) else none
     | none=>none
   | none=>none
 | _=>none
def bp (P:Program) (t:TypeId):Nat :=
 match P.underlying t with
 | some (.slice e)=>e
 | _=>0
def bf (st:aq) (e n:Nat) (xs:List AVal):AVal×aq:=(.own st.length n xs.length 0 xs.length,st++[.row e n xs])
def dE (P:Program) (t:TypeId) (x:AVal) (ys:List AVal) (st:aq):Option (AVal×aq) :=
 match cG P t with
 | some (n,_) =>
   match x with
   | .nil=>cond ys.isEmpty (some (.nil,st)) (if ys.length<most then some (bf st (bp P t) n ys) else none)
   | .tree true m xs=>if m=n∨xs.length=0 then (cond ys.isEmpty (some (x,st)) (if xs.length+ys.length<most then some (bf st (bp P t) n (xs++ys)) else none)) else none
   | .own r m top off len =>
     if m=n∧off=0∧rowTy st r=bp P t then
       match rowAt st r m top with
       | some xs =>
         cond ys.isEmpty (some (x,st)) <|
         if top+ys.length<most then
           (if len=top then some (.own r m (top+ys.length) 0 (top+ys.length),st.set r (.row (bp P t) m (xs++ys))) else none)
         else none
       | none=>none
     else none
   | _=>none
 | none=>none
def cD (P:Program) (tys:List TypeId) (x y:AVal) (st:aq):Option (AVal×aq) :=
 match tys with
 | [t,u]=>match cG P t with
   | some (n,z)=>match P.underlying u with
     | some (.int _)=>none
     | some _=>(bw st n y).bind fun ys=>dE P t x ys st
     | none=>none
   | none=>none
 | _=>none
def yk (P:Program) (t:TypeId) (l c:AVal) (st:aq):Option (AVal×aq) :=
 match cG P t with
 | some (n,z)=>match l,c with
   | .int .i64 l,.int .i64 c=>if l=c∧0≤l∧l<most∧z.cells.all AVal.isCell=true then some (bf st (bp P t) n (List.replicate l.toNat z)) else none
   | _,_=>none
 | none=>none
def cN:List AVal→Option (List UInt8)
 | []=>some []
 | .int .i32 n::l=>(cN l).map fun s=>(Utf8.encode n).data.toList++s
 | _=>none
def ck:List AVal→Option (List UInt8)
 | []=>some []
 | .int .u8 n::l=>(ck l).map fun s=>UInt8.ofNat n.toNat::s
 | _=>none
def jw (s:List UInt8):List AVal:=(Conv.runesFrom ⟨s.toArray⟩ s.length 0 #[]).toList.map d7
def gy (P:Program) (src dst:TypeId) (x:AVal) (st:aq):Option (AVal×aq) :=
 match P.underlying src,P.underlying dst with
 | some .string,some (.slice e)=>match x,P.underlying e with
   | .str s,some (.int .u8)=>some (bf st e 1 (s.map fun b=>.int .u8 b.toNat))
   | .str s,some (.int .i32)=>some (bf st e 1 (jw s))
   | _,_=>none
 | some (.slice e),some .string=>match P.underlying e with
   | some (.int .u8)=>(bw st 1 x).bind fun xs=>(ck xs).map fun s=>(.str s,st)
   | some (.int .i32)=>(bw st 1 x).bind fun xs=>(cN xs).map fun s=>(.str s,st)
   | _=>none
 | some (.pointer t),some .unsafePointer=>match x with
   | .ptr r top i off=>match bm st r top i with
     | some (n,_,_)=>match szOf P t with
       | some (_+1)=>cond (Nat.ble (off+1) n) (some (.ptr r top i off,st)) none
       | _=>none
     | none=>none
   | _=>none
 | some .unsafePointer,some (.pointer u)=>match x with
   | .ptr r top i 0=>match bm st r top i with
     | some (n,_,_)=>match szOf P u with
       | some m=>cond (Nat.beq m n&&Nat.beq (rowTy st r) u) (some (.ptr r top i 0,st)) none
       | none=>none
     | none=>none
   | _=>none
 | _,_=>none
def ed (x:AVal) (st:aq):Option AVal :=
 match x with
 | .nil=>some .nilptr
 | .own r n top off len=>match rowAt st r n top with
   | some _=>cond (Nat.beq len 0) none (some (.ptr r top off 0))
   | none=>none
 | _=>none
def dD (P:Program) (tys:List TypeId) (p l:AVal) (st:aq):Option (AVal×aq) :=
 match p,l,tys with
 | .nilptr,.int .i64 n,[_,_]=>if n=0 then some (.str [],st) else none
 | .ptr r top 0 0,.int .i64 n,[pt,_]=>match rowAt st r 1 top,P.underlying pt with
   | some xs,some (.pointer e)=>match szOf P e with
     | some 1=>if 0<n∧n≤xs.length∧n≤9223372036854775807∧rowTy st r=e then (ck (xs.take n.toNat)).map fun s=>(.str s,st.set r .dead) else none
     | _=>none
   | _,_=>none
 | _,_,_=>none
def ox (P:Program) (t:TypeId) (x:AVal) (st:aq):Option (AVal×aq) :=
 match P.underlying t with
 | some .string=>match x with
   | .str s=>some (.ptr st.length 0 0 0,st++[.iter s 0])
   | _=>none
 | _=>none
def uw (it:AVal) (isStr:Bool) (st:aq):Option (AVal×aq) :=
 match it with
 | .ptr r 0 0 0=>match st[r]? with
   | some (.iter s pos) => cond isStr (
       if pos<s.length then
         some (.tup [.bool true,.int .i64 pos,.int .i32 (Utf8.decode ⟨s.toArray⟩ pos).1],st.set r (.iter s (pos+(Utf8.decode ⟨s.toArray⟩ pos).2)))
       else some (.tup [.bool false],st)) none
   | _=>none
 | _=>none
def oD (P:Program) (tys:List TypeId) (x:AVal) (st:aq):Option (AVal×aq) :=
 match tys with
 | [t]=>match cG P t with
   | some (n,z)=>match x with
     | .own r m top off len => if m = n ∧ off + len ≤ top ∧ z.cells.all AVal.isCell = true then
         (rowAt st r m top).map fun xs=>(.tup [],st.set r (.row (rowTy st r) m (xs.take off++List.replicate len z++xs.drop (off+len)))) else none
     | _=>none
   | none=>none
 | _=>none
def keyC:AVal→AVal→Bool
 | .int k a,.int l b=>decide (k=l)&&decide (a=b)
 | .bool a,.bool b=>a==b
 | .str a,.str b=>decide (a=b)
 | _,_=>false
def keyL:List AVal→List AVal→Bool
 | [],[]=>true
 | x::xs,y::ys=>keyC x y&&keyL xs ys
 | _,_=>false
def keyB:AVal→AVal→Bool
 | .agg xs,.agg ys=>keyL xs ys
 | x,y=>keyC x y
def akey (P:Program):Nat→TypeId→AVal→Bool
 | 0,_,_=>false
 | d+1,t,x=>match P.underlying t with
   | some .bool=>match x with
     | .bool _=>true
     | _=>false
   | some (.int _)=>match x with
     | .int _ _=>true
     | _=>false
   | some .string=>match x with
     | .str _=>true
     | _=>false
   | some (.struct fs)=>match x with
     | .agg xs=>fs.toList.all fun fd=>decide (fd.name = "_")||(match cS P fd.type xs fd.offset with
       | some a=>akey P d fd.type a
       | none=>false)
     | _=>false
   | _=>false
def jQ (P:Program) (kt:TypeId) (k:AVal):List (AVal×AVal)→Nat→Option (Option (Nat×AVal))
 | [],_=>some none
 | e::es,i=>(aeq P 8 kt k e.1).bind fun b=>cond b (cond (keyB e.1 k) (some (some (i,e.2))) none) (jQ P kt k es (i+1))
def vH (st:aq):AVal→Option (List (AVal×AVal))
 | .map r=>match st[r]? with
   | some (.map es)=>some es
   | _=>none
 | .nilmap=>some []
 | _=>none
def io (P:Program) (t:TypeId) (m k:AVal) (ok:Bool) (st:aq):Option AVal :=
 match P.underlying t with
 | some (.map kt et)=>cond (akey P 8 kt k) ((vH st m).bind fun es=>(jQ P kt k es 0).bind fun q=>match q with
   | some p=>some (cond ok (.tup [p.2,.bool true]) p.2)
   | none=>(zeroOf P et).map fun z=>cond ok (.tup [z,.bool false]) z) none
 | _=>none
def fO (P:Program) (t:TypeId) (m k v:AVal) (st:aq):Option aq :=
 match P.underlying t with
 | some (.map kt _)=>cond (akey P 8 kt k) (match m with
   | .map r=>match st[r]? with
     | some (.map es)=>(jQ P kt k es 0).map fun q=>match q with
       | some p=>st.set r (.map (es.set p.1 (k,v)))
       | none=>st.set r (.map (es++[(k,v)]))
     | _=>none
   | _=>none) none
 | _=>none
def aK {α:Type}:List (Nat×α)→Nat→Option α
 | [],_=>none
 | (k,v)::l,n=>cond (Nat.beq k n) (some v) (aK l n)
structure Env where
 pure:List (Nat×PFn)
 raw:List (Nat×SFn)
 glob:List (Nat×AVal)
 same:List Nat:=[]
 look:List (Nat×PFn):=[]
 ext:List (Nat×PFn):=[]
 quiet:List Nat:=[]
def kp (F:PFn) (args:List AVal):Option AVal:=cond (aA args) (F args) none
def pa (st:aq) (r n top off len:Nat):Option AVal :=
 match rowAt st r n top with
 | some xs=>cond (aA xs&&Nat.ble (off+len) xs.length) (cond (Nat.beq len 0) (some (.tree false 0 [])) (some (.tree false n ((xs.drop off).take len)))) none
 | none=>none
mutual
def cj (st:aq):AVal→Option AVal
 | .own r n top off len=>pa st r n top off len
 | .ptr r top i off=>match bm st r top i with
   | some (_,_,v)=>cond (aA v.cells) (some (.rptr (v.cells.drop off))) none
   | none=>none
 | .nil=>some (.tree false 0 [])
 | .tree _ n xs=>cond (aA xs) (match xs with | []=>some (.tree false 0 []) | _=>some (.tree false n xs)) none
 | .agg cs=>(cz st cs).map .agg
 | .tup vs=>(cz st vs).map .tup
 | .iface t v=>(cj st v).map (.iface t)
 | .int k n=>some (.int k n)
 | .bool b=>some (.bool b)
 | .str s=>some (.str s)
 | .rptr cs=>cond (aA cs) (some (.rptr cs)) none
 | .nilptr=>some .nilptr
 | .func f a b=>cond (aA a&&aA b) (some (.func f a b)) none
 | .nilfunc=>some .nilfunc
 | .niliface=>some .niliface
 | .map _=>none
 | .nilmap=>some .nilmap
 | .any=>some .any
def cz (st:aq):List AVal→Option (List AVal)
 | []=>some []
 | v::l=>(cj st v).bind fun x=>(cz st l).map fun y=>x::y
end
mutual
def scalar:AVal→Bool
 | .int .. => true
 | .bool _=>true
 | .str _=>true
 | .tup vs=>ek vs
 | _=>false
def ek:List AVal→Bool
 | []=>true
 | v::l=>scalar v&&ek l
end
def yh (F:PFn) (args:List AVal) (st:aq):Option AVal:=(cz st args).bind fun ys=>(F ys).bind fun v=>cond (scalar v) (some v) none
def aH (F:SFn):PFn:=fun args=>(F args []).bind fun p=>cj p.2 p.1
end Go.EM
namespace Go.EM
inductive AExit where
 | normal
 | exit (id:Nat)
 | ret
structure Hints where
 seqs:List (Nat×List Nat)
 loops:List (Nat×List Nat)
 own:List Nat
 frz:List (Nat×List Nat):=[]
def memN:Nat→List Nat→Bool
 | _,[]=>false
 | n,k::l=>cond (Nat.beq n k) true (memN n l)
def opnd (E:Env) (σ:aN):Operand→AVal
 | .tmp t=>getS σ t
 | .const v=>dW v
 | .global g=>(aK E.glob g).getD .any
 | .func f=>.func (.func f) [] []
def cls (E:Env) (h:Hints) (o:Oper):Nat :=
 match o.op with
 | .pick .. | .unOp .. | .index .. | .indexAddr .. | .fieldAddr .. | .field .. | .extract .. | .slice .. | .build ..
 | .makeInterface .. | .typeAssert .. | .makeFunc .. | .nilCheck _=>0
 | .move _ | .assign _=>match o.dst with
   | some d=>cond (memN d h.own) 2 0
   | none=>0
 | .binOp .. => match o.dst with
   | some d=>cond (memN d h.own) 1 0
   | none=>1
 | .convert .. | .buildSlice .. => match o.dst with
   | some d=>cond (memN d h.own) 2 0
   | none=>2
 | .load .. => match o.dst with
   | some d=>cond (memN d h.own) 0 1
   | none=>1
 | .lookup .. => 1
 | .call c=>match c.callee with
   | .builtin .len=>match o.dst with
     | some d=>cond (memN d h.own) 1 0
     | none=>1
   | .builtin .max | .builtin .min=>0
   | .builtin .unsafeSliceData=>1
   | .value (.func f)=>match aK E.pure f with
     | some _=>0
     | none=>cond (memN f E.same) 0 (match aK E.ext f with
       | some _=>0
       | none=>match aK E.look f with
         | some _=>1
         | none=>cond (memN f E.quiet) 1 2)
   | _=>2
 | _=>2
def isConst:Operand→Bool
 | .const _=>true
 | _=>false
def args (E:Env) (σ:aN):List Operand→List AVal
 | []=>[]
 | x::l=>opnd E σ x::args E σ l
def opP (P:Program) (E:Env) (σ:aN) (o:Oper):Option AVal :=
 match o.op with
 | .move x=>some (opnd E σ x)
 | .assign x=>some (opnd E σ x)
 | .pick c a b=>acB (opnd E σ c) (opnd E σ a) (opnd E σ b)
 | .binOp op t x y _=>abin P op t (isConst x||isConst y) (opnd E σ x) (opnd E σ y)
 | .unOp op _ x=>aun op (opnd E σ x)
 | .convert src dst x=>ss P src dst (opnd E σ x)
 | .index t x i=>my P t (opnd E σ x) (opnd E σ i)
 | .indexAddr t x i=>aidx P t (opnd E σ x) (opnd E σ i)
 | .fieldAddr s x f=>ji P s (opnd E σ x) f
 | .field s x f=>oC P s (opnd E σ x) f
 | .extract x i=>jj (opnd E σ x) i
 | .slice t x lo hi mx=>hX P t (opnd E σ x) (lo.map (opnd E σ)) (hi.map (opnd E σ)) (mx.map (opnd E σ))
 | .build t parts=>oE P t (parts.toList.map fun p=>(p.1,opnd E σ p.2))
 | .buildSlice t len parts=>(cV P t len (parts.toList.map fun p=>(p.1,opnd E σ p.2))).map fun p=>.tree true p.1 p.2
 | .makeInterface t x=>qc P t (opnd E σ x)
 | .typeAssert x _ a ok=>uB P (opnd E σ x) a ok
 | .makeFunc fn a c=>some (.func fn (args E σ a.toList) (args E σ c.toList))
 | .nilCheck x=>wy (opnd E σ x)
 | .load t a=>mw P t (opnd E σ a)
 | .call c=>match c.callee with
   | .builtin .len=>match c.args.toList,c.argTypes.toList with
     | [x],[t]=>alen P t (opnd E σ x)
     | _,_=>none
   | .builtin .max=>gx true (args E σ c.args.toList)
   | .builtin .min=>gx false (args E σ c.args.toList)
   | .value (.func f)=>match aK E.pure f with
     | some F=>kp F (args E σ c.args.toList)
     | none=>cond (memN f E.same) (match args E σ c.args.toList with | [x]=>some x | _=>none) (match aK E.ext f with
       | some F=>kp F (args E σ c.args.toList)
       | none=>none)
   | _=>none
 | _=>none
def eS (st:aq) (x y:AVal):Option Bool :=
 match x,y with
 | .nilptr,.nilptr=>some true
 | .nilptr,.rptr _=>some false
 | .rptr _,.nilptr=>some false
 | .nilptr,.ptr r top i _=>(bm st r top i).map fun _=>false
 | .ptr r top i _,.nilptr=>(bm st r top i).map fun _=>false
 | .ptr r top i off,.ptr r' top' i' off'=>if r=r'∧top=top'∧i=i'∧off=off' then (bm st r top i).map fun _=>true else none
 | _,_=>none
def lw (P:Program) (t:TypeId):Nat :=
 match P.underlying t with
 | some (.pointer e)=>(szOf P e).getD 0
 | _=>0
def oy (P:Program) (op:BinOp) (t:TypeId) (st:aq) (x y:AVal):Option AVal :=
 cond (Nat.beq (lw P t) 0) none (match op with
 | .eql=>(eS st x y).map .bool
 | .neq=>(eS st x y).map fun b=>.bool !b
 | _=>none)
def il (E:Env) (f:Nat) (xs:List AVal) (st:aq):Option (AVal×aq) :=
 match aK E.pure f with
 | some F=>(kp F xs).map fun v=>(v,st)
 | none=>match aK E.look f with
 | some F=>(yh F xs st).map fun v=>(v,st)
 | none=>match aK E.raw f with
   | some F=>F xs st
   | none=>none
def yg (E:Env) (f:AVal) (xs:List AVal) (st:aq):Option (AVal×aq) :=
 match f with
 | .func (.func f) a c=>il E f (a++xs++c) st
 | _=>none
open Classical in
noncomputable def qV (r:Option (AVal×aq)) (st:aq):Option (AVal×aq):=if ∃ v,r=some (v,st) then r else none
theorem lu {r:Option (AVal×aq)}{st:aq}{p:AVal×aq} (h:qV r st=some p):r=some p∧p.2=st:=by
 unfold qV at h
 split at h
 · rename_i hv
   obtain ⟨v,hv⟩:=hv
   refine ⟨h,?_⟩
   rw[hv] at h; cases h; rfl
 · cases h
theorem aa0 {r:Option (AVal×aq)}{st:aq} (h:∀ p,r=some p→p.2=st):qV r st=r:=by
 unfold qV
 cases r with
 | none=>split<;>rfl
 | some p=>rw[if_pos ⟨p.1,by rw[← h p rfl]⟩]
def fJ (v:AVal) (st:aq):Option (AVal×aq) :=
 match v with
 | .own r n top off len=>if off=0∧len=top then (rowAt st r n top).map fun xs=>(.tree false n xs,st.set r .dead) else none
 | v=>some (v,st)
noncomputable def opS (P:Program) (E:Env) (σ:aN) (st:aq) (o:Oper):Option (AVal×aq) :=
 match o.op with
 | .binOp op t x y _=>(oy P op t st (opnd E σ x) (opnd E σ y)).map fun v=>(v,st)
 | .convert src dst x=>gy P src dst (opnd E σ x) st
 | .buildSlice t len parts=>(cV P t len (parts.toList.map fun p=>(p.1,opnd E σ p.2))).map fun p=>bf st (bp P t) p.1 p.2
 | .load t a=>(jg P t (opnd E σ a) st).map fun v=>(v,st)
 | .store t a v=>(kd P t (opnd E σ a) (opnd E σ v) st).map fun s=>(.any,s)
 | .alloc t=>kf P t st
 | .box t v=>abox P t (opnd E σ v) st
 | .makeSlice t l c=>yk P t (opnd E σ l) (opnd E σ c) st
 | .range t x=>ox P t (opnd E σ x) st
 | .next it b=>uw (opnd E σ it) b st
 | .assign x=>fJ (opnd E σ x) st
 | .move x=>fJ (opnd E σ x) st
 | .makeMap _ r=>cond r.isNone (some (.map st.length,st++[.map []])) none
 | .lookup t m k ok=>(io P t (opnd E σ m) (opnd E σ k) ok st).map fun v=>(v,st)
 | .mapUpdate t m k v=>(fO P t (opnd E σ m) (opnd E σ k) (opnd E σ v) st).map fun s=>(.any,s)
 | .call c=>match c.callee with
   | .builtin .append=>match c.args.toList with
     | [x,y]=>cD P c.argTypes.toList (opnd E σ x) (opnd E σ y) st
     | _=>none
   | .builtin .unsafeSliceData=>match args E σ c.args.toList with
     | [x]=>(ed x st).map fun v=>(v,st)
     | _=>none
   | .builtin .unsafeString=>match args E σ c.args.toList with
     | [x,y]=>dD P c.argTypes.toList x y st
     | _=>none
   | .builtin .clear=>match args E σ c.args.toList with
     | [x]=>oD P c.argTypes.toList x st
     | _=>none
   | .value (.func f)=>cond (memN f E.quiet) (qV (il E f (args E σ c.args.toList) st) st) (il E f (args E σ c.args.toList) st)
   | .value x=>yg E (opnd E σ x) (args E σ c.args.toList) st
   | _=>none
 | _=>none
def rE (c:AVal) (want:Bool) (f:Unit→Option AVal):Option AVal :=
 match c with
 | .bool b=>cond want (cond b (f ()) (some (.tup []))) (cond b (some (.tup [])) (f ()))
 | .tup []=>some (.tup [])
 | _=>none
def lV (c:AVal) (want:Bool) (st:aq) (f:Unit→Option (AVal×aq)):Option (AVal×aq) :=
 match c with
 | .bool b=>cond want (cond b (f ()) (some (.tup [],st))) (cond b (some (.tup [],st)) (f ()))
 | .tup []=>some (.tup [],st)
 | _=>none
def aj7 {R:Type} (c:AVal) (a b:Unit→Option R):Option R :=
 match c with
 | .bool t=>cond t (a ()) (b ())
 | _=>none
def guardOf (ops:List Oper) (j:Nat) (σ:aN):AVal :=
 match (ops[j]?).bind (·.dst) with
 | some d=>getS σ d
 | none=>.any
noncomputable def bl (P:Program) (E:Env) (h:Hints) {R:Type} (ops:List Oper):List Oper→aN→aq→(aN→aq→Option R)→Option R
 | [],σ,st,K=>K σ st
 | o::os,σ,st,K =>
   match Nat.beq (cls E h o) 0 with
   | true => (match o.guard with
       | none=>opP P E σ o
       | some (j,want)=>rE (guardOf ops j σ) want fun _=>opP P E σ o).bind fun v=>match o.dst with
         | some d=>bl P E h ops os ((d,v)::σ) st K
         | none=>bl P E h ops os σ st K
   | false => (match o.guard with
       | none=>opS P E σ st o
       | some (j,want)=>lV (guardOf ops j σ) want st fun _=>opS P E σ st o).bind fun p=>match o.dst with
         | some d=>bl P E h ops os ((d,p.1)::σ) p.2 K
         | none=>bl P E h ops os σ p.2 K
def told (E:Env) (h:Hints) (σ:aN) (o:Oper):Option AVal :=
 match o.guard with
 | some _=>none
 | none=>match o.op with
   | .move x=>cond (Nat.beq (cls E h o) 0) (some (opnd E σ x)) none
   | .assign x=>cond (Nat.beq (cls E h o) 0) (some (opnd E σ x)) none
   | .makeFunc fn a c=>some (.func fn (args E σ a.toList) (args E σ c.toList))
   | _=>none
noncomputable def pP (P:Program) (E:Env) (h:Hints) {R:Type} (ops:List Oper):List Oper→aN→aq→(aN→aq→Option R)→Option R
 | [],σ,st,K=>K σ st
 | o::os,σ,st,K =>
   match told E h σ o with
   | some v=>match o.dst with
     | some d=>pP P E h ops os ((d,v)::σ) st K
     | none=>pP P E h ops os σ st K
   | none =>
   match Nat.beq (cls E h o) 0 with
   | true => (match o.guard with
       | none=>opP P E σ o
       | some (j,want)=>rE (guardOf ops j σ) want fun _=>opP P E σ o).bind fun v=>match o.dst with
         | some d=>pP P E h ops os ((d,v)::σ) st K
         | none=>pP P E h ops os σ st K
   | false => (match o.guard with
       | none=>opS P E σ st o
       | some (j,want)=>lV (guardOf ops j σ) want st fun _=>opS P E σ st o).bind fun p=>match o.dst with
         | some d=>pP P E h ops os ((d,p.1)::σ) p.2 K
         | none=>pP P E h ops os σ p.2 K
theorem aav {P:Program}{E:Env}{h:Hints}{σ:aN}{o:Oper}{v:AVal} (ht:told E h σ o=some v):o.guard=none∧cls E h o=0∧opP P E σ o=some v:=by
 unfold told at ht
 split at ht
 · cases ht
 · rename_i hg
   refine ⟨hg,?_⟩
   split at ht
   · rename_i x ho
     cases hb:Nat.beq (cls E h o) 0 with
     | false=>rw[hb] at ht; cases ht
     | true=>rw[hb,cond_true] at ht; exact ⟨Nat.eq_of_beq_eq_true hb,by unfold opP; rw[ho]; exact ht⟩
   · rename_i x ho
     cases hb:Nat.beq (cls E h o) 0 with
     | false=>rw[hb] at ht; cases ht
     | true=>rw[hb,cond_true] at ht; exact ⟨Nat.eq_of_beq_eq_true hb,by unfold opP; rw[ho]; exact ht⟩
   · rename_i x y z ho; unfold cls opP; rw[ho]; exact ⟨rfl,ht⟩
   · cases ht
theorem iV {P:Program}{E:Env}{h:Hints}{R:Type}{ops:List Oper}{K:aN→aq→Option R}:∀ (os:List Oper) (σ:aN) (st:aq),pP P E h ops os σ st K=bl P E h ops os σ st K
 | [],σ,st=>rfl
 | o::os,σ,st=>by
   have ih:=fun σ st=>iV (P:=P) (E:=E) (h:=h) (ops:=ops) (K:=K) os σ st
   unfold pP bl
   cases ht:told E h σ o with
   | some v =>
     obtain ⟨h1,h2,h3⟩:=aav (P:=P) (h:=h) ht
     have hb:Nat.beq (cls E h o) 0=true:=by rw[h2]; rfl
     simp only[hb,h1,h3,Option.bind_some,ih]
   | none =>
     simp only[ih]
def bitsOf (acc:List Nat):List Edge→Nat→Nat
 | [],s=>s
 | e::es,s=>bitsOf acc es (cond (Region.binds .any e) (s ||| 2 ^ e.on ||| acc.getD e.on 0) s)
def befL:List Oper→List Nat→List Nat
 | [],acc=>acc
 | o::os,acc=>befL os (acc++[bitsOf acc o.after.toList 0])
def bef (ops:List Oper):List Nat:=befL ops []
def looks (ops:List Oper) (o:Oper):List Nat :=
 (o.op.operands.toList.filterMap fun | .tmp t=>some t | _=>none) ++
 (match o.guard with
  | some (g,_)=>((ops[g]?).bind (·.dst)).toList
  | none=>[])
def clash (E:Env) (h:Hints) (ops:List Oper) (x y:Oper):Bool :=
 (match x.dst with
  | some d=>(looks ops y).contains d||y.dst==some d
  | none=>false) ||
 (match y.dst with
  | some d=>(looks ops x).contains d
  | none=>false) ||
 (match cls E h x,cls E h y with
  | 0,_=>false
  | _,0=>false
  | 1,1=>false
  | _,_=>true)
def mR:List Nat→Nat
 | []=>0
 | t::l=>2 ^ t ||| mR l
def dstM (o:Oper):Nat :=
 match o.dst with
 | some d=>2 ^ d
 | none=>0
def meets (dx lx cx dy ly cy:Nat):Bool := !(Nat.beq (dx &&& (ly ||| dy)) 0) || !(Nat.beq (dy &&& lx) 0)||Nat.ble 2 (cx*cy)
def ahead (E:Env) (h:Hints) (ops:List Oper) (dy ly cy b:Nat):List Oper→Nat→Bool
 | [],_=>true
 | x::xs,i=>(Nat.testBit b i || !(meets (dstM x) (mR (looks ops x)) (cls E h x) dy ly cy))&&ahead E h ops dy ly cy b xs (i+1)
def jL (E:Env) (h:Hints) (ops:List Oper):List Oper→List Nat→Nat→Bool
 | [],_,_=>true
 | y::ys,b::bs,j=>ahead E h ops (dstM y) (mR (looks ops y)) (cls E h y) b (ops.take j) 0&&jL E h ops ys bs (j+1)
 | _::_,[],_=>false
def acy:List Oper→Nat→Bool
 | [],_=>true
 | o::os,j=>(o.after.toList.all fun e => !Region.binds .any e||Nat.ble (e.on+1) j)&&acy os (j+1)
def getN:List Nat→Nat→Nat
 | [],_=>0
 | x::_,0=>x
 | _::l,n+1=>getN l n
def aeA (len:Nat) (acc:List Nat):List Edge→Nat→Nat
 | [],s=>s
 | e::es,s=>aeA len acc es (cond (Region.binds .any e) (s ||| 2 ^ e.on ||| cond (Nat.ble (e.on+1) len) (getN acc (len-(e.on+1))) 0) s)
def befR:List Oper→Nat→List Nat→List Nat
 | [],_,acc=>acc.reverse
 | o::os,len,acc=>befR os (len+1) (aeA len acc o.after.toList 0::acc)
def mh (P:Program) (E:Env) (h:Hints) (ops:Array Oper):Bool:=acy ops.toList 0&&jL E h ops.toList ops.toList (befR ops.toList 0 []) 0&&P.follows .mixedOrders
def bb:Code→Nat
 | .region id _ _=>id
 | .seq a _=>bb a
 | .block _ a=>bb a
 | .loop a=>bb a
 | .cond _ a _=>bb a
 | _=>1000000
abbrev Live (R:Type):=(List AVal×aq)⊕R
def mT {R:Type} (f:List AVal→aq→Option R):Live R→Option R
 | .inl p=>f p.1 p.2
 | .inr r=>some r
def gS {R:Type} (f:List AVal→aq→Option (Live R)):Nat→List AVal→aq→Option R
 | 0,_,_=>none
 | n+1,l,st=>(f l st).bind (mT (gS f n))
open Classical in
noncomputable def mS {R:Type} (f:List AVal→aq→Option (Live R)) (l:List AVal) (st:aq):Option R :=
 if h:∃ n r,gS f n l st=some r then gS f h.choose l st else none
def lY (v:AVal) (st:aq):Option (AVal×aq) :=
 match v with
 | .ptr r 1 0 0=>(bm st r 1 0).map fun p=>(.rptr p.2.2.cells,st.set r .dead)
 | _=>none
def frzA:List Nat→aN→aq→Option (aN×aq)
 | [],σ,st=>some (σ,st)
 | k::ks,σ,st=>(lY (getS σ k) st).bind fun p=>frzA ks ((k,p.1)::σ) p.2
def aem (h:Hints) (id:Nat):List Nat:=match h.frz with
 | []=>[]
 | l=>(aK l id).getD []
noncomputable def D (P:Program) (E:Env) (h:Hints):Code→(R:Type)→aN→aq→(AExit→aN→aq→Option R)→Option R
 | .skip,_,σ,st,K=>K .normal σ st
 | .region id ops draw,_,σ,st,K=>(frzA (aem h id) σ st).bind fun p=>cond (draw && !mh P E h ops) none (pP P E h ops.toList ops.toList p.1 p.2 (K .normal))
 | .seq a b,R,σ,st,K =>
   match aK h.seqs (bb b) with
   | some keep =>
     (D P E h a (Live R) σ st (fun e σ' st'=>match e with
       | .normal=>some (.inl (ff keep σ',st'))
       | e=>(K e σ' st').map .inr)).bind (mT fun live st'=>D P E h b R (dA keep 0 live) st' K)
   | none => D P E h a R σ st (fun e σ' st' => match e with
       | .normal=>D P E h b R σ' st' K
       | e=>K e σ' st')
 | .cond c a b,R,σ,st,K=>aj7 (opnd E σ c) (fun _=>D P E h a R σ st K) (fun _=>D P E h b R σ st K)
 | .block id b, R, σ, st, K => D P E h b R σ st (fun e σ' st' => match e with
     | .exit i=>cond (Nat.beq i id) (K .normal σ' st') (K (.exit i) σ' st')
     | e=>K e σ' st')
 | .loop b,R,σ,st,K =>
   match aK h.loops (bb b) with
   | some keep => mS (fun live st' => D P E h b (Live R) (dA keep 0 live) st' (fun e σ'' st'' => match e with
       | .normal=>some (.inl (ff keep σ'',st''))
       | e=>(K e σ'' st'').map .inr)) (ff keep σ) st
   | none=>none
 | .exit id,_,σ,st,K=>K (.exit id) σ st
 | .ret,_,σ,st,K=>K .ret σ st
 | _,_,_,_,_=>none
def resL (P:Program) (σ:aN) (st:aq):List ResultVar→Option (List AVal)
 | []=>some []
 | .tmp t::l=>(resL P σ st l).map fun r=>getS σ t::r
 | .cell a t::l=>(jg P t (getS σ a) st).bind fun v=>(resL P σ st l).map fun r=>v::r
def resV (P:Program) (σ:aN) (st:aq) (rs:List ResultVar):Option AVal :=
 match rs with
 | [.tmp t]=>some (getS σ t)
 | rs=>(resL P σ st rs).map fun l=>match l with
   | [v]=>v
   | l=>.tup l
def ct (n:Nat):Code→Bool
 | .region _ ops _=>ops.toList.all fun o=>match o.dst with
   | some d=>Nat.ble (d+1) n
   | none=>true
 | .seq a b=>ct n a&&ct n b
 | .cond _ a b=>ct n a&&ct n b
 | .block _ b=>ct n b
 | .loop b=>ct n b
 | _=>true
noncomputable def runF (P:Program) (E:Env) (h:Hints) (fn:Func):SFn:=fun xs st =>
 cond (Nat.beq xs.length (fn.params.size+fn.nfree)) (cond (ct fn.ntmps (fn.body.getD .skip)&&Nat.ble (fn.params.size+fn.nfree) fn.ntmps)
   (match fn.body with
    | some c=>D P E h c (AVal×aq) (dA (List.range (fn.params.size+fn.nfree)) 0 xs) st (fun e σ st'=>match e with
       | .normal=>(resV P σ st' fn.results.toList).map fun v=>(v,st')
       | .ret=>(resV P σ st' fn.results.toList).map fun v=>(v,st')
       | _=>none)
    | none=>none) none) none
end Go.EM
set_option linter.unusedSectionVars false
namespace Go.EM
class Drawn where
 on:Prop
variable [Drawn]
structure RI where
 block:Nat
 stride:Nat
 cap:Nat
 top:Nat
abbrev AM:=List (Option RI)
def fu (α:AM) (b:Nat):Prop:=∃ (r:Nat) (ri:RI),α[r]? = some (some ri)∧ri.block=b
mutual
def Rep (w:World) (O:Nat→Prop) (α:AM):AVal→Value→Prop
 | .int k n,v=>v = .int k n
 | .bool b,v=>v = .bool b
 | .str s,v=>v = .string ⟨s.toArray⟩
 | .agg cs,v=>∃ l:List Value,v = .agg l.toArray∧RepL w O α cs l
 | .tup vs,v=>∃ l:List Value,v = .tuple l.toArray∧RepL w O α vs l
 | .nil,v=>v = .slice none 0 0
 | .tree full n xs, v => ∃ a cap, v = .slice a xs.length cap ∧ xs.length ≤ cap ∧ (full = true → cap = xs.length) ∧
     (xs=[]∨n≠0∧∃ b off,a=some ⟨b,off,none⟩∧¬ O b∧¬ fu α b∧bg w O α n b off xs)
 | .own r n top off len, v => r < α.length ∧ ∃ a cap, v = .slice a len cap ∧ len ≤ cap ∧ (len = 0 ∨ ∃ b o, a = some ⟨b, o, none⟩) ∧
     ∀ ri,α[r]? = some (some ri)→top≤ri.top∧(ri.top=top→ri.stride=n∧off+len≤top∧cap=ri.cap-off∧(off<ri.cap→a=some ⟨ri.block,off*n,none⟩))
 | .ptr r top i off, v => r < α.length ∧ ∃ b o, v = .pointer (some ⟨b, o, none⟩) ∧
     ∀ ri,α[r]? = some (some ri)→top≤ri.top∧(ri.top=top→b=ri.block∧o=i*ri.stride+off)
 | .rptr cs,v=>∃ b off,v = .pointer (some ⟨b,off,none⟩)∧(cs=[]∨¬ O b∧¬ fu α b∧bZ w O α b off cs)
 | .nilptr,v=>v = .pointer none
 | .func fn a c,v=>∃ l m:List Value,v = .func fn l.toArray m.toArray∧RepL w O α a l∧RepL w O α c m
 | .nilfunc,v=>v = .nilFunc
 | .iface t x,v=>∃ u,v = .iface t u∧Rep w O α x u
 | .niliface,v=>v = .nilIface
 | .map r,v=>r<α.length∧∃ b,v = .map (some b)∧∀ ri,α[r]? = some (some ri)→ri.top=0→b=ri.block
 | .nilmap,v=>v = .map none
 | .any,_=>True
def RepL (w:World) (O:Nat→Prop) (α:AM):List AVal→List Value→Prop
 | [],l=>l=[]
 | x::xs,l=>∃ v vs,l=v::vs∧Rep w O α x v∧RepL w O α xs vs
def bg (w:World) (O:Nat→Prop) (α:AM) (n b:Nat):Nat→List AVal→Prop
 | _,[]=>True
 | off,x::xs=>(∃ v,Rep w O α x v∧x.cells.length=n∧v.cells.size=n∧(∀ j,j<n→w.cell? ⟨b,off+j,none⟩=v.cells[j]?)∧∀ u∈v.cells,u.oneCell'=true)∧bg w O α n b (off+n) xs
def bZ (w:World) (O:Nat→Prop) (α:AM) (b:Nat):Nat→List AVal→Prop
 | _,[]=>True
 | off,c::cs=>(∃ v,w.cell? ⟨b,off,none⟩=some v∧Rep w O α c v)∧bZ w O α b (off+1) cs
end
structure Ext (w:World) (α:AM) (w':World) (α':AM):Prop where
 os:w'.os=w.os
 tape:w'.tape=w.tape
 output:w'.output=w.output
 size:w.heap.size≤w'.heap.size
 old:∀ b,b<w.heap.size→¬ fu α b→w'.heap[b]? = w.heap[b]?
 len:α.length≤α'.length
 keep:∀ r ri',r<α.length→α'[r]? = some (some ri')→∃ ri,α[r]? = some (some ri)∧ri.top≤ri'.top∧(ri.top=ri'.top→ri=ri')
 own:∀ b,fu α' b→w.heap.size≤b∨fu α b
 dr:Drawn.on→w.drawn≤w'.drawn
theorem Ext.refl (w:World) (α:AM):Ext w α w α :=
 ⟨rfl,rfl,rfl,Nat.le_refl _,fun _ _ _=>rfl,Nat.le_refl _,fun r ri _ h=>⟨ri,h,Nat.le_refl _,fun _=>rfl⟩,fun b h=>.inr h,fun _=>Nat.le_refl _⟩
theorem Ext.trans {w w' w'':World}{α α' α'':AM} (h:Ext w α w' α') (k:Ext w' α' w'' α''):Ext w α w'' α'' where
 os:=k.os.trans h.os
 tape:=k.tape.trans h.tape
 output:=k.output.trans h.output
 size:=Nat.le_trans h.size k.size
 old b hb ho:=(k.old b (Nat.lt_of_lt_of_le hb h.size) (fun hx=>(h.own b hx).elim (fun hge=>absurd hb (Nat.not_lt.mpr hge)) ho)).trans (h.old b hb ho)
 len:=Nat.le_trans h.len k.len
 keep r ri'' hr hx:=by
   obtain ⟨ri',h1,h2,h3⟩:=k.keep r ri'' (Nat.lt_of_lt_of_le hr h.len) hx
   obtain ⟨ri,g1,g2,g3⟩:=h.keep r ri' hr h1
   refine ⟨ri,g1,Nat.le_trans g2 h2,fun e => ?_⟩
   have e1:ri.top=ri'.top:=by omega
   have e2:ri'.top=ri''.top:=by omega
   exact (g3 e1).trans (h3 e2)
 own b hb:=by
   rcases k.own b hb with h1 | h1
   · exact .inl (Nat.le_trans h.size h1)
   · exact h.own b h1
 dr hd:=Nat.le_trans (h.dr hd) (k.dr hd)
theorem block_lt {w:World}{b o:Nat}{u:Value} (h:w.cell? ⟨b,o,none⟩=some u):b<w.heap.size:=World.block_lt_of_cell? (w:=w) (a:=⟨b,o,none⟩) h
theorem je {w w':World}{b:Nat} (h:w'.heap[b]? = w.heap[b]?) (o:Nat):w'.cell? ⟨b,o,none⟩=w.cell? ⟨b,o,none⟩:=by
 simp only[World.cell?,h]
theorem tT {w w':World}{b:Nat} (h:w'.heap[b]? = w.heap[b]?) (o:Nat):w'.frozen? ⟨b,o,none⟩=w.frozen? ⟨b,o,none⟩:=by
 simp only[World.frozen?,h]
structure Pres (c:Bool) (w:World) (O:Nat→Prop) (α:AM) (w':World) (O':Nat→Prop) (α':AM):Prop where
 cell:∀ b o u,¬ O b→¬ fu α b→w.cell? ⟨b,o,none⟩=some u→w'.cell? ⟨b,o,none⟩=some u
 out:∀ b o u,¬ O b→¬ fu α b→w.cell? ⟨b,o,none⟩=some u→¬ O' b∧¬ fu α' b
 len:c=false→α.length≤α'.length
 keep:c=false→∀ (r:Nat) (ri':RI),r<α.length→α'[r]? = some (some ri')→∃ ri,α[r]? = some (some ri)∧ri.top≤ri'.top∧(ri.top=ri'.top→ri=ri')
theorem Pres.of_ext {w w':World}{O:Nat→Prop}{α α':AM} (h:Ext w α w' α'):Pres false w O α w' O α' where
 cell b o u hO hW hc:=by rw[je (h.old b (block_lt hc) hW)]; exact hc
 out b o u hO hW hc:=⟨hO,fun hw=>by
   rcases h.own b hw with h1 | h1
   · have:=block_lt hc; omega
   · exact hW h1⟩
 len _:=h.len
 keep _:=h.keep
section
variable {c:Bool}{w w':World}{O O':Nat→Prop}{α α':AM}
theorem mE {n b off:Nat}{x:AVal}{xs:List AVal} (hn:n≠0) (h:bg w O α n b off (x::xs)):∃ u,w.cell? ⟨b,off,none⟩=some u:=by
 simp only[bg] at h
 obtain ⟨⟨v,_,_,hs,hc,_⟩,_⟩:=h
 have h0:=hc 0 (by omega)
 rw[Array.getElem?_eq_getElem (by omega)] at h0
 exact ⟨_,h0⟩
theorem uD {b off:Nat}{x:AVal}{xs:List AVal} (h:bZ w O α b off (x::xs)):∃ u,w.cell? ⟨b,off,none⟩=some u:=by
 simp only[bZ] at h
 obtain ⟨⟨v,h1,_⟩,_⟩:=h
 exact ⟨v,h1⟩
mutual
theorem bj (H:Pres c w O α w' O' α'):∀ (x:AVal) (v:Value),(c=true→closed x=true)→Rep w O α x v→Rep w' O' α' x v
 | .int ..,_,_,h=>h
 | .bool _,_,_,h=>h
 | .str _,_,_,h=>h
 | .agg cs,v,hc,h=>by
   simp only[Rep] at h ⊢
   obtain ⟨l,e,hl⟩:=h
   exact ⟨l,e,eJ H cs l (by simpa only[closed] using hc) hl⟩
 | .tup cs,v,hc,h=>by
   simp only[Rep] at h ⊢
   obtain ⟨l,e,hl⟩:=h
   exact ⟨l,e,eJ H cs l (by simpa only[closed] using hc) hl⟩
 | .nil,_,_,h=>by simpa only[Rep] using h
 | .tree full n xs,v,hc,h=>by
   simp only[Rep] at h ⊢
   obtain ⟨a,cap,e,h1,h2,h3⟩:=h
   refine ⟨a,cap,e,h1,h2,?_⟩
   rcases h3 with h3 | ⟨hn,b,off,ha,hO,hW,hr⟩
   · exact .inl h3
   refine (Classical.em (xs=[])).imp id fun hx=>⟨hn,b,off,ha,?_⟩
   have hx:∃ u,w.cell? ⟨b,off,none⟩=some u:=by
     cases xs with
     | nil=>exact absurd rfl hx
     | cons y ys=>exact mE hn hr
   obtain ⟨u,hu⟩:=hx
   obtain ⟨g1,g2⟩:=H.out b _ _ hO hW hu
   exact ⟨g1,g2,mD H n b hO hW off xs (by simpa only[closed] using hc) hr⟩
 | .own r n top off len,v,hc,h=>by
   have hc:c=false:=by cases c with | false=>rfl | true=>simp[closed] at hc
   simp only[Rep] at h ⊢
   obtain ⟨h1,a,cap,e0,e1,e2,h2⟩:=h
   refine ⟨Nat.lt_of_lt_of_le h1 (H.len hc),a,cap,e0,e1,e2,fun ri' hr => ?_⟩
   obtain ⟨ri,g1,g2,g3⟩:=H.keep hc r ri' h1 hr
   obtain ⟨k1,k2⟩:=h2 ri g1
   refine ⟨by omega,fun ht => ?_⟩
   have e:ri.top=ri'.top:=by omega
   have e':=g3 e
   subst e'
   exact k2 ht
 | .ptr r top i off,v,hc,h=>by
   have hc:c=false:=by cases c with | false=>rfl | true=>simp[closed] at hc
   simp only[Rep] at h ⊢
   obtain ⟨h1,b,o,e0,h2⟩:=h
   refine ⟨Nat.lt_of_lt_of_le h1 (H.len hc),b,o,e0,fun ri' hr => ?_⟩
   obtain ⟨ri,g1,g2,g3⟩:=H.keep hc r ri' h1 hr
   obtain ⟨k1,k2⟩:=h2 ri g1
   refine ⟨by omega,fun ht => ?_⟩
   have e:ri.top=ri'.top:=by omega
   have e':=g3 e
   subst e'
   exact k2 ht
 | .rptr cs,v,hc,h=>by
   simp only[Rep] at h ⊢
   obtain ⟨b,off,e,h3⟩:=h
   refine ⟨b,off,e,?_⟩
   rcases h3 with h3 | ⟨hO,hW,hr⟩
   · exact .inl h3
   refine (Classical.em (cs=[])).imp id fun hx => ?_
   have hx:∃ u,w.cell? ⟨b,off,none⟩=some u:=by
     cases cs with
     | nil=>exact absurd rfl hx
     | cons y ys=>exact uD hr
   obtain ⟨u,hu⟩:=hx
   obtain ⟨g1,g2⟩:=H.out b _ _ hO hW hu
   exact ⟨g1,g2,mF H b hO hW off cs (by simpa only[closed] using hc) hr⟩
 | .nilptr,_,_,h=>h
 | .func fn a b,v,hc,h=>by
   simp only[Rep] at h ⊢
   obtain ⟨l,m,e,hl,hm⟩:=h
   simp only[closed,Bool.and_eq_true] at hc
   exact ⟨l,m,e,eJ H a l (fun h=>(hc h).1) hl,eJ H b m (fun h=>(hc h).2) hm⟩
 | .nilfunc,_,_,h=>h
 | .iface t x,v,hc,h=>by
   simp only[Rep] at h ⊢
   obtain ⟨u,e,hu⟩:=h
   exact ⟨u,e,bj H x u (by simpa only[closed] using hc) hu⟩
 | .niliface,_,_,h=>h
 | .map r,v,hc,h=>by
   have hc:c=false:=by cases c with | false=>rfl | true=>simp[closed] at hc
   simp only[Rep] at h ⊢
   obtain ⟨h1,b,e0,h2⟩:=h
   refine ⟨Nat.lt_of_lt_of_le h1 (H.len hc),b,e0,fun ri' hr ht => ?_⟩
   obtain ⟨ri,g1,g2,g3⟩:=H.keep hc r ri' h1 hr
   have e:ri.top=ri'.top:=by omega
   have e':=g3 e
   subst e'
   exact h2 ri g1 ht
 | .nilmap,_,_,h=>h
 | .any,_,_,_=>by simp only[Rep]
theorem eJ (H:Pres c w O α w' O' α'):∀ (xs:List AVal) (l:List Value),(c=true→aA xs=true)→RepL w O α xs l→RepL w' O' α' xs l
 | [],l,_,h=>by simpa only[RepL] using h
 | x::xs,l,hc,h=>by
   simp only[RepL] at h ⊢
   simp only[aA,Bool.and_eq_true] at hc
   obtain ⟨v,vs,e,h1,h2⟩:=h
   exact ⟨v,vs,e,bj H x v (fun h=>(hc h).1) h1,eJ H xs vs (fun h=>(hc h).2) h2⟩
theorem mD (H:Pres c w O α w' O' α') (n b:Nat) (hO:¬ O b) (hW:¬ fu α b):∀ (off:Nat) (xs:List AVal),(c=true→aA xs=true)→bg w O α n b off xs→bg w' O' α' n b off xs
 | _,[],_,_=>by simp only[bg]
 | off,x::xs,hc,h=>by
   simp only[bg] at h ⊢
   simp only[aA,Bool.and_eq_true] at hc
   obtain ⟨⟨v,h1,h2,h3,h4,h6⟩,h5⟩:=h
   refine ⟨⟨v,bj H x v (fun h=>(hc h).1) h1,h2,h3,fun j hj => ?_,h6⟩,mD H n b hO hW _ xs (fun h=>(hc h).2) h5⟩
   have e:v.cells[j]? = some v.cells[j]:=Array.getElem?_eq_getElem (by omega)
   rw[e]
   exact H.cell b _ _ hO hW (by rw[h4 j hj,e])
theorem mF (H:Pres c w O α w' O' α') (b:Nat) (hO:¬ O b) (hW:¬ fu α b):∀ (off:Nat) (xs:List AVal),(c=true→aA xs=true)→bZ w O α b off xs→bZ w' O' α' b off xs
 | _,[],_,_=>by simp only[bZ]
 | off,x::xs,hc,h=>by
   simp only[bZ] at h ⊢
   simp only[aA,Bool.and_eq_true] at hc
   obtain ⟨⟨v,h1,h2⟩,h5⟩:=h
   exact ⟨⟨v,H.cell b _ _ hO hW h1,bj H x v (fun h=>(hc h).1) h2⟩,mF H b hO hW _ xs (fun h=>(hc h).2) h5⟩
end
theorem uC {x:AVal}{v:Value} (h:Ext w α w' α') (hr:Rep w O α x v):Rep w' O α' x v:=bj (Pres.of_ext h) x v (by simp) hr
theorem gO (H:Pres false w O α w' O' α') (n b:Nat) (hb:w'.heap[b]? = w.heap[b]?):∀ (xs:List AVal) (off:Nat),bg w O α n b off xs→bg w' O' α' n b off xs
 | [],_,_=>by simp only[bg]
 | x::xs,off,h=>by
   simp only[bg] at h ⊢
   obtain ⟨⟨v,h1,h2,h3,h4,h6⟩,h5⟩:=h
   exact ⟨⟨v,bj H x v (by simp) h1,h2,h3,fun j hj=>by rw[je hb]; exact h4 j hj,h6⟩,gO H n b hb xs _ h5⟩
end
def dt (w:World) (O:Nat→Prop) (α:AM):List (AVal×AVal)→List MapEntry→Prop
 | [],l=>l=[]
 | e::es,l=>∃ m ms,l=m::ms∧Rep w O α e.1 m.key∧Rep w O α e.2 m.val∧dt w O α es ms
def cX (w:World) (O:Nat→Prop) (α:AM) (r:Nat):AReg→Prop
 | .dead=>α[r]? = some none
 | .row e n xs => ∃ ri, α[r]? = some (some ri) ∧ ri.stride = n ∧ n ≠ 0 ∧ ri.top = xs.length ∧ xs.length ≤ ri.cap ∧
     ∃ c el fz,w.heap[ri.block]? = some (.cells c el fz)∧c.size=ri.cap*n∧bg w O α n ri.block 0 xs∧(∀ o,o<c.size∨n≠1→w.frozen? ⟨ri.block,o,none⟩=false)∧el=e
 | .iter s pos=>∃ ri,α[r]? = some (some ri)∧ri.top=0∧ri.stride=0∧w.heap[ri.block]? = some (.stringIter ⟨s.toArray⟩ pos)
 | .map es=>∃ ri,α[r]? = some (some ri)∧ri.top=0∧∃ ms clock,w.heap[ri.block]? = some (.map ms clock)∧dt w O α es ms.toList
structure Inv (w:World) (O:Nat→Prop) (α:AM) (st:aq):Prop where
 len:st.length=α.length
 reg:∀ r g,st[r]? = some g→cX w O α r g
 inj:∀ (r r':Nat) (ri ri':RI),α[r]? = some (some ri)→α[r']? = some (some ri')→ri.block=ri'.block→r=r'
 fresh:∀ (r:Nat) (ri:RI),α[r]? = some (some ri)→¬ O ri.block∧ri.block<w.heap.size
 bound:∀ b,O b→b<w.heap.size
theorem Inv.nil (w:World) (O:Nat→Prop) (h:∀ b,O b→b<w.heap.size):Inv w O [] []:=⟨rfl,fun r g h=>by simp at h,fun r _ _ _ h=>by simp at h,fun r _ h=>by simp at h,h⟩
theorem gQ {w w':World}{O O':Nat→Prop}{α α':AM} (H:Pres false w O α w' O' α'):∀ (es:List (AVal×AVal)) (l:List MapEntry),dt w O α es l→dt w' O' α' es l
 | [],l,h=>h
 | e::es,l,h=>by
   simp only[dt] at h ⊢
   obtain ⟨m,ms,h0,h1,h2,h3⟩:=h
   exact ⟨m,ms,h0,bj H _ _ (by simp) h1,bj H _ _ (by simp) h2,gQ H es ms h3⟩
theorem eK {w w':World}{O O':Nat→Prop}{α α':AM} (H:Pres false w O α w' O' α') {r:Nat}{g:AReg} (hα:α'[r]? = α[r]?)
   (hb:∀ ri,α[r]? = some (some ri)→w'.heap[ri.block]? = w.heap[ri.block]?) (h:cX w O α r g):cX w' O' α' r g:=by
 cases g with
 | dead=>simp only[cX] at h ⊢; rw[hα]; exact h
 | row e n xs =>
   simp only[cX] at h ⊢
   obtain ⟨ri,h1,h2,h3,h4,h5,c,el,fz,h6,h7,h8,h9,h10⟩:=h
   have hb:=hb ri h1
   exact ⟨ri,by rw[hα]; exact h1,h2,h3,h4,h5,c,el,fz,by rw[hb]; exact h6,h7,gO H n _ hb xs 0 h8,fun o ho=>by rw[tT hb]; exact h9 o ho,h10⟩
 | iter s pos =>
   simp only[cX] at h ⊢
   obtain ⟨ri,h1,h2,h3,h4⟩:=h
   exact ⟨ri,by rw[hα]; exact h1,h2,h3,by rw[hb ri h1]; exact h4⟩
 | map es =>
   simp only[cX] at h ⊢
   obtain ⟨ri,h1,h2,ms,clock,h4,h5⟩:=h
   exact ⟨ri,by rw[hα]; exact h1,h2,ms,clock,by rw[hb ri h1]; exact h4,gQ H es _ h5⟩
structure Quiet (w w':World):Prop where
 os:w'.os=w.os
 tape:w'.tape=w.tape
 output:w'.output=w.output
 size:w.heap.size≤w'.heap.size
 old:∀ b,b<w.heap.size→w'.heap[b]? = w.heap[b]?
 dr:Drawn.on→w.drawn≤w'.drawn
theorem Quiet.ext {w w':World} (h:Quiet w w') (α:AM):Ext w α w' α :=
 ⟨h.os,h.tape,h.output,h.size,fun b hb _=>h.old b hb,Nat.le_refl _,fun r ri _ hr=>⟨ri,hr,Nat.le_refl _,fun _=>rfl⟩,fun b hb=>.inr hb,h.dr⟩
theorem Quiet.refl (w:World):Quiet w w:=⟨rfl,rfl,rfl,Nat.le_refl _,fun _ _=>rfl,fun _=>Nat.le_refl _⟩
theorem Quiet.trans {a b c:World} (h:Quiet a b) (k:Quiet b c):Quiet a c :=
 ⟨k.os.trans h.os,k.tape.trans h.tape,k.output.trans h.output,Nat.le_trans h.size k.size,fun i hi=>(k.old i (Nat.lt_of_lt_of_le hi h.size)).trans (h.old i hi),fun hd=>Nat.le_trans (h.dr hd) (k.dr hd)⟩
theorem Quiet.drew (w:World):Quiet w w.drew:=⟨rfl,rfl,rfl,Nat.le_refl _,fun _ _=>rfl,fun _=>Nat.le_succ _⟩
theorem Quiet.alloc (w:World) (o:Obj):Quiet w (w.alloc o):=⟨rfl,rfl,rfl,by simp,fun b hb=>RowKit.Below.heap_alloc w o b hb,fun _=>Nat.le_refl _⟩
theorem Ext.quiet {w w':World} (h:Ext w [] w' []):Quiet w w':=⟨h.os,h.tape,h.output,h.size,fun b hb=>h.old b hb (fun ⟨r,ri,e,_⟩=>by simp at e),h.dr⟩
theorem Quiet.inv {w w':World} (h:Quiet w w') {O:Nat→Prop}{α:AM}{st:aq} (hi:Inv w O α st):Inv w' O α st where
 len:=hi.len
 reg r g hg:=eK (Pres.of_ext (h.ext α)) rfl (fun ri hr=>h.old _ (hi.fresh r ri hr).2) (hi.reg r g hg)
 inj:=hi.inj
 fresh r ri hr:=⟨(hi.fresh r ri hr).1,Nat.lt_of_lt_of_le (hi.fresh r ri hr).2 h.size⟩
 bound b hb:=Nat.lt_of_lt_of_le (hi.bound b hb) h.size
theorem Inv.push {w:World}{O:Nat→Prop}{α:AM}{st:aq} (hi:Inv w O α st) (ri:RI) (g:AReg) (o:Obj) (hb:ri.block=w.heap.size)
   (hg:cX (w.alloc o) O (α++[some ri]) α.length g):Ext w α (w.alloc o) (α++[some ri])∧Inv (w.alloc o) O (α++[some ri]) (st++[g]):=by
 have hq:=Quiet.alloc w o
 have hO:¬ O w.heap.size:=fun h=>by have:=hi.bound _ h; omega
 have old:∀ r,r<α.length→(α++[some ri])[r]? = α[r]? := fun r hr=>List.getElem?_append_left hr
 have hext:Ext w α (w.alloc o) (α++[some ri]):=by
   refine ⟨rfl,rfl,rfl,by simp,fun b hb _=>hq.old b hb,by simp,fun r ri' hr h => ?_,fun b hb' => ?_,fun _=>Nat.le_refl _⟩
   · rw[old r hr] at h
     exact ⟨ri',h,Nat.le_refl _,fun _=>rfl⟩
   · obtain ⟨r,ri',h1,h2⟩:=hb'
     by_cases hr:r<α.length
     · rw[old r hr] at h1; exact .inr ⟨r,ri',h1,h2⟩
     · left
       by_cases hr':r=α.length
       · subst hr'
         simp at h1
         subst h1
         omega
       · have:(α++[some ri])[r]? = none:=List.getElem?_eq_none (by simp; omega)
         rw[this] at h1; cases h1
 refine ⟨hext,?_,?_,?_,?_,fun b hb'=>by have:=hi.bound b hb'; simp; omega⟩
 · simp[hi.len]
 · intro r g' hg'
   by_cases hr:r<α.length
   · rw[List.getElem?_append_left (by rw[hi.len]; exact hr)] at hg'
     exact eK (Pres.of_ext hext) (old r hr) (fun ri' h=>hq.old _ (hi.fresh r ri' h).2) (hi.reg r g' hg')
   · by_cases hr':r=α.length
     · subst hr'
       rw[← hi.len] at hg'
       simp at hg'
       subst hg'
       exact hg
     · have:(st++[g])[r]? = none:=List.getElem?_eq_none (by simp[hi.len]; omega)
       rw[this] at hg'; cases hg'
 · have cases' : ∀ r ri', (α ++ [some ri])[r]? = some (some ri') → (r < α.length ∧ α[r]? = some (some ri')) ∨ (r = α.length ∧ ri' = ri) := by
     intro r ri' h
     by_cases hr:r<α.length
     · rw[old r hr] at h; exact .inl ⟨hr,h⟩
     · by_cases hr':r=α.length
       · subst hr'; simp at h; exact .inr ⟨rfl,h.symm⟩
       · have:(α++[some ri])[r]? = none:=List.getElem?_eq_none (by simp; omega)
         rw[this] at h; cases h
   intro r r' a b ha hb2 hab
   rcases cases' r a ha with ⟨h1,h2⟩ | ⟨h1,h2⟩<;>rcases cases' r' b hb2 with ⟨k1,k2⟩ | ⟨k1,k2⟩
   · exact hi.inj r r' a b h2 k2 hab
   · have:=(hi.fresh r a h2).2; subst k2; omega
   · have:=(hi.fresh r' b k2).2; subst h2; omega
   · omega
 · intro r ri' h
   by_cases hr:r<α.length
   · rw[old r hr] at h
     exact ⟨(hi.fresh r ri' h).1,Nat.lt_of_lt_of_le (hi.fresh r ri' h).2 (by simp)⟩
   · by_cases hr':r=α.length
     · subst hr'
       simp at h
       subst h
       exact ⟨by rw[hb]; exact hO,by rw[hb]; simp⟩
     · have:(α++[some ri])[r]? = none:=List.getElem?_eq_none (by simp; omega)
       rw[this] at h; cases h
end Go.EM
set_option linter.unusedSimpArgs false
namespace Go.EM
variable [Drawn]
section
variable {P:Program}{w:World}{O:Nat→Prop}{α:AM}
theorem bU:∀ {xs:List AVal}{l:List Value},RepL w O α xs l→l.length=xs.length
 | [],l,h=>by simp only[RepL] at h; subst h; rfl
 | x::xs,l,h=>by
   simp only[RepL] at h
   obtain ⟨v,vs,rfl,_,h2⟩:=h
   simp[bU h2]
theorem kH:∀ {xs:List AVal}{l:List Value}{i:Nat}{x:AVal},RepL w O α xs l→xs[i]? = some x→∃ v,l[i]? = some v∧Rep w O α x v
 | [],l,i,x,h,hx=>by simp at hx
 | y::ys,l,i,x,h,hx=>by
   simp only[RepL] at h
   obtain ⟨v,vs,rfl,h1,h2⟩:=h
   cases i with
   | zero=>simp at hx; subst hx; exact ⟨v,rfl,h1⟩
   | succ i=>simp at hx; simpa using kH h2 hx
theorem jm:∀ {xs:List AVal}{l:List Value} (n:Nat),RepL w O α xs l→RepL w O α (xs.drop n) (l.drop n)
 | xs,l,0,h=>by simpa using h
 | [],l,n+1,h=>by simp only[RepL] at h; subst h; simp[RepL]
 | x::xs,l,n+1,h=>by
   simp only[RepL] at h
   obtain ⟨v,vs,rfl,_,h2⟩:=h
   simpa using jm n h2
theorem jl:∀ {xs:List AVal}{l:List Value} (n:Nat),RepL w O α xs l→RepL w O α (xs.take n) (l.take n)
 | xs,l,0,h=>by simp[RepL]
 | [],l,n+1,h=>by simp only[RepL] at h; subst h; simp[RepL]
 | x::xs,l,n+1,h=>by
   simp only[RepL] at h
   obtain ⟨v,vs,rfl,h1,h2⟩:=h
   simp only[List.take_succ_cons,RepL]
   exact ⟨v,vs.take n,rfl,h1,jl n h2⟩
theorem cE:∀ {xs ys:List AVal}{l m:List Value},RepL w O α xs l→RepL w O α ys m→RepL w O α (xs++ys) (l++m)
 | [],ys,l,m,h,k=>by simp only[RepL] at h; subst h; simpa using k
 | x::xs,ys,l,m,h,k=>by
   simp only[RepL] at h
   obtain ⟨v,vs,rfl,h1,h2⟩:=h
   simp only[List.cons_append,RepL]
   exact ⟨v,vs++m,rfl,h1,cE h2 k⟩
theorem acJ {f:Value→AVal} (hf:∀ v,Rep w O α (f v) v):∀ l:List Value,RepL w O α (l.map f) l
 | []=>by simp[RepL]
 | v::l=>by simp only[List.map_cons,RepL]; exact ⟨v,l,rfl,hf v,acJ hf l⟩
theorem gp (v:Value):Rep w O α (d7 v) v:=by
 unfold d7
 split<;>simp[Rep]
theorem ev (v:Value):Rep w O α (dW v) v:=by
 unfold dW
 split
 · rename_i cs
   simp only[Rep]
   exact ⟨cs.toList,by simp,acJ gp _⟩
 · exact gp v
theorem jc {x:AVal}{v:Value} (h:Rep w O α x v) {n:Nat} (hx:x.cells.length=n) (hv:v.cells.size=n) {j:Nat}{c:AVal} (hc:x.cells[j]? = some c) :
   ∃ u,v.cells[j]? = some u∧Rep w O α c u:=by
 cases x with
 | agg cs =>
   simp only[Rep] at h
   obtain ⟨l,rfl,hl⟩:=h
   obtain ⟨u,h1,h2⟩:=kH hl hc
   exact ⟨u,by simpa [Value.cells] using h1,h2⟩
 | _ =>
   simp only[AVal.cells,List.length_singleton] at hx hc
   have hj:j=0:=by
     cases j with
     | zero=>rfl
     | succ j=>simp at hc
   subst hj
   simp only[List.getElem?_cons_zero,Option.some.injEq] at hc
   subst hc
   have e:v.cells[0]? = some v.cells[0]:=Array.getElem?_eq_getElem (by omega)
   refine ⟨_,e,?_⟩
   by_cases hag:∃ a,v = .agg a
   · obtain ⟨a,rfl⟩:=hag
     simp only[Rep] at h ⊢ <;> first
       | (cases h; done)
       | (rcases h with ⟨_,⟨⟩,_⟩; done)
       | (rcases h with ⟨_,_,⟨⟩,_⟩; done)
       | (rcases h with ⟨_,_,_,⟨⟩,_⟩; done)
   · have : v.cells = #[v] := by
       cases v<;>first | rfl | exact absurd ⟨_,rfl⟩ hag
     have h0:v.cells[0]=v:=by simp only[this]; rfl
     rw[h0]; exact h
theorem lg {t:TypeId}{d:TypeDesc} (h:P.underlying t=some d):(isAgg t).run P w = .ok (eQ d) w:=by
 unfold isAgg eQ
 rw[Sem.run_bind,run_underlying h w]
 cases d<;>simp
theorem run_sizeOf {t:TypeId}{n:Nat} (h:szOf P t=some n):(sizeOf t).run P w = .ok n w:=by
 unfold szOf at h
 cases hi:P.info? t with
 | none=>simp[hi] at h
 | some i=>simp[hi] at h; simp[sizeOf,typeInfo,hi,h]
theorem eu {t:TypeId}{cs:List AVal}{off:Nat}{v:AVal}{l:List Value} (h:cS P t cs off=some v) (hl:RepL w O α cs l) :
   ∃ u,(part t l.toArray off).run P w = .ok u w∧Rep w O α v u:=by
 unfold cS at h
 split at h
 · rename_i n d hn hd
   unfold part
   rw[Sem.run_bind,lg hd]
   cases hdd:eQ d with
   | true =>
     simp only[hdd,cond_true] at h
     cases hle:Nat.ble (off+n) cs.length with
     | false=>simp[hle] at h
     | true =>
       simp only[hle,cond_true,Option.some.injEq] at h
       subst h
       simp only[Result.andThen_ok,if_true,Sem.run_bind,run_sizeOf hn,Sem.run_pure]
       refine ⟨_,rfl,?_⟩
       simp only[Rep]
       refine ⟨(l.drop off).take n,?_,jl n (jm off hl)⟩
       congr 1
       apply Array.ext'
       simp[List.extract_eq_take_drop]
   | false =>
     simp only[hdd,cond_false] at h
     obtain ⟨u,h1,h2⟩:=kH hl h
     refine ⟨u,?_,h2⟩
     simp[h1]
 · cases h
theorem oZ {op:BinOp}{k:IntKind}{a b:Int}{v:AVal}{t:TypeId} (h1:op ≠ .shl) (h2:op ≠ .shr) (h:aint op k a b=some v) :
   ∃ u,(binOp op t (.int k a) (.int k b)).run P w = .ok u w∧Rep w O α v u:=by
 cases op<;>simp only[aint] at h<;>first
   | exact absurd rfl h1
   | exact absurd rfl h2
   | (split at h
      · cases h
      · rename_i hb; cases h; refine ⟨_,by simp[binOp,Op.intDiv,hb]; rfl,by simp[Rep]⟩)
   | (cases h; done)
   | (cases h; exact ⟨_,by simp[binOp,Op.intArith,Op.intBits,Op.intCmp]; rfl,by simp[Rep]⟩)
theorem nz {op:BinOp}{k k':IntKind}{a b:Int}{v:AVal}{t:TypeId} (h:sm op k a b=some v) :
   ∃ u,(binOp op t (.int k a) (.int k' b)).run P w = .ok u w∧Rep w O α v u:=by
 unfold sm at h
 split at h
 · cases h
 · rename_i hb
   cases op<;>simp only[] at h<;>first
     | (cases h; done)
     | (cases h; exact ⟨_,by simp[binOp,Op.shift,hb]; rfl,by simp[Rep]⟩)
theorem oX {op:BinOp}{x y:List UInt8}{v:AVal}{t:TypeId} (h1:op ≠ .shl) (h2:op ≠ .shr) (h:astr op x y=some v) :
   ∃ u,(binOp op t (.string ⟨x.toArray⟩) (.string ⟨y.toArray⟩)).run P w = .ok u w∧Rep w O α v u:=by
 by_cases hop:op = .add
 · subst hop
   simp only[astr] at h
   by_cases hb:((x.length+y.length:Nat):Int)>IntKind.i64.max
   · rw[if_pos hb] at h; cases h
   · rw[if_neg hb] at h
     cases h
     refine ⟨.string ⟨(x++y).toArray⟩,?_,by simp[Rep]⟩
     simp only[binOp,Op.stringOp]
     rw[if_neg (by simpa [ByteArray.size] using hb)]
     simp only[Sem.run_pure]
     congr 2
 · cases op <;> simp only [astr] at h <;> first
     | exact absurd rfl h1
     | exact absurd rfl h2
     | exact absurd rfl hop
     | (cases h; done)
     | (cases h; exact ⟨_,by simp only[binOp,Op.stringOp,ByteArray.toList_mk]; rfl,by simp[Rep]⟩)
end
end Go.EM
namespace Go.EM
variable [Drawn]
section
variable {P:Program}{w:World}{O:Nat→Prop}{α:AM}
theorem rA {t:TypeId}{n:Nat} (h:szOf P t=some n):∃ i,P.info? t=some i∧i.size=n:=by
 unfold szOf at h
 cases hi:P.info? t with
 | none=>simp[hi] at h
 | some i=>simp[hi] at h; exact ⟨i,rfl,h⟩
theorem o0:∀ (d:Nat) (t:TypeId) (x y:AVal) (b:Bool) (u v:Value),aeq P d t x y=some b→Rep w O α x u→Rep w O α y v →
   ∀ D,d≤D→(Op.equalIn D t u v).run P w = .ok b w
 | 0,_,_,_,_,_,_,h,_,_,_,_=>by simp[aeq] at h
 | d+1,t,x,y,b,u,v,h,hx,hy,0,hD=>by omega
 | d+1,t,x,y,b,u,v,h,hx,hy,D+1,hD=>by
   unfold aeq at h
   split at h
   · rename_i hu
     split at h
     · rename_i a c
       simp only[Rep] at hx hy
       subst hx; subst hy
       cases h
       exact run_equalIn_bool w D t a c hu
     · cases h
   · rename_i k hu
     split at h
     · rename_i k1 a k2 c
       simp only[Rep] at hx hy
       subst hx; subst hy
       split at h
       · rename_i hk
         subst hk
         cases h
         exact run_equalIn_int w D t k1 k a c hu
       · cases h
     · cases h
   · rename_i hu
     split at h
     · rename_i a c
       simp only[Rep] at hx hy
       subst hx; subst hy
       cases h
       rw[run_equalIn_string w D t _ _ hu,ByteArray.toList_mk,ByteArray.toList_mk]
     · cases h
   · rename_i e hu
     split at h
     · simp only[Rep] at hx hy
       subst hx; subst hy; cases h
       simp[Op.equalIn,run_underlying hu]
     · simp only[Rep] at hx hy
       obtain ⟨_,_,rfl,_⟩:=hy
       subst hx; cases h
       simp[Op.equalIn,run_underlying hu]
     · simp only[Rep] at hx hy
       obtain ⟨_,_,rfl,_⟩:=hx
       subst hy; cases h
       simp[Op.equalIn,run_underlying hu]
     · cases h
   · rename_i ms hu
     split at h
     · simp only[Rep] at hx hy
       subst hx; subst hy; cases h
       simp[Op.equalIn,run_underlying hu]
     · simp only[Rep] at hx hy
       obtain ⟨_,rfl,_⟩:=hy
       subst hx; cases h
       simp[Op.equalIn,run_underlying hu]
     · simp only[Rep] at hx hy
       obtain ⟨_,rfl,_⟩:=hx
       subst hy; cases h
       simp[Op.equalIn,run_underlying hu]
     · cases h
   · rename_i _ _ _ hu
     split at h
     · simp only[Rep] at hx hy
       subst hx; subst hy; cases h
       simp[Op.equalIn,run_underlying hu]
     · simp only[Rep] at hx hy
       obtain ⟨_,_,rfl,_⟩:=hy
       subst hx; cases h
       simp[Op.equalIn,run_underlying hu]
     · simp only[Rep] at hx hy
       obtain ⟨_,_,rfl,_⟩:=hx
       subst hy; cases h
       simp[Op.equalIn,run_underlying hu]
     · cases h
   · rename_i e hu
     split at h
     · simp only[Rep] at hx hy
       subst hx; subst hy; cases h
       simp[Op.equalIn,run_underlying hu]
     · simp only[Rep] at hx hy
       obtain ⟨a,cap,rfl,_,_,h3⟩:=hx
       subst hy; cases h
       rcases h3 with h3 | ⟨_,b,off,rfl,_⟩
       · cases h3
       · simp[Op.equalIn,run_underlying hu]
     · simp only[Rep] at hx hy
       obtain ⟨_,a,cap,rfl,_,h3,_⟩:=hx
       subst hy; cases h
       rcases h3 with h3 | ⟨b,o,rfl⟩
       · cases h3
       · simp[Op.equalIn,run_underlying hu]
     · cases h
   · rename_i fs hu
     split at h
     · rename_i xs ys
       split at h
       · cases h
       · rename_i hst
         simp only[Rep] at hx hy
         obtain ⟨l,rfl,hl⟩:=hx
         obtain ⟨m,rfl,hm⟩:=hy
         have hfs:P.fieldsOf t=fs:=by simp[Program.fieldsOf,hu]
         rw[run_equalIn_struct w D t _ _ (by rw[hfs]; exact hu) (by simpa using hst),hfs]
         have key:∀ (gs:List Field),ke (fun a b u=>aeq P d u a b) P gs xs ys=some b→(Op.eqFields D l.toArray m.toArray gs).run P w = .ok b w:=by
           intro gs
           induction gs with
           | nil=>intro h; simp[ke] at h; subst h; simp[Op.eqFields]
           | cons g gs ih =>
             intro h
             simp only[ke] at h
             split at h
             · rename_i hn; simp only[Op.eqFields,hn,ne_eq,not_true,if_false]; exact ih h
             · rename_i hn
               split at h
               · rename_i p q hp hq
                 obtain ⟨pu,hp1,hp2⟩:=eu hp hl
                 obtain ⟨qu,hq1,hq2⟩:=eu hq hm
                 cases hr:aeq P d g.type p q with
                 | none=>simp[hr] at h
                 | some r =>
                   simp only[hr,Option.bind_some] at h
                   have he:=o0 d g.type p q r pu qu hr hp2 hq2 D (by omega)
                   simp only[Op.eqFields,ne_eq,hn,not_false_iff,if_true,Sem.run_bind,hp1,hq1,he,Result.andThen_ok]
                   cases r with
                   | true=>simpa using ih h
                   | false=>simp at h; subst h; simp
               · cases h
         exact key _ h
     · cases h
   · rename_i len e hu
     split at h
     · rename_i xs ys
       simp only[Rep] at hx hy
       obtain ⟨l,rfl,hl⟩:=hx
       obtain ⟨m,rfl,hm⟩:=hy
       cases hn:szOf P e with
       | none=>simp[hn] at h
       | some n =>
         simp only[hn,Option.bind_some] at h
         obtain ⟨i,hi,hi2⟩:=rA hn
         rw[run_equalIn_array w D _ _ hu hi]
         have hc:P.cellsOf e=n:=by simp[Program.cellsOf,hi,hi2]
         rw[hc]
         have key:∀ (is:List Nat),sr (fun a b u=>aeq P d u a b) P e n is xs ys=some b→(Op.eqItems D e n l.toArray m.toArray is).run P w = .ok b w:=by
           intro gs
           induction gs with
           | nil=>intro h; simp[sr] at h; subst h; simp[Op.eqItems]
           | cons g gs ih =>
             intro h
             simp only[sr] at h
             split at h
             · rename_i p q hp hq
               obtain ⟨pu,hp1,hp2⟩:=eu hp hl
               obtain ⟨qu,hq1,hq2⟩:=eu hq hm
               cases hr:aeq P d e p q with
               | none=>simp[hr] at h
               | some r =>
                 simp only[hr,Option.bind_some] at h
                 have he:=o0 d e p q r pu qu hr hp2 hq2 D (by omega)
                 simp only[Op.eqItems,Sem.run_bind,hp1,hq1,he,Result.andThen_ok]
                 cases r with
                 | true=>simpa using ih h
                 | false=>simp at h; subst h; simp
             · cases h
         exact key _ h
     · cases h
   · cases h
theorem ta {op:BinOp}{t:TypeId}{x y:AVal}{b:Bool}{u v:Value}{xo yo:Operand} (h:aeq P 8 t x y=some b)
   (hk:eqOk P t (isConst xo||isConst yo) x y=true) (hx:Rep w O α x u) (hy:Rep w O α y v):(eqGuard op t xo yo u v).run P w = .ok () w:=by
 by_cases ho:op = .eql∨op = .neq
 case neg =>
   cases op<;>simp at ho<;>simp[eqGuard]
 have key : (match u, v with
     | .nilIface,.nilIface=>isConst xo||isConst yo
     | .agg _,.agg _ => !(P.eqGuardType P.depth t)
     | _,_=>true)=true:=by
   unfold aeq at h
   split at h<;>first
     | (cases h; done)
     | (split at h <;> first
         | (cases h; done)
         | (simp only[Rep] at hx hy
            first
              | (subst hx; subst hy; (simp[eqOk] at hk ⊢ <;> exact hk))
              | (subst hx; obtain ⟨_,rfl,_⟩:=hy; (simp[eqOk] at hk ⊢ <;> exact hk))
              | (subst hx; obtain ⟨_,_,rfl,_⟩:=hy; (simp[eqOk] at hk ⊢ <;> exact hk))
              | (subst hy; obtain ⟨_,rfl,_⟩:=hx; (simp[eqOk] at hk ⊢ <;> exact hk))
              | (subst hy; obtain ⟨_,_,rfl,_⟩:=hx; (simp[eqOk] at hk ⊢ <;> exact hk))
              | (subst hy; obtain ⟨_,_,rfl,_⟩:=hx; simp)
              | (subst hy; obtain ⟨_,_,_,rfl,_⟩:=hx; simp)
              | (obtain ⟨_,rfl,_⟩:=hx; obtain ⟨_,rfl,_⟩:=hy; (simp[eqOk] at hk ⊢ <;> exact hk))))
 rcases ho with rfl | rfl
 all_goals
   split at key
   · cases xo<;>cases yo<;>simp[isConst] at key<;>simp[eqGuard]
   · simp only[Bool.not_eq_true'] at key
     exact run_eqGuard_agg w _ t xo yo _ _ key
   · rename_i h1 h2
     cases u<;>cases v<;>first
       | exact (h1 hx hy rfl rfl HEq.rfl HEq.rfl).elim
       | exact (h2 _ _ hx hy rfl rfl HEq.rfl HEq.rfl).elim
       | simp[eqGuard]
theorem ajj {t:TypeId}{x y:AVal}{b:Bool}{u v:Value} (h:aeq P 8 t x y=some b) (hx:Rep w O α x u) (hy:Rep w O α y v) :
   (binOp .eql t u v).run P w = .ok (.bool b) w∧(binOp .neq t u v).run P w = .ok (.bool !b) w:=by
 have he:=o0 8 t x y b u v h hx hy 10000 (by omega)
 have hq:(Op.equal t u v).run P w = .ok b w:=he
 unfold aeq at h
 split at h<;>first
   | (cases h; done)
   | (split at h <;> first
       | (cases h; done)
       | (simp only[Rep] at hx hy
          first
            | (subst hx; subst hy; first
                | (simp[binOp,hq]; done)
                | (split at h
                   · rename_i hk; cases h; subst hk; exact ⟨by simp[binOp,Op.intCmp],by simp[binOp,Op.intCmp,bne]⟩
                   · cases h)
                | (cases h; simp only[binOp,Op.stringOp,ByteArray.toList_mk,Sem.run_pure]; exact ⟨trivial,trivial⟩))
            | (subst hx; obtain ⟨_,rfl,_⟩:=hy; simp[binOp,hq]; done)
            | (subst hx; obtain ⟨_,_,rfl,_⟩:=hy; simp[binOp,hq]; done)
            | (subst hy; obtain ⟨_,rfl,_⟩:=hx; simp[binOp,hq]; done)
            | (subst hy; obtain ⟨_,_,rfl,_⟩:=hx; simp[binOp,hq]; done)
            | (subst hy; obtain ⟨_,_,rfl,_⟩:=hx; simp only[binOp,Sem.run_bind,hq]; exact ⟨rfl,rfl⟩)
            | (subst hy; obtain ⟨_,_,_,rfl,_⟩:=hx; simp only[binOp,Sem.run_bind,hq]; exact ⟨rfl,rfl⟩)
            | (obtain ⟨_,rfl,_⟩:=hx; obtain ⟨_,rfl,_⟩:=hy; simp[binOp,hq]; done)))
theorem adJ {op:BinOp}{t:TypeId}{xo yo:Operand}{x y v:AVal}{u1 u2:Value} (h:abin P op t (isConst xo||isConst yo) x y=some v)
   (hx:Rep w O α x u1) (hy:Rep w O α y u2):∃ u,(do eqGuard op t xo yo u1 u2; binOp op t u1 u2:Sem Value).run P w = .ok u w∧Rep w O α v u:=by
 have gen : ∀ (b : Bool) (f : Bool → Bool), (op = .eql ∧ f = id) ∨ (op = .neq ∧ f = not) → eqOk P t (isConst xo || isConst yo) x y = true → aeq P 8 t x y = some b → v = .bool (f b) →
     ∃ u,(do eqGuard op t xo yo u1 u2; binOp op t u1 u2:Sem Value).run P w = .ok u w∧Rep w O α v u:=by
   intro b f hop hk ha hv
   have hg:=ta (op:=op) (xo:=xo) (yo:=yo) ha hk hx hy
   obtain ⟨e1,e2⟩:=ajj ha hx hy
   rcases hop with ⟨rfl,rfl⟩ | ⟨rfl,rfl⟩
   · exact ⟨.bool b,by rw[Sem.run_bind,hg]; exact e1,by rw[hv]; simp[Rep]⟩
   · exact ⟨.bool !b,by rw[Sem.run_bind,hg]; exact e2,by rw[hv]; simp[Rep]⟩
 have gi:∀ k a c,(eqGuard op t xo yo (.int k a) c).run P w = .ok () w:=by
   intro k a c; cases op<;>cases c<;>simp[eqGuard]
 have gs:∀ a c,(eqGuard op t xo yo (.string a) c).run P w = .ok () w:=by
   intro a c; cases op<;>cases c<;>simp[eqGuard]
 unfold abin at h
 split at h
 · split at h
   · simp only[Rep] at hx hy; subst hx; subst hy
     rw[Sem.run_bind,gi]
     exact nz h
   · cases h
 · split at h
   · simp only[Rep] at hx hy; subst hx; subst hy
     rw[Sem.run_bind,gi]
     exact nz h
   · cases h
 · split at h
   · simp only[Rep] at hx hy; subst hx; subst hy
     split at h
     · rename_i hk; subst hk
       rw[Sem.run_bind,gi]
       exact oZ (by simp) (by simp) h
     · cases h
   · simp only[Rep] at hx hy; subst hx; subst hy
     rw[Sem.run_bind,gs]
     exact oX (by simp) (by simp) h
   · cases hk:eqOk P t (isConst xo||isConst yo) x y with
     | false=>simp[hk] at h
     | true =>
       simp only[hk,cond_true,Option.map_eq_some_iff] at h
       obtain ⟨b,hb,hv⟩:=h
       exact gen b id (.inl ⟨rfl,rfl⟩) hk hb hv.symm
 · split at h
   · simp only[Rep] at hx hy; subst hx; subst hy
     split at h
     · rename_i hk; subst hk
       rw[Sem.run_bind,gi]
       exact oZ (by simp) (by simp) h
     · cases h
   · simp only[Rep] at hx hy; subst hx; subst hy
     rw[Sem.run_bind,gs]
     exact oX (by simp) (by simp) h
   · cases hk:eqOk P t (isConst xo||isConst yo) x y with
     | false=>simp[hk] at h
     | true =>
       simp only[hk,cond_true,Option.map_eq_some_iff] at h
       obtain ⟨b,hb,hv⟩:=h
       exact gen b not (.inr ⟨rfl,rfl⟩) hk hb hv.symm
 · rename_i h1 h2 h3 h4
   split at h
   · simp only[Rep] at hx hy; subst hx; subst hy
     split at h
     · rename_i hk; subst hk
       rw[Sem.run_bind,gi]
       exact oZ (fun e=>h1 e) (fun e=>h2 e) h
     · cases h
   · simp only[Rep] at hx hy; subst hx; subst hy
     rw[Sem.run_bind,gs]
     exact oX (fun e=>h1 e) (fun e=>h2 e) h
   · cases h
theorem ajk {op:UnOp}{x v:AVal}{u:Value} (h:aun op x=some v) (hx:Rep w O α x u):∃ r,(Op.unary op u).run P w = .ok r w∧Rep w O α v r:=by
 unfold aun at h
 split at h
 · simp only[Rep] at hx; subst hx; cases h
   exact ⟨_,by simp[Op.unary,Op.intArith]; rfl,by simp[Rep]⟩
 · simp only[Rep] at hx; subst hx
   simp only[aint] at h
   cases h
   exact ⟨_,by simp only[Op.unary,Op.intBits,Sem.run_pure]; rfl,by simp[Rep]⟩
 · simp only[Rep] at hx; subst hx; cases h
   exact ⟨_,by simp[Op.unary]; rfl,by simp[Rep]⟩
 · cases h
theorem aaP {c a b v:AVal}{uc ua ub:Value} (h:acB c a b=some v) (hc:Rep w O α c uc) (ha:Rep w O α a ua) (hb:Rep w O α b ub) :
   ∃ r,(do pure (if ← asBool uc then ua else ub):Sem Value).run P w = .ok r w∧Rep w O α v r:=by
 unfold acB at h
 split at h
 · rename_i t
   simp only[Rep] at hc; subst hc; cases h
   cases t
   · exact ⟨ub,by simp[asBool],by simpa using hb⟩
   · exact ⟨ua,by simp[asBool],by simpa using ha⟩
 · cases h
theorem aaQ {src dst:TypeId}{x v:AVal}{u:Value} (h:ss P src dst x=some v) (hx:Rep w O α x u):∃ r,(convert src dst u).run P w = .ok r w∧Rep w O α v r:=by
 unfold ss at h
 split at h
 · rename_i ds k hs hd
   split at h
   · rename_i k' n
     simp only[Rep] at hx; subst hx; cases h
     refine ⟨.int k (k.wrap n),?_,by simp[Rep]⟩
     unfold convert
     rw[Sem.run_bind,run_underlying hs,Result.andThen_ok,Sem.run_bind,run_underlying hd,Result.andThen_ok]
     rfl
   · cases h
 · rename_i ds hs hd
   split at h
   · rename_i s
     simp only[Rep] at hx; subst hx; cases h
     refine ⟨.string ⟨s.toArray⟩,?_,by simp[Rep]⟩
     unfold convert
     rw[Sem.run_bind,run_underlying hs,Result.andThen_ok,Sem.run_bind,run_underlying hd,Result.andThen_ok]
     rfl
   · rename_i k n
     simp only[Rep] at hx; subst hx; cases h
     refine ⟨.string (Utf8.encode n),?_,by simp[Rep]⟩
     unfold convert
     rw[Sem.run_bind,run_underlying hs,Result.andThen_ok,Sem.run_bind,run_underlying hd,Result.andThen_ok]
     rfl
   · cases h
 · cases h
end
end Go.EM
namespace Go.EM
variable [Drawn]
section
variable {P:Program}{w:World}{O:Nat→Prop}{α:AM}
theorem ajf (s:List UInt8) (n:Nat):(⟨s.toArray⟩:ByteArray)[n]? = s[n]? := by
 by_cases h:n<s.length
 · rw[ByteArray.getElem?_lt' _ _ (by simpa [ByteArray.size] using h),List.getElem?_eq_getElem h]
   rfl
 · rw[ByteArray.getElem?_ge' _ _ (by simpa [ByteArray.size] using h),List.getElem?_eq_none (by omega)]
theorem xi {t:TypeId}{x i v:AVal}{u1 u2:Value} (h:my P t x i=some v) (hx:Rep w O α x u1) (hi:Rep w O α i u2) :
   ∃ r,(Instr.index t u1 u2).run P w = .ok r w∧Rep w O α v r:=by
 unfold my at h
 split at h
 · rename_i k i
   simp only[Rep] at hi; subst hi
   split at h
   · rename_i hu
     split at h
     · rename_i s
       simp only[Rep] at hx; subst hx
       split at h
       · rename_i h0
         simp only[Option.map_eq_some_iff] at h
         obtain ⟨b,hb,rfl⟩:=h
         refine ⟨.int .u8 b.toNat,?_,by simp[Rep]⟩
         unfold Instr.index
         rw[Sem.run_bind]
         simp only[asIntOf,Sem.run_pure,Result.andThen_ok,Sem.run_bind,run_underlying hu,h0,if_true,ajf,hb]
       · cases h
     · cases h
   · rename_i len e hu
     split at h
     · rename_i cs
       simp only[Rep] at hx
       obtain ⟨l,rfl,hl⟩:=hx
       split at h
       · rename_i h0
         cases hn:szOf P e with
         | none=>simp[hn] at h
         | some n =>
           simp only[hn,Option.bind_some] at h
           obtain ⟨r,h1,h2⟩:=eu h hl
           refine ⟨r,?_,h2⟩
           unfold Instr.index
           rw[Sem.run_bind]
           simp only[asIntOf,Sem.run_pure,Result.andThen_ok,Sem.run_bind,run_underlying hu]
           rw[if_pos h0]
           simp only[Sem.run_bind,EM.run_sizeOf hn,Result.andThen_ok]
           exact h1
       · cases h
     · cases h
   · cases h
 · cases h
theorem dm (b o n:Nat):(⟨b,o,none⟩:Addr).add n=⟨b,o+n,none⟩:=by
 unfold Addr.add
 split
 · rename_i h; subst h; rfl
 · rfl
theorem dH {n b:Nat}:∀ {xs:List AVal}{off:Nat} (k:Nat),bg w O α n b off xs→bg w O α n b (off+k*n) (xs.drop k)
 | xs,off,0,h=>by simpa using h
 | [],off,k+1,h=>by simp[bg]
 | x::xs,off,k+1,h=>by
   simp only[bg] at h
   have:=dH k h.2
   simp only[List.drop_succ_cons]
   rw[show off+(k+1)*n=off+n+k*n by rw[Nat.add_mul]; omega]
   exact this
theorem dG {n b:Nat}:∀ {xs:List AVal}{off:Nat} (k:Nat),bg w O α n b off xs→bg w O α n b off (xs.take k)
 | xs,off,0,h=>by simp[bg]
 | [],off,k+1,h=>by simp[bg]
 | x::xs,off,k+1,h=>by
   simp only[bg,List.take_succ_cons] at h ⊢
   exact ⟨h.1,dG k h.2⟩
theorem gP {n b:Nat}{xs:List AVal}{off i:Nat}{x:AVal} (h:bg w O α n b off xs) (hx:xs[i]? = some x) :
   ∃ v,Rep w O α x v∧x.cells.length=n∧v.cells.size=n∧(∀ j,j<n→w.cell? ⟨b,off+i*n+j,none⟩=v.cells[j]?)∧∀ u∈v.cells,u.oneCell'=true:=by
 have h':=dH i h
 have hi:i<xs.length:=by
   rcases Nat.lt_or_ge i xs.length with h | h
   · exact h
   · rw[List.getElem?_eq_none h] at hx; cases hx
 rw[List.drop_eq_getElem_cons hi] at h'
 have:xs[i]=x:=by rw[List.getElem?_eq_getElem hi] at hx; exact Option.some.inj hx
 rw[this] at h'
 simp only[bg] at h'
 exact h'.1
theorem eI {b:Nat}:∀ {cs:List AVal}{off:Nat} (k:Nat),bZ w O α b off cs→bZ w O α b (off+k) (cs.drop k)
 | xs,off,0,h=>by simpa using h
 | [],off,k+1,h=>by simp[bZ]
 | x::xs,off,k+1,h=>by
   simp only[bZ] at h
   have:=eI k h.2
   simp only[List.drop_succ_cons]
   rw[show off+(k+1)=off+1+k by omega]
   exact this
theorem jk {b:Nat}:∀ (cs:List AVal) (off:Nat),(∀ j c,cs[j]? = some c→∃ v,w.cell? ⟨b,off+j,none⟩=some v∧Rep w O α c v)→bZ w O α b off cs
 | [],off,_=>by simp[bZ]
 | c::cs,off,h=>by
   simp only[bZ]
   exact ⟨h 0 c rfl,jk cs (off+1) (fun j d hd=>by have:=h (j+1) d hd; rw[show off+1+j=off+(j+1) by omega]; exact this)⟩
theorem yl {b:Nat}{cs:List AVal}{off j:Nat}{c:AVal} (h:bZ w O α b off cs) (hc:cs[j]? = some c):∃ v,w.cell? ⟨b,off+j,none⟩=some v∧Rep w O α c v:=by
 have h':=eI j h
 have hi:j<cs.length:=by
   rcases Nat.lt_or_ge j cs.length with h | h
   · exact h
   · rw[List.getElem?_eq_none h] at hc; cases hc
 rw[List.drop_eq_getElem_cons hi] at h'
 have:cs[j]=c:=by rw[List.getElem?_eq_getElem hi] at hc; exact Option.some.inj hc
 rw[this] at h'
 simp only[bZ] at h'
 exact h'.1
theorem adI {t:TypeId}{x i v:AVal}{u1 u2:Value} (h:aidx P t x i=some v) (hx:Rep w O α x u1) (hi:Rep w O α i u2) :
   ∃ r,(Instr.indexAt t u1 u2).run P w = .ok r w∧Rep w O α v r:=by
 unfold aidx at h
 split at h
 · rename_i k i
   simp only[Rep] at hi; subst hi
   split at h
   · rename_i e hu
     split at h
     · rename_i n hn
       split at h
       · rename_i full m xs
         split at h
         · rename_i h0
           obtain ⟨rfl,hn0,h0⟩:=h0
           simp only[Option.map_eq_some_iff] at h
           obtain ⟨y,hy,rfl⟩:=h
           have hlt:i.toNat<xs.length:=by
             rcases Nat.lt_or_ge i.toNat xs.length with h | h
             · exact h
             · rw[List.getElem?_eq_none h] at hy; cases hy
           simp only[Rep] at hx
           obtain ⟨a,cap,rfl,h1,h2,h3⟩:=hx
           rcases h3 with h3 | ⟨_,b,off,rfl,hO,hW,hr⟩
           · subst h3; simp at hlt
           obtain ⟨v,hv1,hv2,hv3,hv4,_⟩:=gP hr hy
           refine ⟨.pointer (some ⟨b,off+i.toNat*m,none⟩),?_,?_⟩
           · unfold Instr.indexAt
             simp only[asIntOf,Sem.run_bind,Sem.run_pure,Result.andThen_ok,run_underlying hu]
             rw[if_pos ⟨h0,by omega⟩]
             simp[EM.run_sizeOf hn,dm]
           · simp only[Rep]
             refine ⟨b,off+i.toNat*m,rfl,.inr ⟨hO,hW,jk _ _ (fun j c hc => ?_)⟩⟩
             obtain ⟨u,g1,g2⟩:=jc hv1 hv2 hv3 hc
             have hj:j<m:=by
               rcases Nat.lt_or_ge j m with h | h
               · exact h
               · rw[List.getElem?_eq_none (by omega)] at hc; cases hc
             exact ⟨u,by rw[hv4 j hj,g1],g2⟩
         · cases h
       · rename_i r m top off len
         split at h
         · rename_i h0
           obtain ⟨rfl,hn0,h0,hl⟩:=h0
           cases h
           simp only[Rep] at hx
           obtain ⟨hr,a,cap,rfl,h1,h2,hx⟩:=hx
           rcases h2 with h2 | ⟨b,o,rfl⟩
           · omega
           refine ⟨.pointer (some ⟨b,o+i.toNat*m,none⟩),?_,?_⟩
           · unfold Instr.indexAt
             simp only[asIntOf,Sem.run_bind,Sem.run_pure,Result.andThen_ok,run_underlying hu]
             rw[if_pos ⟨h0,hl⟩]
             simp[EM.run_sizeOf hn,dm]
           · simp only[Rep]
             refine ⟨hr,b,o+i.toNat*m,rfl,fun ri hri=>⟨(hx ri hri).1,fun ht => ?_⟩⟩
             obtain ⟨g1,g2,g3,g4⟩:=(hx ri hri).2 ht
             have:=g4 (by omega)
             simp only[Option.some.injEq,Addr.mk.injEq] at this
             refine ⟨this.1,?_⟩
             rw[this.2.1,g1,Nat.add_mul]; omega
         · cases h
       · cases h
     · cases h
   · rename_i len e hu
     split at h
     · rename_i n hn
       split at h
       · rename_i r top k off
         split at h
         · rename_i h0
           cases h
           simp only[Rep] at hx
           obtain ⟨hr,b,o,rfl,hx⟩:=hx
           refine ⟨.pointer (some ⟨b,o+i.toNat*n,none⟩),?_,?_⟩
           · unfold Instr.indexAt
             simp only[asIntOf,Instr.sureAddr,Sem.run_bind,Sem.run_pure,Result.andThen_ok,run_underlying hu]
             rw[if_pos h0]
             simp[EM.run_sizeOf hn,dm]
           · simp only[Rep]
             refine ⟨hr,b,o+i.toNat*n,rfl,fun ri hri=>⟨(hx ri hri).1,fun ht => ?_⟩⟩
             obtain ⟨g1,g2⟩:=(hx ri hri).2 ht
             exact ⟨g1,by rw[g2]; omega⟩
         · cases h
       · rename_i cs
         split at h
         · rename_i h0
           cases h
           simp only[Rep] at hx
           obtain ⟨b,o,rfl,hx⟩:=hx
           refine ⟨.pointer (some ⟨b,o+i.toNat*n,none⟩),?_,?_⟩
           · unfold Instr.indexAt
             simp only[asIntOf,Instr.sureAddr,Sem.run_bind,Sem.run_pure,Result.andThen_ok,run_underlying hu]
             rw[if_pos h0]
             simp[EM.run_sizeOf hn,dm]
           · simp only[Rep]
             refine ⟨b,o+i.toNat*n,rfl,?_⟩
             rcases hx with rfl | ⟨g1,g2,g3⟩
             · exact .inl (by simp)
             · exact .inr ⟨g1,g2,eI _ g3⟩
         · cases h
       · cases h
     · cases h
   · cases h
 · cases h
theorem xk {s:TypeId}{x v:AVal}{f:Nat}{u:Value} (h:ji P s x f=some v) (hx:Rep w O α x u) :
   ∃ r,(Instr.fieldAt s u f).run P w = .ok r w∧Rep w O α v r:=by
 unfold ji jR at h
 split at h
 · rename_i fd hfd
   split at hfd
   · rename_i fs hu
     split at h
     · rename_i n hn
       have hplace:∀ b o,(fieldPlace ⟨b,o,none⟩ fd).run P w = .ok ⟨b,o+fd.offset,none⟩ w:=by
         intro b o
         unfold fieldPlace
         simp[Sem.run_bind,EM.run_sizeOf hn,dm]
       split at h
       · cases h
         simp only[Rep] at hx
         obtain ⟨hr,b,o,rfl,hx⟩:=hx
         refine ⟨.pointer (some ⟨b,o+fd.offset,none⟩),?_,?_⟩
         · unfold Instr.fieldAt
           simp[Sem.run_bind,run_underlying hu,hfd,Instr.sureAddr,hplace]
         · simp only[Rep]
           refine ⟨hr,b,o+fd.offset,rfl,fun ri hri=>⟨(hx ri hri).1,fun ht => ?_⟩⟩
           obtain ⟨g1,g2⟩:=(hx ri hri).2 ht
           exact ⟨g1,by rw[g2]; omega⟩
       · cases h
         simp only[Rep] at hx
         obtain ⟨b,o,rfl,hx⟩:=hx
         refine ⟨.pointer (some ⟨b,o+fd.offset,none⟩),?_,?_⟩
         · unfold Instr.fieldAt
           simp[Sem.run_bind,run_underlying hu,hfd,Instr.sureAddr,hplace]
         · simp only[Rep]
           refine ⟨b,o+fd.offset,rfl,?_⟩
           rcases hx with rfl | ⟨g1,g2,g3⟩
           · exact .inl (by simp)
           · exact .inr ⟨g1,g2,eI _ g3⟩
       · cases h
     · cases h
   · cases hfd
 · cases h
theorem xj {s:TypeId}{x v:AVal}{f:Nat}{u:Value} (h:oC P s x f=some v) (hx:Rep w O α x u) :
   ∃ r,(Instr.field s u f).run P w = .ok r w∧Rep w O α v r:=by
 unfold oC jR at h
 split at h
 · rename_i fd hfd
   split at hfd
   · rename_i fs hu
     split at h
     · simp only[Rep] at hx
       obtain ⟨l,rfl,hl⟩:=hx
       obtain ⟨r,h1,h2⟩:=eu h hl
       exact ⟨r,by unfold Instr.field; simp[Sem.run_bind,run_underlying hu,hfd,asAgg,h1],h2⟩
     · cases h
   · cases hfd
 · cases h
theorem qR {x v:AVal}{i:Nat}{u:Value} (h:jj x i=some v) (hx:Rep w O α x u) :
   ∃ r,(Instr.extract u i).run P w = .ok r w∧Rep w O α v r:=by
 unfold jj at h
 split at h
 · simp only[Rep] at hx
   obtain ⟨l,rfl,hl⟩:=hx
   obtain ⟨r,h1,h2⟩:=kH hl h
   exact ⟨r,by unfold Instr.extract; simp[h1],h2⟩
 · cases h
theorem adH {t ty:TypeId}{x v:AVal}{u:Value} (h:alen P t x=some v) (hx:Rep w O α x u) :
   ∃ r,(Builtin.len_ #[t] ty #[u]).run P w = .ok r w∧Rep w O α v r:=by
 unfold alen at h
 split at h
 · rename_i hu
   split at h
   · simp only[Rep] at hx; subst hx; cases h
     exact ⟨_,by simp[Builtin.len_,run_underlying hu]; rfl,by simp[Rep,goInt,ByteArray.size]⟩
   · cases h
 · rename_i n e hu
   cases h
   exact ⟨_,by simp[Builtin.len_,run_underlying hu]; rfl,by simp[Rep,goInt]⟩
 · rename_i e hu
   split at h
   · simp only[Rep] at hx; obtain ⟨a,rfl⟩:=hx; cases h
     exact ⟨_,by simp[Builtin.len_,run_underlying hu]; rfl,by simp[Rep,goInt]⟩
   · simp only[Rep] at hx; obtain ⟨a,cap,rfl,_⟩:=hx; cases h
     exact ⟨_,by simp[Builtin.len_,run_underlying hu]; rfl,by simp[Rep,goInt]⟩
   · simp only[Rep] at hx; obtain ⟨_,a,cap,rfl,_⟩:=hx; cases h
     exact ⟨_,by simp[Builtin.len_,run_underlying hu]; rfl,by simp[Rep,goInt]⟩
   · cases h
 · cases h
theorem qQ {t:TypeId}{x v:AVal}{u:Value} (h:qc P t x=some v) (hx:Rep w O α x u) :
   ∃ r,(Instr.makeInterface t u).run P w = .ok r w∧Rep w O α v r:=by
 unfold qc at h
 split at h
 · cases h
 · rename_i d hd hu
   cases h
   refine ⟨.iface t u,?_,by simp only[Rep]; exact ⟨u,rfl,hx⟩⟩
   unfold Instr.makeInterface
   rw[Sem.run_bind,run_underlying hu,Result.andThen_ok]
   cases d<;>first
     | rfl
     | exact absurd rfl (hd _)
 · cases h
theorem e7 {t:TypeId}{z:AVal} (h:zeroOf P t=some z):∃ v,(zeroValue t).run P w = .ok v w∧Rep w O α z v:=by
 unfold zeroOf at h
 cases hi:P.info? t with
 | none=>simp[hi] at h
 | some i =>
   cases hz:i.zero with
   | none=>simp[hi,hz] at h
   | some v =>
     simp[hi,hz] at h
     subst h
     exact ⟨v,by simp[zeroValue,typeInfo,hi,hz],ev v⟩
theorem td {x v:AVal}{xt t:TypeId}{ok:Bool}{u:Value} (h:uB P x t ok=some v) (hx:Rep w O α x u) :
   ∃ r,(Instr.typeAssert u xt t ok).run P w = .ok r w∧Rep w O α v r:=by
 unfold uB at h
 split at h
 · cases h
 · rename_i d hd hu
   split at h
   · rename_i t' y
     simp only[Rep] at hx
     obtain ⟨q,rfl,hq⟩:=hx
     split at h
     · rename_i ht
       subst ht
       cases h
       cases ok
       · refine ⟨q,?_,by simpa using hq⟩
         unfold Instr.typeAssert
         rw[Sem.run_bind,run_underlying hu,Result.andThen_ok]
         split<;>simp_all
       · refine ⟨.tuple #[q,.bool true],?_,?_⟩
         · unfold Instr.typeAssert
           rw[Sem.run_bind,run_underlying hu,Result.andThen_ok]
           split<;>simp_all
         · simp only[cond_true,Rep]
           exact ⟨[q,.bool true],rfl,by simp only[RepL,Rep]; exact ⟨q,_,rfl,hq,_,_,rfl,rfl,rfl⟩⟩
     · rename_i ht
       cases ok
       · simp at h
       · simp only[cond_true,Option.map_eq_some_iff] at h
         obtain ⟨z,hz,rfl⟩:=h
         obtain ⟨zv,hz1,hz2⟩:=e7 (w:=w) (O:=O) (α:=α) hz
         refine ⟨.tuple #[zv,.bool false],?_,?_⟩
         · unfold Instr.typeAssert
           rw[Sem.run_bind,run_underlying hu,Result.andThen_ok]
           split<;>simp_all
         · simp only[Rep]
           exact ⟨[zv,.bool false],rfl,by simp only[RepL,Rep]; exact ⟨zv,_,rfl,hz2,_,_,rfl,rfl,rfl⟩⟩
   · simp only[Rep] at hx
     subst hx
     cases ok
     · simp at h
     · simp only[cond_true,Option.map_eq_some_iff] at h
       obtain ⟨z,hz,rfl⟩:=h
       obtain ⟨zv,hz1,hz2⟩:=e7 (w:=w) (O:=O) (α:=α) hz
       refine ⟨.tuple #[zv,.bool false],?_,?_⟩
       · unfold Instr.typeAssert
         rw[Sem.run_bind,run_underlying hu,Result.andThen_ok]
         split<;>simp_all
       · simp only[Rep]
         exact ⟨[zv,.bool false],rfl,by simp only[RepL,Rep]; exact ⟨zv,_,rfl,hz2,_,_,rfl,rfl,rfl⟩⟩
   · cases h
 · cases h
theorem li {mx:Bool}{xs:List AVal}{v:AVal}{tys:Array TypeId}{ty:TypeId}{l:List Value} (h:gx mx xs=some v) (hx:RepL w O α xs l) :
   ∃ r,((cond mx (Builtin.max_ tys ty l.toArray) (Builtin.min_ tys ty l.toArray)):Sem Value).run P w = .ok r w∧Rep w O α v r:=by
 unfold gx at h
 split at h
 · split at h
   · rename_i hk; subst hk
     simp only[RepL,Rep] at hx
     obtain ⟨_,_,rfl,rfl,_,_,rfl,rfl,rfl⟩:=hx
     cases h
     cases mx
     · exact ⟨_,by simp[Builtin.min_,Builtin.min2]; rfl,by simp[Rep]⟩
     · exact ⟨_,by simp[Builtin.max_,Builtin.max2]; rfl,by simp[Rep]⟩
   · cases h
 · split at h
   · rename_i hk; obtain ⟨hk,hk2⟩:=hk; subst hk; subst hk2
     simp only[RepL,Rep] at hx
     obtain ⟨_,_,rfl,rfl,_,_,rfl,rfl,_,_,rfl,rfl,rfl⟩:=hx
     cases h
     cases mx
     · exact ⟨_,by simp[Builtin.min_,Builtin.min2]; rfl,by simp[Rep]⟩
     · exact ⟨_,by simp[Builtin.max_,Builtin.max2]; rfl,by simp[Rep]⟩
   · cases h
 · cases h
end
end Go.EM
