import Derived.Test.YtmklghkhfimfgaaGreatDoorE19
import Derived.Lib.ItoaNum
import Derived.Lib.LaidTab
import Derived.Sort.Grow
import Derived.Deep.Draws
import Derived.Shelf.Strconv.Itoa3
import Derived.Lib.AtoiAll
import Derived.Lib.Bytealg
import Derived.Shelf.Unicode.DecodeAny
import Derived.Shelf.SlicesE.Clone
import Derived.Maps.AppendAt
import Derived.Shelf.Strings.OnBuilder
import Derived.Shelf.SlicesE.Delete
import Derived.Shelf.Spec.SlicesInsertGrow
import Derived.Shelf.SlSortCmp.NoneTotal
import Derived.Shelf.Spec.SlicesGrow
set_option linter.unusedVariables false
set_option linter.unusedSimpArgs false
namespace Go.EM
theorem kZ {w:World}{O:Nat→Prop}{α:AM}{b:Nat}:∀ {cs:List AVal}{off i:Nat}{a:AVal},bK w O α b off cs→cs[i]? = some a→∃ v,w.cell? ⟨b,off+i,none⟩=some v∧Rep w O α a v
 | [],off,i,a,h,hi=>by simp at hi
 | c::cs,off,0,a,h,hi=>by
   simp only[bK] at h
   simp only[List.getElem?_cons_zero,Option.some.injEq] at hi
   subst hi
   exact h.1
 | c::cs,off,i+1,a,h,hi=>by
   simp only[bK] at h
   obtain ⟨v,h1,h2⟩:=kZ h.2 (by simpa using hi)
   exact ⟨v,by rw[← h1]; congr 2; omega,h2⟩
theorem aoV {P:Program}{G:List (Nat×AVal)}{w:World}{O:Nat→Prop}{g:Nat}{nm:String}{k:IntKind}{zs:List Int} (hG:bM G w O []) (hl:aK G g=some (.rptr (zs.map (AVal.int k)))) (hg:P.globalNamed nm=some g):Lib.TabIs P w nm k zs:=by
 obtain ⟨h1,h2,h3⟩:=hG g _ hl
 obtain ⟨_,_,c,t,fr,h4,h5,_⟩:=h3 _ rfl
 unfold Lib.TabIs World.var?
 rw[hg,Option.bind_some,h4]
 simp only[Option.some.injEq]
 apply Array.ext'
 apply List.ext_getElem?
 intro i
 simp only[List.length_map] at h5
 rcases Nat.lt_or_ge i zs.length with hi | hi
 · simp only[Rep] at h2
   obtain ⟨b,off,he,h2⟩:=h2
   cases he
   have hne:zs.map (AVal.int k)≠[]:=fun e=>by
     have:=congrArg List.length e
     simp at this
     rw[this] at hi; simp at hi
   rcases h2 with h2 | ⟨_,_,h2⟩
   · exact absurd h2 hne
   · obtain ⟨v,g1,g2⟩:=kZ (i:=i) (a:=.int k zs[i]) h2 (by rw[List.getElem?_map,List.getElem?_eq_getElem hi]; rfl)
     simp only[Rep] at g2
     subst g2
     rw[Nat.zero_add] at g1
     unfold World.cell? at g1
     rw[h4] at g1
     simp only[Option.isSome_none,Bool.false_eq_true,if_false] at g1
     rw[Array.getElem?_toList,g1,List.getElem?_map,List.getElem?_eq_getElem hi]
     rfl
 · rw[List.getElem?_eq_none (by rw[Array.length_toList]; omega),List.getElem?_eq_none (by simpa using hi)]
theorem wy {w:World}{k:Nat}{os:Array Obj}:Quiet w (Go.Sort.grow (w.drewN k) os):=by
 refine ⟨rfl,rfl,rfl,?_,fun b hb => ?_,fun h=>h.elim⟩
 · show w.heap.size≤(w.heap++os).size
   rw[Array.size_append]; omega
 · show (w.heap++os)[b]? = w.heap[b]?
   rw[Array.getElem?_append_left hb]
def acK:PFn:=fun xs=>match xs with
 | [.int .i64 n]=>if -9223372036854775808≤n∧n≤9223372036854775807 then some (.str (Lib.itoa n)) else none
 | _=>none
theorem ww {P:Program}{G:List (Nat×AVal)}{f g:Nat} (h0:Goes P f) (hl:aK G g=some (.rptr (Lib.pow10Tab.map (AVal.int .u64)))) (hg:P.globalNamed "internal/strconv.uint64pow10" = some g)
   (hcon:∀ n:Int,-9223372036854775808≤n→n≤9223372036854775807→∀ w:World,Lib.TabIs P w "internal/strconv.uint64pow10" .u64 Lib.pow10Tab→Calls P f #[.int .i64 n] w fun e w'=>e = .returned (.string ⟨(Lib.itoa n).toArray⟩)∧∃ k os,w'=Go.Sort.grow (w.drewN k) os):aB P G f acK:=by
 refine ⟨h0,fun xs r hF hc w O vs hb hG hv => ?_⟩
 unfold acK at hF
 split at hF
 · rename_i n
   split at hF
   · rename_i hn
     cases hF
     simp only[RepL,Rep] at hv
     obtain ⟨v,vs,rfl,rfl,rfl⟩:=hv
     refine (hcon n hn.1 hn.2 w (aoV hG hl hg)).mono ?_
     rintro e w' ⟨rfl,k,os,rfl⟩
     exact ⟨_,rfl,wy,by simp only[Rep],rfl⟩
   · cases hF
 · cases hF
end Go.EM
namespace Go.EM
def sQ (te:Nat):PFn:=fun xs=>match xs with
 | [.str s]=>if s.length≤281474976710656 then some (match Lib.atoiAll s with
   | .ok v=>.tup [.int .i64 v,.niliface]
   | Lib.NumEnd.syntax=>.tup [.int .i64 0,.iface te (.rptr [])]
   | .range=>.tup [.int .i64 (Lib.atoiSat s),.iface te (.rptr [])]) else none
 | _=>none
theorem fA {w w':World} (h:RowKit.Below w.heap.size w w'):Quiet w w':=⟨h.os,h.tape,h.output,h.size,h.block,fun h=>h.elim⟩
theorem sN {w:World}{e:TypeId}{t:ByteArray}:Quiet w (Lib.bytesWorld w e t):=by
 rw[iZ]
 refine ⟨rfl,rfl,rfl,?_,fun b hb => ?_,fun h=>h.elim⟩
 · show w.heap.size≤(w.heap.push _).size
   rw[Array.size_push]; omega
 · show (w.heap.push _)[b]? = w.heap[b]?
   rw[Array.getElem?_push,if_neg (by omega)]
theorem ug {G:List (Nat×AVal)}{w:World}{O:Nat→Prop}{g:Nat} (hG:bM G w O []) (hl:aK G g=some (.rptr [.any])):∃ ev,w.cell? ⟨g,0,none⟩=some ev∧(ev = .nilIface∨∃ te pe,ev = .iface te pe):=by
 obtain ⟨_,_,c,t,fr,h4,_,h5⟩:=(hG g _ hl).2.2 _ rfl
 obtain ⟨te,pe,h6⟩:=h5 rfl
 refine ⟨.iface te pe,?_,.inr ⟨te,pe,rfl⟩⟩
 unfold World.cell?
 rw[h4]
 simpa using h6
theorem wO {P:Program}{G:List (Nat×AVal)}{f te t5 gs gr:Nat} (h0:Goes P f) (hs:aK G gs=some (.rptr [.any])) (hr:aK G gr=some (.rptr [.any]))
   (hok:∀ (s:ByteArray),s.size≤9223372036854775806→∀ v:Int,Lib.atoiAll s.data.toList = .ok v→∀ w:World,Calls P f #[.string s] w fun e w'=>e = .returned (.tuple #[.int .i64 v,.nilIface])∧(w'=w∨∃ t,w'=Lib.bytesWorld w t5 t))
   (hsyn:∀ (s:ByteArray),s.size≤281474976710656→Lib.atoiAll s.data.toList=Lib.NumEnd.syntax→∀ (ev:Value) (w:World),w.cell? ⟨gs,0,none⟩=some ev→(ev = .nilIface∨∃ te pe,ev = .iface te pe) →
     Calls P f #[.string s] w fun e w'=>∃ N,e = .returned (.tuple #[.int .i64 (0),.iface te (.pointer (some ⟨N,0,none⟩))])∧RowKit.Below w.heap.size w w')
   (hran:∀ (s:ByteArray),s.size≤281474976710656→Lib.atoiAll s.data.toList = .range→∀ (ev:Value) (w:World),w.cell? ⟨gr,0,none⟩=some ev→(ev = .nilIface∨∃ te pe,ev = .iface te pe) →
     Calls P f #[.string s] w fun e w'=>∃ N,e = .returned (.tuple #[.int .i64 (Lib.atoiSat s.data.toList),.iface te (.pointer (some ⟨N,0,none⟩))])∧RowKit.Below w.heap.size w w'):aB P G f (sQ te):=by
 refine ⟨h0,fun xs r hF hc w O vs hb hG hv => ?_⟩
 unfold sQ at hF
 split at hF
 · rename_i s
   split at hF
   · rename_i hn
     simp only[RepL,Rep] at hv
     obtain ⟨v,vs,rfl,rfl,rfl⟩:=hv
     have hsz:(⟨s.toArray⟩:ByteArray).size=s.length:=by show s.toArray.size=_; simp
     cases ha:Lib.atoiAll s with
     | ok v =>
       rw[ha] at hF
       cases hF
       refine (hok ⟨s.toArray⟩ (by rw[hsz]; omega) v (by simpa using ha) w).mono ?_
       rintro e w' ⟨rfl,hw⟩
       refine ⟨_,rfl,?_,?_,rfl⟩
       · rcases hw with rfl | ⟨t,rfl⟩
         · exact Quiet.refl _
         · exact sN
       · simp only[Rep,RepL]
         exact ⟨[.int .i64 v,.nilIface],rfl,_,_,rfl,rfl,_,_,rfl,rfl,rfl⟩
     | range =>
       rw[ha] at hF
       cases hF
       obtain ⟨ev,h1,h2⟩:=ug hG hr
       refine (hran ⟨s.toArray⟩ (by rw[hsz]; exact hn) (by simpa using ha) ev w h1 h2).mono ?_
       rintro e w' ⟨N,rfl,hw⟩
       refine ⟨_,rfl,fA hw,?_,rfl⟩
       simp only[Rep,RepL]
       exact ⟨[.int .i64 (Lib.atoiSat s),.iface te (.pointer (some ⟨N,0,none⟩))],rfl,_,_,rfl,(by simp),_,_,rfl,⟨_,rfl,N,0,rfl,.inl trivial⟩,rfl⟩
     | _ =>
       rw[ha] at hF
       cases hF
       obtain ⟨ev,h1,h2⟩:=ug hG hs
       refine (hsyn ⟨s.toArray⟩ (by rw[hsz]; exact hn) (by simpa using ha) ev w h1 h2).mono ?_
       rintro e w' ⟨N,rfl,hw⟩
       refine ⟨_,rfl,fA hw,?_,rfl⟩
       simp only[Rep,RepL]
       exact ⟨[.int .i64 0,.iface te (.pointer (some ⟨N,0,none⟩))],rfl,_,_,rfl,rfl,_,_,rfl,⟨_,rfl,N,0,rfl,.inl trivial⟩,rfl⟩
   · cases hF
 · cases hF
end Go.EM
namespace Go.EM
def kN:List AVal:=(List.range 256).map fun c=>AVal.int .u8 (Lib.firstT c:Nat)
def jm:List AVal:=(List.range 16).flatMap fun i=>[AVal.int .u8 (Lib.accLo i:Nat),AVal.int .u8 (Lib.accHi i:Nat)]
def pg:PFn:=fun xs=>match xs with
 | [.str s]=>some (.tup [.int .i32 (Lib.decodeGo ⟨s.toArray⟩).1,.int .i64 (Lib.decodeGo ⟨s.toArray⟩).2])
 | _=>none
theorem lH {G:List (Nat×AVal)}{w:World}{O:Nat→Prop}{g i:Nat}{cs:List AVal}{a:AVal} (hG:bM G w O []) (hl:aK G g=some (.rptr cs)) (hi:cs[i]? = some a):∃ v,w.cell? ⟨g,i,none⟩=some v∧Rep w O [] a v:=by
 have h2:=(hG g _ hl).2.1
 simp only[Rep] at h2
 obtain ⟨b,off,he,h2⟩:=h2
 cases he
 rcases h2 with h2 | ⟨_,_,h2⟩
 · rw[h2] at hi; simp at hi
 · obtain ⟨v,g1,g2⟩:=kZ h2 hi
   rw[Nat.zero_add] at g1
   exact ⟨v,g1,g2⟩
theorem aiI:∀ i:Fin 16,(List.range 16).flatMap (fun i=>[(Lib.accLo i),(Lib.accHi i)]) |>.drop (2*i.val) |>.take 2 |> (· = [Lib.accLo i.val,Lib.accHi i.val]):=by decide
theorem arn {G:List (Nat×AVal)}{w:World}{O:Nat→Prop}{g3 g4:Nat} (hG:bM G w O []) (h3:aK G g3=some (.rptr kN)) (h4:aK G g4=some (.rptr jm)):Lib.Utf8Tabs g3 g4 w:=by
 refine ⟨fun c hc => ?_,fun i hi => ?_⟩
 · obtain ⟨v,e1,e2⟩:=lH (i:=c) (a:=AVal.int .u8 (Lib.firstT c:Nat)) hG h3 (by unfold kN; rw[List.getElem?_map,List.getElem?_range hc]; rfl)
   simp only[Rep] at e2
   subst e2; exact e1
 · have hm:jm=((List.range 16).flatMap fun i=>[(Lib.accLo i),(Lib.accHi i)]).map fun (n:Nat)=>AVal.int .u8 n:=rfl
   have ha:=aiI ⟨i,hi⟩
   simp only at ha
   have k0:((List.range 16).flatMap fun i=>[(Lib.accLo i),(Lib.accHi i)])[2*i]? = some (Lib.accLo i):=by
     have:=congrArg (fun l=>l[0]?) ha
     simpa [List.getElem?_take,List.getElem?_drop] using this
   have k1:((List.range 16).flatMap fun i=>[(Lib.accLo i),(Lib.accHi i)])[2*i+1]? = some (Lib.accHi i):=by
     have:=congrArg (fun l=>l[1]?) ha
     simpa [List.getElem?_take,List.getElem?_drop] using this
   obtain ⟨v,e1,e2⟩:=lH (i:=2*i) (a:=AVal.int .u8 (Lib.accLo i:Nat)) hG h4 (by rw[hm,List.getElem?_map,k0]; rfl)
   obtain ⟨u,e3,e4⟩:=lH (i:=2*i+1) (a:=AVal.int .u8 (Lib.accHi i:Nat)) hG h4 (by rw[hm,List.getElem?_map,k1]; rfl)
   simp only[Rep] at e2 e4
   subst e2; subst e4
   exact ⟨e1,e3⟩
theorem qU {P:Program}{G:List (Nat×AVal)}{f g3 g4:Nat} (h0:Goes P f) (h3:aK G g3=some (.rptr kN)) (h4:aK G g4=some (.rptr jm))
   (hcon:∀ (s:ByteArray) (w:World),Lib.Utf8Tabs g3 g4 w→Calls P f #[.string s] w fun e w'=>e = .returned (.tuple #[.int .i32 (Lib.decodeGo s).1,.int .i64 (Lib.decodeGo s).2])∧RowKit.Below w.heap.size w w'):aB P G f pg:=by
 refine ⟨h0,fun xs r hF hc w O vs hb hG hv => ?_⟩
 unfold pg at hF
 split at hF
 · rename_i s
   cases hF
   simp only[RepL,Rep] at hv
   obtain ⟨v,vs,rfl,rfl,rfl⟩:=hv
   refine (hcon _ w (arn hG h3 h4)).mono ?_
   rintro e w' ⟨rfl,hw⟩
   refine ⟨_,rfl,fA hw,?_,rfl⟩
   simp only[Rep,RepL]
   exact ⟨[.int .i32 (Lib.decodeGo ⟨s.toArray⟩).1,.int .i64 (Lib.decodeGo ⟨s.toArray⟩).2],rfl,_,_,rfl,rfl,_,_,rfl,rfl,rfl⟩
 · cases hF
end Go.EM
namespace Go.EM
section
variable {P:Program}{G:List (Nat×AVal)}
def rS:List AVal→Option (List (List UInt8))
 | []=>some []
 | .str s::l=>(rS l).map fun r=>s::r
 | _=>none
def aay:PFn:=fun xs=>match xs with
 | [.nil,.str _]=>some (.str [])
 | [.tree _ m ys,.str sep]=>match ys with
   | []=>some (.str [])
   | y::r=>if m=1 then (rS (y::r)).bind fun l=>if l.length≤140737488355328∧(Lib.join l sep).length≤140737488355328 then some (.str (Lib.join l sep)) else none else none
 | _=>none
theorem mW {w:World}{O:Nat→Prop}{b:Nat}:∀ {ys:List AVal}{l:List (List UInt8)}{off:Nat},rS ys=some l→aW w O [] 1 b off ys→l.length=ys.length∧∀ (j:Nat) x,(l.map fun s=>(⟨s.toArray⟩:ByteArray))[j]? = some x→w.cell? ⟨b,off+j,none⟩=some (.string x)
 | [],l,off,h,hr=>by
   simp only[rS] at h; cases h
   exact ⟨rfl,fun j x hx=>by simp at hx⟩
 | y::ys,l,off,h,hr=>by
   simp only[aW] at hr
   obtain ⟨⟨v,h1,h2,h3,h4,_⟩,h5⟩:=hr
   match y,h,h1 with
   | .str s,h,h1 =>
     simp only[rS,Option.map_eq_some_iff] at h
     obtain ⟨l',hl',rfl⟩:=h
     simp only[Rep] at h1
     subst h1
     obtain ⟨k1,k2⟩:=mW hl' h5
     refine ⟨by simp[k1],fun j x hx => ?_⟩
     cases j with
     | zero =>
       simp at hx
       subst hx
       rw[h4 0 (by omega)]
       rfl
     | succ j =>
       have:=k2 j x (by simpa using hx)
       rw[show off+(j+1)=off+1+j by omega]; exact this
theorem wr {f:Nat} (h0:Goes P f)
   (hnone:∀ (a:Option Addr) (c:Nat) (sep:ByteArray) (w:World),Calls P f #[.slice a 0 c,.string sep] w fun e w'=>e = .returned (.string ⟨#[]⟩)∧w'=w)
   (hcon:∀ (bk o c:Nat) (xs:List ByteArray) (sep:ByteArray) (w:World),(∀ (j:Nat) x,xs[j]? = some x→w.cell? ⟨bk,o+j,none⟩=some (.string x))→bk<w.heap.size→xs.length≤140737488355328→xs.length≤c→(Lib.join (xs.map (·.data.toList)) sep.data.toList).length≤140737488355328 →
     Calls P f #[.slice (some ⟨bk,o,none⟩) xs.length c,.string sep] w fun e w'=>e = .returned (.string ⟨(Lib.join (xs.map (·.data.toList)) sep.data.toList).toArray⟩)∧RowKit.Below w.heap.size w w'):aB P G f aay:=by
 refine ⟨h0,fun xs r hF hc w O vs hb' hG hv => ?_⟩
 unfold aay at hF
 split at hF
 · cases hF
   simp only[RepL,Rep] at hv
   obtain ⟨v,vs,rfl,rfl,u,us,rfl,rfl,rfl⟩:=hv
   refine (hnone none 0 _ w).mono ?_
   rintro e w' ⟨rfl,rfl⟩
   exact ⟨_,rfl,Quiet.refl _,by simp only[Rep],rfl⟩
 · rename_i fl m ys sep
   simp only[RepL,Rep] at hv
   obtain ⟨v,vs,rfl,⟨a,cap,rfl,hle,_,hrow⟩,u,us,rfl,rfl,rfl⟩:=hv
   split at hF
   · cases hF
     refine (hnone a cap _ w).mono ?_
     rintro e w' ⟨rfl,rfl⟩
     exact ⟨_,rfl,Quiet.refl _,by simp only[Rep],rfl⟩
   · rename_i y ys
     split at hF
     · rename_i hm
       subst hm
       rw[Option.bind_eq_some_iff] at hF
       obtain ⟨l,hl,hF⟩:=hF
       split at hF
       · rename_i hb
         cases hF
         rcases hrow with hrow | ⟨_,b,off,rfl,hO,hOw,hrow⟩
         · cases hrow
         · obtain ⟨k1,k2⟩:=mW hl hrow
           have hmap:(l.map fun s=>(⟨s.toArray⟩:ByteArray)).map (·.data.toList)=l:=by
             rw[List.map_map]
             conv=>rhs; rw[← List.map_id l]
             refine List.map_congr_left fun s _ => ?_
             simp
           have hlt:b<w.heap.size:=by
             cases l with
             | nil=>simp at k1
             | cons s l =>
               have:=k2 0 _ (by simp; rfl)
               exact block_lt this
           have:=hcon b off cap (l.map fun s=>(⟨s.toArray⟩:ByteArray)) ⟨sep.toArray⟩ w k2 hlt (by simpa using hb.1) (by simp only[List.length_map]; omega) (by rw[hmap]; simpa using hb.2)
           rw[hmap,List.length_map,k1] at this
           refine this.mono ?_
           rintro e w' ⟨rfl,hw⟩
           exact ⟨_,rfl,fA hw,by simp only[Rep],rfl⟩
       · cases hF
     · cases hF
 · cases hF
end
end Go.EM
namespace Go.EM
open Go.Proofs Go.Shelf Go.RowKit Go.Lib Go.Sort
section
variable {P:Program}{ρ:Ren}
structure InsL (P:Program) (ρ:Ren):Prop where
 mixed:P.follows .mixedOrders=true
 f22:Bears P (ρ.f 22) (Body2.n22 ρ)
 f29:∃ nm:String,(nm == "runtime.NumGoroutine")=false∧Extern.findNext { Body2.n29 ρ with name:=nm }=none∧Extern.find { Body2.n29 ρ with name:=nm }=some (Extern.SlicesOverlaps.overlaps #[(ρ.t 24),(ρ.t 24)] #[(ρ.t 4)])∧P.funcs[ρ.f 29]? = some { Body2.n29 ρ with name:=nm }
 t0:P.underlying (ρ.t 0)=some (TypeDesc.tuple #[])
 a0:∀ w,(isAgg (ρ.t 0)).run P w = .ok false w
 z0:∀ w,(Go.sizeOf (ρ.t 0)).run P w = .ok 1 w
 v0:∀ w,(zeroValue (ρ.t 0)).run P w = .ok (Value.tuple #[]) w
 t3:P.underlying (ρ.t 3)=some (TypeDesc.int IntKind.i64)
 a3:∀ w,(isAgg (ρ.t 3)).run P w = .ok false w
 z3:∀ w,(Go.sizeOf (ρ.t 3)).run P w = .ok 1 w
 v3:∀ w,(zeroValue (ρ.t 3)).run P w = .ok (Value.int IntKind.i64 0) w
 t4:P.underlying (ρ.t 4)=some (TypeDesc.bool)
 a4:∀ w,(isAgg (ρ.t 4)).run P w = .ok false w
 z4:∀ w,(Go.sizeOf (ρ.t 4)).run P w = .ok 1 w
 v4:∀ w,(zeroValue (ρ.t 4)).run P w = .ok (Value.bool false) w
 t24:P.underlying (ρ.t 24)=some (TypeDesc.slice (ρ.t 9))
 a24:∀ w,(isAgg (ρ.t 24)).run P w = .ok false w
 z24:∀ w,(Go.sizeOf (ρ.t 24)).run P w = .ok 1 w
 v24:∀ w,(zeroValue (ρ.t 24)).run P w = .ok (Value.slice none 0 0) w
end
end Go.EM
set_option linter.unusedSectionVars false
namespace Go.EM
open Go.Proofs Go.Shelf Go.RowKit Go.Lib Go.Sort
section
variable [Drawn] {P:Program}{w w':World}{O:Nat→Prop}{α:AM}{st:ar}
end
end Go.EM
namespace Go.EM
open Go.Proofs Go.Shelf Go.RowKit Go.Lib Go.Sort
section
variable {P:Program}{ρ:Ren}
end
section
variable {P:Program}{G:List (Nat×AVal)}
structure ElemK (P:Program) (te M:Nat) (i0:TypeInfo) (zv:Value):Prop where
 info:P.info? te=some i0
 zero:i0.zero=some zv
 size:i0.size=M
 cells:zv.cells.size=M
 bytes:i0.bytes≤16384
 bytes0:i0.bytes≠0
 one:∀ u∈zv.cells,u.oneCell'=true
 pos:0<M
theorem ElemK.zeros {te M:Nat}{i0:TypeInfo}{zv:Value} (h:ElemK P te M i0 zv) (k:Nat):∀ u∈(Builtin.zeroCells zv.cells k).toList,u.oneCell'=true:=by
 intro u hu
 simp only[Builtin.zeroCells,Array.toList_map,List.mem_map] at hu
 obtain ⟨x,_,rfl⟩:=hu
 rcases Nat.lt_or_ge (x%zv.cells.size) zv.cells.size with hlt | hge
 · have:zv.cells[x%zv.cells.size]! = zv.cells[x%zv.cells.size]:=getElem!_pos ..
   first
     | exact h.one _ (by simp[hlt])
     | (rw[this]; exact h.one _ (Array.getElem_mem _))
 · have:=Nat.mod_lt x (show 0<zv.cells.size by rw[h.cells]; exact h.pos)
   omega
end
section
variable [Drawn] {w w':World}{O:Nat→Prop}{α:AM}{st:ar}
end
section
variable {P:Program}{G:List (Nat×AVal)}{ρ:Ren}
end
end Go.EM
namespace Go.EM
open Go.Proofs Go.Shelf Go.RowKit Go.Lib Go.Sort
section
variable {P:Program}{G:List (Nat×AVal)}{ρ:Ren}
theorem ElemK.szOf {te M:Nat}{i0:TypeInfo}{zv:Value} (h:ElemK P te M i0 zv):∀ w,(Go.sizeOf te).run P w = .ok M w:=fun w=>by simp[Go.sizeOf,typeInfo,h.info,h.size]
end
end Go.EM
namespace Go.EM
open Go.Proofs Go.Shelf Go.RowKit Go.Lib Go.Sort
section
variable [Drawn] {w w':World}{O:Nat→Prop}{α:AM}{st:ar}
end
section
variable {P:Program}{G:List (Nat×AVal)}{ρ:Ren}
end
end Go.EM
namespace Go.EM
section
variable [Drawn] {P:Program}{G:List (Nat×AVal)}{w:World}{O:Nat→Prop}{α:AM}{st:ar}
end
end Go.EM
namespace Go.EM
open Go.Proofs Go.Shelf Go.RowKit Go.Lib Go.Sort
section
variable [Drawn] {w w':World}{O:Nat→Prop}{α:AM}{st:ar}
end
section
variable {P:Program}{G:List (Nat×AVal)}{ρ:Ren}
end
end Go.EM
namespace Go.EM
open Go.Proofs Go.Shelf
section
variable {P:Program}{G:List (Nat×AVal)}{ρ:Ren}
end
end Go.EM
namespace Go.EM
open Go.Proofs Go.Shelf Go.RowKit Go.Lib Go.Sort
section
variable [Drawn] {P:Program}{G:List (Nat×AVal)}{w:World}{O:Nat→Prop}{α:AM}{st:ar}
end
end Go.EM
