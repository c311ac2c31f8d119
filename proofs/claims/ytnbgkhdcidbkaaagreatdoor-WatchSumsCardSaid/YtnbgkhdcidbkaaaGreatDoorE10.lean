import Derived.Test.YtnbgkhdcidbkaaaGreatDoorE5
set_option linter.unusedVariables false
set_option linter.unusedSectionVars false
set_option linter.unusedSimpArgs false
namespace Go.EM
variable [Drawn]
section
variable {P:Program}{w:World}{O:Nat→Prop}{α:AM}
def RepO (w:World) (O:Nat→Prop) (α:AM):Option AVal→Option Value→Prop
 | none,v=>v=none
 | some x,v=>∃ u,v=some u∧Rep w O α x u
theorem eG {x:Option AVal}{v:Option Value}{d n:Nat} (h:dU x d=some n) (hx:RepO w O α x v) :
   (v=none∧n=d)∨∃ k i,v=some (.int k i)∧0≤i∧i.toNat=n:=by
 unfold dU at h
 split at h
 · simp only[RepO] at hx; cases h; exact .inl ⟨hx,rfl⟩
 · split at h
   · cases h
     simp only[RepO,Rep] at hx
     obtain ⟨u,rfl,rfl⟩:=hx
     exact .inr ⟨_,_,rfl,by assumption,rfl⟩
   · cases h
 · cases h
theorem gF {isS:Bool}{len cap l h:Nat}{lo hi:Option AVal}{lv hv:Option Value} (hl:dU lo 0=some l) (hh:dU hi len=some h)
   (h1:l≤h) (h2:h≤cap) (rl:RepO w O α lo lv) (rh:RepO w O α hi hv):(Instr.sliceBounds isS len cap lv hv none).run P w = .ok (l,h,cap) w:=by
 rcases eG hl rl with ⟨rfl,rfl⟩ | ⟨k,i,rfl,i0,rfl⟩<;>rcases eG hh rh with ⟨rfl,rfl⟩ | ⟨k',i',rfl,i0',rfl⟩
 · simp[Instr.sliceBounds]
 · simp[Instr.sliceBounds,run_sliceBound w k' i' cap _ i0' (by omega)]
 · simp[Instr.sliceBounds,run_sliceBound w k i h _ i0 (by omega)]
 · simp[Instr.sliceBounds,run_sliceBound w k' i' cap _ i0' (by omega),run_sliceBound w k i _ _ i0 (by omega:i≤(i'.toNat:Int))]
theorem hY {isS:Bool}{len cap:Nat}{lo hi:Option AVal}{mx:AVal}{lv hv mv:Option Value} (hl:dU lo 0=some 0) (hh:dU hi 0=some 0) (hm:dU (some mx) 0=some 0)
   (hs:hi.isNone=false) (rl:RepO w O α lo lv) (rh:RepO w O α hi hv) (rm:RepO w O α (some mx) mv):(Instr.sliceBounds isS len cap lv hv mv).run P w = .ok (0,0,0) w:=by
 rcases eG hm rm with ⟨e,_⟩ | ⟨km,im,rfl,im0,im1⟩
 · simp only[RepO] at rm; obtain ⟨u,hu,_⟩:=rm; rw[hu] at e; cases e
 rcases eG hh rh with ⟨e,_⟩ | ⟨k',i',rfl,i0',i1'⟩
 · cases hi with
   | none=>simp at hs
   | some x=>simp only[RepO] at rh; obtain ⟨u,hu,_⟩:=rh; rw[hu] at e; cases e
 have em:im=0:=by omega
 have ei:i'=0:=by omega
 subst em; subst ei
 rcases eG hl rl with ⟨rfl,_⟩ | ⟨k,i,rfl,i0,i1⟩
 · simp[Instr.sliceBounds,run_sliceBound w km 0 cap _ (by omega) (by omega),run_sliceBound w k' 0 0 _ (by omega) (by omega)]
 · have e0:i=0:=by omega
   subst e0
   simp[Instr.sliceBounds,run_sliceBound w km 0 cap _ (by omega) (by omega),run_sliceBound w k' 0 0 _ (by omega) (by omega),run_sliceBound w k 0 0 _ (by omega) (by omega)]
theorem dz {t e:TypeId}{n:Nat}{a:Option Addr}{len cap l h m:Nat}{lv hv mv:Option Value} (hu:P.underlying t=some (.slice e)) (hn:szOf P e=some n)
   (hb:(Instr.sliceBounds true len cap lv hv mv).run P w = .ok (l,h,m) w) :
   (Instr.sliceAt t (.slice a len cap) lv hv mv).run P w = .ok (.slice (if m=l then a else a.map (·.add (l*n))) (h-l) (m-l)) w:=by
 unfold Instr.sliceAt
 rw[Sem.run_bind,run_underlying hu,Result.andThen_ok]
 simp only[Instr.slice,Sem.run_bind,run_underlying hu,Result.andThen_ok,hb,EM.run_sizeOf hn,Sem.run_pure]
theorem xg {t:TypeId}{x v:AVal}{lo hi mx:Option AVal}{u:Value}{lv hv mv:Option Value} (h:hX P t x lo hi mx=some v) (hx:Rep w O α x u)
   (rl:RepO w O α lo lv) (rh:RepO w O α hi hv) (rm:RepO w O α mx mv):∃ r,(Instr.sliceAt t u lv hv mv).run P w = .ok r w∧Rep w O α v r:=by
 unfold hX at h
 split at h
 · rename_i hu
   split at h
   · rename_i s
     simp only[Rep] at hx; subst hx
     split at h
     · cases h
     · split at h
       · rename_i l h' hl hh
         split at h
         · rename_i hle
           cases h
           simp only[RepO] at rm; subst rm
           have hb:=gF (isS:=false) (P:=P) hl hh hle.1 hle.2 rl rh
           refine ⟨.string ((⟨s.toArray⟩:ByteArray).extract l h'),?_,?_⟩
           · unfold Instr.sliceAt
             rw[Sem.run_bind,run_underlying hu,Result.andThen_ok]
             simp only[Instr.slice,Sem.run_bind,run_underlying hu,Result.andThen_ok,Option.isSome_none,Bool.false_eq_true,if_false]
             have:(⟨s.toArray⟩:ByteArray).size=s.length:=by simp[ByteArray.size]
             rw[this,hb]
             rfl
           · simp only[Rep]
             congr 1
             apply ByteArray.ext
             rw[ByteArray.data_extract]
             apply Array.ext'
             simp[List.extract_eq_take_drop,List.drop_take]
         · cases h
       · cases h
   · cases h
 · rename_i e hu
   split at h
   · rename_i n hn
     split at h
     · simp only[Rep] at hx
       obtain ⟨a,rfl⟩:=hx
       split at h
       · rename_i hl hh hm
         split at h
         · cases h
         · rename_i hns
           cases h
           cases mx with
           | none =>
             simp only[RepO] at rm; subst rm
             have hb:=gF (isS:=true) (P:=P) (len:=0) (cap:=0) hl hh (by omega) (by omega) rl rh
             exact ⟨_,dz hu hn hb,by simp[Rep]⟩
           | some y =>
             have hb:=hY (isS:=true) (P:=P) (len:=0) (cap:=0) hl hh hm (by cases hi<;>simp_all) rl rh rm
             exact ⟨_,dz hu hn hb,by simp[Rep]⟩
       · cases h
     · rename_i full m xs
       simp only[Rep] at hx
       obtain ⟨a,cap,rfl,h1,h2,h3⟩:=hx
       split at h
       · rename_i y
         split at h
         · rename_i hl hh hm
           split at h
           · cases h
           · rename_i hns
             cases h
             have hb:=hY (isS:=true) (P:=P) (len:=xs.length) (cap:=cap) hl hh hm (by cases hi<;>simp_all) rl rh rm
             exact ⟨_,dz hu hn hb,by simp[Rep]⟩
         · cases h
       · split at h
         · rename_i l h' hl hh
           split at h
           · rename_i hle
             obtain ⟨hmn,hle1,hle2⟩:=hle
             cases h
             simp only[RepO] at rm; subst rm
             have hb:=gF (isS:=true) (P:=P) (cap:=cap) hl hh hle1 (by omega) rl rh
             refine ⟨_,dz hu hn hb,?_⟩
             simp only[Rep]
             have hlen:((xs.take h').drop l).length=h'-l:=by simp; omega
             refine ⟨_,cap-l,by rw[hlen],by omega,fun hf => ?_,?_⟩
             · simp only[Bool.and_eq_true,beq_iff_eq] at hf
               have:=h2 hf.1
               omega
             · by_cases he:h'≤l
               · left
                 exact List.eq_nil_of_length_eq_zero (by omega)
               · right
                 have hmn:m=n:=hmn.resolve_right (by omega)
                 subst hmn
                 rcases h3 with rfl | ⟨hn0,b,off,rfl,hO,hW,hr⟩
                 · simp at hle2; omega
                 · refine ⟨hn0,b,off+l*m,?_,hO,hW,?_⟩
                   · rw[if_neg (by omega)]
                     simp[dm]
                   · exact dH l (dG h' hr)
           · cases h
         · cases h
     · rename_i r m top off len
       simp only[Rep] at hx
       obtain ⟨hr,a,cap,rfl,h1,h2,h3⟩:=hx
       split at h
       · rename_i y
         split at h
         · rename_i hl hh hm
           split at h
           · cases h
           · rename_i hns
             cases h
             have hb:=hY (isS:=true) (P:=P) (len:=len) (cap:=cap) hl hh hm (by cases hi<;>simp_all) rl rh rm
             exact ⟨_,dz hu hn hb,by simp[Rep]⟩
         · cases h
       · split at h
         · rename_i l h' hl hh
           split at h
           · rename_i hle
             obtain ⟨rfl,hle1,hle2⟩:=hle
             cases h
             simp only[RepO] at rm; subst rm
             have hb:=gF (isS:=true) (P:=P) (cap:=cap) hl hh hle1 (by omega) rl rh
             refine ⟨_,dz hu hn hb,?_⟩
             simp only[Rep]
             refine ⟨hr,_,cap-l,rfl,by omega,?_,fun ri hri=>⟨(h3 ri hri).1,fun ht => ?_⟩⟩
             · by_cases he:h'≤l
               · left; omega
               · right
                 rcases h2 with h2 | ⟨b,o,rfl⟩
                 · omega
                 · exact ⟨b,o+l*m,by rw[if_neg (by omega)]; simp[dm]⟩
             · obtain ⟨g1,g2,g3,g4⟩:=(h3 ri hri).2 ht
               refine ⟨g1,by omega,by omega,fun hlt => ?_⟩
               rw[if_neg (by omega),g4 (by omega)]
               simp[dm,Nat.add_mul]
           · cases h
         · cases h
     · cases h
   · cases h
 · cases h
theorem nW {c:AVal}{u:Value} (hc:c.isCell=true) (h:Rep w O α c u):u.oneCell'=true:=by
 cases c<;>simp[AVal.isCell] at hc<;>simp only[Rep] at h<;>first
   | (subst h; rfl)
   | (rcases h with ⟨_,rfl⟩; rfl)
   | (rcases h with ⟨_,rfl,_⟩; rfl)
   | (rcases h with ⟨_,_,rfl,_⟩; rfl)
   | (rcases h with ⟨_,_,_,rfl,_⟩; rfl)
theorem gv {x:AVal}{u:Value} (hc:x.cells.all AVal.isCell=true) (h:Rep w O α x u):RepL w O α x.cells u.cells.toList∧∀ c∈u.cells,c.oneCell'=true:=by
 have one:∀ (cs:List AVal) (l:List Value),cs.all AVal.isCell=true→RepL w O α cs l→∀ c∈l,c.oneCell'=true:=by
   intro cs
   induction cs with
   | nil=>intro l _ hl c hc; simp only[RepL] at hl; subst hl; simp at hc
   | cons y ys ih =>
     intro l ha hl c hc
     simp only[RepL] at hl
     obtain ⟨v,vs,rfl,h1,h2⟩:=hl
     simp only[List.all_cons,Bool.and_eq_true] at ha
     rcases List.mem_cons.1 hc with rfl | hc
     · exact nW ha.1 h1
     · exact ih vs ha.2 h2 c hc
 by_cases hx:∃ cs,x = .agg cs
 · obtain ⟨cs,rfl⟩:=hx
   simp only[Rep] at h
   obtain ⟨l,rfl,hl⟩:=h
   exact ⟨by simpa [AVal.cells,Value.cells] using hl,fun c hc'=>one cs l hc hl c (by simpa [Value.cells] using hc')⟩
 · have e:x.cells=[x]:=by cases x<;>first | rfl | exact absurd ⟨_,rfl⟩ hx
   rw[e] at hc ⊢
   simp only[List.all_cons,List.all_nil,Bool.and_true] at hc
   have h1:=nW hc h
   have e2:u.cells = #[u]:=by cases u<;>first | rfl | simp[Value.oneCell'] at h1
   rw[e2]
   exact ⟨by simp only[RepL]; exact ⟨u,[],rfl,h,rfl⟩,fun c hc'=>by simp at hc'; subst hc'; exact h1⟩
theorem foldl_set (off:Nat):∀ (vs:List Value) (k:Nat) (cells:Array Value),off+k+vs.length≤cells.size →
   ((vs.zipIdx k).foldl (fun cs (p:Value×Nat)=>cs.setIfInBounds (off+p.2) p.1) cells).toList=cells.toList.take (off+k)++vs++cells.toList.drop (off+k+vs.length)
 | [],k,cells,h=>by simp
 | v::vs,k,cells,h=>by
   simp only[List.length_cons] at h
   simp only[List.zipIdx_cons,List.foldl_cons]
   rw[foldl_set off vs (k+1) _ (by simp; omega)]
   have hlt:off+k<cells.toList.length:=by simp; omega
   simp only[Array.toList_setIfInBounds]
   rw[show off+(k+1)=off+k+1 by omega]
   rw[List.take_set,List.drop_set_of_lt (by omega)]
   rw[List.take_succ_eq_append_getElem hlt]
   rw[List.set_append_right _ _ (by simp; omega)]
   have:off+k-(List.take (off+k) cells.toList).length=0:=by simp; omega
   rw[this]
   simp only[List.set_cons_zero,List.append_assoc,List.cons_append,List.nil_append,List.length_cons]
   congr 4
   omega
def cu (w:World) (O:Nat→Prop) (α:AM):List (Nat×AVal)→List (Nat×Value)→Prop
 | [],l=>l=[]
 | p::ps,l=>∃ u us,l=(p.1,u)::us∧Rep w O α p.2 u∧cu w O α ps us
theorem oB {fs:Array Field}{places:List (Nat×Nat)} (hp:∀ (i:Nat) (fd:Field) (n:Nat),fs[i]? = some fd→szOf P fd.type=some n→places[i]? = some (fd.offset,n)) :
   ∀ (parts:List (Nat×AVal)) (cs cs':List AVal) (l:List Value) (vs:List (Nat×Value)),uz P fs cs parts=some cs'→RepL w O α cs l→cu w O α parts vs →
     ∃ l',Instr.fill (places.toArray[·]?) l.toArray vs=some l'.toArray∧RepL w O α cs' l'
 | [],cs,cs',l,vs,h,hl,hv=>by
   simp only[cu] at hv; subst hv
   simp only[uz,Option.some.injEq] at h; subst h
   exact ⟨l,by simp[Instr.fill],hl⟩
 | p::parts,cs,cs',l,vs,h,hl,hv=>by
   simp only[cu] at hv
   obtain ⟨u,us,rfl,h1,h2⟩:=hv
   obtain ⟨i,x⟩:=p
   simp only[uz] at h
   split at h
   · cases h
   · rename_i fd hfd
     split at h
     · cases h
     · rename_i n hn
       split at h
       · rename_i hc
         obtain ⟨c1,c2,c3⟩:=hc
         obtain ⟨r1,r2⟩:=gv c3 h1
         have hsz:u.cells.size=n:=by rw[← c1]; simpa using bU r1
         have hll:=bU hl
         have hpl:=hp i fd n hfd hn
         have e:(u.cells.zipIdx.foldl (fun cs (p:Value×Nat)=>cs.setIfInBounds (fd.offset+p.2) p.1) l.toArray)=(l.take fd.offset++u.cells.toList++l.drop (fd.offset+n)).toArray:=by
           apply Array.ext'
           rw[← Array.foldl_toList,Array.toList_zipIdx]
           have:=foldl_set fd.offset u.cells.toList 0 l.toArray (by simp; omega)
           rw[this]
           simp[hsz]
         obtain ⟨l',g1,g2⟩:=oB hp parts _ cs' (l.take fd.offset++u.cells.toList++l.drop (fd.offset+n)) us h
           (cE (cE (jl _ hl) r1) (jm _ hl)) h2
         refine ⟨l',?_,g2⟩
         simp only[Instr.fill,List.getElem?_toArray,hpl]
         rw[if_neg (by simp[hsz]; omega)]
         rw[e]
         simpa only[List.getElem?_toArray] using g1
       · cases h
theorem xl {t:TypeId}{parts:List (Nat×AVal)}{v:AVal}{vs:Array (Nat×Value)} (h:oE P t parts=some v) (hv:cu w O α parts vs.toList) :
   ∃ r,(Instr.build t vs).run P w = .ok r w∧Rep w O α v r:=by
 unfold oE at h
 split at h
 · rename_i z fs hz hu
   split at h
   · rename_i hall
     simp only[Option.map_eq_some_iff] at h
     obtain ⟨cs',hc,rfl⟩:=h
     unfold zeroOf at hz
     cases hi:P.info? t with
     | none=>simp[hi] at hz
     | some i =>
       cases hzz:i.zero with
       | none=>simp[hi,hzz] at hz
       | some zv =>
         simp[hi,hzz] at hz
         have hzr:Rep w O α z zv:=by rw[← hz]; exact ev zv
         -- the places
         have hpl : ∃ places, fs.toList.mapM (fun f => (P.info? f.type).map fun i => (f.offset, i.size)) = some places ∧
             ∀ (i:Nat) (fd:Field) (n:Nat),fs[i]? = some fd→szOf P fd.type=some n→places[i]? = some (fd.offset,n):=by
           have gen : ∀ (l : List Field), (∀ f ∈ l, (P.info? f.type).isSome = true) → ∃ places, l.mapM (fun f => (P.info? f.type).map fun i => (f.offset, i.size)) = some places ∧
               ∀ (i:Nat) (fd:Field) (n:Nat),l[i]? = some fd→szOf P fd.type=some n→places[i]? = some (fd.offset,n):=by
             intro l
             induction l with
             | nil=>intro _; exact ⟨[],by simp,by simp⟩
             | cons f l ih =>
               intro ha
               obtain ⟨ps,q1,q2⟩:=ih (fun g hg=>ha g (List.mem_cons_of_mem _ hg))
               obtain ⟨fi,hfi⟩:=Option.isSome_iff_exists.1 (ha f List.mem_cons_self)
               refine ⟨(f.offset,fi.size)::ps,by simp[hfi,q1],fun i fd n hfd hn => ?_⟩
               cases i with
               | zero=>simp at hfd; subst hfd; simp[szOf,hfi] at hn; simp[hn]
               | succ i=>simpa using q2 i fd n (by simpa using hfd) hn
           obtain ⟨ps,q1,q2⟩:=gen fs.toList (fun f hf=>by
             rw[Array.all_eq_true] at hall
             obtain ⟨j,hj,rfl⟩:=List.mem_iff_getElem.1 hf
             simpa using hall j (by simpa using hj))
           exact ⟨ps,q1,fun i fd n hfd hn=>q2 i fd n (by simpa using hfd) hn⟩
         obtain ⟨places,hp1,hp2⟩:=hpl
         have hzc:RepL w O α z.cells zv.cells.toList:=by
           by_cases hx:∃ cs,z = .agg cs
           · obtain ⟨cs,rfl⟩:=hx
             simp only[Rep] at hzr
             obtain ⟨l,rfl,hl⟩:=hzr
             simpa [AVal.cells,Value.cells] using hl
           · have : ∀ cs, zv ≠ .agg cs := by
               intro cs hcs
               subst hcs
               rw[← hz] at hx
               exact hx ⟨_,rfl⟩
             have e1:z.cells=[z]:=by cases z<;>first | rfl | exact absurd ⟨_,rfl⟩ hx
             have e2:zv.cells = #[zv]:=by cases zv<;>first | rfl | exact absurd rfl (this _)
             rw[e1,e2]
             simp only[RepL]
             exact ⟨zv,[],rfl,hzr,rfl⟩
         obtain ⟨l',g1,g2⟩:=oB hp2 parts z.cells cs' zv.cells.toList vs.toList hc hzc hv
         refine ⟨.agg l'.toArray,run_build w t vs l'.toArray ?_,by simp only[Rep]; exact ⟨l',rfl,g2⟩⟩
         unfold Program.built
         simp only[hi,hu,hzz,hp1]
         simpa using g1
   · cases h
 · cases h
end
end Go.EM
namespace Go.EM
variable [Drawn]
section
variable {P:Program}{w w':World}{O:Nat→Prop}{α:AM}
def ax (w:World) (O:Nat→Prop) (α:AM) (n:Nat):List AVal→List Value→Prop
 | [],vs=>vs=[]
 | y::ys,vs=>∃ v us,vs=v::us∧(Rep w O α y v∧y.cells.length=n∧v.cells.size=n∧∀ u∈v.cells,u.oneCell'=true)∧ax w O α n ys us
def flat (vs:List Value):List Value:=vs.flatMap (·.cells.toList)
theorem aM {n:Nat}:∀ {ys:List AVal}{vs:List Value},ax w O α n ys vs→(flat vs).length=ys.length*n
 | [],vs,h=>by simp only[ax] at h; subst h; simp[flat]
 | y::ys,vs,h=>by
   simp only[ax] at h
   obtain ⟨v,us,rfl,⟨_,_,h1,_⟩,h2⟩:=h
   have:=aM h2
   simp only[flat,List.flatMap_cons,List.length_append,Array.length_toList,List.length_cons] at this ⊢
   rw[this,h1,Nat.add_mul]; omega
theorem cO {n:Nat}:∀ {ys:List AVal}{vs:List Value},ax w O α n ys vs→∀ u∈flat vs,u.oneCell'=true
 | [],vs,h,u,hu=>by simp only[ax] at h; subst h; simp[flat] at hu
 | y::ys,vs,h,u,hu=>by
   simp only[ax] at h
   obtain ⟨v,us,rfl,⟨_,_,_,h1⟩,h2⟩:=h
   simp only[flat,List.flatMap_cons,List.mem_append] at hu
   rcases hu with hu | hu
   · exact h1 u (by simpa using hu)
   · exact cO h2 u hu
theorem bD {n:Nat}:∀ {xs ys:List AVal}{us vs:List Value},ax w O α n xs us→ax w O α n ys vs→ax w O α n (xs++ys) (us++vs)
 | [],ys,us,vs,h,k=>by simp only[ax] at h; subst h; simpa using k
 | x::xs,ys,us,vs,h,k=>by
   simp only[ax] at h
   obtain ⟨v,us',rfl,h1,h2⟩:=h
   simp only[List.cons_append,ax]
   exact ⟨v,us'++vs,rfl,h1,bD h2 k⟩
theorem cB (us vs:List Value):flat (us++vs)=flat us++flat vs:=by simp[flat]
theorem bC {O':Nat→Prop}{α':AM} (H:Pres false w O α w' O' α') {n:Nat}:∀ {ys:List AVal}{vs:List Value},ax w O α n ys vs→ax w' O' α' n ys vs
 | [],vs,h=>by simpa only[ax] using h
 | y::ys,vs,h=>by
   simp only[ax] at h ⊢
   obtain ⟨v,us,e,⟨h0,h1⟩,h2⟩:=h
   exact ⟨v,us,e,⟨bj H y v (by simp) h0,h1⟩,bC H h2⟩
theorem row_of {n b:Nat}:∀ {ys:List AVal}{vs:List Value} (off:Nat),ax w O α n ys vs→(∀ j,j<(flat vs).length→w.cell? ⟨b,off+j,none⟩=(flat vs)[j]?)→bg w O α n b off ys
 | [],vs,off,h,k=>by simp[bg]
 | y::ys,vs,off,h,k=>by
   simp only[ax] at h
   obtain ⟨v,us,rfl,⟨h0,h1,h2,h3⟩,h4⟩:=h
   have e:flat (v::us)=v.cells.toList++flat us:=by simp[flat]
   rw[e] at k
   simp only[bg]
   refine ⟨⟨v,h0,h1,h2,fun j hj => ?_,h3⟩,row_of (off+n) h4 (fun j hj => ?_)⟩
   · rw[k j (by simp; omega),List.getElem?_append_left (by simp; omega)]
     simp
   · have:=k (n+j) (by simp; omega)
     rw[show off+n+j=off+(n+j) by omega,this,List.getElem?_append_right (by simp; omega)]
     simp[h2]
theorem fh {n b:Nat}:∀ {ys:List AVal} (off:Nat),bg w O α n b off ys→∃ vs,ax w O α n ys vs∧∀ j,j<(flat vs).length→w.cell? ⟨b,off+j,none⟩=(flat vs)[j]?
 | [],off,h=>⟨[],by simp[ax],by simp[flat]⟩
 | y::ys,off,h=>by
   simp only[bg] at h
   obtain ⟨⟨v,h0,h1,h2,h3,h4⟩,h5⟩:=h
   obtain ⟨us,k1,k2⟩:=fh (off+n) h5
   refine ⟨v::us,by simp only[ax]; exact ⟨v,us,rfl,⟨h0,h1,h2,h4⟩,k1⟩,fun j hj => ?_⟩
   have e:flat (v::us)=v.cells.toList++flat us:=by simp[flat]
   rw[e] at hj ⊢
   by_cases hjn:j<n
   · rw[h3 j hjn,List.getElem?_append_left (by simp; omega)]
     simp
   · rw[List.getElem?_append_right (by simp; omega)]
     simp only[List.length_append,Array.length_toList] at hj
     have:=k2 (j-n) (by omega)
     rw[show off+n+(j-n)=off+j by omega] at this
     rw[this]
     simp[h2]
theorem Inv.alive {st:aq} (hi:Inv w O α st) {r n top:Nat}{xs:List AVal} (h:rowAt st r n top=some xs) :
   ∃ ri,α[r]? = some (some ri)∧ri.stride=n∧n≠0∧ri.top=top∧xs.length=top∧top≤ri.cap∧∃ c el fz,w.heap[ri.block]? = some (.cells c el fz)∧c.size=ri.cap*n ∧
     bg w O α n ri.block 0 xs∧(∀ o,o<c.size∨n≠1→w.frozen? ⟨ri.block,o,none⟩=false)∧st[r]? = some (.row el n xs):=by
 unfold rowAt at h
 split at h
 · rename_i e m ys hr
   split at h
   · rename_i hc
     obtain ⟨rfl,rfl⟩:=hc
     cases h
     obtain ⟨ri,h1,h2,h3,h4,h5,c,el,fz,h6,h7,h8,h9,rfl⟩:=hi.reg r _ hr
     exact ⟨ri,h1,h2,h3,h4,rfl,by omega,c,el,fz,h6,h7,h8,h9,hr⟩
   · cases h
 · cases h
theorem Inv.turn {st:aq} (hi:Inv w O α st) {r:Nat}{ri ri':RI}{g:AReg} (h:α[r]? = some (some ri)) (os:w'.os=w.os) (tape:w'.tape=w.tape) (out:w'.output=w.output)
   (size:w.heap.size≤w'.heap.size) (dr:w.drawn≤w'.drawn) (old:∀ k,k<w.heap.size→k≠ri.block→w'.heap[k]? = w.heap[k]?)
   (hb:ri'.block=ri.block∨(w.heap.size≤ri'.block∧ri'.block<w'.heap.size)) (ht:ri.top≤ri'.top) (hs:ri.top=ri'.top→ri=ri')
   (hg:Pres false w O α w' O (α.set r (some ri'))→cX w' O (α.set r (some ri')) r g):Ext w α w' (α.set r (some ri'))∧Inv w' O (α.set r (some ri')) (st.set r g):=by
 have hlt:r<α.length:=by
   rcases Nat.lt_or_ge r α.length with h' | h'
   · exact h'
   · rw[List.getElem?_eq_none h'] at h; cases h
 have same:(α.set r (some ri'))[r]? = some (some ri'):=by simp[hlt]
 have other:∀ k,k≠r→(α.set r (some ri'))[k]? = α[k]? := fun k hk=>List.getElem?_set_ne (Ne.symm hk)
 have hfr:=hi.fresh r ri h
 have hext:Ext w α w' (α.set r (some ri')):=by
   refine ⟨os,tape,out,size,fun b hb' ho=>old b hb' (fun e=>ho ⟨r,ri,h,e.symm⟩),by simp,fun k ri'' hk hx => ?_,fun b hw => ?_,fun _=>dr⟩
   · by_cases hkr:k=r
     · subst hkr
       rw[same] at hx
       cases hx
       exact ⟨ri,h,ht,hs⟩
     · rw[other k hkr] at hx
       exact ⟨ri'',hx,Nat.le_refl _,fun _=>rfl⟩
   · obtain ⟨k,ri'',hk,rfl⟩:=hw
     by_cases hkr:k=r
     · subst hkr
       rw[same] at hk
       cases hk
       rcases hb with hb | hb
       · exact .inr ⟨k,ri,h,hb.symm⟩
       · exact .inl hb.1
     · rw[other k hkr] at hk
       exact .inr ⟨k,ri'',hk,rfl⟩
 have hpres:Pres false w O α w' O (α.set r (some ri')):=Pres.of_ext hext
 refine ⟨hext,?_,?_,?_,?_,fun b hb'=>Nat.lt_of_lt_of_le (hi.bound b hb') size⟩
 · simp[hi.len]
 · intro k g' hk
   by_cases hkr:k=r
   · subst hkr
     have:(st.set k g)[k]? = some g:=by
       rw[List.getElem?_set_self (by rw[hi.len]; exact hlt)]
     rw[this] at hk
     cases hk
     exact hg hpres
   · rw[List.getElem?_set_ne (Ne.symm hkr)] at hk
     refine eK hpres (other k hkr) (fun rj hj => ?_) (hi.reg k g' hk)
     exact old _ (hi.fresh k rj hj).2 (fun e=>hkr (hi.inj k r rj ri hj h e))
 · have newb : ∀ (k : Nat) (rj : RI), k ≠ r → α[k]? = some (some rj) → rj.block ≠ ri'.block := by
     intro k rj hkr hj e
     rcases hb with hb | hb
     · exact hkr (hi.inj k r rj ri hj h (e.trans hb))
     · have:=(hi.fresh k rj hj).2; omega
   intro a b ra rb ha hb' hab
   by_cases h1:a=r<;>by_cases h2:b=r
   · rw[h1,h2]
   · rw[h1,same] at ha
     rw[other b h2] at hb'
     cases ha
     exact absurd hab.symm (newb b rb h2 hb')
   · rw[h2,same] at hb'
     rw[other a h1] at ha
     cases hb'
     exact absurd hab (newb a ra h1 ha)
   · rw[other a h1] at ha
     rw[other b h2] at hb'
     exact hi.inj a b ra rb ha hb' hab
 · intro k rj hk
   by_cases hkr:k=r
   · subst hkr
     rw[same] at hk
     cases hk
     rcases hb with hb | hb
     · exact ⟨by rw[hb]; exact hfr.1,by rw[hb]; exact Nat.lt_of_lt_of_le hfr.2 size⟩
     · exact ⟨fun ho=>by have:=hi.bound _ ho; omega,hb.2⟩
   · rw[other k hkr] at hk
     exact ⟨(hi.fresh k rj hk).1,Nat.lt_of_lt_of_le (hi.fresh k rj hk).2 size⟩
theorem Inv.drop {st:aq} (hi:Inv w O α st) {r:Nat}{ri:RI} (h:α[r]? = some (some ri)) (os:w'.os=w.os) (tape:w'.tape=w.tape) (out:w'.output=w.output)
   (size:w.heap.size≤w'.heap.size) (dr:w.drawn≤w'.drawn) (old:∀ k,k<w.heap.size→k≠ri.block→w'.heap[k]? = w.heap[k]?):Ext w α w' (α.set r none)∧Inv w' O (α.set r none) (st.set r .dead):=by
 have hlt:r<α.length:=by
   rcases Nat.lt_or_ge r α.length with h' | h'
   · exact h'
   · rw[List.getElem?_eq_none h'] at h; cases h
 have same:(α.set r none)[r]? = some none:=by simp[hlt]
 have other:∀ k,k≠r→(α.set r none)[k]? = α[k]? := fun k hk=>List.getElem?_set_ne (Ne.symm hk)
 have hext:Ext w α w' (α.set r none):=by
   refine ⟨os,tape,out,size,fun b hb' ho=>old b hb' (fun e=>ho ⟨r,ri,h,e.symm⟩),by simp,fun k ri'' hk hx => ?_,fun b hw => ?_,fun _=>dr⟩
   · by_cases hkr:k=r
     · subst hkr
       rw[same] at hx
       cases hx
     · rw[other k hkr] at hx
       exact ⟨ri'',hx,Nat.le_refl _,fun _=>rfl⟩
   · obtain ⟨k,ri'',hk,rfl⟩:=hw
     by_cases hkr:k=r
     · subst hkr
       rw[same] at hk
       cases hk
     · rw[other k hkr] at hk
       exact .inr ⟨k,ri'',hk,rfl⟩
 have hpres:Pres false w O α w' O (α.set r none):=Pres.of_ext hext
 refine ⟨hext,?_,?_,?_,?_,fun b hb'=>Nat.lt_of_lt_of_le (hi.bound b hb') size⟩
 · simp[hi.len]
 · intro k g' hk
   by_cases hkr:k=r
   · subst hkr
     have:(st.set k .dead)[k]? = some AReg.dead:=by
       rw[List.getElem?_set_self (by rw[hi.len]; exact hlt)]
     rw[this] at hk
     cases hk
     exact same
   · rw[List.getElem?_set_ne (Ne.symm hkr)] at hk
     refine eK hpres (other k hkr) (fun rj hj => ?_) (hi.reg k g' hk)
     exact old _ (hi.fresh k rj hj).2 (fun e=>hkr (hi.inj k r rj ri hj h e))
 · intro a b ra rb ha hb' hab
   by_cases h1:a=r<;>by_cases h2:b=r
   · rw[h1,h2]
   · rw[h1,same] at ha; cases ha
   · rw[h2,same] at hb'; cases hb'
   · rw[other a h1] at ha
     rw[other b h2] at hb'
     exact hi.inj a b ra rb ha hb' hab
 · intro k rj hk
   by_cases hkr:k=r
   · subst hkr
     rw[same] at hk
     cases hk
   · rw[other k hkr] at hk
     exact ⟨(hi.fresh k rj hk).1,Nat.lt_of_lt_of_le (hi.fresh k rj hk).2 size⟩
theorem jY {b o:Nat}{v:Value}{c:Array Value}{el:TypeId}{fz:Nat×Nat} (h:w.heap[b]? = some (.cells c el fz)) :
   (w.setCell ⟨b,o,none⟩ v).heap[b]? = some (.cells (c.setIfInBounds o v) el fz):=by
 simp only[World.setCell,Array.getElem?_modify]
 simp[h]
theorem eo {b off:Nat}:∀ (vs:List Value) (i:Nat) (w:World) (c:Array Value) (el:TypeId) (fz:Nat×Nat),w.heap[b]? = some (.cells c el fz)→off+i+vs.length≤c.size →
   (∀ v∈vs,v.oneCell'=true)→(∀ o,o<c.size→w.frozen? ⟨b,o,none⟩=false) →
   ∃ w',(storeCells ⟨b,off,none⟩ vs i).run P w = .ok () w'∧w'.heap[b]? = some (.cells (c.toList.take (off+i)++vs++c.toList.drop (off+i+vs.length)).toArray el fz) ∧
     (∀ k,k≠b→w'.heap[k]? = w.heap[k]?)∧w'.heap.size=w.heap.size∧w'.os=w.os∧w'.tape=w.tape∧w'.output=w.output∧(∀ a,w'.frozen? a=w.frozen? a)∧w'.drawn=w.drawn
 | [],i,w,c,el,fz,h,hl,_,_=>⟨w,by simp[storeCells],by rw[h]; simp,fun _ _=>rfl,rfl,rfl,rfl,rfl,fun _=>rfl,rfl⟩
 | v::vs,i,w,c,el,fz,h,hl,h1,hf=>by
   simp only[List.length_cons] at hl
   have hc:w.cell? ⟨b,off+i,none⟩=some c[off+i]:=by
     simp only[World.cell?,h]
     simp[Array.getElem?_eq_getElem (show off+i<c.size by omega)]
   have hs:(store (⟨b,off+i,none⟩:Addr) v).run P w = .ok () (w.setCell ⟨b,off+i,none⟩ v):=by
     rw[run_store P w _ _ _ (h1 v List.mem_cons_self),hc]
     simp[hf (off+i) (by omega)]
   obtain ⟨w',g1,g2,g3,g4,g5,g6,g7,g8,g9⟩:=eo (b:=b) (off:=off) vs (i+1) (w.setCell ⟨b,off+i,none⟩ v) (c.setIfInBounds (off+i) v) el fz (jY h) (by simp; omega)
     (fun u hu=>h1 u (List.mem_cons_of_mem _ hu)) (fun o ho=>by rw[World.frozen?_setCell]; exact hf o (by simpa using ho))
   refine ⟨w',?_,?_,fun k hk => ?_,by rw[g4]; simp,g5,g6,g7,fun a=>by rw[g8]; simp,g9⟩
   · simp only[storeCells,Sem.run_bind,dm,hs,Result.andThen_ok]
     exact g1
   · rw[g2]
     congr 2
     apply Array.ext'
     have hlt:off+i<c.toList.length:=by simp; omega
     simp only[Array.toList_setIfInBounds,List.length_cons]
     rw[show off+(i+1)=off+i+1 by omega]
     rw[List.take_set,List.drop_set_of_lt (by omega),List.take_succ_eq_append_getElem hlt,List.set_append_right _ _ (by simp; omega)]
     have:off+i-(List.take (off+i) c.toList).length=0:=by simp; omega
     rw[this]
     simp only[List.set_cons_zero,List.append_assoc,List.cons_append,List.nil_append]
     congr 4
     omega
   · rw[g3 k hk]
     exact RowKit.Below.heap_setCell _ _ _ _ hk
theorem gU {b off:Nat}{l:List Value} (h:∀ j,j<l.length→w.cell? ⟨b,off+j,none⟩=l[j]?):(loadCells ⟨b,off,none⟩ l.length).run P w = .ok l.toArray w:=by
 refine run_loadCells_list (P:=P) w ⟨b,off,none⟩ l (fun j v hv => ?_)
 have hj:j<l.length:=by
   rcases Nat.lt_or_ge j l.length with h | h
   · exact h
   · rw[List.getElem?_eq_none h] at hv; cases hv
 rw[dm,h j hj,hv]
theorem lh {n k b off cap len:Nat}{l:List Value} (hl:l.length=k*n) (h:∀ j,j<l.length→w.cell? ⟨b,off+j,none⟩=l[j]?) :
   (Builtin.firstCells n k (.slice (some ⟨b,off,none⟩) len cap)).run P w = .ok l.toArray w:=by
 simp only[Builtin.firstCells,← hl]
 exact gU h
theorem eT {n:Nat}:∀ {ys:List AVal}{vs:List Value} (k:Nat),ax w O α n ys vs→ax w O α n (ys.drop k) (vs.drop k)
 | ys,vs,0,h=>by simpa using h
 | [],vs,k+1,h=>by simp only[ax] at h; subst h; simp[ax]
 | y::ys,vs,k+1,h=>by
   simp only[ax] at h
   obtain ⟨v,us,rfl,_,h2⟩:=h
   simpa using eT k h2
theorem jZ {st:aq} (hi:Inv w O α st) {n:Nat}{x:AVal}{ys:List AVal}{u:Value} (h:bw st n x=some ys) (hx:Rep w O α x u) (hn:n≠0) :
   (Builtin.lenOf u).run P w = .ok ys.length w∧∃ vs,ax w O α n ys vs∧(∀ w2:World,(∀ b o v,w.cell? ⟨b,o,none⟩=some v→w2.cell? ⟨b,o,none⟩=some v) →
     (Builtin.firstCells n ys.length u).run P w2 = .ok (flat vs).toArray w2):=by
 unfold bw at h
 split at h
 · cases h
   simp only[Rep] at hx
   subst hx
   refine ⟨by simp[Builtin.lenOf],[],by simp[ax],fun w2 _ => ?_⟩
   simp[Builtin.firstCells,flat]
 · rename_i full m xs
   split at h
   · rename_i hm
     cases h
     simp only[Rep] at hx
     obtain ⟨a,cap,rfl,h1,h2,h3⟩:=hx
     refine ⟨by simp[Builtin.lenOf],?_⟩
     rcases h3 with rfl | ⟨hm0,b,off,rfl,hO,hW,hr⟩
     · refine ⟨[],by simp[ax],fun w2 _ => ?_⟩
       cases a with
       | none=>simp[Builtin.firstCells,flat]
       | some a=>simp[Builtin.firstCells,flat,loadCells,loadCellsFrom]
     · by_cases hx0:ys=[]
       · subst hx0
         exact ⟨[],by simp[ax],fun w2 _=>by simp[Builtin.firstCells,flat,loadCells,loadCellsFrom]⟩
       · have hmn : m = n := by
           rcases hm with hm | hm
           · exact hm
           · exact absurd (List.eq_nil_of_length_eq_zero hm) hx0
         subst hmn
         obtain ⟨vs,k1,k2⟩:=fh off hr
         refine ⟨vs,k1,fun w2 hw=>lh (aM k1) (fun j hj => ?_)⟩
         have:=k2 j hj
         rw[List.getElem?_eq_getElem hj] at this ⊢
         exact hw b _ _ this
   · cases h
 · rename_i r m top off len
   split at h
   · rename_i hm
     subst hm
     simp only[Option.map_eq_some_iff] at h
     obtain ⟨xs,hxs,rfl⟩:=h
     obtain ⟨ri,g1,g2,g3,g4,g5,g6,c,el,fz,g7,g8,g9,g10,_⟩:=hi.alive hxs
     simp only[Rep] at hx
     obtain ⟨_,a,cap,rfl,h1,h2,h3⟩:=hx
     obtain ⟨k1,k2,k3,k4⟩:=(h3 ri g1).2 g4
     have hlen:((xs.drop off).take len).length=len:=by simp; omega
     refine ⟨by simp[Builtin.lenOf]; omega,?_⟩
     have hr2:=dG len (dH off g9)
     rw[Nat.zero_add] at hr2
     obtain ⟨vs,q1,q2⟩:=fh _ hr2
     refine ⟨vs,q1,fun w2 hw => ?_⟩
     by_cases hl0:len=0
     · subst hl0
       simp only[List.take_zero,List.length_nil] at q1 ⊢
       simp only[ax] at q1
       subst q1
       cases a with
       | none=>simp[Builtin.firstCells,flat]
       | some a=>simp[Builtin.firstCells,flat,loadCells,loadCellsFrom]
     · have:=k4 (by omega)
       subst this
       refine lh (by rw[aM q1]) (fun j hj => ?_)
       have:=q2 j hj
       rw[List.getElem?_eq_getElem hj] at this ⊢
       exact hw _ _ _ this
   · cases h
 · rename_i s
   split at h
   · rename_i hn1
     subst hn1
     cases h
     simp only[Rep] at hx
     subst hx
     refine ⟨by simp[Builtin.lenOf,ByteArray.size],s.map fun b=>.int .u8 b.toNat,?_,fun w2 _ => ?_⟩
     · have : ∀ l : List UInt8, ax w O α 1 (l.map fun b => AVal.int .u8 b.toNat) (l.map fun b => Value.int .u8 b.toNat) := by
         intro l
         induction l with
         | nil=>simp[ax]
         | cons b l ih =>
           simp only[List.map_cons,ax]
           exact ⟨_,_,rfl,⟨by simp[Rep],by simp[AVal.cells],by simp[Value.cells],by simp[Value.cells,Value.oneCell']⟩,ih⟩
       exact this s
     · simp only[Builtin.firstCells,Sem.run_pure]
       congr 1
       apply Array.ext'
       have:∀ l:List UInt8,flat (l.map fun b=>Value.int .u8 b.toNat)=l.map fun b=>Value.int .u8 b.toNat:=by
         intro l
         induction l with
         | nil=>simp[flat]
         | cons b l ih=>simp only[flat,List.map_cons,List.flatMap_cons,Value.cells] at ih ⊢; rw[ih]; rfl
       rw[this]
       simp[ByteArray.data_extract]
   · cases h
 · cases h
end
end Go.EM
namespace Go.EM
variable [Drawn]
section
variable {P:Program}{w w':World}{O:Nat→Prop}{α:AM}{st:aq}
def Done (P:Program) (s:Sem Value) (w:World) (O:Nat→Prop) (α:AM) (v:AVal) (st':aq):Prop :=
 ∃ u w' α',s.run P w = .ok u w'∧Ext w α w' α'∧Inv w' O α' st'∧Rep w' O α' v u
theorem Done.pure {s:Sem Value}{v:AVal} (hi:Inv w O α st) (h:∃ u,s.run P w = .ok u w∧Rep w O α v u):Done P s w O α v st:=by
 obtain ⟨u,h1,h2⟩:=h
 exact ⟨u,w,α,h1,Ext.refl w α,hi,h2⟩
theorem eF (c:Array Value) (el:TypeId) (fz:Nat×Nat):(w.alloc (.cells c el fz)).heap[w.heap.size]? = some (.cells c el fz):=by
 show (w.heap.push _)[w.heap.size]? = _
 simp
theorem gH (hi:Inv w O α st) {n cap:Nat}{ys:List AVal}{vs:List Value}{c:Array Value}{el:TypeId}{fz:Nat×Nat} (hn:n≠0) (hv:ax w O α n ys vs)
   (hc:c.size=cap*n) (hl:ys.length≤cap) (hcell:∀ j,j<(flat vs).length→c[j]? = (flat vs)[j]?) (hfz:∀ o,o<c.size∨n≠1→¬ (fz.1≤o∧o<fz.2)) :
   Ext w α (w.alloc (.cells c el fz)) (α++[some ⟨w.heap.size,n,cap,ys.length⟩])∧Inv (w.alloc (.cells c el fz)) O (α++[some ⟨w.heap.size,n,cap,ys.length⟩]) (st++[.row el n ys]):=by
 refine hi.push ⟨w.heap.size,n,cap,ys.length⟩ (.row el n ys) (.cells c el fz) rfl ?_
 have hb:=eF (w:=w) c el fz
 simp only[cX]
 refine ⟨⟨w.heap.size,n,cap,ys.length⟩,by simp,rfl,hn,rfl,hl,c,el,fz,hb,hc,?_,fun o ho => ?_,rfl⟩
 · have hq:=Quiet.alloc w (.cells c el fz)
   have hp:Pres false w O α (w.alloc (.cells c el fz)) O (α++[some ⟨w.heap.size,n,cap,ys.length⟩]):=by
     refine ⟨fun b o u _ _ hu=>by rw[je (hq.old b (block_lt hu))]; exact hu,fun b o u hO hW hu=>⟨hO,fun hx => ?_⟩,fun _=>by simp,fun _ r ri' hr h => ?_⟩
     · obtain ⟨r,ri,h1,h2⟩:=hx
       by_cases hr:r<α.length
       · rw[List.getElem?_append_left hr] at h1
         exact hW ⟨r,ri,h1,h2⟩
       · have hbl:=block_lt hu
         by_cases hr':r=α.length
         · subst hr'; simp at h1; subst h1; simp at h2; omega
         · rw[List.getElem?_eq_none (by simp; omega)] at h1; cases h1
     · rw[List.getElem?_append_left hr] at h
       exact ⟨ri',h,Nat.le_refl _,fun _=>rfl⟩
   refine row_of 0 (bC hp hv) (fun j hj => ?_)
   rw[← hcell j hj,Nat.zero_add]
   simp only[World.cell?,hb]
   simp
 · simp only[World.frozen?,hb]
   have:=hfz o ho
   simp only[decide_eq_true_eq,Bool.and_eq_false_imp,decide_eq_false_iff_not]
   intro h1 h2
   exact this ⟨h1,h2⟩
theorem jF {n cap k:Nat} (hk:k≤cap):Rep w' O (α++[some ⟨w.heap.size,n,cap,k⟩]) (.own α.length n k 0 k) (.slice (some ⟨w.heap.size,0,none⟩) k cap):=by
 simp only[Rep]
 refine ⟨by simp,_,_,rfl,hk,.inr ⟨_,_,rfl⟩,fun ri hr => ?_⟩
 simp at hr
 subst hr
 exact ⟨Nat.le_refl _,fun _=>⟨rfl,by omega,by simp,fun _=>by simp⟩⟩
theorem aa6 {n cap k:Nat}:Rep w' O (α++[some ⟨w.heap.size,n,cap,k⟩]) (.ptr α.length k 0 0) (.pointer (some ⟨w.heap.size,0,none⟩)):=by
 simp only[Rep]
 refine ⟨by simp,_,_,rfl,fun ri hr => ?_⟩
 simp at hr
 subst hr
 exact ⟨Nat.le_refl _,fun _=>⟨rfl,by simp⟩⟩
theorem md {t:TypeId}{v:AVal}{u:Value} (h:fits P t v=true) (hv:Rep w O α v u) :
   ∃ n d,szOf P t=some n∧P.underlying t=some d∧n≠0∧v.cells.length=n∧v.isAgg=eQ d∧u.cells.size=n∧RepL w O α v.cells u.cells.toList∧∀ c∈u.cells,c.oneCell'=true:=by
 unfold fits at h
 split at h
 · rename_i n d hn hd
   simp only[Bool.and_eq_true,beq_iff_eq,bne_iff_ne,ne_eq] at h
   obtain ⟨⟨⟨h1,h2⟩,h3⟩,h4⟩:=h
   obtain ⟨r1,r2⟩:=gv h3 hv
   exact ⟨n,d,hn,hd,h4,h1,h2,by rw[← h1]; simpa using bU r1,r1,r2⟩
 · cases h
theorem aen {t:TypeId}{v:AVal}{u:Value} (h:fits P t v=true) (hv:Rep w O α v u):∃ n,szOf P t=some n∧n≠0∧ax w O α n [v] [u]:=by
 obtain ⟨n,d,h1,h2,h3,h4,h5,h6,h7,h8⟩:=md h hv
 exact ⟨n,h1,h3,by simp only[ax]; exact ⟨u,[],rfl,⟨hv,h4,h6,h8⟩,rfl⟩⟩
theorem wh (hi:Inv w O α st) {t:TypeId}{v r:AVal}{st':aq}{u:Value} (h:abox P t v st=some (r,st')) (hv:Rep w O α v u) :
   Done P (Instr.box t u) w O α r st':=by
 unfold abox at h
 split at h
 · rename_i hf
   cases h
   obtain ⟨n,hn,hn0,hrow⟩:=aen hf hv
   obtain ⟨n',d,g1,g2,g3,g4,g5,g6,g7,g8⟩:=md hf hv
   have:n'=n:=by rw[hn] at g1; exact (Option.some.inj g1).symm
   subst this
   have hfl:flat [u]=u.cells.toList:=by simp[flat]
   obtain ⟨e1,e2⟩:=gH hi (c:=u.cells) (el:=t) (fz:=(0,0)) (cap:=1) hn0 hrow (by omega) (by simp) (by rw[hfl]; simp) (by simp)
   refine ⟨_,_,_,?_,e1,?_,by rw[hi.len]; exact aa6⟩
   · simp only[Instr.box,newVar,newRow,Sem.run_bind,run_newObj,Result.andThen_ok,Sem.run_pure,World.alloc_eq]
   · rw[g4]; exact e2
 · cases h
theorem xY (hi:Inv w O α st) {t:TypeId}{r:AVal}{st':aq} (h:kf P t st=some (r,st')):Done P (Instr.alloc t true (.tuple #[])) w O α r st':=by
 unfold kf at h
 simp only[Option.bind_eq_some_iff] at h
 obtain ⟨z,hz,h⟩:=h
 obtain ⟨zv,hz1,hz2⟩:=e7 (P:=P) (w:=w) (O:=O) (α:=α) hz
 obtain ⟨u,w',α',h1,h2,h3,h4⟩:=wh hi h hz2
 refine ⟨u,w',α',?_,h2,h3,h4⟩
 simp only[Instr.alloc,Sem.run_bind,hz1,Result.andThen_ok]
 exact h1
theorem fV {t:TypeId}{cs:List AVal}{off b o:Nat}{v:AVal} (h:cS P t cs off=some v)
   (hm:∀ j c,cs[off+j]? = some c→∃ u,w.cell? ⟨b,o+j,none⟩=some u∧Rep w O α c u):∃ r,(loadVar t ⟨b,o,none⟩).run P w = .ok r w∧Rep w O α v r:=by
 unfold cS at h
 split at h
 · rename_i n d hn hd
   cases hdd:eQ d with
   | true =>
     simp only[hdd,cond_true] at h
     cases hle:Nat.ble (off+n) cs.length with
     | false=>simp[hle] at h
     | true =>
       simp only[hle,cond_true,Option.some.injEq] at h
       subst h
       have hle':off+n≤cs.length:=Nat.le_of_ble_eq_true hle
       have build:∀ m,m≤n→∃ l:List Value,l.length=m∧(∀ j,j<l.length→w.cell? ⟨b,o+j,none⟩=l[j]?)∧RepL w O α ((cs.drop off).take m) l:=by
         intro m
         induction m with
         | zero=>intro _; exact ⟨[],rfl,by simp,by simp[RepL]⟩
         | succ m ih =>
           intro hm'
           obtain ⟨l,h1,h2,h3⟩:=ih (by omega)
           have hlt:off+m<cs.length:=by omega
           obtain ⟨u,g1,g2⟩:=hm m cs[off+m] (List.getElem?_eq_getElem hlt)
           refine ⟨l++[u],by simp[h1],fun j hj => ?_,?_⟩
           · by_cases hjm:j<m
             · rw[List.getElem?_append_left (by omega)]; exact h2 j (by omega)
             · have:j=m:=by simp at hj; omega
               subst this
               rw[g1,List.getElem?_append_right (by omega)]; simp[h1]
           · rw[List.take_succ_eq_append_getElem (by simp; omega)]
             refine cE h3 ?_
             simp only[List.getElem_drop,RepL]
             exact ⟨u,[],rfl,g2,rfl⟩
       obtain ⟨l,h1,h2,h3⟩:=build n (Nat.le_refl _)
       refine ⟨.agg l.toArray,?_,by simp only[Rep]; exact ⟨l,rfl,h3⟩⟩
       have:=gU (P:=P) (w:=w) (b:=b) (off:=o) h2
       rw[h1] at this
       simp only[loadVar,Sem.run_bind,lg hd,hdd,Result.andThen_ok,if_true,EM.run_sizeOf hn,this,Sem.run_pure]
   | false =>
     simp only[hdd,cond_false] at h
     obtain ⟨u,g1,g2⟩:=hm 0 v (by simpa using h)
     refine ⟨u,?_,g2⟩
     simp only[loadVar,Sem.run_bind,lg hd,hdd,Result.andThen_ok,Bool.false_eq_true,if_false,run_load]
     rw[Nat.add_zero] at g1
     simp[g1]
 · cases h
theorem cC (hi:Inv w O α st) {r top i n:Nat}{xs:List AVal}{x:AVal} (h:bm st r top i=some (n,xs,x)) :
   rowAt st r n top=some xs∧xs[i]? = some x:=by
 unfold bm at h
 split at h
 · rename_i m ys hr
   split at h
   · rename_i ht
     simp only[Option.map_eq_some_iff,Prod.mk.injEq] at h
     obtain ⟨y,h1,rfl,rfl,rfl⟩:=h
     exact ⟨by unfold rowAt; rw[hr]; simp[ht],h1⟩
   · cases h
 · cases h
theorem lj (hi:Inv w O α st) {t:TypeId}{a v:AVal}{u:Value} (h:jg P t a st=some v) (ha:Rep w O α a u) :
   ∃ r,(Instr.loadAt t u).run P w = .ok r w∧Rep w O α v r:=by
 unfold jg at h
 split at h
 · rename_i cs
   simp only[Rep] at ha
   obtain ⟨b,off,rfl,hm⟩:=ha
   have hm':∀ j c,cs[0+j]? = some c→∃ u,w.cell? ⟨b,off+j,none⟩=some u∧Rep w O α c u:=by
     intro j c hc
     rw[Nat.zero_add] at hc
     rcases hm with rfl | ⟨_,_,hm⟩
     · simp at hc
     · exact yl hm hc
   obtain ⟨r,h1,h2⟩:=fV h hm'
   exact ⟨r,by simp only[Instr.loadAt,Instr.sureAddr,Sem.run_bind,Sem.run_pure,Result.andThen_ok]; exact h1,h2⟩
 · rename_i r top i off
   split at h
   · rename_i n xs x hc
     obtain ⟨h1,h2⟩:=cC hi hc
     obtain ⟨ri,g1,g2,g3,g4,g5,g6,c,el,fz,g7,g8,g9,g10,_⟩:=hi.alive h1
     simp only[Rep] at ha
     obtain ⟨_,b,o,rfl,hx⟩:=ha
     obtain ⟨rfl,rfl⟩:=(hx ri g1).2 g4
     obtain ⟨v',k1,k2,k3,k4,_⟩:=gP g9 h2
     have hm':∀ j c,x.cells[off+j]? = some c→∃ u,w.cell? ⟨ri.block,i*ri.stride+off+j,none⟩=some u∧Rep w O α c u:=by
       intro j c hcj
       obtain ⟨u,q1,q2⟩:=jc k1 k2 k3 hcj
       have hlt:off+j<n:=by
         rcases Nat.lt_or_ge (off+j) n with h | h
         · exact h
         · rw[List.getElem?_eq_none (by omega)] at hcj; cases hcj
       refine ⟨u,?_,q2⟩
       have:=k4 (off+j) hlt
       rw[q1,Nat.zero_add] at this
       rw[g2,show i*n+off+j=i*n+(off+j) by omega]
       exact this
     obtain ⟨r',e1,e2⟩:=fV h hm'
     exact ⟨r',by simp only[Instr.loadAt,Instr.sureAddr,Sem.run_bind,Sem.run_pure,Result.andThen_ok]; exact e1,e2⟩
   · cases h
 · cases h
theorem mC {n:Nat}:∀ {ys:List AVal}{vs:List Value}{i:Nat}{y:AVal},ax w O α n ys vs→ys[i]? = some y→∃ v,vs[i]? = some v∧Rep w O α y v∧y.cells.length=n∧v.cells.size=n∧∀ u∈v.cells,u.oneCell'=true
 | [],vs,i,y,h,hy=>by simp at hy
 | x::ys,vs,0,y,h,hy=>by
   simp only[ax] at h
   obtain ⟨v,us,rfl,h1,_⟩:=h
   simp at hy; subst hy
   exact ⟨v,rfl,h1⟩
 | x::ys,vs,i+1,y,h,hy=>by
   simp only[ax] at h
   obtain ⟨v,us,rfl,_,h2⟩:=h
   simpa using mC h2 (by simpa using hy)
theorem mA {n:Nat}{y:AVal}{v:Value} (h1:Rep w O α y v∧y.cells.length=n∧v.cells.size=n∧∀ u∈v.cells,u.oneCell'=true) :
   ∀ {ys:List AVal}{vs:List Value} (i:Nat),ax w O α n ys vs→ax w O α n (ys.set i y) (vs.set i v)
 | [],vs,i,h=>by simp only[ax] at h; subst h; simp[ax]
 | x::ys,vs,0,h=>by
   simp only[ax] at h
   obtain ⟨u,us,rfl,_,h2⟩:=h
   simp only[List.set_cons_zero,ax]
   exact ⟨v,us,rfl,h1,h2⟩
 | x::ys,vs,i+1,h=>by
   simp only[ax] at h
   obtain ⟨u,us,rfl,h0,h2⟩:=h
   simp only[List.set_cons_succ,ax]
   exact ⟨u,us.set i v,rfl,h0,mA h1 i h2⟩
theorem iU {n:Nat}{v:Value} (hv:v.cells.size=n):∀ {ys:List AVal}{vs:List Value} (i:Nat),ax w O α n ys vs→i<ys.length →
   flat (vs.set i v)=(flat vs).take (i*n)++v.cells.toList++(flat vs).drop (i*n+n)
 | [],vs,i,h,hi=>by simp at hi
 | x::ys,vs,0,h,hi=>by
   simp only[ax] at h
   obtain ⟨u,us,rfl,⟨_,_,h0,_⟩,h2⟩:=h
   simp[flat,h0]
 | x::ys,vs,i+1,h,hi=>by
   simp only[ax] at h
   obtain ⟨u,us,rfl,⟨_,_,h0,_⟩,h2⟩:=h
   have ih:=iU hv i h2 (by simpa using hi)
   have e:∀ l:List Value,flat (u::l)=u.cells.toList++flat l:=by intro l; simp[flat]
   rw[List.set_cons_succ,e,e,ih]
   have hu:u.cells.toList.length=n:=by simp[h0]
   rw[List.take_append,List.drop_append,hu]
   rw[show (i+1)*n-n=i*n by rw[Nat.add_mul]; omega,show (i+1)*n+n-n=i*n+n by rw[Nat.add_mul]; omega]
   have t1:u.cells.toList.take ((i+1)*n)=u.cells.toList:=List.take_of_length_le (by rw[hu,Nat.add_mul]; omega)
   have t2:u.cells.toList.drop ((i+1)*n+n)=[]:=List.drop_eq_nil_of_le (by rw[hu,Nat.add_mul]; omega)
   rw[t1,t2]
   simp
theorem flat_get {n:Nat}:∀ {ys:List AVal}{vs:List Value}{i:Nat}{v:Value},ax w O α n ys vs→vs[i]? = some v→((flat vs).drop (i*n)).take n=v.cells.toList
 | [],vs,i,v,h,hv=>by simp only[ax] at h; subst h; simp at hv
 | x::ys,vs,0,v,h,hv=>by
   simp only[ax] at h
   obtain ⟨u,us,rfl,⟨_,_,h0,_⟩,h2⟩:=h
   simp at hv; subst hv
   simp[flat,List.take_append,h0]
 | x::ys,vs,i+1,v,h,hv=>by
   simp only[ax] at h
   obtain ⟨u,us,rfl,⟨_,_,h0,_⟩,h2⟩:=h
   have ih:=flat_get h2 (i:=i) (by simpa using hv)
   have e:flat (u::us)=u.cells.toList++flat us:=by simp[flat]
   have hu:u.cells.toList.length=n:=by simp[h0]
   have t2:u.cells.toList.drop ((i+1)*n)=[]:=List.drop_eq_nil_of_le (by rw[hu,Nat.add_mul]; omega)
   rw[e,List.drop_append,hu,t2]
   rw[show (i+1)*n-n=i*n by rw[Nat.add_mul]; omega]
   simpa using ih
end
end Go.EM
namespace Go.EM
variable [Drawn]
section
variable {P:Program}{w w':World}{O:Nat→Prop}{α:AM}{st:aq}
theorem qT {x v:AVal}{a u:Value}{off n:Nat} (hx:Rep w O α x a) (hv:Rep w O α v u) (hvc:RepL w O α v.cells u.cells.toList) (h1:x.cells.length=n) (h2:a.cells.size=n)
   (ho:off+v.cells.length≤n) (hag:x.isAgg=true∨v.isAgg=false) (h3:∀ c∈a.cells,c.oneCell'=true) (h4:∀ c∈u.cells,c.oneCell'=true) :
   ∃ a',Rep w O α (putCells x off v) a'∧(putCells x off v).cells.length=n∧a'.cells.toList=a.cells.toList.take off++u.cells.toList++a.cells.toList.drop (off+v.cells.length) ∧
     a'.cells.size=n∧∀ c∈a'.cells,c.oneCell'=true:=by
 have hul:u.cells.toList.length=v.cells.length:=bU hvc
 by_cases hxa:∃ cs,x = .agg cs
 · obtain ⟨cs,rfl⟩:=hxa
   simp only[Rep] at hx
   obtain ⟨l,rfl,hl⟩:=hx
   have h1:cs.length=n:=h1
   have hll:l.length=n:=by rw[← h1]; exact bU hl
   have h3:∀ c∈l,c.oneCell'=true:=fun c hc=>h3 c (by simpa [Value.cells] using hc)
   refine ⟨.agg (l.take off++u.cells.toList++l.drop (off+v.cells.length)).toArray,?_,?_,?_,?_,?_⟩
   · simp only[putCells,Rep]
     exact ⟨_,rfl,cE (cE (jl _ hl) hvc) (jm _ hl)⟩
   · show (cs.take off++v.cells++cs.drop (off+v.cells.length)).length=n
     simp only[List.length_append,List.length_take,List.length_drop]; omega
   · show _=l.take off++u.cells.toList++l.drop (off+v.cells.length)
     rfl
   · show (l.take off++u.cells.toList++l.drop (off+v.cells.length)).toArray.size=n
     simp only[List.size_toArray,List.length_append,List.length_take,List.length_drop]; omega
   · intro c hc
     have hc:c∈l.take off++u.cells.toList++l.drop (off+v.cells.length):=by
       have:c∈(l.take off++u.cells.toList++l.drop (off+v.cells.length)).toArray:=hc
       simpa using this
     simp only[List.mem_append] at hc
     rcases hc with (hc | hc) | hc
     · exact h3 c (List.mem_of_mem_take hc)
     · exact h4 c (by simpa using hc)
     · exact h3 c (List.mem_of_mem_drop hc)
 · have hxa':x.isAgg=false:=by cases x<;>first | rfl | exact absurd ⟨_,rfl⟩ hxa
   have hva : v.isAgg = false := by rcases hag with h | h; · rw [hxa'] at h; cases h
                                    · exact h
   have e1:x.cells=[x]:=by cases x<;>first | rfl | exact absurd ⟨_,rfl⟩ hxa
   have e2:v.cells=[v]:=by cases v<;>first | rfl | simp[AVal.isAgg] at hva
   rw[e1] at h1
   rw[e2] at ho hul
   simp only[List.length_singleton] at h1 ho hul
   have hoff:off=0:=by omega
   subst hoff
   have e3:putCells x 0 v=v:=by cases x<;>first | rfl | exact absurd ⟨_,rfl⟩ hxa
   refine ⟨u,by rw[e3]; exact hv,by rw[e3,e2]; simpa using h1,?_,by simp at hul; omega,h4⟩
   rw[e2]
   simp only[List.take_zero,List.nil_append,List.length_singleton,Nat.zero_add]
   rw[List.drop_eq_nil_of_le (by simp; omega)]
   simp
theorem aji {A B mid:List Value}{k:Nat} (hA:k≤A.length) (hB:k≤B.length) (hAB:∀ q,q<B.length→A[q]? = B[q]?) (j:Nat)
   (hj:j<(B.take k++mid++B.drop (k+mid.length)).length):(A.take k++mid++A.drop (k+mid.length))[j]? = (B.take k++mid++B.drop (k+mid.length))[j]? := by
 have lA:(A.take k).length=k:=by simp; omega
 have lB:(B.take k).length=k:=by simp; omega
 simp only[List.append_assoc]
 by_cases c1:j<k
 · rw[List.getElem?_append_left (by rw[lA]; exact c1),List.getElem?_append_left (by rw[lB]; exact c1),List.getElem?_take_of_lt c1,List.getElem?_take_of_lt c1]
   exact hAB j (by omega)
 · have R:∀ X:List Value,(B.take k++(mid++X))[j]? = (mid++X)[j-k]? := fun X=>by rw[List.getElem?_append_right (by rw[lB]; omega),lB]
   have L:∀ X:List Value,(A.take k++(mid++X))[j]? = (mid++X)[j-k]? := fun X=>by rw[List.getElem?_append_right (by rw[lA]; omega),lA]
   rw[R,L]
   by_cases c2:j-k<mid.length
   · rw[List.getElem?_append_left c2,List.getElem?_append_left c2]
   · have R2:∀ X:List Value,(mid++X)[j-k]? = X[j-k-mid.length]? := fun X=>List.getElem?_append_right (by omega)
     rw[R2,R2,List.getElem?_drop,List.getElem?_drop]
     refine hAB _ ?_
     simp only[List.length_append,List.length_take,List.length_drop] at hj
     omega
theorem xU (hi:Inv w O α st) {t:TypeId}{a v:AVal}{st':aq}{ua uv:Value} (h:kd P t a v st=some st') (ha:Rep w O α a ua) (hv:Rep w O α v uv) :
   ∃ w' α',(Instr.storeAt t ua uv).run P w = .ok () w'∧Ext w α w' α'∧Inv w' O α' st':=by
 unfold kd at h
 split at h
 · rename_i r top i off
   split at h
   · rename_i n xs x hc
     split at h
     · rename_i hcond
       obtain ⟨hf,hle,hag⟩:=hcond
       cases h
       obtain ⟨h1,h2⟩:=cC hi hc
       obtain ⟨ri,g1,g2,g3,g4,g5,g6,c,el,fz,g7,g8,g9,g10,g11⟩:=hi.alive h1
       simp only[Rep] at ha
       obtain ⟨_,b,o,rfl,hx⟩:=ha
       obtain ⟨rfl,rfl⟩:=(hx ri g1).2 g4
       obtain ⟨m,d,q1,q2,q3,q4,q5,q6,q7,q8⟩:=md hf hv
       obtain ⟨vs,k1,k2⟩:=fh 0 g9
       obtain ⟨av,a1,a2,a3,a4,a5⟩:=mC k1 h2
       have hilt:i<xs.length:=by
         rcases Nat.lt_or_ge i xs.length with h | h
         · exact h
         · rw[List.getElem?_eq_none h] at h2; cases h2
       have hagg:x.isAgg=true∨v.isAgg=false:=by
         rcases hag with h | h
         · exact .inl h
         · exact .inr (by simpa using h)
       obtain ⟨a',b1,b2,b3,b4,b5⟩:=qT (n:=n) (off:=off) a2 hv q7 a3 a4 (by omega) hagg a5 q8
       -- memory
       have hfl:(flat vs).length=xs.length*n:=aM k1
       have hcap:xs.length*n≤ri.cap*n:=Nat.mul_le_mul_right n (by omega)
       have hin:i*n+n≤xs.length*n:=by
         have:=Nat.mul_le_mul_right n (show i+1≤xs.length by omega)
         rw[Nat.add_mul] at this; omega
       have hlen:i*ri.stride+off+uv.cells.toList.length≤c.size:=by
         rw[g2,g8]; simp only[Array.length_toList]; omega
       obtain ⟨w',s1,s2,s3,s4,s5,s6,s7,s8,s9⟩:=eo (P:=P) (b:=ri.block) (off:=i*ri.stride+off) uv.cells.toList 0 w c el fz g7 (by simpa using hlen) (fun u hu=>q8 u (by simpa using hu)) (fun o ho=>g10 o (.inl ho))
       have hsz:(c.toList.take (i*ri.stride+off+0)++uv.cells.toList++c.toList.drop (i*ri.stride+off+0+uv.cells.toList.length)).toArray.size=c.size:=by
         simp only[List.size_toArray,List.length_append,List.length_take,List.length_drop,Array.length_toList,Nat.add_zero] at hlen ⊢
         omega
       have hbl:ri.block<w.heap.size:=(hi.fresh r ri g1).2
       have turned:=hi.turn (w':=w') (ri':=ri) (g:=.row (rowTy st r) n (xs.set i (putCells x off v))) g1 s5 s6 s7 (by omega) (by omega) (fun k _ hk=>s3 k hk) (.inl rfl) (Nat.le_refl _) (fun _=>rfl) (by
         intro hp
         have hα:(α.set r (some ri))[r]? = some (some ri):=by
           rw[List.getElem?_set_self]
           rcases Nat.lt_or_ge r α.length with h | h
           · exact h
           · rw[List.getElem?_eq_none h] at g1; cases g1
         simp only[cX]
         refine ⟨ri,hα,g2,g3,by simp; omega,by simp; omega,_,el,fz,s2,?_,?_,fun o ho=>by rw[s8]; exact g10 o (by rw[hsz] at ho; exact ho),by simp[rowTy,g11]⟩
         · rw[hsz]; exact g8
         · have hset:=mA (w:=w) (O:=O) (α:=α) ⟨b1,b2,b4,b5⟩ i k1
           refine row_of 0 (bC hp hset) (fun j hj => ?_)
           have hfs:=iU b4 i k1 hilt
           have hfg:=flat_get k1 a1
           rw[Nat.zero_add]
           simp only[World.cell?,s2]
           simp only[Option.isSome_none,Bool.false_eq_true,if_false,List.getElem?_toArray,Nat.add_zero]
           have hcells:∀ q,q<(flat vs).length→c.toList[q]? = (flat vs)[q]? := by
             intro q hq
             have:=k2 q hq
             rw[Nat.zero_add] at this
             simp only[World.cell?,g7] at this
             simpa using this
           have e1:flat (vs.set i a')=(flat vs).take (i*n+off)++uv.cells.toList++(flat vs).drop (i*n+off+uv.cells.toList.length):=by
             rw[hfs,b3]
             have hav:av.cells.toList=((flat vs).drop (i*n)).take n:=hfg.symm
             rw[hav]
             have hul:uv.cells.toList.length=v.cells.length:=by simpa using bU q7
             rw[hul]
             have l1:(((flat vs).drop (i*n)).take n).take off=((flat vs).drop (i*n)).take off:=by rw[List.take_take]; congr 1; omega
             have l2:(flat vs).take (i*n)++((flat vs).drop (i*n)).take off=(flat vs).take (i*n+off):=by rw[List.take_add]
             have l3:(((flat vs).drop (i*n)).take n).drop (off+v.cells.length)++(flat vs).drop (i*n+n)=(flat vs).drop (i*n+off+v.cells.length):=by
               have hA:((flat vs).drop (i*n)).drop n=(flat vs).drop (i*n+n):=List.drop_drop
               rw[← hA]
               have hk:off+v.cells.length≤(((flat vs).drop (i*n)).take n).length:=by simp only[List.length_take,List.length_drop]; omega
               rw[← List.drop_append_of_le_length hk,List.take_append_drop,List.drop_drop]
               congr 1
               omega
             rw[l1]
             simp only[List.append_assoc] at l2 l3 ⊢
             rw[← List.append_assoc,l2,l3]
           rw[e1] at hj ⊢
           rw[g2]
           refine aji (by simp only[Array.length_toList]; rw[g2] at hlen; omega) (by omega) hcells j hj)
       obtain ⟨t1,t2⟩:=turned
       refine ⟨w',_,?_,t1,t2⟩
       simp only[Instr.storeAt,Instr.sureAddr,Sem.run_bind,Sem.run_pure,Result.andThen_ok,storeVar,EM.run_sizeOf q1]
       rw[if_neg (by simp[q6])]
       exact s1
     · cases h
   · cases h
 · cases h
theorem mg {t e:TypeId} (h:P.underlying t=some (.slice e)):bp P t=e:=by simp only[bp,h]
theorem fK {t:TypeId}{n:Nat}{z:AVal} (h:cG P t=some (n,z)) :
   ∃ e i zv,P.underlying t=some (.slice e)∧P.info? e=some i∧i.zero=some zv∧i.size=n∧n≠0∧i.bytes≤16384∧i.bytes≠0∧zv.cells.size=n∧z=dW zv:=by
 unfold cG at h
 split at h
 · rename_i e hu
   split at h
   · rename_i i hi
     split at h
     · rename_i zv hz
       split at h
       · rename_i hc
         cases h
         exact ⟨e,i,zv,hu,hi,hz,rfl,hc.1,hc.2.1,hc.2.2.1,hc.2.2.2,rfl⟩
       · cases h
     · cases h
   · cases h
 · cases h
theorem bi (z:Array Value) (k:Nat):(Builtin.zeroCells z k).size=k*z.size:=by simp[Builtin.zeroCells]
end
end Go.EM
namespace Go.EM
variable [Drawn]
section
variable {P:Program}{w w':World}{O:Nat→Prop}{α:AM}{st:aq}
theorem cZ {t u ty e:TypeId}{i:TypeInfo}{d:TypeDesc}{base:Option Addr}{sLen sCap k:Nat}{x:Value}{new:Array Value} (ht:P.underlying t=some (.slice e)) (hu:P.underlying u=some d)
   (hd:∀ k,d ≠ .int k) (hi:P.info? e=some i) (hk:(Builtin.lenOf x).run P w = .ok k w) (hn:(Builtin.firstCells i.size k x).run P w = .ok new w) (hle:sLen+k≤sCap) :
   (Builtin.append_ #[t,u] ty #[.slice base sLen sCap,x]).run P w =
     ((match base with | some a=>storeCells (a.add (sLen*i.size)) new.toList | none=>pure ():Sem Unit).run P w).andThen fun _ w'=>.ok (.slice base (sLen+k) sCap) w':=by
 have hz:(match d with | .int _=>true | _=>false)=false:=by cases d<;>first | rfl | exact absurd rfl (hd _)
 cases base<;>simp[Builtin.append_,run_underlying ht,run_underlying hu,hz,sizeOf,typeInfo,hi,hk,hle,hn]
theorem eV {t u ty e:TypeId}{i:TypeInfo}{z:Value}{d:TypeDesc}{base:Option Addr}{sLen sCap k:Nat}{x:Value}{old new:Array Value} (ht:P.underlying t=some (.slice e))
   (hu:P.underlying u=some d) (hd:∀ k,d ≠ .int k) (hi:P.info? e=some i) (hz:i.zero=some z) (hk:(Builtin.lenOf x).run P w = .ok k w)
   (ho:(Builtin.firstCells i.size sLen (.slice base sLen sCap)).run P w.drew = .ok old w.drew) (hn:(Builtin.firstCells i.size k x).run P w.drew = .ok new w.drew)
   (hgt:sCap<sLen+k) (hb:(sLen+k)*i.bytes≤140737488355328) (hb0:i.bytes≠0) :
   (Builtin.append_ #[t,u] ty #[.slice base sLen sCap,x]).run P w =
     .ok (.slice (some ⟨w.heap.size,0,none⟩) (sLen+k) (grownCap w (sLen+k) sCap e))
       (w.drew.alloc (.cells (old++new++Builtin.zeroCells z.cells (grownCap w (sLen+k) sCap e-(sLen+k))) e)):=by
 have hzz:(match d with | .int _=>true | _=>false)=false:=by cases d<;>first | rfl | exact absurd rfl (hd _)
 have h1:¬ (sLen+k≤sCap):=by omega
 have h48':¬ (281474976710656<Builtin.nextslicecap (sLen+k) sCap*i.bytes):=by have:=growslice_fits hgt hb; omega
 simp[Builtin.append_,run_underlying ht,run_underlying hu,hzz,sizeOf,typeInfo,zeroValue,hi,hz,hk,h1,hb0,h48',Question.forced,ho,hn,newRow,grownCap]
theorem vT (hi:Inv w O α st) {n:Nat}{xs:List AVal}{vs:List Value}{z:Value}{e:TypeId}{old new:Array Value}{sCap:Nat} (hn:n≠0) (hv:ax w O α n xs vs)
   (hcells:(old++new).toList=flat vs) (hzs:z.cells.size=n) :
   Ext w α (w.drew.alloc (.cells (old++new++Builtin.zeroCells z.cells (grownCap w xs.length sCap e-xs.length)) e)) (α++[some ⟨w.heap.size,n,grownCap w xs.length sCap e,xs.length⟩]) ∧
   Inv (w.drew.alloc (.cells (old++new++Builtin.zeroCells z.cells (grownCap w xs.length sCap e-xs.length)) e)) O (α++[some ⟨w.heap.size,n,grownCap w xs.length sCap e,xs.length⟩]) (st++[.row e n xs]):=by
 have hge:=grownCap_ge w xs.length sCap e
 have hfl:=aM hv
 have hq:=Quiet.drew w
 have hi':=hq.inv hi
 have hv':ax w.drew O α n xs vs:=bC (Pres.of_ext (hq.ext α)) hv
 have hsz:(old++new).size=xs.length*n:=by rw[← hfl,← hcells]; simp
 obtain ⟨e1,e2⟩:=gH (w:=w.drew) hi' (c:=old++new++Builtin.zeroCells z.cells (grownCap w xs.length sCap e-xs.length)) (el:=e) (fz:=(0,0)) (cap:=grownCap w xs.length sCap e) hn hv'
   (by rw[Array.size_append,hsz,bi,hzs,← Nat.add_mul]; congr 1; omega) hge
   (fun j hj=>by
     rw[Array.getElem?_append_left (by rw[hsz,← hfl]; exact hj),← hcells]
     exact (Array.getElem?_toList).symm) (by simp)
 exact ⟨(hq.ext α).trans e1,e2⟩
theorem fW (hi:Inv w O α st) {n:Nat}{x:AVal}{ys:List AVal}{u:Value} (h:bw st n x=some ys) (hx:Rep w O α x u) (hn:n≠0) :
   ∃ vs,(Builtin.lenOf u).run P w = .ok ys.length w∧ax w O α n ys vs∧(Builtin.firstCells n ys.length u).run P w = .ok (flat vs).toArray w ∧
     (Builtin.firstCells n ys.length u).run P w.drew = .ok (flat vs).toArray w.drew:=by
 obtain ⟨h1,vs,h2,h3⟩:=jZ (P:=P) hi h hx hn
 exact ⟨vs,h1,h2,h3 w (fun _ _ _ h=>h),h3 w.drew (fun _ _ _ h=>h)⟩
theorem mi (hi:Inv w O α st) {t u ty:TypeId}{x y v:AVal}{st':aq}{ux uy:Value} (h:cD P [t,u] x y st=some (v,st')) (hx:Rep w O α x ux) (hy:Rep w O α y uy) :
   Done P (Builtin.append_ #[t,u] ty #[ux,uy]) w O α v st':=by
 unfold cD at h
 simp only[] at h
 split at h
 · rename_i n z hei
   split at h
   · cases h
   · rename_i d hd hu
     simp only[Option.bind_eq_some_iff] at h
     obtain ⟨ys,hys,h⟩:=h
     obtain ⟨e,i,zv,he1,he2,he3,he4,he5,he6,he7,he8,he9⟩:=fK hei
     obtain ⟨vs,hk,hv,hn1,hn2⟩:=fW (P:=P) hi hys hy he5
     subst he4
     have hd':∀ k,d ≠ .int k:=fun k e=>hd k e
     unfold dE at h
     rw[hei] at h
     simp only[mg he1] at h
     have hempty:ys.isEmpty=true→flat vs=[]:=by
       intro hy0
       have:ys=[]:=by simpa using hy0
       subst this
       simp only[ax] at hv
       subst hv; rfl
     split at h
     · -- nil
       simp only[Rep] at hx
       have hx:∃ a,ux = .slice a 0 0∧a=none:=⟨none,hx,rfl⟩
       obtain ⟨a,rfl,ha0⟩:=hx
       cases hye:ys.isEmpty with
       | true =>
         simp only[hye,cond_true,Option.some.injEq,Prod.mk.injEq] at h
         obtain ⟨rfl,rfl⟩:=h
         have hl:ys.length=0:=by simpa using hye
         have hr:=cZ (ty:=ty) (base:=a) (sLen:=0) (sCap:=0) he1 hu hd' he2 hk hn1 (by omega)
         rw[hempty hye] at hr
         refine ⟨.slice a 0 0,w,α,?_,Ext.refl w α,hi,by simp[Rep,ha0]⟩
         rw[hr,hl]
         cases a<;>simp[storeCells]
       | false =>
         simp only[hye,cond_false] at h
         split at h
         · rename_i hlt
           simp only[bf,Option.some.injEq,Prod.mk.injEq] at h
           obtain ⟨rfl,rfl⟩:=h
           have hl:0<ys.length:=by
             cases ys with
             | nil=>simp at hye
             | cons a b=>simp
           have hold:(Builtin.firstCells i.size 0 (.slice a 0 0)).run P w.drew = .ok #[] w.drew:=by
             cases a<;>simp[Builtin.firstCells,loadCells,loadCellsFrom]
           have hb:(0+ys.length)*i.bytes≤140737488355328:=by
             have:=Nat.mul_le_mul (show 0+ys.length≤4294967296 by simp only[most] at hlt; omega) he6
             omega
           have hr:=eV (ty:=ty) he1 hu hd' he2 he3 hk hold hn2 (by omega) hb he7
           rw[Nat.zero_add] at hr
           obtain ⟨g1,g2⟩:=vT hi (e:=e) (old := #[]) (new:=(flat vs).toArray) (sCap:=0) he5 hv (by simp) he8
           exact ⟨_,_,_,hr,g1,g2,by rw[hi.len]; exact jF (grownCap_ge _ _ _ _)⟩
         · cases h
     · -- a full one
       rename_i m xs
       have hx':=hx
       simp only[Rep] at hx
       obtain ⟨a,cap,rfl,h1,h2,h3⟩:=hx
       have hcap:=h2 trivial
       subst hcap
       split at h
       · rename_i hm
         cases hye:ys.isEmpty with
         | true =>
           simp only[hye,cond_true,Option.some.injEq,Prod.mk.injEq] at h
           obtain ⟨rfl,rfl⟩:=h
           have hl:ys.length=0:=by simpa using hye
           have hr:=cZ (ty:=ty) (base:=a) (sLen:=xs.length) (sCap:=xs.length) he1 hu hd' he2 hk hn1 (by omega)
           rw[hempty hye] at hr
           refine ⟨.slice a xs.length xs.length,w,α,?_,Ext.refl w α,hi,hx'⟩
           rw[hr,hl]
           cases a<;>simp[storeCells]
         | false =>
           simp only[hye,cond_false] at h
           split at h
           · rename_i hlt
             simp only[bf,Option.some.injEq,Prod.mk.injEq] at h
             obtain ⟨rfl,rfl⟩:=h
             have hl:0<ys.length:=by
               cases ys with
               | nil=>simp at hye
               | cons a b=>simp
             have hcx:bw st i.size (.tree true m xs)=some xs:=by simp only[bw]; rw[if_pos hm]
             obtain ⟨us,_,hvx,_,hox⟩:=fW (P:=P) hi hcx hx' he5
             have hb:(xs.length+ys.length)*i.bytes≤140737488355328:=by
               have:=Nat.mul_le_mul (show xs.length+ys.length≤4294967296 by simp only[most] at hlt; omega) he6
               omega
             have hr:=eV (ty:=ty) he1 hu hd' he2 he3 hk hox hn2 (by omega) hb he7
             have hvv:=bD hvx hv
             obtain ⟨g1,g2⟩:=vT hi (e:=e) (old:=(flat us).toArray) (new:=(flat vs).toArray) (sCap:=xs.length) he5 hvv (by simp[cB]) he8
             rw[List.length_append] at g1 g2
             exact ⟨_,_,_,hr,g1,g2,by rw[hi.len,List.length_append]; exact jF (grownCap_ge _ _ _ _)⟩
           · cases h
       · cases h
     · -- one's own
       rename_i r m top off len
       split at h
       · rename_i hm
         obtain ⟨rfl,rfl,hrt⟩:=hm
         split at h
         · rename_i xs hxs
           obtain ⟨ri,g1,g2,g3,g4,g5,g6,c,el,fz,g7,g8,g9,g10,g11⟩:=hi.alive hxs
           have hx':=hx
           simp only[Rep] at hx
           obtain ⟨hrl,a,cap,rfl,h1,h2,h3⟩:=hx
           obtain ⟨k1,k2,k3,k4⟩:=(h3 ri g1).2 g4
           rw[Nat.sub_zero] at k3
           subst k3
           cases hye:ys.isEmpty with
           | true =>
             simp only[hye,cond_true,Option.some.injEq,Prod.mk.injEq] at h
             obtain ⟨rfl,rfl⟩:=h
             have hl:ys.length=0:=by simpa using hye
             have hr:=cZ (ty:=ty) (base:=a) (sLen:=len) (sCap:=ri.cap) he1 hu hd' he2 hk hn1 (by omega)
             rw[hempty hye] at hr
             refine ⟨.slice a len ri.cap,w,α,?_,Ext.refl w α,hi,hx'⟩
             rw[hr,hl]
             cases a<;>simp[storeCells]
           | false =>
             simp only[hye,cond_false] at h
             split at h
             · rename_i hlt
               split at h
               · rename_i hlen
                 subst hlen
                 simp only[Option.some.injEq,Prod.mk.injEq] at h
                 obtain ⟨rfl,rfl⟩:=h
                 have hl:0<ys.length:=by
                   cases ys with
                   | nil=>simp at hye
                   | cons a b=>simp
                 obtain ⟨us,hvx,q2⟩:=fh 0 g9
                 have hflx0:=aM hvx
                 have hcap1:xs.length*i.size≤c.size:=by rw[g8]; exact Nat.mul_le_mul_right _ (by omega)
                 have hcell:∀ j,j<(flat us).length→c.toList[j]? = (flat us)[j]? := by
                   intro j hj
                   have:=q2 j hj
                   rw[Nat.zero_add] at this
                   simp only[World.cell?,g7] at this
                   simpa using this
                 have htk:c.toList.take (len*i.size)=flat us:=by
                   apply List.ext_getElem?
                   intro j
                   by_cases hj:j<len*i.size
                   · rw[List.getElem?_take_of_lt hj]; exact hcell j (by rw[hflx0,g5]; exact hj)
                   · rw[List.getElem?_eq_none (by simp; omega),List.getElem?_eq_none (by rw[hflx0,g5]; omega)]
                 have hox:(Builtin.firstCells i.size len (.slice a len ri.cap)).run P w.drew = .ok (flat us).toArray w.drew:=by
                   by_cases hl0:len=0
                   · subst hl0
                     have:flat us=[]:=List.eq_nil_of_length_eq_zero (by rw[hflx0,g5]; simp)
                     rw[this]
                     cases a<;>simp[Builtin.firstCells,loadCells,loadCellsFrom]
                   · have ha:=k4 (by omega)
                     subst ha
                     refine lh (w:=w.drew) (by rw[hflx0,g5]) (fun j hj => ?_)
                     have:=q2 j hj
                     simpa using this
                 have hvv:=bD hvx hv
                 have hflx:=aM hvx
                 have hfly:=aM hv
                 have hα:∀ ri',(α.set r (some ri'))[r]? = some (some ri'):=fun ri'=>List.getElem?_set_self hrl
                 by_cases hroom:len+ys.length≤ri.cap
                 · -- in place
                   have hr:=cZ (ty:=ty) (base:=a) (sLen:=len) (sCap:=ri.cap) he1 hu hd' he2 hk hn1 hroom
                   have ha:=k4 (by omega)
                   subst ha
                   simp only[Nat.zero_mul,dm,Nat.zero_add] at hr
                   have hfit:len*i.size+0+(flat vs).length≤c.size:=by
                     rw[hfly,g8,Nat.add_zero,← Nat.add_mul]
                     exact Nat.mul_le_mul_right _ hroom
                   obtain ⟨w',s1,s2,s3,s4,s5,s6,s7,s8,s9⟩:=eo (P:=P) (b:=ri.block) (off:=len*i.size) (flat vs) 0 w c el fz g7 hfit (fun u hu=>cO hv u hu) (fun o ho=>g10 o (.inl ho))
                   have hsz:(c.toList.take (len*i.size+0)++flat vs++c.toList.drop (len*i.size+0+(flat vs).length)).toArray.size=c.size:=by
                     simp only[List.size_toArray,List.length_append,List.length_take,List.length_drop,Array.length_toList]
                     omega
                   obtain ⟨t1,t2⟩:=hi.turn (w':=w') (ri':={ ri with top:=len+ys.length }) (g:=.row e i.size (xs++ys)) g1 s5 s6 s7 (by omega) (by omega) (fun k _ hk=>s3 k hk) (.inl rfl) (by simp; omega) (by simp; omega) (by
                     intro hp
                     simp only[cX]
                     refine ⟨_,hα _,g2,he5,by simp; omega,by simp; omega,_,el,fz,s2,by rw[hsz]; exact g8,?_,fun o ho=>by rw[s8]; exact g10 o (by rw[hsz] at ho; exact ho),by simpa [rowTy,g11] using hrt⟩
                     refine row_of 0 (bC hp hvv) (fun j hj => ?_)
                     rw[Nat.zero_add,cB] at *
                     simp only[World.cell?,s2,Option.isSome_none,Bool.false_eq_true,if_false,List.getElem?_toArray,Nat.add_zero]
                     rw[htk,List.getElem?_append_left hj])
                   refine ⟨.slice (some ⟨ri.block,0,none⟩) (len+ys.length) ri.cap,w',_,?_,t1,t2,?_⟩
                   · simp only[Nat.zero_mul]
                     rw[hr]
                     simp only[s1,Result.andThen_ok]
                   · simp only[Rep]
                     refine ⟨by simpa using hrl,_,_,rfl,by omega,.inr ⟨_,_,rfl⟩,fun ri' hri' => ?_⟩
                     rw[hα] at hri'
                     cases hri'
                     exact ⟨by simp,fun _=>⟨g2,by omega,by simp,fun _=>by simp⟩⟩
                 · have hb : (len + ys.length) * i.bytes ≤ 140737488355328 := by
                     have:=Nat.mul_le_mul (show len+ys.length≤4294967296 by simp only[most] at hlt; omega) he6
                     omega
                   have hr:=eV (ty:=ty) he1 hu hd' he2 he3 hk hox hn2 (by omega) hb he7
                   have hge:=grownCap_ge w (len+ys.length) ri.cap e
                   have hq:=Quiet.drew w
                   have hblk:=eF (w:=w.drew) ((flat us).toArray++(flat vs).toArray++Builtin.zeroCells zv.cells (grownCap w (len+ys.length) ri.cap e-(len+ys.length))) e (0,0)
                   have hsz:((flat us).toArray++(flat vs).toArray++Builtin.zeroCells zv.cells (grownCap w (len+ys.length) ri.cap e-(len+ys.length))).size=grownCap w (len+ys.length) ri.cap e*i.size:=by
                     simp only[Array.size_append,List.size_toArray,bi,he8,hflx,hfly,g5,← Nat.add_mul]
                     congr 1; omega
                   obtain ⟨t1,t2⟩:=hi.turn (w':=w.drew.alloc (.cells ((flat us).toArray++(flat vs).toArray++Builtin.zeroCells zv.cells (grownCap w (len+ys.length) ri.cap e-(len+ys.length))) e))
                     (ri':=⟨w.heap.size,i.size,grownCap w (len+ys.length) ri.cap e,len+ys.length⟩) (g:=.row e i.size (xs++ys)) g1 rfl rfl rfl (by simp) (Nat.le_succ _)
                     (fun k hk _=>(Quiet.alloc w.drew _).old k hk) (.inr ⟨Nat.le_refl _,by simp⟩) (by simp; omega) (by simp; omega) (by
                     intro hp
                     simp only[cX]
                     refine ⟨_,hα _,rfl,he5,by simp; omega,by simp; omega,_,e,(0,0),hblk,hsz,?_,fun o ho => ?_,rfl⟩
                     · refine row_of 0 (bC hp hvv) (fun j hj => ?_)
                       rw[cB] at hj ⊢
                       rw[Nat.zero_add]
                       have hblk':(w.drew.alloc (.cells ((flat us).toArray++(flat vs).toArray++Builtin.zeroCells zv.cells (grownCap w (len+ys.length) ri.cap e-(len+ys.length))) e)).heap[w.heap.size]? = _:=hblk
                       simp only[World.cell?,hblk',Option.isSome_none,Bool.false_eq_true,if_false]
                       rw[Array.getElem?_append_left (by simpa using hj)]
                       rw[← Array.getElem?_toList]
                       simp
                     · have hblk':(w.drew.alloc (.cells ((flat us).toArray++(flat vs).toArray++Builtin.zeroCells zv.cells (grownCap w (len+ys.length) ri.cap e-(len+ys.length))) e)).heap[w.heap.size]? = _:=hblk
                       simp only[World.frozen?,hblk']
                       simp only[Nat.not_lt_zero,decide_false,Bool.and_false])
                   refine ⟨_,_,_,hr,t1,t2,?_⟩
                   simp only[Rep]
                   refine ⟨by simpa using hrl,_,_,rfl,hge,.inr ⟨_,_,rfl⟩,fun ri' hri' => ?_⟩
                   rw[hα] at hri'
                   cases hri'
                   exact ⟨by simp,fun _=>⟨rfl,by omega,by simp,fun _=>by simp⟩⟩
               · cases h
             · cases h
         · cases h
       · cases h
     · cases h
   · cases h
 · cases h
end
end Go.EM
