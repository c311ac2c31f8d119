import Derived.Test.YtnbgkhdcidbkaaaGreatDoorE10
import Derived.Lib.Builder
import Derived.Lib.UnsafeStr
import Derived.DeepKeys3
import Derived.Laws.IdiomCopy
set_option linter.unusedVariables false
set_option linter.unusedSectionVars false
set_option linter.unusedSimpArgs false
namespace Go.EM
variable [Drawn]
section
variable {P:Program}{w w':World}{O:Nat→Prop}{α:AM}{st:aq}
theorem iM {zv:Value} (h:(dW zv).cells.all AVal.isCell=true):(dW zv).cells.length=zv.cells.size:=by
 unfold dW at h ⊢
 split
 · simp[AVal.cells,Value.cells]
 · rename_i hna
   have e:zv.cells = #[zv]:=by cases zv<;>first | rfl | exact absurd rfl (hna _)
   rw[e]
   unfold d7
   split<;>simp[AVal.cells]
theorem eX {n:Nat}{z:AVal}{zv:Value} (hz:Rep w O α z zv∧z.cells.length=n∧zv.cells.size=n∧∀ u∈zv.cells,u.oneCell'=true):∀ k,ax w O α n (List.replicate k z) (List.replicate k zv)
 | 0=>by simp[ax]
 | k+1=>by
   simp only[List.replicate_succ,ax]
   exact ⟨zv,_,rfl,hz,eX hz k⟩
theorem de {zv:Value}{n:Nat} (hz:zv.cells.size=n) (hn:n≠0):∀ (k j:Nat),j<k*n→(flat (List.replicate k zv))[j]? = some (zv.cells[j%n]!)
 | 0,j,h=>by simp at h
 | k+1,j,h=>by
   have e:flat (List.replicate (k+1) zv)=zv.cells.toList++flat (List.replicate k zv):=by simp[flat,List.replicate_succ]
   rw[e]
   by_cases hj:j<n
   · rw[List.getElem?_append_left (by simp; omega),Nat.mod_eq_of_lt hj]
     simp[getElem!_pos,hz,hj]
   · rw[List.getElem?_append_right (by simp; omega)]
     simp only[Array.length_toList,hz]
     rw[de hz hn k (j-n) (by rw[Nat.add_mul] at h; omega)]
     rw[Nat.mod_eq_sub_mod (by omega:n≤j)]
theorem aca (hi:Inv w O α st) {t:TypeId}{l c v:AVal}{st':aq}{ul uc:Value} (h:yk P t l c st=some (v,st')) (hl:Rep w O α l ul) (hc:Rep w O α c uc) :
   Done P (Instr.makeSlice t ul uc) w O α v st':=by
 unfold yk at h
 split at h
 · rename_i n z hei
   obtain ⟨e,i,zv,he1,he2,he3,he4,he5,he6,he7,he8,he9⟩:=fK hei
   split at h
   · rename_i l c
     split at h
     · rename_i hcond
       obtain ⟨rfl,h0,hlt,hcell⟩:=hcond
       simp only[bf,Option.some.injEq,Prod.mk.injEq,mg he1] at h
       obtain ⟨rfl,rfl⟩:=h
       simp only[Rep] at hl hc
       subst hl; subst hc
       subst he4
       have hb:(i.bytes:Int)*l≤281474976710656:=by
         have h1:(i.bytes:Int)*l≤16384*4294967296:=Int.mul_le_mul (by omega) (by simp only[most] at hlt; omega) h0 (by omega)
         omega
       have hr:=run_make (P:=P) w t e i zv he1 he2 he3 .i64 .i64 l l h0 (Int.le_refl _) hb (by simp only[most] at hlt; omega)
       have hzz:Rep w O α z zv:=by rw[he9]; exact ev zv
       obtain ⟨r1,r2⟩:=gv hcell hzz
       have hzl:z.cells.length=i.size:=by rw[he9] at hcell ⊢; rw[iM hcell,he8]
       have hv:=eX ⟨hzz,hzl,he8,r2⟩ l.toNat
       have hfl:=aM hv
       rw[List.length_replicate] at hfl
       obtain ⟨g1,g2⟩:=gH hi (c:=madeCells zv.cells (l.toNat*i.size)) (el:=e) (fz:=(0,0)) (cap:=l.toNat) he5 hv (by rw[size_madeCells]) (by simp) (fun j hj=>by
         rw[hfl] at hj
         rw[de he8 he5 _ _ hj]
         simp only[madeCells,Array.getElem?_map,he8]
         rw[Array.getElem?_range]
         simp[hj]) (by simp)
       rw[List.length_replicate] at g1 g2
       exact ⟨_,_,_,hr,g1,g2,by rw[hi.len,List.length_replicate]; exact jF (Nat.le_refl _)⟩
     · cases h
   · cases h
 · cases h
theorem oe {n:Nat}:∀ (parts:List (Nat×AVal)) (vs:List (Nat×Value)) (k:Nat) (cells:Array Value),xN k parts=true→cu w O α parts vs →
   (∀ p∈parts,p.2.cells.length=n∧p.2.cells.all AVal.isCell=true)→(k+parts.length)*n≤cells.size →
     ∃ us,ax w O α n (parts.map (·.2)) us∧∃ cs:Array Value,Instr.fill (fun i=>some (i*n,n)) cells vs=some cs∧cs.toList=cells.toList.take (k*n)++flat us++cells.toList.drop ((k+parts.length)*n)
 | [],vs,k,cells,_,hv,_,hs=>by
   simp only[cu] at hv; subst hv
   exact ⟨[],by simp[ax],cells,by simp[Instr.fill],by simp[flat]⟩
 | (i,x)::parts,vs,k,cells,hidx,hv,hf,hs=>by
   simp only[cu] at hv
   obtain ⟨u,us,rfl,h1,h2⟩:=hv
   simp only[xN,Bool.and_eq_true,beq_iff_eq] at hidx
   obtain ⟨rfl,hidx⟩:=hidx
   obtain ⟨f1,f2⟩:=hf (i,x) List.mem_cons_self
   obtain ⟨r1,r2⟩:=gv f2 h1
   have hsz:u.cells.size=n:=by rw[← f1]; simpa using bU r1
   simp only[List.length_cons] at hs
   have hin:i*n+n≤cells.size:=by
     have:=Nat.mul_le_mul_right n (show i+1≤i+(parts.length+1) by omega)
     rw[Nat.add_mul] at this; omega
   have hfold:(u.cells.zipIdx.foldl (fun cs (p:Value×Nat)=>cs.setIfInBounds (i*n+p.2) p.1) cells).toList=cells.toList.take (i*n)++u.cells.toList++cells.toList.drop (i*n+n):=by
     rw[← Array.foldl_toList,Array.toList_zipIdx]
     have:=foldl_set (i*n) u.cells.toList 0 cells (by simp; omega)
     rw[this]
     simp[hsz]
   obtain ⟨us',q1,cs,q2,q3⟩:=oe parts us (i+1) (u.cells.zipIdx.foldl (fun cs (p:Value×Nat)=>cs.setIfInBounds (i*n+p.2) p.1) cells) hidx h2
     (fun p hp=>hf p (List.mem_cons_of_mem _ hp)) (by rw[← Array.length_toList,hfold]; simp only[List.length_append,List.length_take,List.length_drop,Array.length_toList]; rw[show i+1+parts.length=i+(parts.length+1) by omega]; omega)
   refine ⟨u::us',by simp only[List.map_cons,ax]; exact ⟨u,us',rfl,⟨h1,f1,hsz,r2⟩,q1⟩,cs,?_,?_⟩
   · simp only[Instr.fill]
     rw[if_neg (by simp[hsz]; omega)]
     exact q2
   · rw[q3,hfold]
     have e:flat (u::us')=u.cells.toList++flat us':=by simp[flat]
     have hl1:(cells.toList.take (i*n)).length=i*n:=by simp; omega
     have hul:u.cells.toList.length=n:=by simp[hsz]
     rw[e]
     have t1:(cells.toList.take (i*n)++u.cells.toList++cells.toList.drop (i*n+n)).take ((i+1)*n)=cells.toList.take (i*n)++u.cells.toList:=by
       rw[show (i+1)*n=(cells.toList.take (i*n)++u.cells.toList).length by rw[List.length_append,hl1,hul,Nat.add_mul]; omega]
       exact List.take_left
     have t2:(cells.toList.take (i*n)++u.cells.toList++cells.toList.drop (i*n+n)).drop ((i+1+parts.length)*n)=cells.toList.drop ((i+(parts.length+1))*n):=by
       rw[List.drop_append,List.length_append,hl1,hul,List.drop_eq_nil_of_le (by rw[List.length_append,hl1,hul,Nat.add_mul,Nat.add_mul]; omega),List.nil_append,List.drop_drop]
       congr 1
       simp only[Nat.add_mul]; omega
     rw[t1,t2]
     simp only[List.length_cons,List.append_assoc]
theorem ge (hi:Inv w O α st) {t:TypeId}{len n:Nat}{parts:List (Nat×AVal)}{xs:List AVal}{vs:Array (Nat×Value)} (h:cV P t len parts=some (n,xs)) (hv:cu w O α parts vs.toList) :
   ∃ (c:Array Value) (e:TypeId) (us:List Value),(Instr.buildSlice t len vs).run P w = .ok (.slice (some ⟨w.heap.size,0,none⟩) len len) (w.alloc (.cells c e))∧ax w O α n xs us∧c.toList=flat us∧xs.length=len∧n≠0∧bp P t=e:=by
 unfold cV at h
 split at h
 · rename_i e hu
   split at h
   · rename_i n' z hn hz
     split at h
     · rename_i hcond
       simp only[Bool.and_eq_true,beq_iff_eq,decide_eq_true_eq] at hcond
       obtain ⟨⟨⟨h1,h2⟩,h3⟩,h4,h5⟩:=hcond
       simp only[Option.some.injEq,Prod.mk.injEq] at h
       obtain ⟨rfl,rfl⟩:=h
       obtain ⟨zv,hz1,hz2⟩:=e7 (P:=P) (w:=w) (O:=O) (α:=α) hz
       have hfit:∀ p∈parts,p.2.cells.length=n'∧p.2.cells.all AVal.isCell=true∧n'≠0:=by
         intro p hp
         have:=List.all_eq_true.1 h3 p hp
         unfold fits at this
         rw[hn] at this
         split at this
         · rename_i n2 d e1 e2
           cases e1
           simp only[Bool.and_eq_true,beq_iff_eq,bne_iff_ne,ne_eq] at this
           exact ⟨this.1.1.1,this.1.2,this.2⟩
         · cases this
       obtain ⟨us,q1,cs,q2,q3⟩:=oe (n:=n') parts vs.toList 0 ((Array.range (len*n')).map (zv.cells[· % zv.cells.size]!)) h1 hv (fun p hp=>⟨(hfit p hp).1,(hfit p hp).2.1⟩) (by simp[h2])
       have hcs:cs.toList=flat us:=by
         rw[q3]
         simp only[Nat.zero_mul,List.take_zero,List.nil_append,Nat.zero_add]
         rw[List.drop_eq_nil_of_le (by simp[h2]),List.append_nil]
       refine ⟨cs,e,us,?_,q1,hcs,by simp[h2],h5,mg hu⟩
       unfold Instr.buildSlice
       rw[Sem.run_bind,run_underlying hu,Result.andThen_ok]
       simp only[Sem.run_bind,EM.run_sizeOf hn,Result.andThen_ok]
       rw[if_neg (by omega)]
       by_cases h0:len*n'=0
       · have hl0 : len = 0 := by
           rcases Nat.mul_eq_zero.1 h0 with h | h
           · exact h
           · exact absurd h h5
         subst hl0
         have hp0:parts=[]:=List.eq_nil_of_length_eq_zero h2
         subst hp0
         simp only[cu] at hv
         simp only[Nat.zero_mul,if_true,Sem.run_pure,Result.andThen_ok]
         simp only[List.map_nil,ax] at q1
         subst q1
         have:cs = #[]:=by apply Array.ext'; rw[hcs]; rfl
         subst this
         have hr0:Array.range 0 = #[]:=rfl
         simp[hv,Instr.fill,newRow,hr0]
       · rw[if_neg h0]
         simp only[Sem.run_bind,hz1,Result.andThen_ok,Sem.run_pure,q2,newRow,run_newObj,World.alloc_eq]
     · cases h
   · cases h
 · cases h
theorem pi (hi:Inv w O α st):¬ O w.heap.size∧¬ fu α w.heap.size:=by
 refine ⟨fun h=>by have:=hi.bound _ h; omega,fun ⟨r,ri,h1,h2⟩ => ?_⟩
 have:=(hi.fresh r ri h1).2
 omega
theorem ko (hi:Inv w O α st) {t:TypeId}{len n:Nat}{parts:List (Nat×AVal)}{xs:List AVal}{vs:Array (Nat×Value)} (h:cV P t len parts=some (n,xs)) (hv:cu w O α parts vs.toList) :
   Done P (Instr.buildSlice t len vs) w O α (bf st (bp P t) n xs).1 (bf st (bp P t) n xs).2:=by
 obtain ⟨c,e,us,h1,h2,h3,h4,h5,h6⟩:=ge hi h hv
 subst h6
 have hfl:=aM h2
 obtain ⟨g1,g2⟩:=gH hi (c:=c) (el:=bp P t) (fz:=(0,0)) (cap:=xs.length) h5 h2 (by rw[← Array.length_toList,h3,hfl]) (Nat.le_refl _) (fun j hj=>by rw[← Array.getElem?_toList,h3]) (by simp)
 refine ⟨_,_,_,h1,g1,g2,?_⟩
 simp only[bf]
 rw[hi.len,h4]
 rw[h4] at g1
 exact jF (Nat.le_refl _)
theorem oq:∀ s:List UInt8,ax w O α 1 (s.map fun b=>AVal.int .u8 b.toNat) (s.map fun b=>Value.int .u8 b.toNat)∧flat (s.map fun b=>Value.int .u8 b.toNat)=s.map fun b=>Value.int .u8 b.toNat
 | []=>by simp[ax,flat]
 | b::s=>by
   obtain ⟨h1,h2⟩:=oq s
   simp only[List.map_cons,ax]
   refine ⟨⟨_,_,rfl,⟨by simp[Rep],by simp[AVal.cells],by simp[Value.cells],by simp[Value.cells,Value.oneCell']⟩,h1⟩,?_⟩
   have e:∀ (v:Value) l,flat (v::l)=v.cells.toList++flat l:=by intro v l; simp[flat]
   rw[e,h2]; rfl
theorem p8 (w:World) (e:TypeId) (s:ByteArray):Lib.bytesWorld w e s=w.drew.alloc (.cells (Lib.bytesCells w e s) e ((Lib.bytesCells w e s).size,(Lib.bytesCells w e s).size+1)):=by
 have:∀ (a b:World),a.heap=b.heap→a.tape=b.tape→a.drawn=b.drawn→a.os=b.os→a.output=b.output→a=b:=by
   intro a b; cases a; cases b; simp_all
 refine this _ _ ?_ rfl rfl rfl rfl
 apply Array.ext_getElem?
 intro j
 by_cases hj:j<w.heap.size
 · rw[Lib.bytesWorld_at_old w e s j hj]
   exact ((Quiet.alloc w.drew _).old j hj).symm
 · by_cases hj':j=w.heap.size
   · subst hj'
     rw[Lib.bytesWorld_at_new]
     exact (eF (w:=w.drew) _ _ _).symm
   · rw[Array.getElem?_eq_none (by rw[Lib.bytesWorld_size]; omega),Array.getElem?_eq_none (by simp; omega)]
theorem kh (hi:Inv w O α st) {x:AVal}{xs:List AVal}{u:Value} (h:bw st 1 x=some xs) (hx:Rep w O α x u) (hs:∀ s,x ≠ .str s) :
   (∃ len cap,u = .slice none len cap∧xs=[])∨∃ a len cap vs,u = .slice (some a) len cap∧ax w O α 1 xs vs∧(loadCells a len).run P w = .ok (flat vs).toArray w:=by
 obtain ⟨h1,vs,h2,h3⟩:=jZ (P:=P) hi h hx (by omega)
 have h3:=h3 w (fun _ _ _ h=>h)
 cases x<;>simp only[bw] at h<;>first
   | (cases h; done)
   | exact absurd rfl (hs _)
   | skip
 all_goals simp only[Rep] at hx
 · subst hx
   exact .inl ⟨0,0,rfl,by cases h; rfl⟩
 · obtain ⟨a,cap,rfl,_⟩:=hx
   simp only[Builtin.lenOf,Sem.run_pure,Result.ok.injEq,and_true] at h1
   cases a with
   | none =>
     refine .inl ⟨_,_,rfl,?_⟩
     simp only[Builtin.firstCells,Sem.run_pure,Result.ok.injEq,and_true] at h3
     have hfl:=aM h2
     have:(flat vs).length=0:=by have:=congrArg Array.size h3; simpa using this.symm
     exact List.eq_nil_of_length_eq_zero (by omega)
   | some a=>exact .inr ⟨a,_,_,vs,rfl,h2,by simp only[Builtin.firstCells,Nat.mul_one,← h1] at h3; exact h3⟩
 · obtain ⟨_,a,cap,rfl,_⟩:=hx
   simp only[Builtin.lenOf,Sem.run_pure,Result.ok.injEq,and_true] at h1
   cases a with
   | none =>
     refine .inl ⟨_,_,rfl,?_⟩
     simp only[Builtin.firstCells,Sem.run_pure,Result.ok.injEq,and_true] at h3
     have hfl:=aM h2
     have:(flat vs).length=0:=by have:=congrArg Array.size h3; simpa using this.symm
     exact List.eq_nil_of_length_eq_zero (by omega)
   | some a=>exact .inr ⟨a,_,_,vs,rfl,h2,by simp only[Builtin.firstCells,Nat.mul_one,← h1] at h3; exact h3⟩
theorem jV:∀ {xs:List AVal}{vs:List Value}{s:List UInt8},ck xs=some s→ax w O α 1 xs vs→∃ ns:List Int,flat vs=ns.map (Value.int .u8)∧s=ns.map fun n=>UInt8.ofNat n.toNat
 | [],vs,s,h,hv=>by
   simp only[ax] at hv; subst hv
   simp only[ck,Option.some.injEq] at h; subst h
   exact ⟨[],by simp[flat],rfl⟩
 | x::xs,vs,s,h,hv=>by
   simp only[ax] at hv
   obtain ⟨v,us,rfl,⟨h1,_⟩,h2⟩:=hv
   unfold ck at h
   split at h
   · rename_i hx; cases hx
   · rename_i n l hx
     cases hx
     simp only[Option.map_eq_some_iff] at h
     obtain ⟨s',hs',rfl⟩:=h
     obtain ⟨ns,e1,e2⟩:=jV hs' h2
     simp only[Rep] at h1
     subst h1
     refine ⟨n::ns,?_,by simp[e2]⟩
     have e:∀ (v:Value) l,flat (v::l)=v.cells.toList++flat l:=by intro v l; simp[flat]
     rw[e,e1]; rfl
   · cases h
theorem xQ (ns:List Int):∀ (b:ByteArray),(ns.foldl (fun r n=>r.push (UInt8.ofNat n.toNat)) b).data.toList=b.data.toList++ns.map fun n=>UInt8.ofNat n.toNat:=by
 induction ns with
 | nil=>intro b; simp
 | cons n ns ih=>intro b; simp only[List.foldl_cons,ih]; simp[ByteArray.push]
theorem ow:∀ {xs:List AVal}{vs:List Value}{s:List UInt8},cN xs=some s→ax w O α 1 xs vs→∃ ns:List Int,flat vs=ns.map (Value.int .i32)∧s=ns.flatMap fun n=>(Utf8.encode n).data.toList
 | [],vs,s,h,hv=>by
   simp only[ax] at hv; subst hv
   simp only[cN,Option.some.injEq] at h; subst h
   exact ⟨[],by simp[flat],rfl⟩
 | x::xs,vs,s,h,hv=>by
   simp only[ax] at hv
   obtain ⟨v,us,rfl,⟨h1,_⟩,h2⟩:=hv
   unfold cN at h
   split at h
   · rename_i hx; cases hx
   · rename_i n l hx
     cases hx
     simp only[Option.map_eq_some_iff] at h
     obtain ⟨s',hs',rfl⟩:=h
     obtain ⟨ns,e1,e2⟩:=ow hs' h2
     simp only[Rep] at h1
     subst h1
     refine ⟨n::ns,?_,by simp[e2]⟩
     have e:∀ (v:Value) l,flat (v::l)=v.cells.toList++flat l:=by intro v l; simp[flat]
     rw[e,e1]; rfl
   · cases h
theorem run_forIn_runes {f:Value→ByteArray→Sem (ForInStep ByteArray)}
   (hf:∀ (n:Int) (r:ByteArray),(f (.int .i32 n) r).run P w = .ok (.yield (r++Utf8.encode n)) w) :
   ∀ (ns:List Int) (s:ByteArray),(forIn (ns.map (Value.int .i32)) s f).run P w = .ok (ns.foldl (fun r n=>r++Utf8.encode n) s) w:=by
 intro ns
 induction ns with
 | nil=>intro s; simp[Sem.run_pure]
 | cons n ns ih =>
   intro s
   simp only[List.map_cons,List.forIn_cons,Sem.run_bind,hf,Result.andThen,List.foldl_cons]
   exact ih _
theorem run_runesToString {a:Addr}{len cap:Nat}{ns:List Int} (h:(loadCells a len).run P w = .ok (ns.map (Value.int .i32)).toArray w) :
   (Conv.runesToString (.slice (some a) len cap)).run P w = .ok (.string (ns.foldl (fun r n=>r++Utf8.encode n) ByteArray.empty)) w:=by
 unfold Conv.runesToString
 simp only[Sem.run_bind,h,Result.andThen,List.forIn_toArray]
 rw[run_forIn_runes (by intro n r; simp[Sem.run_pure])]
 simp[Sem.run_pure]
theorem abV (ns:List Int):∀ (b:ByteArray),(ns.foldl (fun r n=>r++Utf8.encode n) b).data.toList=b.data.toList++ns.flatMap fun n=>(Utf8.encode n).data.toList:=by
 induction ns with
 | nil=>intro b; simp
 | cons n ns ih=>intro b; simp only[List.foldl_cons,ih]; simp[ByteArray.data_append]
theorem vu:∀ (l:List Value),(∀ v∈l,∃ n,v = .int .i32 n)→ax w O α 1 (l.map d7) l∧flat l=l
 | [],_=>by simp[ax,flat]
 | v::l,h=>by
   obtain ⟨h1,h2⟩:=vu l (fun u hu=>h u (List.mem_cons_of_mem _ hu))
   obtain ⟨n,rfl⟩:=h v List.mem_cons_self
   refine ⟨?_,?_⟩
   · simp only[List.map_cons,ax]
     exact ⟨_,_,rfl,⟨gp _,by simp[d7,AVal.cells],by simp[Value.cells],by simp[Value.cells,Value.oneCell']⟩,h1⟩
   · have e:∀ (v:Value) l,flat (v::l)=v.cells.toList++flat l:=by intro v l; simp[flat]
     rw[e,h2]; rfl
theorem gT (s:ByteArray):∀ (b i:Nat) (acc:Array Value),(∀ v∈acc,∃ n,v=Value.int .i32 n)→∀ v∈Conv.runesFrom s b i acc,∃ n,v=Value.int .i32 n
 | 0,i,acc,h=>by simpa [Conv.runesFrom] using h
 | b+1,i,acc,h=>by
   simp only[Conv.runesFrom]
   split
   · refine gT s b _ _ (fun v hv => ?_)
     rw[Array.mem_push] at hv
     rcases hv with hv | rfl
     · exact h v hv
     · exact ⟨_,rfl⟩
   · exact h
theorem nQ {e n:Nat} (hc:P.cellsOf e=n) (hn:n≠0) (count i k:Nat) (h:i+k≤count):liesAt P P.depth e count (i*n) e k=true:=by
 have e1:i*n/n=i:=Nat.mul_div_cancel _ (by omega)
 have hs:∀ d,sameLayout P (d+1) e e=true:=by intro d; unfold sameLayout; simp
 have hr:∀ (f:TypeId→Bool) (d:Nat),f e=true→Go.rowAt P f (d+1) e count (i*n) k=true:=by
   intro f d hf
   unfold Go.rowAt
   simp[hc,hn,h,e1,hf]
 have hd:P.depth=(2*(P.types.size+Made.depth)+1)+1:=rfl
 have hl:∀ d,sameLayout P P.depth e e=true→liesAt P (d+1) e count (i*n) e k=true:=by
   intro d h0
   unfold liesAt
   rw[Bool.or_eq_true]
   left
   have:=hr (fun x=>sameLayout P P.depth x e) (2*(P.types.size+Made.depth)+1) h0
   rw[← hd] at this
   exact this
 exact hl _ (hs _)
theorem qz {t n:Nat} (h:szOf P t=some n):∃ j,P.info? t=some j∧j.size=n:=by
 simpa [szOf,Option.map_eq_some_iff] using h
theorem nl {t n:Nat} (h:szOf P t=some n):P.cellsOf t=n:=by
 show (szOf P t).getD 0=n
 rw[h]; rfl
theorem xW (hi:Inv w O α st) {src dst:TypeId}{x v:AVal}{st':aq}{u:Value} (h:gy P src dst x st=some (v,st')) (hx:Rep w O α x u):Done P (convert src dst u) w O α v st':=by
 unfold gy at h
 split at h
 · rename_i e hs hd
   split at h
   · rename_i s he
     simp only[Rep] at hx; subst hx
     simp only[bf,Option.some.injEq,Prod.mk.injEq] at h
     obtain ⟨rfl,rfl⟩:=h
     have hr:=Lib.run_convert_string_bytes (P:=P) w src dst e ⟨s.toArray⟩ hs hd he
     have hq:=Quiet.drew w
     obtain ⟨b1,b2⟩:=oq (w:=w.drew) (O:=O) (α:=α) s
     have hsz:(⟨s.toArray⟩:ByteArray).size=s.length:=by simp[ByteArray.size]
     have hge:=grownCap_ge w s.length 0 e
     have hcs:(Lib.bytesCells w e ⟨s.toArray⟩).size=grownCap w s.length 0 e*1:=by
       simp only[Lib.bytesCells,hsz,Array.size_append,Array.size_map,List.size_toArray,Array.size_replicate]; omega
     rw[p8,hsz] at hr
     obtain ⟨g1,g2⟩:=gH (w:=w.drew) (hq.inv hi) (c:=Lib.bytesCells w e ⟨s.toArray⟩) (el:=e) (fz:=((Lib.bytesCells w e ⟨s.toArray⟩).size,(Lib.bytesCells w e ⟨s.toArray⟩).size+1)) (cap:=grownCap w s.length 0 e)
       (by omega) b1 hcs (by simpa using hge) (fun j hj=>by
         rw[b2] at hj ⊢
         simp only[Lib.bytesCells]
         rw[Array.getElem?_append_left (by simpa using hj)]
         simp) (fun o ho=>by omega)
     rw[List.length_map] at g1 g2
     exact ⟨_,_,_,hr,(hq.ext α).trans g1,g2,by rw[hi.len,List.length_map]; exact jF hge⟩
   · rename_i s he
     simp only[Rep] at hx; subst hx
     simp only[bf,Option.some.injEq,Prod.mk.injEq] at h
     obtain ⟨rfl,rfl⟩:=h
     have hq:=Quiet.drew w
     have hints:=gT ⟨s.toArray⟩ s.length 0 #[] (by simp)
     obtain ⟨b1,b2⟩:=vu (w:=w.drew) (O:=O) (α:=α) (Conv.runesFrom ⟨s.toArray⟩ s.length 0 #[]).toList (fun v hv=>hints v (by simpa using hv))
     have hsz:(⟨s.toArray⟩:ByteArray).size=s.length:=by simp[ByteArray.size]
     have hge:=grownCap_ge w (Conv.runesFrom ⟨s.toArray⟩ s.length 0 #[]).size 0 e
     have hr : (convert src dst (.string ⟨s.toArray⟩)).run P w = .ok (.slice (some ⟨w.heap.size, 0, none⟩) (Conv.runesFrom ⟨s.toArray⟩ s.length 0 #[]).size (grownCap w (Conv.runesFrom ⟨s.toArray⟩ s.length 0 #[]).size 0 e))
         (w.drew.alloc (.cells (Conv.runesFrom ⟨s.toArray⟩ s.length 0 #[]++Array.replicate (grownCap w (Conv.runesFrom ⟨s.toArray⟩ s.length 0 #[]).size 0 e-(Conv.runesFrom ⟨s.toArray⟩ s.length 0 #[]).size) (.int .i32 0)) e)):=by
       simp[convert,run_underlying hs,run_underlying hd,run_underlying he,Conv.stringToRunes,newRow,Question.forced,grownCap,hsz]
     have hrl:(jw s).length=(Conv.runesFrom ⟨s.toArray⟩ s.length 0 #[]).size:=by simp[jw]
     obtain ⟨g1,g2⟩:=gH (w:=w.drew) (hq.inv hi) (c:=Conv.runesFrom ⟨s.toArray⟩ s.length 0 #[]++Array.replicate (grownCap w (Conv.runesFrom ⟨s.toArray⟩ s.length 0 #[]).size 0 e-(Conv.runesFrom ⟨s.toArray⟩ s.length 0 #[]).size) (.int .i32 0)) (el:=e) (fz:=(0,0))
       (cap:=grownCap w (Conv.runesFrom ⟨s.toArray⟩ s.length 0 #[]).size 0 e)
       (by omega) b1 (by simp only[Array.size_append,Array.size_replicate]; omega) (by simpa using hge) (fun j hj=>by
         rw[b2] at hj ⊢
         rw[Array.getElem?_append_left (by simpa using hj)]
         simp) (by simp)
     rw[show List.map d7 (Conv.runesFrom ⟨s.toArray⟩ s.length 0 #[]).toList=jw s from rfl,hrl] at g1 g2
     exact ⟨_,_,_,hr,(hq.ext α).trans g1,g2,by rw[hi.len,hrl]; exact jF hge⟩
   · cases h
 · rename_i e hs hd
   split at h
   · rename_i he
     simp only[Option.bind_eq_some_iff,Option.map_eq_some_iff,Prod.mk.injEq] at h
     obtain ⟨xs,hxs,s,hs',rfl,rfl⟩:=h
     by_cases hstr:∃ s,x = .str s
     · obtain ⟨s0,rfl⟩:=hstr
       simp only[Rep] at hx; subst hx
       refine ⟨.string ⟨s0.toArray⟩,w,α,?_,Ext.refl w α,hi,?_⟩
       · simp[convert,run_underlying hs,run_underlying hd]
       · simp only[bw,if_true,Option.some.injEq] at hxs
         subst hxs
         have:∀ (l:List UInt8) (s:List UInt8),ck (l.map fun b=>AVal.int .u8 b.toNat)=some s→s=l:=by
           intro l
           induction l with
           | nil=>intro s h; simp[ck] at h; exact h
           | cons b l ih =>
             intro s h
             simp only[List.map_cons,ck,Option.map_eq_some_iff] at h
             obtain ⟨s',h1,rfl⟩:=h
             rw[ih s' h1]
             simp
         rw[this _ _ hs']
         simp[Rep]
     · rcases kh (P:=P) hi hxs hx (fun s e=>hstr ⟨s,e⟩) with ⟨len,cap,rfl,rfl⟩ | ⟨a,len,cap,vs,rfl,hv,hl⟩
       · simp only[ck,Option.some.injEq] at hs'
         subst hs'
         refine ⟨.string .empty,w,α,?_,Ext.refl w α,hi,by simp only[Rep]; rfl⟩
         rw[run_convert_bytes_string w src dst e _ _ _ hs he hd]
         simp[Conv.bytesToString]
       · obtain ⟨ns,e1,rfl⟩:=jV hs' hv
         rw[e1] at hl
         refine ⟨.string (ns.foldl (fun r n=>r.push (UInt8.ofNat n.toNat)) ByteArray.empty),w,α,?_,Ext.refl w α,hi,?_⟩
         · rw[run_convert_bytes_string w src dst e _ _ _ hs he hd]
           exact run_bytesToString w a len cap ns hl
         · simp only[Rep]
           congr 1
           apply ByteArray.ext
           apply Array.ext'
           rw[xQ]
           rfl
   · rename_i he
     simp only[Option.bind_eq_some_iff,Option.map_eq_some_iff,Prod.mk.injEq] at h
     obtain ⟨xs,hxs,s,hs',rfl,rfl⟩:=h
     by_cases hstr:∃ s,x = .str s
     · obtain ⟨s0,rfl⟩:=hstr
       simp only[bw,if_true,Option.some.injEq] at hxs
       subst hxs
       cases s0 with
       | nil =>
         simp only[List.map_nil,cN,Option.some.injEq] at hs'
         subst hs'
         simp only[Rep] at hx; subst hx
         exact ⟨.string ⟨#[]⟩,w,α,by simp[convert,run_underlying hs,run_underlying hd],Ext.refl w α,hi,by simp[Rep]⟩
       | cons b l=>simp[cN] at hs'
     · rcases kh (P:=P) hi hxs hx (fun s e=>hstr ⟨s,e⟩) with ⟨len,cap,rfl,rfl⟩ | ⟨a,len,cap,vs,rfl,hv,hl⟩
       · simp only[cN,Option.some.injEq] at hs'
         subst hs'
         refine ⟨.string .empty,w,α,?_,Ext.refl w α,hi,by simp only[Rep]; rfl⟩
         simp[convert,run_underlying hs,run_underlying hd,run_underlying he,Conv.runesToString]
       · obtain ⟨ns,e1,rfl⟩:=ow hs' hv
         rw[e1] at hl
         refine ⟨.string (ns.foldl (fun r n=>r++Utf8.encode n) ByteArray.empty),w,α,?_,Ext.refl w α,hi,?_⟩
         · have:=run_runesToString (P:=P) (cap:=cap) hl
           simp only[convert,Sem.run_bind,run_underlying hs,run_underlying hd,run_underlying he,Result.andThen_ok]
           exact this
         · simp only[Rep]
           congr 1
           apply ByteArray.ext
           apply Array.ext'
           rw[abV]
           rfl
   · cases h
 · rename_i t hs hd
   split at h
   · rename_i r top i off
     split at h
     · rename_i n xs v' hc
       split at h
       · rename_i m hm
         cases hle:Nat.ble (off+1) n with
         | false=>rw[hle] at h; cases h
         | true =>
           rw[hle] at h
           simp only[cond_true,Option.some.injEq,Prod.mk.injEq] at h
           obtain ⟨rfl,rfl⟩:=h
           obtain ⟨h1,h2⟩:=cC hi hc
           obtain ⟨ri,g1,g2,g3,g4,g5,g6,c,el,fz,g7,g8,g9,g10,g11⟩:=hi.alive h1
           have hx':=hx
           simp only[Rep] at hx
           obtain ⟨_,b,o,rfl,hk⟩:=hx
           obtain ⟨rfl,rfl⟩:=(hk ri g1).2 g4
           obtain ⟨j,hj,hjs⟩:=qz hm
           have hilt:i<xs.length:=by
             rcases Nat.lt_or_ge i xs.length with h | h
             · exact h
             · rw[List.getElem?_eq_none h] at h2; cases h2
           have hsh:w.shape? ri.block=some (el,c.size):=by simp[World.shape?,g7]
           have hle':=Nat.le_of_ble_eq_true hle
           have hlt:i*ri.stride+off<c.size:=by
             rw[g8,g2]
             have:=Nat.mul_le_mul_right n (show i+1≤ri.cap by omega)
             rw[Nat.add_mul] at this; omega
           have hr:=Lib.run_to_unsafe (P:=P) w ⟨ri.block,i*ri.stride+off,none⟩ hs hd hj (by omega) hsh hlt
           exact ⟨_,w,α,hr,Ext.refl w α,hi,hx'⟩
       · cases h
     · cases h
   · cases h
 · rename_i u hs hd
   split at h
   · rename_i r top i
     split at h
     · rename_i n xs v' hc
       split at h
       · rename_i m hm
         cases hle:(Nat.beq m n&&Nat.beq (rowTy st r) u) with
         | false=>rw[hle] at h; cases h
         | true =>
           rw[hle] at h
           simp only[cond_true,Option.some.injEq,Prod.mk.injEq] at h
           obtain ⟨rfl,rfl⟩:=h
           obtain ⟨h1,h2⟩:=cC hi hc
           obtain ⟨ri,g1,g2,g3,g4,g5,g6,c,el,fz,g7,g8,g9,g10,g11⟩:=hi.alive h1
           have hx':=hx
           simp only[Rep] at hx
           obtain ⟨_,b,o,rfl,hk⟩:=hx
           obtain ⟨rfl,rfl⟩:=(hk ri g1).2 g4
           obtain ⟨j,hj,hjs⟩:=qz hm
           have hilt:i<xs.length:=by
             rcases Nat.lt_or_ge i xs.length with h | h
             · exact h
             · rw[List.getElem?_eq_none h] at h2; cases h2
           simp only[Bool.and_eq_true] at hle
           have e1:m=n:=Nat.eq_of_beq_eq_true hle.1
           have e2:rowTy st r=u:=Nat.eq_of_beq_eq_true hle.2
           have e3:el=u:=by simpa [rowTy,g11] using e2
           subst e1; subst e3
           have hsh:w.shape? ri.block=some (el,c.size):=by simp[World.shape?,g7]
           have hcn:=nl hm
           have hlies:liesAt P P.depth el (c.size/P.cellsOf el) (i*ri.stride+0) el 1=true:=by
             rw[hcn,g8,g2,Nat.add_zero,Nat.mul_div_cancel _ (by omega)]
             exact nQ hcn g3 _ _ _ (by omega)
           have hr:=Lib.run_from_unsafe (P:=P) w ⟨ri.block,i*ri.stride+0,none⟩ hs hd hj hsh hlies
           exact ⟨_,w,α,hr,Ext.refl w α,hi,hx'⟩
       · cases h
     · cases h
   · cases h
 · cases h
theorem oW (hi:Inv w O α st) {x v:AVal}{u:Value}{ts:Array TypeId}{ty:TypeId} (h:ed x st=some v) (hx:Rep w O α x u) :
   ∃ r,(Builtin.unsafeSliceData_ ts ty #[u]).run P w = .ok r w∧Rep w O α v r:=by
 unfold ed at h
 split at h
 · cases h
   simp only[Rep] at hx; subst hx
   exact ⟨_,Lib.run_unsafeSliceData_nil w ts ty 0 0,by simp[Rep]⟩
 · rename_i r n top off len
   split at h
   · rename_i xs hxs
     cases hl:Nat.beq len 0 with
     | true=>rw[hl] at h; cases h
     | false =>
       rw[hl] at h
       cases h
       have hl0:len≠0:=fun e=>by subst e; cases hl
       obtain ⟨ri,g1,g2,g3,g4,g5,g6,c,el,fz,g7,g8,g9,g10,g11⟩:=hi.alive hxs
       simp only[Rep] at hx
       obtain ⟨hr,a,cap,rfl,h1,h2,h3⟩:=hx
       obtain ⟨k1,k2,k3,k4⟩:=(h3 ri g1).2 g4
       have ha:=k4 (by omega)
       subst ha
       refine ⟨_,Lib.run_unsafeSliceData_row w ts ty _ len cap (by omega),?_⟩
       simp only[Rep]
       refine ⟨hr,_,_,rfl,fun ri' hr' => ?_⟩
       rw[g1] at hr'
       cases hr'
       exact ⟨by omega,fun _=>⟨rfl,by rw[g2]; omega⟩⟩
   · cases h
 · cases h
theorem gV:∀ (l:List Int) (a:Addr) (acc:ByteArray),(∀ j x,l[j]? = some x→w.cell? (a.add j)=some (.int .u8 x)) →
   (loadBytes a acc l.length).run P w = .ok ⟨acc.data++(l.map fun n=>UInt8.ofNat n.toNat).toArray⟩ w
 | [],a,acc,_=>by simp[loadBytes]
 | x::l,a,acc,h=>by
   have h0:w.cell? a=some (.int .u8 x):=by
     have:=h 0 x rfl
     simpa [Addr.add] using this
   have ih:=gV l (a.add 1) (acc.push x.toNat.toUInt8) (fun j y hy=>by
     have:=h (j+1) y (by simpa using hy)
     have e:(a.add 1).add j=a.add (j+1):=by
       unfold Addr.add
       by_cases hj:j=0
       · subst hj; simp
       · simp[hj]; omega
     rw[e]; exact this)
   simp only[List.length_cons,loadBytes,Sem.run_bind,run_load,h0,Result.andThen]
   rw[ih]
   congr 1
   apply ByteArray.ext
   simp[ByteArray.push]
theorem mV (hi:Inv w O α st) {tys:List TypeId}{p l v:AVal}{st':aq}{up ul:Value}{ty:TypeId} (h:dD P tys p l st=some (v,st')) (hp:Rep w O α p up) (hl:Rep w O α l ul) :
   Done P (Builtin.unsafeString_ tys.toArray ty #[up,ul]) w O α v st':=by
 unfold dD at h
 split at h
 · rename_i n a b
   split at h
   · rename_i hn
     subst hn
     cases h
     simp only[Rep] at hp hl
     subst hp; subst hl
     exact ⟨_,w,α,Lib.run_unsafeString_none w a b ty none,Ext.refl w α,hi,by simp only[Rep]; rfl⟩
   · cases h
 · rename_i r top n pt b
   split at h
   · rename_i xs e hxs hpt
     split at h
     · rename_i hsz
       split at h
       · rename_i hc
         obtain ⟨hn0,hnl,hn63,hrt⟩:=hc
         simp only[Option.map_eq_some_iff,Prod.mk.injEq] at h
         obtain ⟨s,hs,rfl,rfl⟩:=h
         obtain ⟨ri,g1,g2,g3,g4,g5,g6,c,el,fz,g7,g8,g9,g10,g11⟩:=hi.alive hxs
         have e3:el=e:=by simpa [rowTy,g11] using hrt
         subst e3
         simp only[Rep] at hp hl
         subst hl
         obtain ⟨hrl,b',o,rfl,hk⟩:=hp
         obtain ⟨rfl,ho⟩:=(hk ri g1).2 g4
         have ho:o=0:=by rw[ho,Nat.zero_mul]
         subst ho
         obtain ⟨vs,q1,q2⟩:=fh 0 (dG n.toNat g9)
         obtain ⟨ns,e1,rfl⟩:=jV hs q1
         have hlen:ns.length=n.toNat:=by
           have:=aM q1
           rw[e1] at this
           simp only[List.length_map,List.length_take,Nat.mul_one] at this
           omega
         have hcells:∀ j x,ns[j]? = some x→w.cell? ((⟨ri.block,0,none⟩:Addr).add j)=some (.int .u8 x):=by
           intro j x hj
           have hjl:j<ns.length:=by
             rcases Nat.lt_or_ge j ns.length with h | h
             · exact h
             · rw[List.getElem?_eq_none h] at hj; cases hj
           have:=q2 j (by rw[e1]; simpa using hjl)
           rw[e1] at this
           simp only[List.getElem?_map,hj,Option.map_some,Nat.zero_add] at this
           rw[← this]
           unfold Addr.add
           by_cases hj0:j=0
           · subst hj0; simp
           · simp[hj0]
         have hlb:=gV (P:=P) (w:=w) ns ⟨ri.block,0,none⟩ .empty hcells
         have hcn:=nl hsz
         have hlies:liesAt P P.depth el (c.size/P.cellsOf el) 0 el n.toNat=true:=by
           have:=nQ (P:=P) hcn (by omega) (c.size/P.cellsOf el) 0 n.toNat (by rw[hcn,g8,Nat.mul_one,Nat.div_one]; omega)
           simpa using this
         have hsh:w.shape? ri.block=some (el,c.size):=by simp[World.shape?,g7]
         have hmax:IntKind.i64.max=9223372036854775807:=rfl
         have hneg:¬ n<0:=by omega
         have hgt:¬ (9223372036854775807<n):=by omega
         have hnz:¬ n=0:=by omega
         rw[hlen] at hlb
         have hrun:(Builtin.unsafeString_ [pt,b].toArray ty #[.pointer (some ⟨ri.block,0,none⟩),.int .i64 n]).run P w = .ok (.string ⟨(ns.map fun n=>UInt8.ofNat n.toNat).toArray⟩) (w.freeze ⟨ri.block,0,none⟩ n.toNat):=by
           delta Builtin.unsafeString_ Builtin.unsafeString_.match_3 Builtin.unsafeString_._sparseCasesOn_3 Array.getLit; dsimp only
           simp[asInt,asIntOf,hmax,hneg,hgt,hnz,variablesAt,hsh,elemOf,run_underlying hpt,hlies,hlb]
         refine ⟨_,_,α.set r none,hrun,?_⟩
         have hrest:=hi.drop (w':=w.freeze ⟨ri.block,0,none⟩ n.toNat) g1 (by unfold World.freeze; split<;>rfl) (by unfold World.freeze; split<;>rfl) (by unfold World.freeze; split<;>rfl)
           (by unfold World.freeze; split<;>simp) (by unfold World.freeze; split<;>exact Nat.le_refl _) (fun k _ hk=>by
             unfold World.freeze; split
             · rfl
             · simp only[Array.getElem?_modify]; rw[if_neg (fun e=>hk e.symm)])
         exact ⟨hrest.1,hrest.2,by simp only[Rep]⟩
       · cases h
     · cases h
   · cases h
 · cases h
theorem xV (hi:Inv w O α st) {t:TypeId}{x v:AVal}{st':aq}{u:Value} (h:ox P t x st=some (v,st')) (hx:Rep w O α x u):Done P (Instr.range t u) w O α v st':=by
 unfold ox at h
 split at h
 · rename_i hu
   split at h
   · rename_i s
     simp only[Rep] at hx; subst hx
     simp only[Option.some.injEq,Prod.mk.injEq] at h
     obtain ⟨rfl,rfl⟩:=h
     have hr:=run_range_string (P:=P) w t ⟨s.toArray⟩ hu
     obtain ⟨g1,g2⟩:=hi.push ⟨w.heap.size,0,0,0⟩ (.iter s 0) (.stringIter ⟨s.toArray⟩ 0) rfl (by
       simp only[cX]
       exact ⟨⟨w.heap.size,0,0,0⟩,by simp,rfl,rfl,World.iter_heap w ⟨s.toArray⟩ 0⟩)
     exact ⟨_,_,_,hr,g1,g2,by rw[hi.len]; exact aa6⟩
   · cases h
 · cases h
theorem ab9 (hi:Inv w O α st) {it v:AVal}{b:Bool}{ty:TypeId}{st':aq}{u:Value} (h:uw it b st=some (v,st')) (hx:Rep w O α it u):Done P (Instr.next u b ty) w O α v st':=by
 unfold uw at h
 split at h
 · rename_i r
   split at h
   · rename_i s pos hr
     cases b with
     | false=>simp at h
     | true =>
       simp only[cond_true] at h
       obtain ⟨ri,g1,g2,g3,g4⟩:=hi.reg r _ hr
       simp only[Rep] at hx
       obtain ⟨hrl,b,o,rfl,hx⟩:=hx
       obtain ⟨rfl,rfl⟩:=(hx ri g1).2 g2
       have hsz:(⟨s.toArray⟩:ByteArray).size=s.length:=by simp[ByteArray.size]
       have hlt:ri.block<w.heap.size:=(hi.fresh r ri g1).2
       simp only[g3,Nat.mul_zero,Nat.add_zero,Nat.zero_mul] at hx ⊢
       split at h
       · rename_i hp
         simp only[Option.some.injEq,Prod.mk.injEq] at h
         obtain ⟨rfl,rfl⟩:=h
         obtain ⟨t1,t2⟩:=hi.turn (w':={ w with heap:=w.heap.setIfInBounds ri.block (.stringIter ⟨s.toArray⟩ (pos+(Utf8.decode ⟨s.toArray⟩ pos).2)) }) (ri':=ri) (g:=.iter s (pos+(Utf8.decode ⟨s.toArray⟩ pos).2)) g1 rfl rfl rfl
           (by simp) (Nat.le_refl _) (fun k _ hk=>by simp[Array.getElem?_setIfInBounds,Ne.symm hk]) (.inl rfl) (Nat.le_refl _) (fun _=>rfl) (by
             intro hpr
             simp only[cX]
             exact ⟨ri,List.getElem?_set_self hrl,g2,g3,by simp[Array.getElem?_setIfInBounds,hlt]⟩)
         refine ⟨.tuple #[.bool true,.int .i64 pos,.int .i32 (Utf8.decode ⟨s.toArray⟩ pos).1],_,_,?_,t1,t2,?_⟩
         · simp only[Instr.next,getObj,setObj,Sem.run_bind,Sem.run,g4,Result.andThen,hsz,hp,if_true]
           simp only[goInt,Sem.run,g4,Sem.run_pure]
         · simp only[Rep]
           exact ⟨[_,_,_],rfl,by simp only[RepL,Rep]; exact ⟨_,_,rfl,rfl,_,_,rfl,rfl,_,_,rfl,rfl,rfl⟩⟩
       · rename_i hp
         simp only[Option.some.injEq,Prod.mk.injEq] at h
         obtain ⟨rfl,rfl⟩:=h
         refine ⟨.tuple #[.bool false],w,α,?_,Ext.refl w α,hi,?_⟩
         · simp[Instr.next,getObj,Sem.run,g4,hsz,hp]
         · simp only[Rep]
           exact ⟨[_],rfl,by simp only[RepL,Rep]; exact ⟨_,_,rfl,rfl,rfl⟩⟩
   · cases h
 · cases h
end
end Go.EM
namespace Go.EM
variable [Drawn]
section
variable {P:Program}{w w':World}{O:Nat→Prop}{α α':AM}{st:aq}
theorem bF {x:AVal}{v:Value} (hc:closed x=true) (hr:Rep w O α x v):Rep w O [] x v :=
 bj (c:=true) ⟨fun _ _ _ _ _ h=>h,fun b _ _ h1 _ _=>⟨h1,fun ⟨r,ri,h,_⟩=>by simp at h⟩,(fun h=>Bool.noConfusion h),(fun h=>Bool.noConfusion h)⟩ x v (fun _=>hc) hr
theorem uf {n b off:Nat}{xs:List AVal} (hc:aA xs=true) (hO:¬ O b) (h:bg w O α n b off xs):bg w O [] n b off xs:=by
 have gen:∀ (xs:List AVal) (off:Nat),aA xs=true→bg w O α n b off xs→bg w O [] n b off xs:=by
   intro xs
   induction xs with
   | nil=>intro off _ _; simp[bg]
   | cons x xs ih =>
     intro off hc h
     simp only[aA,Bool.and_eq_true] at hc
     simp only[bg] at h ⊢
     obtain ⟨⟨v,h1,h2,h3,h4,h5⟩,h6⟩:=h
     exact ⟨⟨v,bF hc.1 h1,h2,h3,h4,h5⟩,ih _ hc.2 h6⟩
 exact gen xs off hc h
theorem ug {b off:Nat}{xs:List AVal} (hc:aA xs=true) (h:bZ w O α b off xs):bZ w O [] b off xs:=by
 have gen:∀ (xs:List AVal) (off:Nat),aA xs=true→bZ w O α b off xs→bZ w O [] b off xs:=by
   intro xs
   induction xs with
   | nil=>intro off _ _; simp[bZ]
   | cons x xs ih =>
     intro off hc h
     simp only[aA,Bool.and_eq_true] at hc
     simp only[bZ] at h ⊢
     obtain ⟨⟨v,h1,h2⟩,h6⟩:=h
     exact ⟨⟨v,h1,bF hc.1 h2⟩,ih _ hc.2 h6⟩
 exact gen xs off hc h
theorem bB:∀ (n:Nat) (xs:List AVal),aA xs=true→aA (xs.drop n)=true
 | 0,xs,h=>by simpa using h
 | n+1,[],h=>by simp[aA]
 | n+1,x::xs,h=>by
   simp only[aA,Bool.and_eq_true] at h
   simpa using bB n xs h.2
theorem gu:∀ (n:Nat) (xs:List AVal),aA xs=true→aA (xs.take n)=true
 | 0,xs,h=>by simp[aA]
 | n+1,[],h=>by simp[aA]
 | n+1,x::xs,h=>by
   simp only[aA,Bool.and_eq_true] at h
   simp only[List.take_succ_cons,aA,Bool.and_eq_true]
   exact ⟨h.1,gu n xs h.2⟩
mutual
theorem ie (hi:Inv w O α st):∀ (x y:AVal) (v:Value),cj st x=some y→Rep w O α x v→Rep w O [] y v∧closed y=true
 | .own r n top off len,y,v,h,hx=>by
   simp only[cj,pa] at h
   split at h
   · rename_i xs hxs
     cases hc:(aA xs&&Nat.ble (off+len) xs.length) with
     | false=>rw[hc] at h; cases h
     | true =>
       rw[hc] at h
       simp only[cond_true] at h
       simp only[Bool.and_eq_true] at hc
       obtain ⟨hc1,hc2⟩:=hc
       have hle:=Nat.le_of_ble_eq_true hc2
       obtain ⟨ri,g1,g2,g3,g4,g5,g6,c,el,fz,g7,g8,g9,g10,_⟩:=hi.alive hxs
       simp only[Rep] at hx
       obtain ⟨_,a,cap,rfl,h1,h2,h3⟩:=hx
       obtain ⟨k1,k2,k3,k4⟩:=(h3 ri g1).2 g4
       cases hb:Nat.beq len 0 with
       | true =>
         have:=Nat.eq_of_beq_eq_true hb
         subst this
         rw[hb] at h
         cases h
         refine ⟨?_,by simp[closed,aA]⟩
         simp only[Rep]
         exact ⟨a,cap,rfl,by simp,fun h=>Bool.noConfusion h,.inl trivial⟩
       | false =>
         have hl0:len≠0:=fun e=>by subst e; cases hb
         rw[hb] at h
         cases h
         have hO:=(hi.fresh r ri g1).1
         have ha:=k4 (by omega)
         have hlen:((xs.drop off).take len).length=len:=by simp; omega
         refine ⟨?_,by simp only[closed]; exact gu _ _ (bB _ _ hc1)⟩
         simp only[Rep]
         refine ⟨a,cap,by rw[hlen],by omega,fun h=>Bool.noConfusion h,.inr ⟨g3,ri.block,off*n,ha,hO,fun ⟨r',ri',hh,_⟩=>by simp at hh,?_⟩⟩
         refine uf (α:=α) (gu _ _ (bB _ _ hc1)) hO ?_
         have:=dG len (dH off g9)
         rw[Nat.zero_add] at this
         exact this
   · cases h
 | .ptr r top i off,y,v,h,hx=>by
   simp only[cj] at h
   split at h
   · rename_i n xs x hc
     cases hcl:aA x.cells with
     | false=>rw[hcl] at h; cases h
     | true =>
       rw[hcl] at h
       cases h
       obtain ⟨h1,h2⟩:=cC hi hc
       obtain ⟨ri,g1,g2,g3,g4,g5,g6,c,el,fz,g7,g8,g9,g10,_⟩:=hi.alive h1
       simp only[Rep] at hx
       obtain ⟨_,b,o,rfl,hx⟩:=hx
       obtain ⟨rfl,rfl⟩:=(hx ri g1).2 g4
       have hO:=(hi.fresh r ri g1).1
       refine ⟨?_,by simp only[closed]; exact bB _ _ hcl⟩
       simp only[Rep]
       refine ⟨_,_,rfl,.inr ⟨hO,fun ⟨r',ri',hh,_⟩=>by simp at hh,?_⟩⟩
       obtain ⟨v',k1,k2,k3,k4,_⟩:=gP g9 h2
       have hm:bZ w O α ri.block (i*ri.stride) x.cells:=jk _ _ (fun j d hd=>by
         obtain ⟨u,q1,q2⟩:=jc k1 k2 k3 hd
         have hlt:j<n:=by
           rcases Nat.lt_or_ge j n with h | h
           · exact h
           · rw[List.getElem?_eq_none (by omega)] at hd; cases hd
         refine ⟨u,?_,q2⟩
         have:=k4 j hlt
         rw[q1,Nat.zero_add] at this
         rw[g2]
         exact this)
       exact ug (bB _ _ hcl) (eI off hm)
   · cases h
 | .nil,y,v,h,hx=>by
   simp only[cj,Option.some.injEq] at h
   subst h
   simp only[Rep] at hx
   obtain ⟨a,rfl⟩:=hx
   refine ⟨?_,by simp[closed,aA]⟩
   simp only[Rep]
   exact ⟨none,0,rfl,by simp,fun h=>Bool.noConfusion h,.inl trivial⟩
 | .tree full n xs,y,v,h,hx=>by
   simp only[cj] at h
   cases hc:aA xs with
   | false=>rw[hc] at h; cases h
   | true =>
     rw[hc] at h
     simp only[cond_true] at h
     have hcl:=bF (x:=.tree full n xs) (by simp only[closed]; exact hc) hx
     simp only[Rep] at hcl
     obtain ⟨a,cap,rfl,h1,h2,h3⟩:=hcl
     cases xs with
     | nil =>
       cases h
       refine ⟨?_,by simp[closed,aA]⟩
       simp only[Rep]
       exact ⟨a,cap,rfl,by simp,fun h=>Bool.noConfusion h,.inl trivial⟩
     | cons x xs =>
       cases h
       refine ⟨?_,by simp only[closed]; exact hc⟩
       simp only[Rep]
       exact ⟨a,cap,rfl,h1,fun h=>Bool.noConfusion h,h3⟩
 | .agg cs,y,v,h,hx=>by
   simp only[cj,Option.map_eq_some_iff] at h
   obtain ⟨ys,hy,rfl⟩:=h
   simp only[Rep] at hx
   obtain ⟨l,rfl,hl⟩:=hx
   obtain ⟨g1,g2⟩:=fD hi cs ys l hy hl
   exact ⟨by simp only[Rep]; exact ⟨l,rfl,g1⟩,by simp only[closed]; exact g2⟩
 | .tup cs,y,v,h,hx=>by
   simp only[cj,Option.map_eq_some_iff] at h
   obtain ⟨ys,hy,rfl⟩:=h
   simp only[Rep] at hx
   obtain ⟨l,rfl,hl⟩:=hx
   obtain ⟨g1,g2⟩:=fD hi cs ys l hy hl
   exact ⟨by simp only[Rep]; exact ⟨l,rfl,g1⟩,by simp only[closed]; exact g2⟩
 | .iface t x,y,v,h,hx=>by
   simp only[cj,Option.map_eq_some_iff] at h
   obtain ⟨z,hz,rfl⟩:=h
   simp only[Rep] at hx
   obtain ⟨u,rfl,hu⟩:=hx
   obtain ⟨g1,g2⟩:=ie hi x z u hz hu
   exact ⟨by simp only[Rep]; exact ⟨u,rfl,g1⟩,by simp only[closed]; exact g2⟩
 | .int k n,y,v,h,hx=>by
   simp only[cj,Option.some.injEq] at h; subst h; exact ⟨bF (by simp[closed]) hx,by simp[closed]⟩
 | .bool b,y,v,h,hx=>by
   simp only[cj,Option.some.injEq] at h; subst h; exact ⟨bF (by simp[closed]) hx,by simp[closed]⟩
 | .str s,y,v,h,hx=>by
   simp only[cj,Option.some.injEq] at h; subst h; exact ⟨bF (by simp[closed]) hx,by simp[closed]⟩
 | .rptr cs,y,v,h,hx=>by
   simp only[cj] at h
   cases hc:aA cs with
   | false=>rw[hc] at h; cases h
   | true=>rw[hc] at h; cases h; exact ⟨bF (by simp only[closed]; exact hc) hx,by simp only[closed]; exact hc⟩
 | .nilptr,y,v,h,hx=>by
   simp only[cj,Option.some.injEq] at h; subst h; exact ⟨bF (by simp[closed]) hx,by simp[closed]⟩
 | .func f a b,y,v,h,hx=>by
   simp only[cj] at h
   cases hc:(aA a&&aA b) with
   | false=>rw[hc] at h; cases h
   | true=>rw[hc] at h; cases h; exact ⟨bF (by simp only[closed]; exact hc) hx,by simp only[closed]; exact hc⟩
 | .nilfunc,y,v,h,hx=>by
   simp only[cj,Option.some.injEq] at h; subst h; exact ⟨bF (by simp[closed]) hx,by simp[closed]⟩
 | .niliface,y,v,h,hx=>by
   simp only[cj,Option.some.injEq] at h; subst h; exact ⟨bF (by simp[closed]) hx,by simp[closed]⟩
 | .map r,y,v,h,hx=>by simp[cj] at h
 | .nilmap,y,v,h,hx=>by
   simp only[cj,Option.some.injEq] at h; subst h; exact ⟨bF (by simp[closed]) hx,by simp[closed]⟩
 | .any,y,v,h,hx=>by
   simp only[cj,Option.some.injEq] at h; subst h; exact ⟨by simp[Rep],by simp[closed]⟩
theorem fD (hi:Inv w O α st):∀ (xs ys:List AVal) (l:List Value),cz st xs=some ys→RepL w O α xs l→RepL w O [] ys l∧aA ys=true
 | [],ys,l,h,hx=>by
   simp only[cz,Option.some.injEq] at h; subst h
   simp only[RepL] at hx ⊢
   exact ⟨hx,by simp[aA]⟩
 | x::xs,ys,l,h,hx=>by
   simp only[cz,Option.bind_eq_some_iff,Option.map_eq_some_iff] at h
   obtain ⟨y,hy,ys',hys,rfl⟩:=h
   simp only[RepL] at hx ⊢
   obtain ⟨v,vs,rfl,h1,h2⟩:=hx
   obtain ⟨g1,g2⟩:=ie hi x y v hy h1
   obtain ⟨k1,k2⟩:=fD hi xs ys' vs hys h2
   exact ⟨⟨v,vs,rfl,g1,k1⟩,by simp only[aA,Bool.and_eq_true]; exact ⟨g2,k2⟩⟩
end
mutual
theorem nw {w w':World}{O O':Nat→Prop}{α α':AM}:∀ (x:AVal) (v:Value),scalar x=true→Rep w O α x v→Rep w' O' α' x v
 | .int ..,_,_,h=>by simpa only[Rep] using h
 | .bool _,_,_,h=>by simpa only[Rep] using h
 | .str _,_,_,h=>by simpa only[Rep] using h
 | .tup vs,v,hs,h=>by
   simp only[Rep] at h ⊢
   obtain ⟨l,e,hl⟩:=h
   exact ⟨l,e,lc vs l (by simpa only[scalar] using hs) hl⟩
 | .agg _,_,hs,_ | .nil,_,hs,_ | .tree _ _ _,_,hs,_ | .own _ _ _ _ _,_,hs,_ | .ptr _ _ _ _,_,hs,_ | .rptr _,_,hs,_ | .nilptr,_,hs,_ | .func _ _ _,_,hs,_ | .nilfunc,_,hs,_
 | .iface _ _,_,hs,_ | .niliface,_,hs,_ | .map _,_,hs,_ | .nilmap,_,hs,_ | .any,_,hs,_=>by simp[scalar] at hs
theorem lc {w w':World}{O O':Nat→Prop}{α α':AM}:∀ (xs:List AVal) (l:List Value),ek xs=true→RepL w O α xs l→RepL w' O' α' xs l
 | [],l,_,h=>by simpa only[RepL] using h
 | x::xs,l,hs,h=>by
   simp only[RepL] at h ⊢
   simp only[ek,Bool.and_eq_true] at hs
   obtain ⟨v,vs,e,h1,h2⟩:=h
   exact ⟨v,vs,e,nw x v hs.1 h1,lc xs vs hs.2 h2⟩
end
end
end Go.EM
namespace Go.EM
variable [Drawn]
section
variable {P:Program}{w:World}{O:Nat→Prop}{α:AM}{st:aq}
theorem rx {x y:AVal}{u v:Value} (h:keyC x y=true) (hu:Rep w O α x u) (hv:Rep w O α y v) (n:Nat):Instr.sameBits n u v=true:=by
 unfold keyC at h
 split at h
 · simp only[Bool.and_eq_true,decide_eq_true_eq] at h
   simp only[Rep] at hu hv
   subst hu; subst hv
   cases n<;>simp[Instr.sameBits,h.1,h.2]
 · simp only[Rep] at hu hv
   subst hu; subst hv
   cases n<;>simpa [Instr.sameBits] using h
 · simp only[decide_eq_true_eq] at h
   simp only[Rep] at hu hv
   subst hu; subst hv; subst h
   cases n<;>simp[Instr.sameBits,MapKept.bytes_beq]
 · cases h
theorem rv:∀ {xs ys:List AVal}{l m:List Value},keyL xs ys=true→RepL w O α xs l→RepL w O α ys m→∀ n,l.length=m.length∧∀ p∈l.zip m,Instr.sameBits n p.1 p.2=true
 | [],[],l,m,_,hl,hm,n=>by
   simp only[RepL] at hl hm
   subst hl; subst hm
   exact ⟨rfl,fun p hp=>by cases hp⟩
 | [],_::_,_,_,h,_,_,_=>by simp[keyL] at h
 | _::_,[],_,_,h,_,_,_=>by simp[keyL] at h
 | x::xs,y::ys,l,m,h,hl,hm,n=>by
   simp only[keyL,Bool.and_eq_true] at h
   simp only[RepL] at hl hm
   obtain ⟨u,us,rfl,h1,h2⟩:=hl
   obtain ⟨v,vs,rfl,k1,k2⟩:=hm
   have ih:=rv h.2 h2 k2 n
   refine ⟨by simp[ih.1],fun p hp => ?_⟩
   rw[List.zip_cons_cons] at hp
   rcases List.mem_cons.1 hp with rfl | hp
   · exact rx h.1 h1 k1 n
   · exact ih.2 p hp
theorem abE {x y:AVal}{u v:Value} (h:keyB x y=true) (hu:Rep w O α x u) (hv:Rep w O α y v) (n:Nat):Instr.sameBits (n+1) u v=true:=by
 unfold keyB at h
 split at h
 · rename_i xs ys
   simp only[Rep] at hu hv
   obtain ⟨l,rfl,hl⟩:=hu
   obtain ⟨m,rfl,hm⟩:=hv
   have:=rv h hl hm n
   simp only[Instr.sameBits,List.size_toArray,this.1,beq_self_eq_true,Bool.true_and,List.all_eq_true]
   intro p hp
   exact this.2 p (by simpa using hp)
 · exact rx h hu hv _
theorem oY (em:Bool):∀ (d:Nat) (t:TypeId) (x:AVal) (u:Value),akey P d t x=true→Rep w O α x u→∀ D,d≤D→(Instr.checkKey em D t u).run P w = .ok () w
 | 0,_,_,_,h,_,_,_=>by simp[akey] at h
 | d+1,t,x,u,h,hx,0,hD=>by omega
 | d+1,t,x,u,h,hx,D+1,hD=>by
   unfold akey at h
   split at h
   · rename_i hu
     split at h
     · simp only[Rep] at hx; subst hx
       simp[Instr.checkKey,run_underlying hu]
     · cases h
   · rename_i hu
     split at h
     · simp only[Rep] at hx; subst hx
       simp[Instr.checkKey,run_underlying hu]
     · cases h
   · rename_i hu
     split at h
     · simp only[Rep] at hx; subst hx
       simp[Instr.checkKey,run_underlying hu]
     · cases h
   · rename_i fs hu
     split at h
     · rename_i xs
       simp only[Rep] at hx
       obtain ⟨l,rfl,hl⟩:=hx
       simp only[Instr.checkKey,Sem.run_bind,run_underlying hu,Result.andThen_ok]
       rw[← Array.forIn_toList]
       generalize fs.toList=gs at h
       induction gs with
       | nil=>simp
       | cons g gs ih =>
         simp only[List.all_cons,Bool.and_eq_true,Bool.or_eq_true,decide_eq_true_eq] at h
         obtain ⟨h1,h2⟩:=h
         rw[List.forIn_cons,Sem.run_bind]
         by_cases hn:g.name = "_"
         · simp only[hn,ne_eq,not_true_eq_false,if_false,Sem.run_pure,Result.andThen_ok]
           exact ih (by simpa using h2)
         · have h1:=h1.resolve_left hn
           split at h1
           · rename_i a ha
             obtain ⟨pu,p1,p2⟩:=eu ha hl
             have:=oY em d g.type a pu h1 p2 D (by omega)
             simp only[ne_eq,hn,not_false_eq_true,if_true,Sem.run_bind,p1,this,Sem.run_pure,Result.andThen_ok]
             exact ih (by simpa using h2)
           · cases h1
     · cases h
   · cases h
theorem ld {kt:TypeId}{d:TypeDesc} (hd:P.underlying kt=some d) {x y:AVal}{u v:Value}{b b':Bool} (hb:aeq P 8 kt x y=some b) (hx:Rep w O α x u) (hy:Rep w O α y v) (hs:Instr.sameNow d u v=some b'):b'=b:=by
 unfold aeq at hb
 split at hb
 · rename_i hu
   rw[hd] at hu; cases hu
   split at hb
   · simp only[Rep] at hx hy; subst hx; subst hy
     cases hb
     simpa [Instr.sameNow] using hs.symm
   · cases hb
 · rename_i hu
   rw[hd] at hu; cases hu
   split at hb
   · simp only[Rep] at hx hy; subst hx; subst hy
     split at hb
     · rename_i hk
       subst hk
       cases hb
       simpa [Instr.sameNow] using hs.symm
     · cases hb
   · cases hb
 · rename_i hu
   rw[hd] at hu; cases hu
   split at hb
   · rename_i a c
     simp only[Rep] at hx hy; subst hx; subst hy
     cases hb
     simp only[Instr.sameNow,Option.some.injEq] at hs
     subst hs
     rw[Bool.eq_iff_iff,MapKept.bytes_beq]
     simp
   · cases hb
 all_goals first
   | (rename_i hu; rw[hd] at hu; cases hu; simp[Instr.sameNow] at hs; done)
   | cases hb
def Told (w:World) (O:Nat→Prop) (α:AM) (k:AVal) (es:List (AVal×AVal)) (ms:List MapEntry) (i:Nat):Option (Nat×AVal)→Option (Nat×Value)→Prop
 | none,q=>q=none
 | some p,q=>∃ j e m,p=(i+j,e.2)∧q=some (i+j,m.val)∧es[j]? = some e∧ms[j]? = some m∧keyB e.1 k=true∧Rep w O α e.1 m.key∧Rep w O α e.2 m.val
theorem Told.succ {k:AVal}{e:AVal×AVal}{es:List (AVal×AVal)}{m:MapEntry}{ms:List MapEntry}{i:Nat}{q:Option (Nat×AVal)}{r:Option (Nat×Value)} (h:Told w O α k es ms (i+1) q r):Told w O α k (e::es) (m::ms) i q r:=by
 cases q with
 | none=>exact h
 | some p =>
   obtain ⟨j,e',m',h1,h2,h3,h4,h5⟩:=h
   exact ⟨j+1,e',m',by rw[h1]; congr 1; omega,by rw[h2]; congr 2; omega,by simpa using h3,by simpa using h4,h5⟩
theorem gW {kt:TypeId}{k:AVal}{u:Value} (hk:Rep w O α k u):∀ (es:List (AVal×AVal)) (ms:List MapEntry) (i:Nat) (q:Option (Nat×AVal)),dt w O α es ms→jQ P kt k es i=some q →
   ∃ r,(Instr.findAsking kt u ms i).run P w = .ok r w∧Told w O α k es ms i q r
 | [],ms,i,q,h,hf=>by
   simp only[dt] at h
   subst h
   simp only[jQ,Option.some.injEq] at hf
   subst hf
   exact ⟨none,by simp[Instr.findAsking],rfl⟩
 | e::es,ms,i,q,h,hf=>by
   simp only[dt] at h
   obtain ⟨m,ms,rfl,h1,h2,h3⟩:=h
   simp only[jQ,Option.bind_eq_some_iff] at hf
   obtain ⟨b,hb,hf⟩:=hf
   have he:(Op.equal kt u m.key).run P w = .ok b w:=o0 8 kt k e.1 b u m.key hb hk h1 _ (by unfold Op.maxDepth; omega)
   cases b with
   | true =>
     simp only[cond_true] at hf
     cases hkb:keyB e.1 k with
     | false=>rw[hkb] at hf; cases hf
     | true =>
       rw[hkb] at hf
       simp only[cond_true,Option.some.injEq] at hf
       subst hf
       exact ⟨some (i,m.val),by simp[Instr.findAsking,he],0,e,m,rfl,rfl,rfl,rfl,hkb,h1,h2⟩
   | false =>
     simp only[cond_false] at hf
     obtain ⟨r,g1,g2⟩:=gW hk es ms (i+1) q h3 hf
     exact ⟨r,by simp[Instr.findAsking,he,g1],g2.succ⟩
theorem j7 {kt:TypeId}{d:TypeDesc} (hd:P.underlying kt=some d) {k:AVal}{u:Value} (hk:Rep w O α k u):∀ (es:List (AVal×AVal)) (ms:List MapEntry) (i:Nat) (q:Option (Nat×AVal)) (r:Option (Nat×Value)),dt w O α es ms→jQ P kt k es i=some q →
   Instr.findNow d u ms i=some r→Told w O α k es ms i q r
 | [],ms,i,q,r,h,hf,hn=>by
   simp only[dt] at h
   subst h
   simp only[jQ,Option.some.injEq] at hf
   subst hf
   simp only[Instr.findNow,Option.some.injEq] at hn
   exact hn.symm
 | e::es,ms,i,q,r,h,hf,hn=>by
   simp only[dt] at h
   obtain ⟨m,ms,rfl,h1,h2,h3⟩:=h
   simp only[jQ,Option.bind_eq_some_iff] at hf
   obtain ⟨b,hb,hf⟩:=hf
   simp only[Instr.findNow] at hn
   split at hn
   · rename_i hs
     have:=ld hd hb hk h1 hs
     subst this
     simp only[Option.some.injEq] at hn
     subst hn
     simp only[cond_true] at hf
     cases hkb:keyB e.1 k with
     | false=>rw[hkb] at hf; cases hf
     | true =>
       rw[hkb] at hf
       simp only[cond_true,Option.some.injEq] at hf
       subst hf
       exact ⟨0,e,m,rfl,rfl,rfl,rfl,hkb,h1,h2⟩
   · rename_i hs
     have:=ld hd hb hk h1 hs
     subst this
     simp only[cond_false] at hf
     exact (j7 hd hk es ms (i+1) q r h3 hf hn).succ
   · cases hn
theorem qO {kt:TypeId}{k:AVal}{u:Value}{es:List (AVal×AVal)}{ms:List MapEntry}{q:Option (Nat×AVal)} (hk:Rep w O α k u) (ha:akey P 8 kt k=true) (h:dt w O α es ms) (hf:jQ P kt k es 0=some q) :
   ∃ r,(Instr.findKey kt u ms).run P w = .ok r w∧Told w O α k es ms 0 q r:=by
 have hd:∃ d,P.underlying kt=some d:=by
   unfold akey at ha
   cases hu:P.underlying kt with
   | none=>simp[hu] at ha
   | some d=>exact ⟨d,rfl⟩
 obtain ⟨d,hd⟩:=hd
 unfold Instr.findKey
 simp only[Sem.run_bind,run_underlying hd,Result.andThen_ok]
 cases hn:Instr.findNow d u ms 0 with
 | some r=>exact ⟨r,by simp,j7 hd hk es ms 0 q r h hf hn⟩
 | none =>
   obtain ⟨r,g1,g2⟩:=gW (P:=P) hk es ms 0 q h hf
   exact ⟨r,g1,g2⟩
theorem rR (hi:Inv w O α st) {t:TypeId}:Done P (Instr.makeMap t none) w O α (.map st.length) (st++[.map []]):=by
 have hr:(Instr.makeMap t none).run P w = .ok (.map (some w.heap.size)) (w.alloc (.map #[] 0)):=rfl
 obtain ⟨g1,g2⟩:=hi.push ⟨w.heap.size,0,0,0⟩ (.map []) (.map #[] 0) rfl (by
   simp only[cX]
   exact ⟨⟨w.heap.size,0,0,0⟩,by simp,rfl,#[],0,(MapKept.heap_alloc w _).1,rfl⟩)
 refine ⟨_,_,_,hr,g1,g2,?_⟩
 rw[hi.len]
 simp only[Rep]
 exact ⟨by simp,_,rfl,fun ri hr _=>by simp at hr; subst hr; rfl⟩
theorem xJ (hi:Inv w O α st) {m:AVal}{u:Value}{es:List (AVal×AVal)} (h:vH st m=some es) (hm:Rep w O α m u) :
   (u = .map none∧es=[])∨∃ b ms clock,u = .map (some b)∧w.heap[b]? = some (.map ms clock)∧dt w O α es ms.toList:=by
 unfold vH at h
 split at h
 · rename_i r
   split at h
   · rename_i es' hr
     cases h
     obtain ⟨ri,g1,g2,ms,clock,g3,g4⟩:=hi.reg r _ hr
     simp only[Rep] at hm
     obtain ⟨_,b,rfl,hb⟩:=hm
     have:=hb ri g1 g2
     subst this
     exact .inr ⟨_,ms,clock,rfl,g3,g4⟩
   · cases h
 · cases h
   simp only[Rep] at hm
   exact .inl ⟨hm,rfl⟩
 · cases h
theorem tc (hi:Inv w O α st) {t:TypeId}{m k v:AVal}{ok:Bool}{um uk:Value} (h:io P t m k ok st=some v) (hm:Rep w O α m um) (hk:Rep w O α k uk) :
   ∃ u,(Instr.lookup t um uk ok).run P w = .ok u w∧Rep w O α v u:=by
 unfold io at h
 split at h
 · rename_i kt et hu
   cases ha:akey P 8 kt k with
   | false=>rw[ha] at h; cases h
   | true =>
     rw[ha] at h
     simp only[cond_true,Option.bind_eq_some_iff] at h
     obtain ⟨es,hes,q,hq,h⟩:=h
     have hkey:=fun em=>oY em 8 kt k uk ha hk 10000 (by omega)
     have fin : ∀ (ms : List MapEntry), dt w O α es ms → ∃ r, (Instr.findKey kt uk ms).run P w = .ok r w ∧
         ((r=none∧∃ zv,(zeroValue et).run P w = .ok zv w∧Rep w O α v (if ok then .tuple #[zv,.bool false] else zv)) ∨
           ∃ j val,r=some (j,val)∧Rep w O α v (if ok then .tuple #[val,.bool true] else val)):=by
       intro ms hms
       obtain ⟨r,g1,g2⟩:=qO (P:=P) hk ha hms hq
       refine ⟨r,g1,?_⟩
       have pair:∀ (z:AVal) (zv:Value) (b:Bool),Rep w O α z zv→Rep w O α (cond ok (.tup [z,.bool b]) z) (if ok then .tuple #[zv,.bool b] else zv):=by
         intro z zv b hz
         cases ok with
         | false=>exact hz
         | true =>
           simp only[cond_true,Rep,if_true]
           exact ⟨[_,_],rfl,by simp only[RepL,Rep]; exact ⟨_,_,rfl,hz,_,_,rfl,rfl,rfl⟩⟩
       cases q with
       | none =>
         simp only[Option.map_eq_some_iff] at h
         obtain ⟨z,hz,rfl⟩:=h
         obtain ⟨zv,hz1,hz2⟩:=e7 (P:=P) (w:=w) (O:=O) (α:=α) hz
         exact .inl ⟨g2,zv,hz1,pair z zv false hz2⟩
       | some p =>
         obtain ⟨j,e,m',h1,h2,h3,h4,h5,h6,h7⟩:=g2
         subst h1
         simp only[Option.some.injEq] at h
         subst h
         exact .inr ⟨_,_,h2,pair _ _ true h7⟩
     unfold Instr.lookup
     rcases xJ hi hes hm with ⟨rfl,rfl⟩ | ⟨b,ms,clock,rfl,hb,hrep⟩
     · obtain ⟨r,h1,⟨rfl,zv,h2,h3⟩ | ⟨j,val,rfl,h3⟩⟩:=fin [] rfl
       · exact ⟨_,by simp only[Sem.run_bind,run_underlying hu,Result.andThen_ok,Sem.run_pure,hkey,h1,h2],h3⟩
       · exact ⟨_,by simp only[Sem.run_bind,run_underlying hu,Result.andThen_ok,Sem.run_pure,hkey,h1],h3⟩
     · obtain ⟨r,h1,⟨rfl,zv,h2,h3⟩ | ⟨j,val,rfl,h3⟩⟩:=fin ms.toList hrep
       · exact ⟨_,by simp only[Sem.run_bind,run_underlying hu,Result.andThen_ok,Sem.run_pure,MapKept.run_getObj_map hb,hkey,h1,h2],h3⟩
       · exact ⟨_,by simp only[Sem.run_bind,run_underlying hu,Result.andThen_ok,Sem.run_pure,MapKept.run_getObj_map hb,hkey,h1],h3⟩
 · cases h
theorem su {es fs:List (AVal×AVal)}:∀ {ms ns:List MapEntry},dt w O α es ms→dt w O α fs ns→dt w O α (es++fs) (ms++ns):=by
 induction es with
 | nil=>intro ms ns h k; simp only[dt] at h; subst h; exact k
 | cons e es ih =>
   intro ms ns h k
   simp only[dt] at h
   obtain ⟨m,ms,rfl,h1,h2,h3⟩:=h
   simp only[List.cons_append,dt]
   exact ⟨m,_,rfl,h1,h2,ih h3 k⟩
theorem acK {es:List (AVal×AVal)}{p:AVal×AVal}{m':MapEntry} (h1:Rep w O α p.1 m'.key) (h2:Rep w O α p.2 m'.val):∀ {ms:List MapEntry}{j:Nat},dt w O α es ms→dt w O α (es.set j p) (ms.set j m'):=by
 induction es with
 | nil=>intro ms j h; simp only[dt] at h; subst h; exact rfl
 | cons e es ih =>
   intro ms j h
   simp only[dt] at h
   obtain ⟨m,ms,rfl,g1,g2,g3⟩:=h
   cases j with
   | zero =>
     simp only[List.set_cons_zero,dt]
     exact ⟨m',ms,rfl,h1,h2,g3⟩
   | succ j =>
     simp only[List.set_cons_succ,dt]
     exact ⟨m,_,rfl,g1,g2,ih g3⟩
theorem tX (hi:Inv w O α st) {t:TypeId}{m k v:AVal}{um uk uv:Value}{st':aq} (h:fO P t m k v st=some st') (hm:Rep w O α m um) (hk:Rep w O α k uk) (hv:Rep w O α v uv) :
   ∃ w' α',(Instr.mapUpdate t um uk uv).run P w = .ok () w'∧Ext w α w' α'∧Inv w' O α' st':=by
 unfold fO at h
 split at h
 · rename_i kt et hu
   cases ha:akey P 8 kt k with
   | false=>rw[ha] at h; cases h
   | true =>
     rw[ha] at h
     simp only[cond_true] at h
     split at h
     · rename_i r
       split at h
       · rename_i es hr
         simp only[Option.map_eq_some_iff] at h
         obtain ⟨q,hq,h⟩:=h
         obtain ⟨ri,g1,g2,ms,clock,g3,g4⟩:=hi.reg r _ hr
         simp only[Rep] at hm
         obtain ⟨hrl,b,rfl,hb⟩:=hm
         have:=hb ri g1 g2
         subst this
         have hlt:ri.block<w.heap.size:=(hi.fresh r ri g1).2
         have hkey:=oY (P:=P) false 8 kt k uk ha hk 10000 (by omega)
         obtain ⟨p,f1,f2⟩:=qO (P:=P) hk ha g4 hq
         have turned : ∀ (ns : Array MapEntry) (c : Nat) (fs : List (AVal × AVal)), (∀ w' α', Pres false w O α w' O α' → dt w' O α' fs ns.toList) →
             Ext w α { w with heap:=w.heap.setIfInBounds ri.block (.map ns c) } (α.set r (some ri))∧Inv { w with heap:=w.heap.setIfInBounds ri.block (.map ns c) } O (α.set r (some ri)) (st.set r (.map fs)):=by
           intro ns c fs hfs
           exact hi.turn (w':={ w with heap:=w.heap.setIfInBounds ri.block (.map ns c) }) (ri':=ri) (g:=.map fs) g1 rfl rfl rfl
             (by simp) (Nat.le_refl _) (fun k _ hk=>by simp[Array.getElem?_setIfInBounds,Ne.symm hk]) (.inl rfl) (Nat.le_refl _) (fun _=>rfl) (by
               intro hpr
               simp only[cX]
               exact ⟨ri,List.getElem?_set_self hrl,g2,ns,c,by simp[Array.getElem?_setIfInBounds,hlt],hfs _ _ hpr⟩)
         unfold Instr.mapUpdate
         simp only[Sem.run_bind,run_underlying hu,Result.andThen_ok,MapKept.run_getObj_map g3,hkey,f1]
         cases q with
         | none =>
           have f2:p=none:=f2
           subst f2
           simp only at h
           subst h
           obtain ⟨t1,t2⟩:=turned (ms.push { key:=uk,val:=uv,born:=clock }) (clock+1) (es++[(k,v)]) (fun w' α' hp=>by
             rw[Array.toList_push]
             refine su (gQ hp es _ g4) ?_
             simp only[dt]
             exact ⟨_,[],rfl,bj hp _ _ (by simp) hk,bj hp _ _ (by simp) hv,rfl⟩)
           exact ⟨_,_,by simp[MapKept.run_setObj_map _ g3],t1,t2⟩
         | some pq =>
           obtain ⟨j,e,m',h1,h2,h3,h4,h5,h6,h7⟩:=f2
           subst h1; subst h2
           simp only at h
           subst h
           have hbits:=abE (n:=9999) h5 h6 hk
           simp only[Nat.zero_add] at *
           have hj:ms[j]? = some m':=by simpa using h4
           have hjl:j<ms.size:=(Array.getElem?_eq_some_iff.1 hj).1
           obtain ⟨t1,t2⟩:=turned (ms.modify j fun e=>{ e with key:=uk,val:=uv }) clock (es.set j (k,v)) (fun w' α' hp=>by
             have e1:(ms.modify j fun e=>{ e with key:=uk,val:=uv }).toList=ms.toList.set j { m' with key:=uk,val:=uv }:=by
               apply List.ext_getElem?
               intro i
               rw[Array.getElem?_toList,Array.getElem?_modify,List.getElem?_set]
               by_cases hij:j=i
               · subst hij
                 have hj2:ms[j]=m':=by rw[Array.getElem?_eq_getElem hjl] at hj; exact Option.some.inj hj
                 simp[hj,hjl,hj2]
               · simp[hij]
             rw[e1]
             exact acK (p:=(k,v)) (bj hp _ _ (by simp) hk) (bj hp _ _ (by simp) hv) (gQ hp es _ g4))
           refine ⟨_,_,?_,t1,t2⟩
           have hstay:(Instr.keyThatStays m'.key uk).run P w = .ok uk w:=by
             simp[Instr.keyThatStays,hbits]
           simp[hj,hstay,MapKept.run_setObj_map _ g3]
       · cases h
     · cases h
 · cases h
end
end Go.EM
namespace Go.EM
section
variable [Drawn] {P:Program}
theorem acn (w:World) (t e ty:TypeId) (z:Value) (K:Nat) (ht:P.underlying t=some (.slice e)) (hv:∀ w,(zeroValue e).run P w = .ok z w) (hzs:z.cells.size=K) (h1:∀ u∈(Builtin.zeroCells z.cells 1).toList,u.oneCell'=true) (b o n c:Nat) (hn:0<n)
   (hc:∀ j,j<n*K→(w.cell? ⟨b,o+j,none⟩).isSome=true) (hf:∀ j,j<n*K→w.frozen? ⟨b,o+j,none⟩=false) (hz:∀ u∈(Builtin.zeroCells z.cells n).toList,u.oneCell'=true) :
   (Builtin.clear_ #[t] ty #[.slice (some ⟨b,o,none⟩) n c]).run P w = .ok (.tuple #[]) (w.setCells b o (Builtin.zeroCells z.cells n).toList):=by
 have hlen:(Builtin.zeroCells z.cells n).toList.length=n*K:=by rw[Array.length_toList,bi,hzs]
 have hst:=run_storeCells_cells (P:=P) b o (Builtin.zeroCells z.cells n).toList 0 w (by rw[hlen]; simpa using hc) (by rw[hlen]; simpa using hf) hz
 simp only[Nat.add_zero] at hst
 obtain ⟨m,rfl⟩:∃ m,n=m+1:=⟨n-1,by omega⟩
 simp[Builtin.clear_,run_underlying ht,hv,hst]
end
section
variable [Drawn] {P:Program}{w w':World}{O:Nat→Prop}{α:AM}{st:aq}
theorem fB {b:Nat}:∀ (vs:List Value) (o:Nat) (w:World) (c:Array Value) (el:TypeId) (fz:Nat×Nat),w.heap[b]? = some (.cells c el fz)→o+vs.length≤c.size →
   (w.setCells b o vs).heap[b]? = some (.cells (c.toList.take o++vs++c.toList.drop (o+vs.length)).toArray el fz)
 | [],o,w,c,el,fz,h,hl=>by simp[World.setCells,h]
 | v::vs,o,w,c,el,fz,h,hl=>by
   simp only[List.length_cons] at hl
   rw[World.setCells,fB vs (o+1) _ _ el fz (jY h) (by simp; omega)]
   congr 2
   apply Array.ext'
   have hlt:o<c.toList.length:=by simp; omega
   simp only[Array.toList_setIfInBounds,List.length_cons]
   rw[List.take_set,List.drop_set_of_lt (by omega),List.take_succ_eq_append_getElem hlt,List.set_append_right _ _ (by simp; omega)]
   have:o-(List.take o c.toList).length=0:=by simp; omega
   rw[this]
   simp only[List.set_cons_zero,List.append_assoc,List.cons_append,List.nil_append]
   congr 4
   omega
theorem bQ {b:Nat}:∀ (vs:List Value) (o:Nat) (w:World),(∀ k,k≠b→(w.setCells b o vs).heap[k]? = w.heap[k]?)∧(w.setCells b o vs).heap.size=w.heap.size∧(w.setCells b o vs).os=w.os∧(w.setCells b o vs).tape=w.tape∧(w.setCells b o vs).output=w.output∧(w.setCells b o vs).drawn=w.drawn
 | [],o,w=>⟨fun _ _=>rfl,rfl,rfl,rfl,rfl,rfl⟩
 | v::vs,o,w=>by
   obtain ⟨h1,h2,h3,h4,h5,h6⟩:=bQ (b:=b) vs (o+1) (w.setCell ⟨b,o,none⟩ v)
   refine ⟨fun k hk => ?_,?_,h3,h4,h5,h6⟩
   · rw[World.setCells,h1 k hk]; exact RowKit.Below.heap_setCell _ _ _ _ hk
   · rw[World.setCells,h2]; simp
theorem Inv.rerow (hi:Inv w O α st) {r:Nat}{ri:RI} (h:α[r]? = some (some ri)) {xs:List AVal}{vs:List Value}{n cap blk:Nat}{el:TypeId} (hn:n≠0) (hv:ax w O α n xs vs)
   (os:w'.os=w.os) (tape:w'.tape=w.tape) (out:w'.output=w.output) (size:w.heap.size≤w'.heap.size) (dr:w.drawn≤w'.drawn) (old:∀ k,k<w.heap.size→k≠ri.block→w'.heap[k]? = w.heap[k]?)
   (hb:blk=ri.block∨(w.heap.size≤blk∧blk<w'.heap.size)) (hlen:xs.length≤cap) (ht:ri.top≤xs.length) (hs:ri.top=xs.length→ri=⟨blk,n,cap,xs.length⟩)
   {c:Array Value}{fz:Nat×Nat} (hc:w'.heap[blk]? = some (.cells c el fz)) (hcs:c.size=cap*n) (hcell:∀ j,j<(flat vs).length→c[j]? = (flat vs)[j]?) (hfz:∀ o,o<c.size∨n≠1→w'.frozen? ⟨blk,o,none⟩=false) :
   Ext w α w' (α.set r (some ⟨blk,n,cap,xs.length⟩))∧Inv w' O (α.set r (some ⟨blk,n,cap,xs.length⟩)) (st.set r (.row el n xs)):=by
 have hlt:r<α.length:=by
   rcases Nat.lt_or_ge r α.length with h' | h'
   · exact h'
   · rw[List.getElem?_eq_none h'] at h; cases h
 refine hi.turn h os tape out size dr old hb ht hs fun hp => ?_
 simp only[cX]
 refine ⟨_,List.getElem?_set_self hlt,rfl,hn,rfl,hlen,c,el,fz,hc,hcs,?_,hfz,rfl⟩
 refine row_of 0 (bC hp hv) fun j hj => ?_
 rw[Nat.zero_add,← hcell j hj]
 simp only[World.cell?,hc]
 simp
theorem dV {n:Nat}:∀ {ys:List AVal}{vs:List Value} (k:Nat),ax w O α n ys vs→ax w O α n (ys.take k) (vs.take k)
 | ys,vs,0,h=>by simp[ax]
 | [],vs,k+1,h=>by simp only[ax] at h; subst h; simp[ax]
 | y::ys,vs,k+1,h=>by
   simp only[ax] at h
   obtain ⟨v,us,rfl,h1,h2⟩:=h
   simp only[List.take_succ_cons,ax]
   exact ⟨v,us.take k,rfl,h1,dV k h2⟩
theorem ec {n:Nat}:∀ {ys:List AVal}{vs:List Value} (k:Nat),ax w O α n ys vs→flat (vs.take k)=(flat vs).take (k*n)∧flat (vs.drop k)=(flat vs).drop (k*n)
 | ys,vs,0,h=>by simp[flat]
 | [],vs,k+1,h=>by simp only[ax] at h; subst h; simp[flat]
 | y::ys,vs,k+1,h=>by
   have hl:=aM (dV 1 h)
   simp only[ax] at h
   obtain ⟨v,us,rfl,h1,h2⟩:=h
   obtain ⟨g1,g2⟩:=ec k h2
   have e:flat (v::us)=v.cells.toList++flat us:=by simp[flat]
   have hn:v.cells.toList.length=n:=by
     have:flat ([v]:List Value)=v.cells.toList:=by simp[flat]
     simp only[List.take_succ_cons,List.take_zero] at hl
     rw[this] at hl
     simpa using hl
   have q:(k+1)*n=v.cells.toList.length+k*n:=by rw[hn,Nat.succ_mul,Nat.add_comm]
   rw[e,q]
   refine ⟨?_,?_⟩
   · rw[List.take_length_add_append,← g1]; simp[flat]
   · rw[List.drop_length_add_append,← g2]; simp
theorem cm {b:Nat}{vs:List Value}{o:Nat}{w:World}{c:Array Value}{el:TypeId}{fz:Nat×Nat} (h:w.heap[b]? = some (.cells c el fz)) (hl:o+vs.length≤c.size):∃ c',(w.setCells b o vs).heap[b]? = some (.cells c' el fz)∧c'.size=c.size:=by
 refine ⟨_,fB vs o w c el fz h hl,?_⟩
 simp only[List.size_toArray,List.length_append,List.length_take,List.length_drop,Array.length_toList]
 omega
theorem cell_of {b t:Nat}{c:Array Value}{el:TypeId}{fz:Nat×Nat} (h:w.heap[b]? = some (.cells c el fz)):w.cell? ⟨b,t,none⟩=c[t]? := by
 simp only[World.cell?,h]
 simp
theorem xX (hi:Inv w O α st) {tys:List TypeId}{x v:AVal}{st':aq}{ux:Value}{ty:TypeId} (h:oD P tys x st=some (v,st')) (hx:Rep w O α x ux):Done P (Builtin.clear_ tys.toArray ty #[ux]) w O α v st':=by
 unfold oD at h
 split at h
 · rename_i t
   split at h
   · rename_i n z hei
     obtain ⟨e,i,zv,he1,he2,he3,he4,he5,he6,he7,he8,he9⟩:=fK hei
     split at h
     · rename_i r m top off len
       split at h
       · rename_i hc
         obtain ⟨rfl,hle,hcell⟩:=hc
         rw[Option.map_eq_some_iff] at h
         obtain ⟨ys,hrow,h⟩:=h
         cases h
         simp only[Rep] at hx
         obtain ⟨ri,g1,g2,g3,g4,g5,g6,c,el,fz,g7,g8,g9,g10,g11⟩:=hi.alive hrow
         obtain ⟨hrl,a,cap,rfl,k1,k2,k3⟩:=hx
         obtain ⟨q1,q2,q3,q4⟩:=(k3 ri g1).2 g4
         have hel:rowTy st r=el:=by simp[rowTy,g11]
         have hrt:Rep w O α (.tup []) (.tuple #[]):=by simp only[Rep]; exact ⟨[],rfl,rfl⟩
         by_cases h0:len=0
         · subst h0
           have hrun:(Builtin.clear_ [t].toArray ty #[.slice a 0 cap]).run P w = .ok (.tuple #[]) w:=by
             cases a<;>simp[Builtin.clear_,run_underlying he1]
           have hsame:st.set r (.row (rowTy st r) m (ys.take off++List.replicate 0 z++ys.drop (off+0)))=st:=by
             rw[hel]
             simp only[List.replicate_zero,List.append_nil,Nat.add_zero,List.take_append_drop]
             apply List.ext_getElem?
             intro j
             rw[List.getElem?_set]
             split
             · rename_i hj
               subst hj
               rw[if_pos (by
                 rcases Nat.lt_or_ge r st.length with h' | h'
                 · exact h'
                 · rw[List.getElem?_eq_none h'] at g11; cases g11),g11]
             · rfl
           rw[hsame]
           exact ⟨_,w,α,hrun,Ext.refl w α,hi,hrt⟩
         · obtain ⟨us,hus,hcells⟩:=fh 0 g9
           have hfl:=aM hus
           rw[g5] at hfl
           have ha:=q4 (by omega)
           subst ha
           have hzz:Rep w O α z zv:=by rw[he9]; exact ev zv
           obtain ⟨r1,r2⟩:=gv hcell hzz
           have hzl:z.cells.length=m:=by rw[he9] at hcell ⊢; rw[iM hcell,he8]
           have hrep:=eX ⟨hzz,hzl,he8,r2⟩ len
           have hv':=bD (bD (dV off hus) hrep) (eT (off+len) hus)
           have hll:(ys.take off++List.replicate len z++ys.drop (off+len)).length=top:=by
             simp only[List.length_append,List.length_take,List.length_replicate,List.length_drop,g5]; omega
           have hcK:top*m≤ri.cap*m:=Nat.mul_le_mul_right _ g6
           have hoK:(off+len)*m≤top*m:=Nat.mul_le_mul_right _ hle
           have hadd:(off+len)*m=off*m+len*m:=Nat.add_mul ..
           have hsz:(Builtin.zeroCells zv.cells len).toList.length=len*m:=by rw[Array.length_toList,bi,he8]
           have hz1:∀ k,∀ u∈(Builtin.zeroCells zv.cells k).toList,u.oneCell'=true:=by
             intro k u hu
             simp only[Builtin.zeroCells,Array.toList_map,List.mem_map] at hu
             obtain ⟨j,_,rfl⟩:=hu
             have hlt:j%zv.cells.size<zv.cells.size:=Nat.mod_lt _ (by rw[he8]; omega)
             have e':zv.cells[j%zv.cells.size]! = zv.cells[j%zv.cells.size]:=getElem!_pos ..
             rw[e']
             exact r2 _ (Array.getElem_mem _)
           have hv0:∀ w,(zeroValue e).run P w = .ok zv w:=fun w=>by
             simp[zeroValue,typeInfo,he2,he3]
           have hrun:=acn (P:=P) w t e ty zv m he1 hv0 he8 (hz1 1) ri.block (off*m) len cap (by omega) (fun j hj=>by
             have hlt:off*m+j<(flat us).length:=by rw[hfl]; omega
             have:=hcells _ hlt
             rw[Nat.zero_add] at this
             rw[this,List.getElem?_eq_getElem hlt]; rfl) (fun j hj=>g10 _ (.inl (by rw[g8]; omega))) (hz1 len)
           obtain ⟨t1,t2,t3,t4,t5,t6⟩:=bQ (b:=ri.block) (Builtin.zeroCells zv.cells len).toList (off*m) w
           have hheap:=fB (b:=ri.block) (Builtin.zeroCells zv.cells len).toList (off*m) w c el fz g7 (by rw[hsz,g8]; omega)
           obtain ⟨x1,x2⟩:=hi.rerow (w':=w.setCells ri.block (off*m) (Builtin.zeroCells zv.cells len).toList) (r:=r) (cap:=ri.cap) (blk:=ri.block) (el:=el) g1 g3 hv' t3 t4 t5 (by rw[t2]; exact Nat.le_refl _) (by rw[t6]; exact Nat.le_refl _)
             (fun k _ hk=>t1 k hk) (.inl rfl) (by rw[hll]; omega) (by rw[hll]; omega) (fun _=>by
               rw[hll]
               obtain ⟨b,s,cp,tp⟩:=ri
               simp only at g2 g4
               rw[g2,g4]) hheap (by
               simp only[List.size_toArray,List.length_append,List.length_take,List.length_drop,Array.length_toList,bi,he8,g8]
               omega) (fun j hj=>by
               obtain ⟨s1,s2⟩:=ec off hus
               obtain ⟨s3,s4⟩:=ec (off+len) hus
               have hflr:flat (List.replicate len zv)=(Builtin.zeroCells zv.cells len).toList:=by
                 apply List.ext_getElem?
                 intro k
                 by_cases hk:k<len*m
                 · rw[de he8 he5 _ _ hk,List.getElem?_eq_getElem (by rw[hsz]; exact hk)]
                   simp[Builtin.zeroCells,he8]
                 · have:=aM hrep
                   rw[List.length_replicate] at this
                   rw[List.getElem?_eq_none (by omega),List.getElem?_eq_none (by omega)]
               have hfv:flat (us.take off++List.replicate len zv++us.drop (off+len))=(flat us).take (off*m)++(Builtin.zeroCells zv.cells len).toList++(flat us).drop ((off+len)*m):=by
                 rw[cB,cB,s1,s4,hflr]
               rw[hfv] at hj ⊢
               have hcl:c.toList.length=ri.cap*m:=by simpa using g8
               simp only[List.length_append,List.length_take,List.length_drop,hfl,hsz] at hj
               have hat:∀ k,k<top*m→c.toList[k]? = (flat us)[k]? := fun k hk=>by
                 have:=hcells k (by rw[hfl]; exact hk)
                 rw[Nat.zero_add,cell_of g7] at this
                 simpa using this
               simp only[List.getElem?_toArray]
               have L1:(c.toList.take (off*m)).length=off*m:=by rw[List.length_take,hcl]; omega
               have L2:((flat us).take (off*m)).length=off*m:=by rw[List.length_take,hfl]; omega
               have L3:(c.toList.take (off*m)++(Builtin.zeroCells zv.cells len).toList).length=off*m+len*m:=by rw[List.length_append,L1,hsz]
               have L4:((flat us).take (off*m)++(Builtin.zeroCells zv.cells len).toList).length=off*m+len*m:=by rw[List.length_append,L2,hsz]
               by_cases j1:j<off*m
               · refine Eq.trans (b:=c.toList[j]?) ?_ (Eq.trans (hat j (by omega)) ?_)
                 · rw[List.getElem?_append_left (by rw[L3]; omega),List.getElem?_append_left (by rw[L1]; omega),List.getElem?_take_of_lt j1]
                 · rw[List.getElem?_append_left (by rw[L4]; omega),List.getElem?_append_left (by rw[L2]; omega),List.getElem?_take_of_lt j1]
               · by_cases j2:j<off*m+len*m
                 · refine Eq.trans (b:=(Builtin.zeroCells zv.cells len).toList[j-off*m]?) ?_ ?_
                   · rw[List.getElem?_append_left (by rw[L3]; omega),List.getElem?_append_right (by rw[L1]; omega),L1]
                   · rw[List.getElem?_append_left (by rw[L4]; omega),List.getElem?_append_right (by rw[L2]; omega),L2]
                 · refine Eq.trans (b:=c.toList[j]?) ?_ (Eq.trans (hat j (by omega)) ?_)
                   · rw[List.getElem?_append_right (by rw[L3]; omega),L3,List.getElem?_drop,hsz]
                     congr 1; omega
                   · rw[List.getElem?_append_right (by rw[L4]; omega),L4,List.getElem?_drop]
                     congr 1; omega)
             (fun o ho=>by
               rw[World.frozen?_setCells]
               refine g10 o ?_
               rcases ho with ho | ho
               · left
                 simp only[List.size_toArray,List.length_append,List.length_take,List.length_drop,Array.length_toList,bi,he8,g8] at ho
                 rw[g8]; omega
               · exact .inr ho)
           rw[hel]
           exact ⟨_,_,_,hrun,x1,x2,by simp only[Rep]; exact ⟨[],rfl,rfl⟩⟩
       · cases h
     · cases h
   · cases h
 · cases h
end
end Go.EM
namespace Go.EM
variable [Drawn]
def jn (w:World) (O:Nat→Prop) (α:AM) (g:Nat) (v:AVal):Prop:=∀ cs,v = .rptr cs→¬ O g∧¬ fu α g∧∃ c t fr,w.heap[g]? = some (.cells c t fr)∧c.size=cs.length∧(cs=[.any]→∃ te pe,c[0]? = some (.iface te pe))
def b7 (G:List (Nat×AVal)) (w:World) (O:Nat→Prop) (α:AM):Prop :=
 ∀ g v,aK G g=some v→closed v=true∧Rep w O α v (.pointer (some ⟨g,0,none⟩))∧jn w O α g v
def Goes (P:Program) (f:Nat):Prop:=∃ fn,P.funcs[f]? = some fn∧fn.body.isNone=false∧(fn.name == "runtime.NumGoroutine")=false
def aB (P:Program) (G:List (Nat×AVal)) (f:Nat) (F:PFn):Prop :=
 Goes P f∧∀ xs r,F xs=some r→aA xs=true→∀ w O vs,(∀ b,O b→b<w.heap.size)→b7 G w O []→RepL w O [] xs vs →
   Calls P f vs.toArray w fun e w'=>∃ v,e = .returned v∧Quiet w w'∧Rep w' O [] r v∧closed r=true
def bL (P:Program) (G:List (Nat×AVal)) (f:Nat) (F:SFn):Prop :=
 Goes P f∧∀ xs st r st',F xs st=some (r,st')→∀ w O α vs,Inv w O α st→b7 G w O α→RepL w O α xs vs →
   Calls P f vs.toArray w fun e w'=>∃ v α',e = .returned v∧Ext w α w' α'∧Inv w' O α' st'∧Rep w' O α' r v
def Same (P:Program) (f:Nat):Prop:=∃ fn,P.funcs[f]? = some fn∧(fn.name == "runtime.NumGoroutine")=false∧fn.body.isNone=true∧Extern.findNext fn=none∧Extern.find fn=some Extern.AbiNoEscape.same
def ExtP (P:Program) (G:List (Nat×AVal)) (f:Nat) (F:PFn):Prop:=∃ fn e,P.funcs[f]? = some fn∧(fn.name == "runtime.NumGoroutine")=false∧fn.body.isNone=true∧Extern.findNext fn=none∧Extern.find fn=some e ∧
 ∀ xs r,F xs=some r→aA xs=true→∀ w O vs,(∀ b,O b→b<w.heap.size)→b7 G w O []→RepL w O [] xs vs →
   ∃ v,(e vs.toArray).run P w = .ok v w∧Rep w O [] r v∧closed r=true
structure EnvOk (P:Program) (E:Env):Prop where
 same:∀ f,memN f E.same=true→Same P f
 pure:∀ f F,aK E.pure f=some F→aB P E.glob f F
 raw:∀ f F,aK E.raw f=some F→bL P E.glob f F
 look:∀ f F,aK E.look f=some F→aB P E.glob f F
 ext:∀ f F,aK E.ext f=some F→ExtP P E.glob f F
structure SlotRep (w:World) (O:Nat→Prop) (α:AM) (σ:aN) (N:Nat) (a:Act):Prop where
 slot:∀ t,Rep w O α (getS σ t) (a.tmps.getD t undef)
 defers:a.defers=[]
 size:a.tmps.size=N
section
variable {P:Program}{E:Env}{w w':World}{O:Nat→Prop}{α α':AM}{st:aq}{σ:aN}{N:Nat}{a:Act}
theorem b7.ext {G:List (Nat×AVal)} (h:b7 G w O α) (he:Ext w α w' α'):b7 G w' O α':=fun g v hv=>⟨(h g v hv).1,uC he (h g v hv).2.1,fun cs e=>by
 obtain ⟨h1,h2,c,t,fr,h3,h4⟩:=(h g v hv).2.2 cs e
 have hlt:g<w.heap.size:=by
   rcases Nat.lt_or_ge g w.heap.size with h' | h'
   · exact h'
   · rw[Array.getElem?_eq_none h'] at h3; cases h3
 refine ⟨h1,fun ho => ?_,c,t,fr,by rw[he.old g hlt h2]; exact h3,h4⟩
 rcases he.own g ho with h' | h'
 · omega
 · exact h2 h'⟩
theorem jn.inn {g:Nat}{v:AVal} (h:jn w O α g v):jn w (fun b=>O b∨fu α b) [] g v:=fun cs e=>by
 obtain ⟨h1,h2,h3⟩:=h cs e
 exact ⟨fun h=>h.elim h1 h2,(fun ⟨r,ri,h,_⟩=>by simp at h),h3⟩
theorem jn.bare {g:Nat}{v:AVal} (h:jn w O α g v):jn w O [] g v:=fun cs e=>by
 obtain ⟨h1,h2,h3⟩:=h cs e
 exact ⟨h1,(fun ⟨r,ri,h,_⟩=>by simp at h),h3⟩
theorem SlotRep.ext (h:SlotRep w O α σ N a) (he:Ext w α w' α'):SlotRep w' O α' σ N a:=⟨fun t=>uC he (h.slot t),h.defers,h.size⟩
theorem fE (hs:SlotRep w O α σ N a) (hg:b7 E.glob w O α) (x:Operand):Rep w O α (opnd E σ x) (a.eval x):=by
 cases x with
 | tmp t=>exact hs.slot t
 | const v=>exact ev v
 | global g =>
   simp only[opnd,Act.eval]
   cases h:aK E.glob g with
   | none=>simp[Rep]
   | some v=>exact (hg g v h).2.1
 | func f =>
   simp only[opnd,Act.eval,Rep]
   exact ⟨[],[],rfl,by simp[RepL],by simp[RepL]⟩
theorem cH (hs:SlotRep w O α σ N a) (hg:b7 E.glob w O α):∀ xs:List Operand,RepL w O α (args E σ xs) (xs.map a.eval)
 | []=>by simp[args,RepL]
 | x::xs=>by
   simp only[args,List.map_cons,RepL]
   exact ⟨_,_,rfl,fE hs hg x,cH hs hg xs⟩
theorem iK (hs:SlotRep w O α σ N a) (hg:b7 E.glob w O α):∀ ps:List (Nat×Operand),cu w O α (ps.map fun p=>(p.1,opnd E σ p.2)) (ps.map fun p=>(p.1,a.eval p.2))
 | []=>by simp[cu]
 | p::ps=>by
   simp only[List.map_cons,cu]
   exact ⟨_,_,rfl,fE hs hg p.2,iK hs hg ps⟩
theorem pd (hs:SlotRep w O α σ N a) (hg:b7 E.glob w O α) (x:Option Operand):RepO w O α (x.map (opnd E σ)) (x.map a.eval):=by
 cases x with
 | none=>rfl
 | some x=>exact ⟨_,rfl,fE hs hg x⟩
theorem kO {o:Oper}{next:Act→World→Prop}{Q:Exit→Act→World→Prop}{s:Sem Value}{u:Value} (he:execOp a.eval o=(do pure (.value (← s)))) (hr:s.run P w = .ok u w')
   (h:next (a.put o.dst u) w'):o.wp P a w next Q:=by
 unfold Oper.wp
 rw[he,Sem.run_bind,hr]
 exact h
theorem kN {o:Oper}{next:Act→World→Prop}{Q:Exit→Act→World→Prop}{u:Value} (he:execOp a.eval o=pure (.value u))
   (h:next (a.put o.dst u) w):o.wp P a w next Q:=by
 unfold Oper.wp
 rw[he]
 exact h
theorem qP {f:Nat}{x:Value} (h:Same P f):(callFunc f #[x]).run P w = .ok (.value x) w:=by
 obtain ⟨fn,h1,h2,h3,h4,h5⟩:=h
 unfold callFunc
 rw[Sem.run_bind,run_program,Result.andThen_ok,h1]
 simp only[h2,h3,h4,h5,Bool.false_eq_true,if_false,if_true]
 rfl
theorem gd {f:Nat}{xs:Array Value} (h:Goes P f):(callFunc f xs).run P w = .ok (.enter f xs) w:=by
 obtain ⟨fn,h1,h2,h3⟩:=h
 unfold callFunc
 rw[Sem.run_bind,run_program,Result.andThen_ok,h1]
 simp only[h3,h2,Bool.false_eq_true,if_false]
 rfl
theorem o8 (hi:Inv w O α st):Pres true w O α w (fun b=>O b∨fu α b) [] :=
 ⟨fun _ _ _ _ _ h=>h,fun b _ _ h1 h2 _=>⟨fun h=>h.elim h1 h2,fun ⟨r,ri,h,_⟩=>by simp at h⟩,(fun h=>Bool.noConfusion h),(fun h=>Bool.noConfusion h)⟩
theorem vy:Pres true w (fun b=>O b∨fu α b) [] w O α :=
 ⟨fun _ _ _ _ _ h=>h,fun b _ _ h1 _ _=>⟨fun h=>h1 (.inl h),fun h=>h1 (.inr h)⟩,(fun h=>Bool.noConfusion h),(fun h=>Bool.noConfusion h)⟩
theorem tb {f:Nat}{F:PFn}{xs:List AVal}{vs:List Value}{r:AVal} (hF:ExtP P E.glob f F) (hi:Inv w O α st) (hg:b7 E.glob w O α) (h:kp F xs=some r) (hv:RepL w O α xs vs) :
   ∃ v,(callFunc f vs.toArray).run P w = .ok (.value v) w∧Rep w O α r v:=by
 unfold kp at h
 cases hc:aA xs with
 | false=>simp[hc] at h
 | true =>
   simp only[hc,cond_true] at h
   obtain ⟨fn,e,h1,h2,h3,h4,h5,hF⟩:=hF
   obtain ⟨v,g1,g2,g3⟩:=hF xs r h hc w (fun b=>O b∨fu α b) vs (fun b hb=>hb.elim (hi.bound b) (fun ⟨r,ri,h1,h2⟩=>by rw[← h2]; exact (hi.fresh r ri h1).2))
     (fun g v hgv=>⟨(hg g v hgv).1,bj (o8 hi) v _ (fun _=>(hg g v hgv).1) (hg g v hgv).2.1,(hg g v hgv).2.2.inn⟩)
     (eJ (o8 hi) xs vs (fun _=>hc) hv)
   refine ⟨v,?_,bj vy r v (fun _=>g3) g2⟩
   unfold callFunc
   rw[Sem.run_bind,run_program,Result.andThen_ok,h1]
   simp only[h2,h3,h4,h5,Bool.false_eq_true,if_false,if_true]
   have hmk:(mark (Mark.extern f)).run P w = .ok () w:=rfl
   rw[Sem.run_bind,hmk,Result.andThen_ok,Sem.run_bind,g1]
   rfl
theorem oo {f:Nat}{F:PFn}{xs:List AVal}{vs:List Value}{r:AVal} (hF:aB P E.glob f F) (hi:Inv w O α st) (hg:b7 E.glob w O α) (h:kp F xs=some r) (hv:RepL w O α xs vs) :
   Calls P f vs.toArray w fun e w'=>∃ v,e = .returned v∧Quiet w w'∧Rep w' O α r v:=by
 unfold kp at h
 cases hc:aA xs with
 | false=>simp[hc] at h
 | true =>
   simp only[hc,cond_true] at h
   have:=hF.2 xs r h hc w (fun b=>O b∨fu α b) vs (fun b hb=>hb.elim (hi.bound b) (fun ⟨r,ri,h1,h2⟩=>by rw[← h2]; exact (hi.fresh r ri h1).2))
     (fun g v hgv=>⟨(hg g v hgv).1,bj (o8 hi) v _ (fun _=>(hg g v hgv).1) (hg g v hgv).2.1,(hg g v hgv).2.2.inn⟩)
     (eJ (o8 hi) xs vs (fun _=>hc) hv)
   refine this.mono ?_
   rintro e w' ⟨v,he,hq,hr,hcl⟩
   exact ⟨v,he,hq,bj vy r v (fun _=>hcl) hr⟩
theorem ye {f:Nat}{F:PFn}{xs:List AVal}{vs:List Value}{r:AVal} (hF:aB P E.glob f F) (hi:Inv w O α st) (hg:b7 E.glob w O α) (h:yh F xs st=some r) (hv:RepL w O α xs vs) :
   Calls P f vs.toArray w fun e w'=>∃ v,e = .returned v∧Quiet w w'∧Rep w' O α r v:=by
 unfold yh at h
 simp only[Option.bind_eq_some_iff] at h
 obtain ⟨ys,hys,v,hF',hs⟩:=h
 cases hsc:scalar v with
 | false=>rw[hsc] at hs; cases hs
 | true =>
   rw[hsc] at hs
   cases hs
   obtain ⟨h1,h2⟩:=fD hi xs ys vs hys hv
   have:=hF.2 ys r hF' h2 w O vs hi.bound (fun g v hgv=>⟨(hg g v hgv).1,bF (hg g v hgv).1 (hg g v hgv).2.1,(hg g v hgv).2.2.bare⟩) h1
   refine this.mono ?_
   rintro e w' ⟨v,he,hq,hr,hcl⟩
   exact ⟨v,he,hq,nw r v hsc hr⟩
theorem oN {o:Oper}{next:Act→World→Prop}{Q:Exit→Act→World→Prop}{f:Nat}{xs:Array Value} (he:(execOp a.eval o).run P w = .ok (.enter f xs) w)
   (h:Calls P f xs w fun e w'=>∃ v,e = .returned v∧next (a.put o.dst v) w'):o.wp P a w next Q:=by
 unfold Oper.wp
 rw[he,Oper.upon_enter]
 refine h.mono ?_
 rintro e w' ⟨v,rfl,hn⟩
 exact hn
theorem rM {o:Oper}{c:Call}{f:Nat} (ho:o.op = .call c) (hc:c.callee = .value (.func f)) (hG:Goes P f) :
   (execOp a.eval o).run P w = .ok (.enter f (c.args.toList.map a.eval).toArray) w:=by
 unfold execOp
 simp only[ho,resolve,hc,Act.eval,Deferred.ofValue,Sem.run_bind,Sem.run_pure,Result.andThen_ok,invoke]
 rw[gd hG]
 congr 2
 apply Array.ext'
 simp
set_option maxHeartbeats 1000000 in
theorem abh (hE:EnvOk P E) {o:Oper}{v:AVal} (h:opP P E σ o=some v) (hi:Inv w O α st) (hg:b7 E.glob w O α) (hs:SlotRep w O α σ N a)
   (next:Act→World→Prop) (Q:Exit→Act→World→Prop) (hn:∀ u w',Quiet w w'→Rep w' O α v u→next (a.put o.dst u) w'):o.wp P a w next Q:=by
 have R:=fun x=>fE (E:=E) hs hg x
 have same:∀ {s:Sem Value},execOp a.eval o=(do pure (.value (← s)))→(∃ r,s.run P w = .ok r w∧Rep w O α v r)→o.wp P a w next Q:=by
   intro s he ⟨r,h1,h2⟩
   exact kO he h1 (hn r w (Quiet.refl w) h2)
 unfold opP at h
 split at h
 · rename_i x ho
   cases h
   exact kN (u:=a.eval x) (by unfold execOp; simp only[ho]) (hn _ w (Quiet.refl w) (R x))
 · rename_i x ho
   cases h
   exact kN (u:=a.eval x) (by unfold execOp; simp only[ho]) (hn _ w (Quiet.refl w) (R x))
 · rename_i c p q ho
   obtain ⟨r,h1,h2⟩:=aaP (P:=P) h (R c) (R p) (R q)
   refine same (s:=do pure (if ← asBool (a.eval c) then a.eval p else a.eval q)) ?_ ⟨r,h1,h2⟩
   unfold execOp; simp only[ho,bind_assoc,pure_bind]
 · rename_i op t x y yt ho
   exact same (by unfold execOp; simp only[ho]) (adJ (P:=P) h (R x) (R y))
 · rename_i op t x ho
   exact same (by unfold execOp; simp only[ho]) (ajk (P:=P) h (R x))
 · rename_i src dst x ho
   exact same (by unfold execOp; simp only[ho]) (aaQ (P:=P) h (R x))
 · rename_i t x i ho
   exact same (by unfold execOp; simp only[ho]) (xi (P:=P) h (R x) (R i))
 · rename_i t x i ho
   exact same (by unfold execOp; simp only[ho]) (adI (P:=P) h (R x) (R i))
 · rename_i s x f ho
   exact same (by unfold execOp; simp only[ho]) (xk (P:=P) h (R x))
 · rename_i s x f ho
   exact same (by unfold execOp; simp only[ho]) (xj (P:=P) h (R x))
 · rename_i x i ho
   exact same (by unfold execOp; simp only[ho]) (qR (P:=P) h (R x))
 · rename_i t x lo hi' mx ho
   exact same (by unfold execOp; simp only[ho]) (xg (P:=P) h (R x) (pd hs hg lo) (pd hs hg hi') (pd hs hg mx))
 · rename_i t parts ho
   refine same (s:=Instr.build t (parts.map fun p=>(p.1,a.eval p.2))) (by unfold execOp; simp only[ho]) (xl (P:=P) h ?_)
   rw[Array.toList_map]
   exact iK hs hg parts.toList
 · rename_i t len parts ho
   simp only[Option.map_eq_some_iff] at h
   obtain ⟨⟨n,xs⟩,hp,rfl⟩:=h
   obtain ⟨c,e,us,h1,h2,h3,h4,h5,_⟩:=ge (P:=P) hi (vs:=parts.map fun p=>(p.1,a.eval p.2)) hp (by rw[Array.toList_map]; exact iK hs hg parts.toList)
   have hq:=Quiet.alloc w (.cells c e)
   obtain ⟨n1,n2⟩:=pi hi
   refine kO (s:=Instr.buildSlice t len (parts.map fun p=>(p.1,a.eval p.2))) (by unfold execOp; simp only[ho]) h1 (hn _ _ hq ?_)
   simp only[Rep]
   refine ⟨_,_,by rw[h4],by omega,fun _=>h4.symm,.inr ⟨h5,w.heap.size,0,rfl,n1,n2,?_⟩⟩
   refine row_of 0 (bC (Pres.of_ext (hq.ext α)) h2) (fun j hj => ?_)
   have hb:=eF (w:=w) c e (0,0)
   simp only[World.cell?,hb,Option.isSome_none,Bool.false_eq_true,if_false,Nat.zero_add]
   rw[← Array.getElem?_toList,h3]
 · rename_i t x ho
   exact same (by unfold execOp; simp only[ho]) (qQ (P:=P) h (R x))
 · rename_i x xt t ok ho
   exact same (s:=Instr.typeAssert (a.eval x) xt t ok) (by unfold execOp; simp only[ho]) (td (P:=P) h (R x))
 · rename_i fn f c ho
   cases h
   refine same (s:=Instr.makeFunc fn (f.map a.eval) (c.map a.eval)) (by unfold execOp; simp only[ho]) ⟨_,rfl,?_⟩
   simp only[Rep]
   refine ⟨f.toList.map a.eval,c.toList.map a.eval,?_,cH hs hg _,cH hs hg _⟩
   congr 1<;>(apply Array.ext'; simp)
 · rename_i x ho
   have hx:=R x
   have key:(∃ b o,a.eval x = .pointer (some ⟨b,o,none⟩))∧Rep w O α v (a.eval x):=by
     unfold wy at h
     split at h
     · rename_i r top i off he
       cases h
       rw[he] at hx
       refine ⟨?_,hx⟩
       simp only[Rep] at hx
       obtain ⟨_,b,o,e,_⟩:=hx
       exact ⟨b,o,e⟩
     · rename_i cs he
       cases h
       rw[he] at hx
       refine ⟨?_,hx⟩
       simp only[Rep] at hx
       obtain ⟨b,o,e,_⟩:=hx
       exact ⟨b,o,e⟩
     · cases h
   obtain ⟨⟨b,o',e⟩,hr⟩:=key
   exact kN (u:=a.eval x) (by unfold execOp; simp only[ho,e]) (hn _ w (Quiet.refl w) hr)
 · rename_i t x ho
   exact same (by unfold execOp; simp only[ho]) (lj (P:=P) hi (acC st h) (R x))
 · rename_i c ho
   split at h
   · rename_i hc
     split at h
     · rename_i x t hx ht
       have e1:c.args = #[x]:=by apply Array.ext'; simpa using hx
       have e2:c.argTypes = #[t]:=by apply Array.ext'; simpa using ht
       refine same (s:=Builtin.len_ #[t] o.type #[a.eval x]) ?_ (adH (P:=P) h (R x))
       unfold execOp
       simp only[ho,resolve,hc,pure_bind,invoke,builtin,e1,e2,List.map_toArray,List.map_cons,List.map_nil]
     · cases h
   · rename_i hc
     have:=li (P:=P) (tys:=c.argTypes) (ty:=o.type) h (cH hs hg c.args.toList)
     refine same (s:=Builtin.max_ c.argTypes o.type (c.args.map a.eval)) ?_ ?_
     · unfold execOp
       simp only[ho,resolve,hc,pure_bind,invoke,builtin]
     · obtain ⟨r,h1,h2⟩:=this
       refine ⟨r,?_,h2⟩
       rw[← h1]
       have e:(c.args.toList.map a.eval).toArray=c.args.map a.eval:=by apply Array.ext'; simp
       rw[e]
       rfl
   · rename_i hc
     have:=li (P:=P) (tys:=c.argTypes) (ty:=o.type) h (cH hs hg c.args.toList)
     refine same (s:=Builtin.min_ c.argTypes o.type (c.args.map a.eval)) ?_ ?_
     · unfold execOp
       simp only[ho,resolve,hc,pure_bind,invoke,builtin]
     · obtain ⟨r,h1,h2⟩:=this
       refine ⟨r,?_,h2⟩
       rw[← h1]
       have e:(c.args.toList.map a.eval).toArray=c.args.map a.eval:=by apply Array.ext'; simp
       rw[e]
       rfl
   · rename_i f hc
     split at h
     · rename_i F hF
       have hS:=hE.pure f F hF
       refine oN (rM ho hc hS.1) ?_
       refine (oo hS hi hg h (cH hs hg c.args.toList)).mono ?_
       rintro e w' ⟨v',he,hq,hr⟩
       exact ⟨v',he,hn v' w' hq hr⟩
     · cases hm:memN f E.same with
       | false =>
         rw[hm] at h
         simp only[cond_false] at h
         split at h
         · rename_i F hF
           obtain ⟨u,hu,hr1⟩:=tb (w:=w) (hE.ext f F hF) hi hg h (cH hs hg c.args.toList)
           have e1:(c.args.toList.map a.eval).toArray=c.args.map a.eval:=by apply Array.ext'; simp
           rw[e1] at hu
           have hr:(execOp a.eval o).run P w = .ok (.value u) w:=by
             have ef:a.eval (.func f) = .func (.func f) #[] #[]:=rfl
             unfold execOp
             simp only[ho,resolve,hc,ef,Deferred.ofValue,Sem.run_bind,Sem.run_pure,Result.andThen_ok,invoke]
             simpa using hu
           unfold Oper.wp
           rw[hr]
           exact hn _ w (Quiet.refl w) hr1
         · cases h
       | true =>
         rw[hm] at h
         simp only[cond_true] at h
         split at h
         · rename_i x hx
           cases h
           have hv:=cH (E:=E) hs hg c.args.toList
           rw[hx] at hv
           simp only[RepL] at hv
           obtain ⟨u,us,hu,hr1,rfl⟩:=hv
           have e1:c.args.map a.eval = #[u]:=by apply Array.ext'; simpa using hu
           have hr:(execOp a.eval o).run P w = .ok (.value u) w:=by
             have ef:a.eval (.func f) = .func (.func f) #[] #[]:=rfl
             unfold execOp
             simp only[ho,resolve,hc,ef,Deferred.ofValue,Sem.run_bind,Sem.run_pure,Result.andThen_ok,invoke,e1]
             have:=qP (w:=w) (x:=u) (hE.same f hm)
             simpa using this
           unfold Oper.wp
           rw[hr]
           exact hn _ w (Quiet.refl w) hr1
         · cases h
   · cases h
 · cases h
theorem act (hE:EnvOk P E) {f:Nat}{xs:List AVal}{vs:List Value}{r:AVal}{st':aq} (h:il E f xs st=some (r,st')) (hi:Inv w O α st) (hg:b7 E.glob w O α) (hv:RepL w O α xs vs) :
   Goes P f∧Calls P f vs.toArray w fun e w'=>∃ v α',e = .returned v∧Ext w α w' α'∧Inv w' O α' st'∧Rep w' O α' r v:=by
 unfold il at h
 split at h
 · rename_i F hF
   simp only[Option.map_eq_some_iff,Prod.mk.injEq] at h
   obtain ⟨v,hc,rfl,rfl⟩:=h
   have hS:=hE.pure f F hF
   refine ⟨hS.1,(oo hS hi hg hc hv).mono ?_⟩
   rintro e w' ⟨u,he,hq,hr⟩
   exact ⟨u,α,he,hq.ext α,hq.inv hi,hr⟩
 · split at h
   · rename_i F hF
     simp only[Option.map_eq_some_iff,Prod.mk.injEq] at h
     obtain ⟨v,hc,rfl,rfl⟩:=h
     have hS:=hE.look f F hF
     refine ⟨hS.1,(ye hS hi hg hc hv).mono ?_⟩
     rintro e w' ⟨u,he,hq,hr⟩
     exact ⟨u,α,he,hq.ext α,hq.inv hi,hr⟩
   split at h
   · rename_i F hF
     have hS:=hE.raw f F hF
     exact ⟨hS.1,hS.2 xs st r st' h w O α vs hi hg hv⟩
   · cases h
theorem cQ {o:Oper}{next:Act→World→Prop}{Q:Exit→Act→World→Prop}{s:Sem Value}{v:AVal}{st':aq} (he:execOp a.eval o=(do pure (.value (← s)))) (hd:Done P s w O α v st')
   (hn:∀ u w' α',Ext w α w' α'→Inv w' O α' st'→Rep w' O α' v u→next (a.put o.dst u) w'):o.wp P a w next Q:=by
 obtain ⟨u,w',α',h1,h2,h3,h4⟩:=hd
 exact kO he h1 (hn u w' α' h2 h3 h4)
theorem nA {e n:Nat}{t:TypeId}{x y:AVal}{b:Bool}{u1 u2:Value} (hi:Inv w O α st) (hb:eS st x y=some b) (he:P.underlying t=some (.pointer e)) (hn:szOf P e=some n) (hn0:n≠0)
   (hx:Rep w O α x u1) (hy:Rep w O α y u2):(∀ D,(Op.equalIn (D+1) t u1 u2).run P w = .ok b w)∧∃ p q,u1 = .pointer p∧u2 = .pointer q:=by
 have nilx:∀ {r top i off u},Rep w O α (.ptr r top i off) u→∃ b o,u = .pointer (some ⟨b,o,none⟩):=by
   intro r top i off u hu
   simp only[Rep] at hu
   obtain ⟨_,b,o,e,_⟩:=hu
   exact ⟨b,o,e⟩
 unfold eS at hb
 split at hb
 · simp only[Rep] at hx hy; subst hx; subst hy; cases hb
   exact ⟨fun D=>by simp[Op.equalIn,run_underlying he],_,_,rfl,rfl⟩
 · simp only[Rep] at hx hy; subst hx; obtain ⟨_,_,rfl,_⟩:=hy; cases hb
   exact ⟨fun D=>by simp[Op.equalIn,run_underlying he],_,_,rfl,rfl⟩
 · simp only[Rep] at hx hy; subst hy; obtain ⟨_,_,rfl,_⟩:=hx; cases hb
   exact ⟨fun D=>by simp[Op.equalIn,run_underlying he],_,_,rfl,rfl⟩
 · obtain ⟨p,q,rfl⟩:=nilx hy
   simp only[Rep] at hx; subst hx
   simp only[Option.map_eq_some_iff] at hb
   obtain ⟨_,_,rfl⟩:=hb
   exact ⟨fun D=>by simp[Op.equalIn,run_underlying he],_,_,rfl,rfl⟩
 · obtain ⟨p,q,rfl⟩:=nilx hx
   simp only[Rep] at hy; subst hy
   simp only[Option.map_eq_some_iff] at hb
   obtain ⟨_,_,rfl⟩:=hb
   exact ⟨fun D=>by simp[Op.equalIn,run_underlying he],_,_,rfl,rfl⟩
 · split at hb
   · rename_i hc
     obtain ⟨rfl,rfl,rfl,rfl⟩:=hc
     simp only[Option.map_eq_some_iff] at hb
     obtain ⟨⟨m,xs,z⟩,hcz,rfl⟩:=hb
     obtain ⟨h1,h2⟩:=cC hi hcz
     obtain ⟨ri,g1,g2,g3,g4,_⟩:=hi.alive h1
     simp only[Rep] at hx hy
     obtain ⟨_,b1,o1,rfl,k1⟩:=hx
     obtain ⟨_,b2,o2,rfl,k2⟩:=hy
     obtain ⟨rfl,rfl⟩:=(k1 ri g1).2 g4
     obtain ⟨rfl,rfl⟩:=(k2 ri g1).2 g4
     refine ⟨fun D => ?_,_,_,rfl,rfl⟩
     have hsz:=EM.run_sizeOf (P:=P) (w:=w) hn
     simp only[Op.equalIn,Sem.run_bind,run_underlying he,Result.andThen_ok,hsz]
     rw[if_pos hn0]
     simp[sameAddr]
   · cases hb
 · cases hb
theorem xh {op:BinOp}{t:TypeId}{xo yo:Operand}{x y v:AVal}{u1 u2:Value} (hi:Inv w O α st) (h:oy P op t st x y=some v)
   (hx:Rep w O α x u1) (hy:Rep w O α y u2):∃ u,(do eqGuard op t xo yo u1 u2; binOp op t u1 u2:Sem Value).run P w = .ok u w∧Rep w O α v u:=by
 unfold oy at h
 cases hz:Nat.beq (lw P t) 0 with
 | true=>simp[hz] at h
 | false =>
   simp only[hz,cond_false] at h
   have hp:∃ e n,P.underlying t=some (.pointer e)∧szOf P e=some n∧n≠0:=by
     unfold lw at hz
     split at hz
     · rename_i e he
       cases hn:szOf P e with
       | none=>simp[hn] at hz
       | some n=>refine ⟨e,n,he,hn,fun h0 => ?_⟩; subst h0; simp[hn] at hz
     · simp at hz
   obtain ⟨e,n,he,hn,hn0⟩:=hp
   have gok:∀ p q,(eqGuard op t xo yo (.pointer p) (.pointer q)).run P w = .ok () w:=by
     intro p q; cases op<;>simp[eqGuard]
   split at h
   · simp only[Option.map_eq_some_iff] at h
     obtain ⟨b,hb,rfl⟩:=h
     obtain ⟨h1,p,q,rfl,rfl⟩:=nA (P:=P) hi hb he hn hn0 hx hy
     have h2:(Op.equal t (.pointer p) (.pointer q)).run P w = .ok b w:=h1 9999
     refine ⟨.bool b,?_,by simp[Rep]⟩
     rw[Sem.run_bind,gok,Result.andThen_ok]
     simp only[binOp,Sem.run_bind,h2,Result.andThen_ok,Sem.run_pure]
   · simp only[Option.map_eq_some_iff] at h
     obtain ⟨b,hb,rfl⟩:=h
     obtain ⟨h1,p,q,rfl,rfl⟩:=nA (P:=P) hi hb he hn hn0 hx hy
     have h2:(Op.equal t (.pointer p) (.pointer q)).run P w = .ok b w:=h1 9999
     refine ⟨.bool !b,?_,by simp[Rep]⟩
     rw[Sem.run_bind,gok,Result.andThen_ok]
     simp only[binOp,Sem.run_bind,h2,Result.andThen_ok,Sem.run_pure]
   · cases h
set_option maxHeartbeats 1000000 in
theorem od {x v:AVal}{u:Value}{st':aq} (hi:Inv w O α st) (h:fJ x st=some (v,st')) (hx:Rep w O α x u):∃ α',Ext w α w α'∧Inv w O α' st'∧Rep w O α' v u:=by
 unfold fJ at h
 split at h
 · rename_i r n top off len
   split at h
   · rename_i hc
     obtain ⟨rfl,rfl⟩:=hc
     rw[Option.map_eq_some_iff] at h
     obtain ⟨xs,hrow,h⟩:=h
     cases h
     obtain ⟨ri,g1,g2,g3,g4,g5,g6,c,el,fz,g7,g8,g9,g10,g11⟩:=hi.alive hrow
     simp only[Rep] at hx
     obtain ⟨hrl,a,cap,rfl,k1,k2,k3⟩:=hx
     obtain ⟨q1,q2,q3,q4⟩:=(k3 ri g1).2 g4
     rw[Nat.sub_zero] at q3
     subst q3
     obtain ⟨t1,t2⟩:=hi.drop (w':=w) g1 rfl rfl rfl (Nat.le_refl _) (Nat.le_refl _) (fun _ _ _=>rfl)
     refine ⟨_,t1,t2,?_⟩
     simp only[Rep]
     refine ⟨a,ri.cap,by rw[g5],by omega,(fun h=>by cases h),?_⟩
     cases xs with
     | nil=>exact .inl rfl
     | cons y ys =>
       simp only[List.length_cons] at g5
       have ha:=q4 (by omega)
       rw[Nat.zero_mul] at ha
       refine .inr ⟨g3,ri.block,0,ha,(hi.fresh r ri g1).1,?_,gO (Pres.of_ext t1) n ri.block rfl _ 0 g9⟩
       rintro ⟨r',ri',h1,h2⟩
       by_cases hr:r'=r
       · subst hr
         rw[List.getElem?_set_self hrl] at h1; cases h1
       · rw[List.getElem?_set_ne (Ne.symm hr)] at h1
         exact hr (hi.inj r' r ri' ri h1 g1 h2)
   · cases h
 · cases h
   exact ⟨α,Ext.refl _ _,hi,hx⟩
theorem xP {x v:AVal}{u:Value}{st':aq} (hi:Inv w O α st) (h:lY x st=some (v,st')) (hx:Rep w O α x u):∃ α',Ext w α w α'∧Inv w O α' st'∧Rep w O α' v u:=by
 unfold lY at h
 split at h
 · rename_i r
   rw[Option.map_eq_some_iff] at h
   obtain ⟨⟨n,xs,z⟩,hc,h⟩:=h
   cases h
   obtain ⟨hrow,hz⟩:=cC hi hc
   obtain ⟨ri,g1,g2,g3,g4,g5,g6,c,el,fz,g7,g8,g9,g10,g11⟩:=hi.alive hrow
   simp only[Rep] at hx
   obtain ⟨hrl,b,o,rfl,hx⟩:=hx
   obtain ⟨rfl,rfl⟩:=(hx ri g1).2 g4
   obtain ⟨t1,t2⟩:=hi.drop (w':=w) g1 rfl rfl rfl (Nat.le_refl _) (Nat.le_refl _) (fun _ _ _=>rfl)
   refine ⟨_,t1,t2,?_⟩
   simp only[Rep]
   refine ⟨ri.block,_,rfl,.inr ⟨(hi.fresh r ri g1).1,?_,?_⟩⟩
   · rintro ⟨r',ri',h1,h2⟩
     by_cases hr:r'=r
     · subst hr
       rw[List.getElem?_set_self hrl] at h1; cases h1
     · rw[List.getElem?_set_ne (Ne.symm hr)] at h1
       exact hr (hi.inj r' r ri' ri h1 g1 h2)
   · obtain ⟨v',k1,k2,k3,k4,_⟩:=gP g9 hz
     exact jk _ _ (fun j d hd=>by
       obtain ⟨u,q1,q2⟩:=jc k1 k2 k3 hd
       have hlt:j<n:=by
         rcases Nat.lt_or_ge j n with h | h
         · exact h
         · rw[List.getElem?_eq_none (by omega)] at hd; cases hd
       refine ⟨u,?_,uC t1 q2⟩
       have:=k4 j hlt
       rw[q1,Nat.zero_mul,Nat.zero_add] at this
       rw[Nat.zero_mul,Nat.zero_add]
       exact this)
 · cases h
theorem tQ {σ':aN}{st':aq}:∀ (ks:List Nat) (σ:aN) (st:aq) (α:AM),Inv w O α st→SlotRep w O α σ N a→frzA ks σ st=some (σ',st')→∃ α',Ext w α w α'∧Inv w O α' st'∧SlotRep w O α' σ' N a
 | [],σ,st,α,hi,hs,h=>by
   simp only[frzA] at h
   cases h
   exact ⟨α,Ext.refl _ _,hi,hs⟩
 | k::ks,σ,st,α,hi,hs,h=>by
   simp only[frzA] at h
   rw[Option.bind_eq_some_iff] at h
   obtain ⟨⟨v,st1⟩,h1,h2⟩:=h
   obtain ⟨α1,e1,i1,r1⟩:=xP hi h1 (hs.slot k)
   have hs1:=hs.ext e1
   obtain ⟨α2,e2,i2,s2⟩:=tQ ks ((k,v)::σ) st1 α1 i1 ⟨fun t=>by
     simp only[getS]
     cases hk:Nat.beq k t with
     | true=>rw[Nat.beq_eq] at hk; subst hk; exact r1
     | false=>exact hs1.slot t,hs1.defers,hs1.size⟩ h2
   exact ⟨α2,e1.trans e2,i2,s2⟩
set_option maxHeartbeats 1600000 in
theorem abf (hE:EnvOk P E) {o:Oper}{v:AVal}{st':aq} (h:opS P E σ st o=some (v,st')) (hi:Inv w O α st) (hg:b7 E.glob w O α) (hs:SlotRep w O α σ N a)
   (next:Act→World→Prop) (Q:Exit→Act→World→Prop) (hn:∀ u w' α',Ext w α w' α'→Inv w' O α' st'→Rep w' O α' v u→next (a.put o.dst u) w'):o.wp P a w next Q:=by
 have R:=fun x=>fE (E:=E) hs hg x
 unfold opS at h
 split at h
 · rename_i op t x y yt ho
   simp only[Option.map_eq_some_iff,Prod.mk.injEq] at h
   obtain ⟨v',h,rfl,rfl⟩:=h
   exact cQ (s:=do eqGuard op t x y (a.eval x) (a.eval y); binOp op t (a.eval x) (a.eval y)) (by unfold execOp; simp only[ho]) (Done.pure hi (xh (P:=P) hi h (R x) (R y))) hn
 · rename_i src dst x ho
   exact cQ (s:=convert src dst (a.eval x)) (by unfold execOp; simp only[ho]) (xW hi h (R x)) hn
 · rename_i t len parts ho
   simp only[Option.map_eq_some_iff] at h
   obtain ⟨⟨n,xs⟩,hp,he⟩:=h
   have hd:=ko (P:=P) hi (vs:=parts.map fun p=>(p.1,a.eval p.2)) hp (by rw[Array.toList_map]; exact iK hs hg parts.toList)
   simp only[] at he
   rw[he] at hd
   exact cQ (s:=Instr.buildSlice t len (parts.map fun p=>(p.1,a.eval p.2))) (by unfold execOp; simp only[ho]) hd hn
 · rename_i t x ho
   simp only[Option.map_eq_some_iff,Prod.mk.injEq] at h
   obtain ⟨v',h,rfl,rfl⟩:=h
   exact cQ (s:=Instr.loadAt t (a.eval x)) (by unfold execOp; simp only[ho]) (Done.pure hi (lj (P:=P) hi h (R x))) hn
 · rename_i t x y ho
   simp only[Option.map_eq_some_iff,Prod.mk.injEq] at h
   obtain ⟨st2,h,rfl,rfl⟩:=h
   obtain ⟨w',α',h1,h2,h3⟩:=xU (P:=P) hi h (R x) (R y)
   unfold Oper.wp
   have he:execOp a.eval o=(do Instr.storeAt t (a.eval x) (a.eval y); pure .skip):=by unfold execOp; simp only[ho]
   rw[he,Sem.run_bind,h1]
   exact hn _ w' α' h2 h3 (by simp[Rep])
 · rename_i t ho
   exact cQ (s:=Instr.alloc t true (.tuple #[])) (by unfold execOp; simp only[ho]) (xY hi h) hn
 · rename_i t x ho
   exact cQ (s:=Instr.box t (a.eval x)) (by unfold execOp; simp only[ho]) (wh hi h (R x)) hn
 · rename_i t l c ho
   exact cQ (s:=Instr.makeSlice t (a.eval l) (a.eval c)) (by unfold execOp; simp only[ho]) (aca hi h (R l) (R c)) hn
 · rename_i t x ho
   exact cQ (s:=Instr.range t (a.eval x)) (by unfold execOp; simp only[ho]) (xV hi h (R x)) hn
 · rename_i it b ho
   exact cQ (s:=Instr.next (a.eval it) b o.type) (by unfold execOp; simp only[ho]) (ab9 hi h (R it)) hn
 · rename_i x ho
   obtain ⟨α',g1,g2,g3⟩:=od hi h (R x)
   unfold Oper.wp
   have he:execOp a.eval o=pure (.value (a.eval x)):=by unfold execOp; simp only[ho]
   rw[he]
   exact hn _ w α' g1 g2 g3
 · rename_i x ho
   obtain ⟨α',g1,g2,g3⟩:=od hi h (R x)
   unfold Oper.wp
   have he:execOp a.eval o=pure (.value (a.eval x)):=by unfold execOp; simp only[ho]
   rw[he]
   exact hn _ w α' g1 g2 g3
 · rename_i t r ho
   cases r with
   | some _=>cases h
   | none =>
   simp only[Option.isNone_none,cond_true,Option.some.injEq,Prod.mk.injEq] at h
   obtain ⟨rfl,rfl⟩:=h
   exact cQ (s:=Instr.makeMap t none) (by unfold execOp; simp only[ho,Option.map_none]) (rR hi) hn
 · rename_i t m k ok ho
   simp only[Option.map_eq_some_iff,Prod.mk.injEq] at h
   obtain ⟨v',h,rfl,rfl⟩:=h
   exact cQ (s:=Instr.lookup t (a.eval m) (a.eval k) ok) (by unfold execOp; simp only[ho]) (Done.pure hi (tc (P:=P) hi h (R m) (R k))) hn
 · rename_i t m k x ho
   simp only[Option.map_eq_some_iff,Prod.mk.injEq] at h
   obtain ⟨st2,h,rfl,rfl⟩:=h
   obtain ⟨w',α',h1,h2,h3⟩:=tX (P:=P) hi h (R m) (R k) (R x)
   unfold Oper.wp
   have he:execOp a.eval o=(do Instr.mapUpdate t (a.eval m) (a.eval k) (a.eval x); pure .skip):=by unfold execOp; simp only[ho]
   rw[he,Sem.run_bind,h1]
   exact hn _ w' α' h2 h3 (by simp[Rep])
 · rename_i c ho
   split at h
   · rename_i hc
     split at h
     · rename_i x y hx
       have e1:c.args = #[x,y]:=by apply Array.ext'; simpa using hx
       have ht:∃ t u,c.argTypes.toList=[t,u]:=by
         unfold cD at h
         split at h
         · rename_i t u htu; exact ⟨t,u,htu⟩
         · cases h
       obtain ⟨t,u,ht⟩:=ht
       rw[ht] at h
       have e2:c.argTypes = #[t,u]:=by apply Array.ext'; simpa using ht
       refine cQ (s:=Builtin.append_ #[t,u] o.type #[a.eval x,a.eval y]) ?_ (mi hi h (R x) (R y)) hn
       unfold execOp
       simp only[ho,resolve,hc,pure_bind,invoke,builtin,e1,e2,List.map_toArray,List.map_cons,List.map_nil]
     · cases h
   · rename_i hc
     split at h
     · rename_i x hx
       simp only[Option.map_eq_some_iff,Prod.mk.injEq] at h
       obtain ⟨v',h,rfl,rfl⟩:=h
       have hv:=cH (E:=E) hs hg c.args.toList
       rw[hx] at hv
       simp only[RepL] at hv
       obtain ⟨u,us,hu,hr1,rfl⟩:=hv
       have e1:c.args.map a.eval = #[u]:=by apply Array.ext'; simpa using hu
       refine cQ (s:=Builtin.unsafeSliceData_ c.argTypes o.type #[u]) ?_ (Done.pure hi (oW (P:=P) hi h hr1)) hn
       unfold execOp
       simp only[ho,resolve,hc,pure_bind,invoke,builtin,e1]
     · cases h
   · rename_i hc
     split at h
     · rename_i x y hx
       have hv:=cH (E:=E) hs hg c.args.toList
       rw[hx] at hv
       simp only[RepL] at hv
       obtain ⟨u,us,hu,hr1,u2,us2,rfl,hr2,rfl⟩:=hv
       have e1:c.args.map a.eval = #[u,u2]:=by apply Array.ext'; simpa using hu
       refine cQ (s:=Builtin.unsafeString_ c.argTypes.toList.toArray o.type #[u,u2]) ?_ (mV hi h hr1 hr2) hn
       unfold execOp
       simp only[ho,resolve,hc,pure_bind,invoke,builtin,e1,Array.toArray_toList]
     · cases h
   · rename_i hc
     split at h
     · rename_i x hx
       have hv:=cH (E:=E) hs hg c.args.toList
       rw[hx] at hv
       simp only[RepL] at hv
       obtain ⟨u,us,hu,hr1,rfl⟩:=hv
       have e1:c.args.map a.eval = #[u]:=by apply Array.ext'; simpa using hu
       refine cQ (s:=Builtin.clear_ c.argTypes.toList.toArray o.type #[u]) ?_ (xX hi h hr1) hn
       unfold execOp
       simp only[ho,resolve,hc,pure_bind,invoke,builtin,e1,Array.toArray_toList]
     · cases h
   · rename_i f hc
     have h:il E f (args E σ c.args.toList) st=some (v,st'):=by
       cases hq:memN f E.quiet with
       | true=>rw[hq,cond_true] at h; exact (lu h).1
       | false=>rw[hq,cond_false] at h; exact h
     obtain ⟨hG,hcalls⟩:=act hE h hi hg (cH hs hg c.args.toList)
     refine oN (rM ho hc hG) (hcalls.mono ?_)
     rintro e w' ⟨u,α',he,h1,h2,h3⟩
     exact ⟨u,he,hn u w' α' h1 h2 h3⟩
   · rename_i x hne hc
     unfold yg at h
     split at h
     · rename_i f p q hx
       have hr:=R x
       rw[hx] at hr
       simp only[Rep] at hr
       obtain ⟨l,m,hev,hl,hm⟩:=hr
       have hv:=cE (cE hl (cH hs hg c.args.toList)) hm
       obtain ⟨hG,hcalls⟩:=act hE h hi hg hv
       refine oN (f:=f) (xs:=(l++c.args.toList.map a.eval++m).toArray) ?_ (hcalls.mono ?_)
       · unfold execOp
         simp only[ho,resolve,hc,hev,Deferred.ofValue,Sem.run_bind,Sem.run_pure,Result.andThen_ok,invoke]
         rw[gd hG]
         congr 2
         apply Array.ext'
         simp
       · rintro e w' ⟨u,α',he,h1,h2,h3⟩
         exact ⟨u,he,hn u w' α' h1 h2 h3⟩
     · cases h
   · cases h
 · cases h
end
end Go.EM
