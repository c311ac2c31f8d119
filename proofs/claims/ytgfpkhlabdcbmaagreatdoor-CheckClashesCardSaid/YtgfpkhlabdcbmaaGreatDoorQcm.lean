import Derived.Test.YtgfpkhlabdcbmaaGreatDoorQca
set_option linter.unusedVariables false
set_option linter.unusedSimpArgs false
set_option maxRecDepth 100000
namespace Go.Proofs.YtgfpkhlabdcbmaaGreatDoor.Q
open Go.EM Go.TY Go.Proofs Go.Proofs.YtgfpkhlabdcbmaaGreatDoor.Y
structure OpOk (o:Op1):Prop where
 kind:1≤o.1∧o.1≤5
 path:checkM o.2.1=0
 val:o.1≠3→o.1≠5→rightV o.2.2.1=true
 noval:o.1=3∨o.1=5→o.2.2.1=zeroV
 num:o.1=3→o.2.2.2.1≠0∧o.2.2.2.1≤2147483647 ∧ -2147483647≤o.2.2.2.1
 nonum:o.1≠3→o.2.2.2.1=0
 noseen:o.1=2∨o.1=3→o.2.2.2.2.1=[]
 seen:o.2.2.2.2.1.length≤256∧refsM o.2.2.2.2.1=true
theorem opM_ok {o:Op1} (h:opM o=0):OpOk o:=by
 unfold opM at h
 by_cases a1:o.1<1∨5<o.1
 · rw[zp a1] at h; omega
 rw[zn a1] at h
 by_cases a2:checkM o.2.1≠0
 · rw[zp a2] at h; exact absurd h a2
 rw[zn a2] at h
 by_cases a3:(o.1=3∨o.1=5)∧o.2.2.1≠zeroV
 · rw[zp a3] at h; omega
 rw[zn a3] at h
 by_cases a4:¬ (o.1=3∨o.1=5)∧rightV o.2.2.1=false
 · rw[zp a4] at h; omega
 rw[zn a4] at h
 by_cases a5:o.1≠3∧o.2.2.2.1≠0
 · rw[zp a5] at h; omega
 rw[zn a5] at h
 by_cases a6:o.1=3∧(o.2.2.2.1=0∨o.2.2.2.1>2147483647∨o.2.2.2.1 < -2147483647)
 · rw[zp a6] at h; omega
 rw[zn a6] at h
 by_cases a7:(o.1=2∨o.1=3)∧0<o.2.2.2.2.1.length
 · rw[zp a7] at h; omega
 rw[zn a7] at h
 by_cases a8:256<o.2.2.2.2.1.length
 · rw[zp a8] at h; omega
 rw[zn a8] at h
 by_cases a9:refsM o.2.2.2.2.1=true
 · refine ⟨by omega,Classical.not_not.1 a2,fun h1 h2 => ?_,fun h1 => ?_,fun h1 => ?_,fun h1 => ?_,fun h1 => ?_,by omega,a9⟩
   · cases hr:rightV o.2.2.1 with
     | true=>rfl
     | false=>exact absurd ⟨by omega,hr⟩ a4
   · exact Classical.not_not.1 fun h2=>a3 ⟨h1,h2⟩
   · exact ⟨fun h2=>a6 ⟨h1,.inl h2⟩,Int.not_lt.1 fun h2=>a6 ⟨h1,.inr (.inl h2)⟩,Int.not_lt.1 fun h2=>a6 ⟨h1,.inr (.inr h2)⟩⟩
   · exact Classical.not_not.1 fun h2=>a5 ⟨h1,h2⟩
   · exact List.length_eq_zero_iff.1 (by omega)
 · rw[zn a9] at h; omega
structure ItemsOk (l:List Item1):Prop where
 len:l.length≤320
 op:∀ x∈l,OpOk x.2.1∧shortO x.2.1∧putKind x.2.1.1=true
theorem items_ok {l:List Txn1}{u:List Ref1} (h:TxnsOk l 20):ItemsOk (allM l u):=by
 constructor
 · have : (allM l u).length ≤ l.length * 16 := by
     unfold allM
     refine flat_len fun t ht => ?_
     split
     · exact Nat.le_trans items_len (h.all t ht).len
     · simp
   have:=h.len; omega
 · intro x hx
   obtain ⟨t,ht,j,o,ho,hk,_,_,rfl⟩:=allM_mem hx
   obtain ⟨h1,h2⟩:=(h.all t ht).ops o ho
   refine ⟨?_,h1,hk⟩
   rcases h2 with h2 | ⟨_,h2⟩
   · exact opM_ok h2
   · unfold goneM at h2
     unfold putKind at hk
     simp only[decide_eq_true_eq] at h2 hk
     omega
theorem itemsOk_low {l:List Item1} (h:ItemsOk l):LowI l:=⟨by have:=h.len; omega,fun x hx=>by
 have:=(h.op x hx).2.1
 exact ⟨by have:=this.1; omega,fun s hs=>by have:=this.2.1 s hs; omega⟩⟩
theorem ins_atU {A:Type}{p q:List A}{y:A} (h:(p++q).length<1000000):insT (p++q) (p.length:Int) [y]=some (p++y::q):=by
 simp only[List.length_append] at h
 unfold insT
 rw[zp ⟨by omega,by simp only[List.length_append]; omega,by simp,by simp only[List.length_append,zl,List.length_nil]; unfold most; omega⟩]
 simp
theorem clone_t {p:Path} (hp:p.length<1000000):zam p=some p:=by
 unfold zam cloneT
 rw[zp (by simp only[most]; omega)]
theorem flat_one {A B:Type}{g:A→B}:∀ {l:List A},(l.flatMap fun x=>[g x])=l.map g
 | []=>rfl
 | x::l=>by rw[List.flatMap_cons,List.map_cons,flat_one]; rfl
end Go.Proofs.YtgfpkhlabdcbmaaGreatDoor.Q
namespace Go.Proofs.YtgfpkhlabdcbmaaGreatDoor.Q
open Go.EM Go.TY Go.Proofs Go.Proofs.YtgfpkhlabdcbmaaGreatDoor.Y
theorem valued_t {o:Op1} (hv:o.2.2.1.2.2.1.length<1000000):zcc o=some (if o.1=3∨o.1=5 then decide (o.2.2.1=zeroV) else rightV o.2.2.1):=by
 unfold zcc
 simp only[cond_dec,eqVal,valueRight_t hv,zb]
 have ez:((0,0,[],()):Val)=zeroV:=rfl
 simp only[ez]
 by_cases h3:o.1=3
 · rw[zp h3,zp (.inl h3)]
 · by_cases h5:o.1=5
   · rw[zn h3,zp h5,zp (.inr h5)]
   · rw[zn h3,zn h5,zn (by omega)]
theorem amount_t (o:Op1):zca o=some (if o.1=3 then decide (o.2.2.2.1≠0 ∧ -2147483647≤o.2.2.2.1∧o.2.2.2.1≤2147483647) else decide (o.2.2.2.1=0)):=by
 unfold zca
 simp only[cond_dec,cond_ndec]
 by_cases h3:o.1=3
 · rw[zp h3,zp h3]
   by_cases h0:o.2.2.2.1=0
   · rw[zp h0,zf (by omega)]
   · rw[zn h0]
     by_cases h1:o.2.2.2.1 ≥ -2147483647
     · rw[zp h1]
       congr 1
       rw[decide_eq_decide]; omega
     · rw[zn h1,zf (by omega)]
 · rw[zn h3,zn h3]
theorem opRefs_nil:zco []=some true:=by
 unfold zco
 exact loopT_inr (by unfold zco_l2; simp only[cond_dec]; rw[zn (by simp)])
theorem refsM_nil:refsM []=true:=by
 unfold refsM
 rw[zp (by intro i h; simp at h)]
theorem opCheck_t {o:Op1} (h:shortO o) (hs:o.2.2.2.2.1=[]):zcj o=some (opM o):=by
 obtain ⟨s1,s2,s3,s4⟩:=h
 have hv:=valued_t (o:=o) (by omega)
 have ha:=amount_t o
 obtain ⟨k,p,v,n,sn,⟨⟩⟩:=o
 simp only at s1 s2 s3 s4 hs hv ha
 subst hs
 unfold zcj opM
 simp only[cond_dec,cond_ndec,check_t (p:=p) (fun x hx=>by have:=s2 x hx; omega),hv,ha,opRefs_nil,refsM_nil,zb]
 by_cases a1:k<1
 · rw[zp a1,zp (.inl a1)]
 rw[zn a1]
 by_cases a2:k>5
 · rw[zp a2,zp (.inr a2)]
 rw[zn a2]
 rw[zn (show ¬ (k<1∨5<k) by omega)]
 by_cases a3:¬ checkM p=0
 · rw[zn a3,zp (show checkM p≠0 from a3)]
 have a3:checkM p=0:=Classical.not_not.1 a3
 rw[zp a3,zn (show ¬ checkM p≠0 from fun e=>e a3)]
 have fl:∀ b:Bool,((cond (!b) (some (decide ((([]:List Ref1).length:Int)>0),())) (some (false,()))):Option (Bool×Unit))=some (false,()):=by intro b; cases b<;>rfl
 have ff:∀ f:Bool×Unit→Option Int,((if k=1 then some (true,()) else some (decide (k=4),()):Option (Bool×Unit)).bind fun v2=>(cond v2.1 (some (true,())) (some (decide (k=5),())):Option (Bool×Unit)).bind f)=f (decide (k=1)||decide (k=4)||decide (k=5),()):=by
   intro f
   by_cases h1:k=1
   · rw[zp h1,zt h1]; rfl
   · rw[zn h1,zf h1]
     cases h4:decide (k=4)<;>rfl
 rw[ff]
 simp only[fl,zb]
 by_cases k3:k=3
 · subst k3
   by_cases hz:v=zeroV
   · by_cases hn:n≠0 ∧ -2147483647≤n∧n≤2147483647
     · have h2:¬ (n=0∨n>2147483647∨n < -2147483647):=by omega
       simp[hz,hn,h2]
     · have h2:n=0∨n>2147483647∨n < -2147483647:=by omega
       simp[hz,hn,h2]
   · simp[hz]
 · by_cases k5:k=5
   · subst k5
     by_cases hz:v=zeroV
     · by_cases n0:n=0
       · simp[hz,n0]
       · simp[hz,n0]
     · simp[hz]
   · cases hr:rightV v with
     | false=>simp[k3,k5,hr]
     | true =>
       by_cases n0:n=0
       · simp[k3,k5,hr,n0]
       · simp[k3,k5,hr,n0]
def clashM (p:Path) (a:Int) (q:Path) (b:Int):Bool:=if p=q then !decide (a=b) else underM p q||underM q p
theorem clashM_sym (p:Path) (a:Int) (q:Path) (b:Int):clashM p a q b=clashM q b p a:=by
 unfold clashM
 by_cases h:p=q
 · rw[zp h,zp h.symm]
   congr 1
   rw[decide_eq_decide]; omega
 · rw[zn h,zn (fun e=>h e.symm),Bool.or_comm]
theorem clash1_t {x:Item1}{o:Op1}{k:Int} (hx:x.2.1.2.1.length<1000000) (ho:o.2.1.length<1000000):zax x o k=some (clashM x.2.1.2.1 (leafM x.2.1.1) o.2.1 k):=by
 unfold zax clashM
 rw[pathSame_t hx]
 simp only[zb,opLeaf_t,pathUnder_t hx,pathUnder_t ho,cond_dec]
 by_cases h:x.2.1.2.1=o.2.1
 · rw[zp h,zp h]
 · rw[zn h,zn h]
   cases underM x.2.1.2.1 o.2.1<;>rfl
theorem refClash_t {p q:Path}{a b:Int} (hp:p.length<1000000) (hq:q.length<1000000) (hpl:∀ x∈p,x.length<1000000):zbg p a q b=some (clashM p a q b):=by
 unfold zbg clashM
 rw[refPathCompare_t hp hpl]
 simp only[zb,cond_dec,refUnder_t hp,refUnder_t hq]
 have e:cmpP p q=0↔p=q:=cp_cmp.zero ..
 by_cases h:p=q
 · rw[zp (e.2 h),zp h]
 · rw[zn (fun h'=>h (e.1 h')),zn h]
   cases underM p q<;>rfl
end Go.Proofs.YtgfpkhlabdcbmaaGreatDoor.Q
namespace Go.Proofs.YtgfpkhlabdcbmaaGreatDoor.Q
open Go.EM Go.TY Go.Proofs Go.Proofs.YtgfpkhlabdcbmaaGreatDoor.Y
theorem idx_ge {A:Type}{b:A→Bool}:∀ (l:List A) (i:Nat),foldE (S:=Unit) (R:=Int) (fun i x _=>if b x=true then .inr (i:Int) else .inl ()) (fun _=>(-1:Int)) i l ()≥0↔l.any b=true
 | [],i=>by simp[foldE]
 | x::l,i=>by
   unfold foldE
   by_cases h:b x=true
   · rw[zp h,List.any_cons,h]
     simp
   · rw[zn h,List.any_cons,eq_false_of_ne_true h,Bool.false_or]
     exact idx_ge l (i+1)
theorem item_path {x:List Item1} (h:ItemsOk x) {y:Item1} (hy:y∈x):y.2.1.2.1.length<1000000∧∀ s∈y.2.1.2.1,s.length<1000000:=by
 have:=(h.op y hy).2.1
 exact ⟨by have:=this.1; omega,fun s hs=>by have:=this.2.1 s hs; omega⟩
def wayM (o:Op1) (y:Item1):Bool:=clashM y.2.1.2.1 (leafM y.2.1.1) o.2.1 (leafM o.1)
def clashesM (x:List Item1) (o:Op1):Bool:=decide (leafM o.1≠0)&&x.any (wayM o)
theorem clash_t {x:List Item1}{o:Op1} (h:ItemsOk x) (ho:o.2.1.length<1000000):zbi x o=some (clashesM x o):=by
 have hlen:=h.len
 unfold zbi clashesM
 rw[opLeaf_t]
 simp only[zb,cond_ndec]
 by_cases h0:leafM o.1=0
 · rw[zp h0,zf (by simpa using h0)]; rfl
 rw[zn h0,zt h0,Bool.true_and]
 have loop:=loop_list (S:=Unit) (R:=Int) (f:=zae_l2 x (o,leafM o.1,())) (l:=x) (fun i _=>((i:Int),())) (fun i y _=>if wayM o y=true then .inr (i:Int) else .inl ()) (fun _=>(-1:Int)) (fun _ _=>True) (fun i hi s _=>by
   have turn:zae_l2 x (o,leafM o.1,()) ((i:Int),())=if wayM o x[i]=true then some (.inr (i:Int)) else some (.inl (((i+1:Nat):Int),())):=by
     unfold zae_l2
     simp only[cond_dec]
     rw[zp (by omega),atI_lt hi]
     simp only[zb]
     rw[clash1_t (item_path h (zm hi)).1 ho]
     simp only[zb]
     rw[wrap64 (by omega) (by omega),show clashM x[i].2.1.2.1 (leafM x[i].2.1.1) o.2.1 (leafM o.1)=wayM o x[i] from rfl]
     cases wayM o x[i]<;>rfl
   by_cases hb:wayM o x[i]=true
   · exact .inr ⟨_,by rw[zp hb],by rw[turn,zp hb]⟩
   · exact .inl ⟨(),by rw[zn hb],by rw[turn,zn hb],trivial⟩) (fun s _=>by
   unfold zae_l2
   simp only[cond_dec]
   rw[zn (by omega)]) () trivial
 have hi:=idx_ge (b:=wayM o) x 0
 unfold zac zae
 rw[show ((0:Int),())=(((0:Nat):Int),()) from rfl,loop]
 simp only[zb]
 by_cases hb:x.any (wayM o)=true
 · rw[hb,zt (hi.2 hb)]
 · rw[eq_false_of_ne_true hb,zf (fun e=>hb (hi.1 e))]
def zeroO:Op1:=(0,[],(0,0,[],()),0,[],())
def coversM (o:Op1) (y:Item1):Bool :=
 if o.1=1 then decide (o.2.1=y.2.1.2.1)&&decide (y.2.1.1=1)
 else if o.1=4 then decide (o.2.1=y.2.1.2.1)&&decide (y.2.1.1=2)&&decide (y.2.1.2.2.1=o.2.2.1)
 else if o.1=5 then underM y.2.1.2.1 o.2.1 else false
end Go.Proofs.YtgfpkhlabdcbmaaGreatDoor.Q
namespace Go.Proofs.YtgfpkhlabdcbmaaGreatDoor.Q
open Go.EM Go.TY Go.Proofs Go.Proofs.YtgfpkhlabdcbmaaGreatDoor.Y
theorem flat_pick {A B:Type}{b:A→Bool}{g:A→B}:∀ {l:List A},(l.flatMap fun y=>if b y=true then [g y] else [])=(l.filter b).map g
 | []=>rfl
 | x::l=>by
   rw[List.flatMap_cons,flat_pick,List.filter_cons]
   by_cases h:b x=true
   · rw[zp h,zp h]; rfl
   · rw[zn h,zn h]; rfl
theorem liveRefs_t {m:List Item1} (h:m.length<1000000):zb9 m=some (m.map (·.1)):=by
 have this:=loop_map (f:=zb9_l3 m) (l:=m) (fun i o=>((i:Int),o,())) (fun y=>[y.1]) (fun o=>o) 1 (fun x _=>Nat.le_refl _) (fun i hi o ho=>by
   unfold zb9_l3
   simp only[cond_dec]
   rw[zp (by omega),atI_lt hi]
   simp only[zb]
   rw[wrap64 (by omega) (by omega),roomT_lt (by simp; omega)]; rfl) (fun o _=>by
   unfold zb9_l3
   simp only[cond_dec]
   rw[zn (by omega)])
 unfold zb9
 rw[show ((0:Int),([]:List Ref1),())=(((0:Nat):Int),[],()) from rfl,this,flat_one (g:=fun y:Item1=>y.1)]
theorem bagAdds_t {x:List Item1}{p:Path}{v:Val} (hl:LowI x):zci x p v=some (((atM x p 2).filter fun y=>decide (y.2.1.2.2.1=v)).map (·.1)):=by
 have hlen:=(atM_low (p:=p) (leaf:=2) hl).len
 unfold zci
 rw[at_t hl]
 simp only[zb]
 have this:=loop_map (f:=zci_l3 v (atM x p 2)) (l:=atM x p 2) (fun i o=>((i:Int),o,())) (fun y=>if decide (y.2.1.2.2.1=v)=true then [y.1] else []) (fun o=>o) 1 (fun x _=>by split<;>simp) (fun i hi o ho=>by
   unfold zci_l3
   simp only[cond_dec,eqVal]
   rw[zp (by omega),atI_lt hi]
   simp only[zb]
   rw[wrap64 (by omega) (by omega),roomT_lt (by simp; omega)]
   by_cases hb:(atM x p 2)[i].2.1.2.2.1=v
   · rw[zp hb,zp (zt hb)]; rfl
   · rw[zn hb,zn (by simpa using hb),List.append_nil]; rfl) (fun o _=>by
   unfold zci_l3
   simp only[cond_dec]
   rw[zn (by omega)])
 rw[show ((0:Int),([]:List Ref1),())=(((0:Nat):Int),[],()) from rfl,this,flat_pick (b:=fun y:Item1=>decide (y.2.1.2.2.1=v)) (g:=fun y:Item1=>y.1)]
theorem underIt_t {x:List Item1}{p:Path} (h:ItemsOk x):zbt x p=some (x.filter fun y=>underM y.2.1.2.1 p):=by
 have hlen:=h.len
 have this:=loop_map (f:=zbt_l3 x p) (l:=x) (fun i o=>((i:Int),o,())) (fun y=>if underM y.2.1.2.1 p=true then [y] else []) (fun o=>o) 1 (fun x _=>by split<;>simp) (fun i hi o ho=>by
   unfold zbt_l3
   simp only[cond_dec]
   rw[zp (by omega),atI_lt hi]
   simp only[zb]
   rw[pathUnder_t (item_path h (zm hi)).1]
   simp only[zb]
   rw[wrap64 (by omega) (by omega),roomT_lt (by simp; omega)]
   by_cases hb:underM x[i].2.1.2.1 p=true
   · rw[hb,cond_true,zp rfl]; rfl
   · rw[zn hb,eq_false_of_ne_true hb,cond_false,List.append_nil]; rfl) (fun o _=>by
   unfold zbt_l3
   simp only[cond_dec]
   rw[zn (by omega)])
 unfold zbt
 rw[show ((0:Int),([]:List Item1),())=(((0:Nat):Int),[],()) from rfl,this,flatMap_if (q:=fun y:Item1=>underM y.2.1.2.1 p)]
def selR (x:List Item1) (o:Op1):List Ref1:=(x.filter (coversM o)).map (·.1)
theorem leaf_one {k:Int}:leafM k=1↔k=1:=by unfold leafM; split<;>(try split)<;>(try split)<;>omega
theorem leaf_two {k:Int} (h:putKind k=true):leafM k=2↔k=2:=by
 unfold putKind at h
 rw[decide_eq_true_eq] at h
 unfold leafM; split<;>(try split)<;>(try split)<;>omega
theorem covered_list {x:List Item1}{o:Op1} (h:ItemsOk x) :
   (cond (decide (o.1=1)) ((zcn x o.2.1 1).bind fun r1=>(zb9 r1).bind fun n2=>some (.inl (n2,()))) (cond (decide (o.1=4)) ((zci x o.2.1 o.2.2.1).bind fun n3=>some (.inl (n3,()))) (cond (decide (o.1=5)) ((zbt x o.2.1).bind fun r4=>(zb9 r4).bind fun n5=>some (.inl (n5,()))) (some (.inl ([],()))))):Option ((List Ref1×Unit)⊕List Ref1))=some (.inl (selR x o,())):=by
 have hlen:=h.len
 have hl:=itemsOk_low h
 have hf:∀ b:Item1→Bool,(x.filter b).length<1000000:=fun b=>by have:=List.length_filter_le b x; omega
 simp only[cond_dec]
 unfold selR
 by_cases h1:o.1=1
 · rw[zp h1,at_t hl]
   simp only[zb]
   rw[liveRefs_t (show (atM x o.2.1 1).length<1000000 from hf _)]
   simp only[zb]
   congr 4
   unfold atM
   refine List.filter_congr fun y hy => ?_
   unfold isAt coversM
   rw[zp h1,Bool.and_comm]
   congr 1
   · rw[decide_eq_decide]; exact ⟨fun e=>e.symm,fun e=>e.symm⟩
   · rw[decide_eq_decide]; exact leaf_one
 rw[zn h1]
 by_cases h4:o.1=4
 · rw[zp h4,bagAdds_t hl]
   simp only[zb]
   congr 4
   unfold atM
   rw[List.filter_filter]
   refine List.filter_congr fun y hy => ?_
   have hk:=leaf_two (h.op y hy).2.2
   unfold isAt coversM
   rw[zn h1,zp h4]
   rw[Bool.eq_iff_iff]
   simp only[Bool.and_eq_true,decide_eq_true_eq]
   rw[hk]
   constructor
   · rintro ⟨a,b,c⟩; exact ⟨⟨c.symm,b⟩,a⟩
   · rintro ⟨⟨a,b⟩,c⟩; exact ⟨c,b,a.symm⟩
 rw[zn h4]
 by_cases h5:o.1=5
 · rw[zp h5,underIt_t h]
   simp only[zb]
   rw[liveRefs_t (hf _)]
   simp only[zb]
   congr 4
   refine List.filter_congr fun y hy => ?_
   unfold coversM
   rw[zn h1,zn h4,zp h5]
 · rw[zn h5]
   have:x.filter (coversM o)=[]:=List.filter_eq_nil_iff.2 fun y _=>by
     unfold coversM
     rw[zn h1,zn h4,zn h5]; simp
   rw[this]; rfl
theorem sel_len {x:List Item1}{o:Op1} (h:ItemsOk x):(selR x o).length≤320:=by
 unfold selR
 rw[List.length_map]
 have:=List.length_filter_le (coversM o) x
 have:=h.len; omega
theorem checkCovered_t {x:List Item1}{o:Op1} (h:ItemsOk x):∃ l,zau x o=some l∧l.Perm (selR x o)∧l.Pairwise fun a b=>cmpR a b≤0:=by
 have hlen:=sel_len (o:=o) h
 obtain ⟨l,h1,h2,h3⟩:=sortT_law (key:=fun a:Ref1=>a) cr_cmp (cmp:=fun a b=>zcl a b) (xs:=selR x o) (fun a _ b _=>dotRefs_t a b) (by omega)
 refine ⟨l,?_,h2,h3⟩
 unfold zau
 rw[covered_list h,bind_join_inl]
 simp only
 unfold zai
 rw[h1]; rfl
end Go.Proofs.YtgfpkhlabdcbmaaGreatDoor.Q
namespace Go.Proofs.YtgfpkhlabdcbmaaGreatDoor.Q
open Go.EM Go.TY Go.Proofs Go.Proofs.YtgfpkhlabdcbmaaGreatDoor.Y
def seenR (x:List Item1) (o:Op1):List Ref1:=(selR x o).foldl (putU cmpR) []
end Go.Proofs.YtgfpkhlabdcbmaaGreatDoor.Q
namespace Go.Proofs.YtgfpkhlabdcbmaaGreatDoor.Q
open Go.EM Go.TY Go.Proofs Go.Proofs.YtgfpkhlabdcbmaaGreatDoor.Y
theorem sel_nodup {x:List Item1}{o:Op1} (hn:(x.map (·.1)).Nodup):(selR x o).Nodup:=List.Nodup.sublist ((List.filter_sublist (l:=x)).map _) hn
theorem seen_rises {x:List Item1}{o:Op1}:riseA cmpR (seenR x o):=by
 unfold seenR
 rw[put_uniq cr_cmp]
 exact uniq_rises cr_cmp _
theorem seen_mem {x:List Item1}{o:Op1}{r:Ref1}:r∈seenR x o↔r∈selR x o:=by
 unfold seenR
 rw[put_uniq cr_cmp]
 exact uniq_mem cr_cmp _ _
theorem covered_seen {x:List Item1}{o:Op1} (h:ItemsOk x) (hn:(x.map (·.1)).Nodup):zau x o=some (seenR x o):=by
 obtain ⟨l,h1,h2,h3⟩:=checkCovered_t (o:=o) h
 rw[h1]
 congr 1
 have hl:l.Nodup:=h2.nodup_iff.2 (sel_nodup hn)
 refine rises_unique (key:=fun v:Ref1=>v) cr_cmp ?_ seen_rises (fun r=>by rw[seen_mem]; exact h2.mem_iff)
 refine (h3.and hl).imp fun {a b} hab => ?_
 have h0:cmpR a b≠0:=fun e=>hab.2 ((cr_cmp.zero ..).1 e)
 have:=hab.1
 show cmpR a b<0
 omega
noncomputable def makeM (x:List Item1) (o:Op1):Op1×Int×Unit :=
 if opM o≠0 then (zeroO,opM o,()) else if clashesM x o=true then (zeroO,10,())
 else if (seenR x o).length=0∧(o.1=4∨o.1=5) then (zeroO,11,())
 else if (seenR x o).length>256 then (zeroO,7,())
 else ((o.1,o.2.1,o.2.2.1,o.2.2.2.1,seenR x o,()),0,())
theorem checkMake_t {x:List Item1}{k:Int}{p:Path}{v1 v2:Int}{v3:List UInt8}{n:Int}{s:List Ref1} (hx:ItemsOk x) (hn:(x.map (·.1)).Nodup) (ho:shortO (k,p,(v1,v2,v3,()),n,[],())):zb0 x (k,p,(v1,v2,v3,()),n,s,())=some (makeM x (k,p,(v1,v2,v3,()),n,[],())):=by
 have hp:p.length<1000000:=by have:=ho.1; simp only at this; omega
 unfold zb0 makeM
 simp only
 rw[opCheck_t ho rfl]
 simp only[zb,cond_dec,cond_ndec]
 by_cases h0:opM (k,p,(v1,v2,v3,()),n,[],())=0
 · rw[zp h0,zn (show ¬ opM (k,p,(v1,v2,v3,()),n,[],())≠0 from fun e=>e h0),clash_t hx hp]
   simp only[zb]
   cases hc:clashesM x (k,p,(v1,v2,v3,()),n,[],()) with
   | true=>rw[cond_true,zp rfl]; rfl
   | false =>
     rw[cond_false,zn (by simp),clone_t hp]
     simp only[zb]
     rw[covered_seen hx hn]
     simp only[zb]
     by_cases hl:(seenR x (k,p,(v1,v2,v3,()),n,[],())).length=0
     · rw[zp (by omega)]
       by_cases h4:k=4
       · rw[zp h4,zp ⟨hl,.inl h4⟩]; rfl
       · rw[zn h4]
         by_cases h5:k=5
         · rw[zp h5,zp ⟨hl,.inr h5⟩]; rfl
         · rw[zn h5,zn (show ¬ (_∧(k=4∨k=5)) from fun e=>by omega),zn (by omega),zn (by omega)]
     · rw[zn (by omega)]
       by_cases h2:(seenR x (k,p,(v1,v2,v3,()),n,[],())).length>256
       · rw[zp (show ((seenR x (k,p,(v1,v2,v3,()),n,[],())).length:Int)>256 by omega),zn (show ¬ ((seenR x (k,p,(v1,v2,v3,()),n,[],())).length=0∧(k=4∨k=5)) from fun e=>hl e.1),zp h2]; rfl
       · rw[zn (show ¬ ((seenR x (k,p,(v1,v2,v3,()),n,[],())).length:Int)>256 by omega),zn (show ¬ ((seenR x (k,p,(v1,v2,v3,()),n,[],())).length=0∧(k=4∨k=5)) from fun e=>hl e.1),zn h2]
 · rw[zn h0,zp h0]; rfl
end Go.Proofs.YtgfpkhlabdcbmaaGreatDoor.Q
namespace Go.Proofs.YtgfpkhlabdcbmaaGreatDoor.Q
open Go.EM Go.TY Go.Proofs Go.Proofs.YtgfpkhlabdcbmaaGreatDoor.Y
theorem items_names {p:Ref1→Bool}{t:Txn1}:∀ (l:List Op1) (k:Nat),((itemsM p t k l).map (·.1)).Nodup∧∀ r∈(itemsM p t k l).map (·.1),r.1=t.1∧(k:Int)≤r.2.1∧r.2.1<(k:Int)+l.length
 | [],k=>⟨List.nodup_nil,fun r hr=>by cases hr⟩
 | o::l,k=>by
   obtain ⟨h1,h2⟩:=items_names (p:=p) (t:=t) l (k+1)
   unfold itemsM itemAt
   split
   · rw[List.map_append]
     constructor
     · refine List.nodup_append.2 ⟨by simp,h1,fun a ha b hb e => ?_⟩
       have:=h2 b hb
       simp only[List.map_cons,List.map_nil,List.mem_singleton] at ha
       rw[← e,ha] at this
       simp only at this
       omega
     · intro r hr
       rcases List.mem_append.1 hr with hr | hr
       · simp only[List.map_cons,List.map_nil,List.mem_singleton] at hr
         rw[hr]
         have:(o::l).length=l.length+1:=rfl
         exact ⟨rfl,Int.le_refl _,by show (k:Int)<_; omega⟩
       · have:=h2 r hr
         simp only[zl]
         exact ⟨this.1,by omega,by omega⟩
   · rw[List.nil_append]
     refine ⟨h1,fun r hr => ?_⟩
     have:=h2 r hr
     simp only[zl]
     exact ⟨this.1,by omega,by omega⟩
theorem flat_names {p:Ref1→Bool}{u:List Ref1}:∀ (m:List Txn1),riseT m→((m.flatMap fun t=>if seenM u t.1=true then itemsM p t 0 t.2.2.2.2.1 else []).map (·.1)).Nodup∧∀ r∈(m.flatMap fun t=>if seenM u t.1=true then itemsM p t 0 t.2.2.2.2.1 else []).map (·.1),∃ t∈m,r.1=t.1∧0≤r.2.1∧r.2.1<(t.2.2.2.2.1.length:Int)
 | [],_=>⟨List.nodup_nil,fun r hr=>by cases hr⟩
 | t::m,h=>by
   have h':=List.pairwise_cons.1 h
   obtain ⟨g1,g2⟩:=flat_names (p:=p) (u:=u) m h'.2
   have hd:((if seenM u t.1=true then itemsM p t 0 t.2.2.2.2.1 else []).map (·.1)).Nodup∧∀ r∈(if seenM u t.1=true then itemsM p t 0 t.2.2.2.2.1 else []).map (·.1),r.1=t.1∧0≤r.2.1∧r.2.1<(t.2.2.2.2.1.length:Int):=by
     split
     · obtain ⟨k1,k2⟩:=items_names (p:=p) (t:=t) t.2.2.2.2.1 0
       exact ⟨k1,fun r hr=>by have:=k2 r hr; exact ⟨this.1,by omega,by omega⟩⟩
     · exact ⟨List.nodup_nil,fun r hr=>by cases hr⟩
   rw[List.flatMap_cons,List.map_append]
   constructor
   · refine List.nodup_append.2 ⟨hd.1,g1,fun a ha b hb e => ?_⟩
     obtain ⟨t',ht',k1,_⟩:=g2 b hb
     have h1:cmpD t.1 t'.1<0:=h'.1 t' ht'
     have h2:=(hd.2 a ha).1
     rw[← h2,e,k1] at h1
     have h0:cmpD t'.1 t'.1=0:=(cd_cmp.zero ..).2 rfl
     simp only[h0] at h1
     omega
   · intro r hr
     rcases List.mem_append.1 hr with hr | hr
     · exact ⟨t,List.mem_cons_self ..,hd.2 r hr⟩
     · obtain ⟨t',ht',k⟩:=g2 r hr
       exact ⟨t',List.mem_cons_of_mem _ ht',k⟩
theorem all_names {l:List Txn1}{u:List Ref1} (h:riseT l):((allM l u).map (·.1)).Nodup∧∀ r∈(allM l u).map (·.1),∃ t∈l,r.1=t.1∧0≤r.2.1∧r.2.1<(t.2.2.2.2.1.length:Int):=flat_names l h
theorem cmpR_neg {a b:Ref1} (h:cmpR a b<0):cmpR a b = -1:=by
 unfold cmpR orI cmpD orI cmpI at h ⊢
 split at h<;>split at h<;>(try split at h)<;>(try split at h)<;>(try omega)<;>simp_all
end Go.Proofs.YtgfpkhlabdcbmaaGreatDoor.Q
namespace Go.Proofs.YtgfpkhlabdcbmaaGreatDoor.Q
open Go.EM Go.TY Go.Proofs Go.Proofs.YtgfpkhlabdcbmaaGreatDoor.Y
theorem refsM_rise {s:List Ref1} (h1:∀ r∈s,refOk r=true) (h2:riseA cmpR s):refsM s=true:=by
 unfold refsM
 rw[zp]
 intro i hi
 unfold refsAt
 rw[zg hi]
 simp only[h1 _ (zm hi),Bool.true_and]
 by_cases h0:i=0
 · rw[zt h0,Bool.true_or]
 · rw[zf h0,Bool.false_or,zg (show i-1<s.length by omega)]
   simp only
   have:cmpR s[i-1] s[i]<0:=(List.pairwise_iff_getElem.1 h2) (i-1) i (by omega) hi (by omega)
   exact zt (cmpR_neg this)
theorem opM_seen {k:Int}{p:Path}{v:Val}{n:Int}{s:List Ref1} (h0:opM (k,p,v,n,[],())=0) (h1:k=2∨k=3→s=[]) (h2:s.length≤256) (h3:refsM s=true):opM (k,p,v,n,s,())=0:=by
 by_cases hk:k=2∨k=3
 · rw[h1 hk]; exact h0
 · have : opM (k, p, v, n, s, ()) = opM (k, p, v, n, [], ()) := by
     unfold opM
     simp only[hk,false_and,if_false,h3,refsM_nil,if_true,List.length_nil,show ¬ 256<s.length by omega,show ¬ 256<0 by omega]
   rw[this]; exact h0
theorem seen_ok {l:List Txn1}{u:List Ref1}{o:Op1} (h:TxnsOk l 20):∀ r∈seenR (allM l u) o,refOk r=true:=fun r hr=>by
 have h1:r∈(allM l u).map (·.1):=by
   obtain ⟨y,hy,e⟩:=List.mem_map.1 (seen_mem.1 hr)
   exact List.mem_map.2 ⟨y,(List.mem_filter.1 hy).1,e⟩
 obtain ⟨t,ht,e,h2,h3⟩:=(all_names (u:=u) h.rise).2 r h1
 have ok:=h.all t ht
 unfold refOk
 rw[e,ok.dot,Bool.true_and]
 exact zt ⟨h2,by have:=ok.len; omega⟩
theorem seen_none {x:List Item1}{o:Op1} (h:o.1=2∨o.1=3):seenR x o=[]:=by
 have:x.filter (coversM o)=[]:=List.filter_eq_nil_iff.2 fun y _=>by
   unfold coversM
   rw[zn (by omega),zn (by omega),zn (by omega)]; simp
 unfold seenR selR
 rw[this]; rfl
theorem make_cases {l:List Txn1}{u:List Ref1}{k:Int}{p:Path}{v:Val}{n:Int} (h:TxnsOk l 20) (ho:shortO (k,p,v,n,[],())) :
   (∃ e,e≠0∧makeM (allM l u) (k,p,v,n,[],())=(zeroO,e,())) ∨
   (∃ m,makeM (allM l u) (k,p,v,n,[],())=(m,0,())∧opM m=0∧shortO m):=by
 unfold makeM
 by_cases h0:opM (k,p,v,n,[],())≠0
 · rw[zp h0]; exact .inl ⟨_,h0,rfl⟩
 rw[zn h0]
 by_cases hc:clashesM (allM l u) (k,p,v,n,[],())=true
 · rw[zp hc]; exact .inl ⟨10,by omega,rfl⟩
 rw[zn hc]
 by_cases h1:(seenR (allM l u) (k,p,v,n,[],())).length=0∧((k,p,v,n,([]:List Ref1),()).1=4∨(k,p,v,n,([]:List Ref1),()).1=5)
 · rw[zp h1]; exact .inl ⟨11,by omega,rfl⟩
 rw[zn h1]
 by_cases h2:(seenR (allM l u) (k,p,v,n,[],())).length>256
 · rw[zp h2]; exact .inl ⟨7,by omega,rfl⟩
 rw[zn h2]
 refine .inr ⟨_,rfl,opM_seen (Classical.not_not.1 h0) (fun hk=>seen_none hk) (by omega) (refsM_rise (seen_ok h) seen_rises),?_⟩
 obtain ⟨a,b,c,d⟩:=ho
 exact ⟨a,b,c,by show (seenR _ _).length≤300; omega⟩
end Go.Proofs.YtgfpkhlabdcbmaaGreatDoor.Q
namespace Go.Proofs.YtgfpkhlabdcbmaaGreatDoor.Q
open Go.EM Go.TY Go.Proofs Go.Proofs.YtgfpkhlabdcbmaaGreatDoor.Y
theorem short_nil {k:Int}{p:Path}{v:Val}{n:Int}{s:List Ref1} (h:shortO (k,p,v,n,s,())):shortO (k,p,v,n,[],()):=⟨h.1,h.2.1,h.2.2.1,by simp⟩
end Go.Proofs.YtgfpkhlabdcbmaaGreatDoor.Q
namespace Go.Proofs.YtgfpkhlabdcbmaaGreatDoor.Q
open Go.EM Go.TY Go.Proofs Go.Proofs.YtgfpkhlabdcbmaaGreatDoor.Y
theorem runes1 {a:UInt8} (h:a.toNat<128):runesM [a]=some [(a.toNat:Int)]:=by
 have hc:charM [a]=((a.toNat:Int),1):=by simp only[charM]; rw[zp h]
 rw[runesM_step (by simp) (by rw[hc]; simp),hc]
 show (runesM []).map _=_
 rw[runesM_nil]; rfl
theorem name1 {a:UInt8} (h:a.toNat<128) (hm:mayM (a.toNat:Int)=true):nameM [a]=true:=by
 unfold nameM
 rw[runes1 h]
 simp[hm]
theorem check97:checkM [[97]]=0:=by
 unfold checkM
 simp[name1 (a:=97) (by decide) (by decide)]
theorem check98:checkM [[98]]=0:=by
 unfold checkM
 simp[name1 (a:=98) (by decide) (by decide)]
theorem check97k:checkM [[97],[107]]=0:=by
 unfold checkM
 simp[name1 (a:=97) (by decide) (by decide),name1 (a:=107) (by decide) (by decide)]
theorem put_ok {p:Path} (h:checkM p=0):opM (1,p,(1,1,[],()),0,[],())=0:=by
 unfold opM
 simp[h,rightV,refsM_nil]
abbrev inc0:Op1:=(3,[[97]],(0,0,[],()),1,[],())
theorem inc_ok:opM inc0=0:=by
 unfold opM
 simp[check97,zeroV,refsM_nil]
abbrev txn0:Txn1:=((0,1,()),0,1,false,[inc0],())
theorem txns0:TxnsOk [txn0] 20 where
 len:=by simp
 rise:=List.pairwise_singleton ..
 all t ht:=by
   rw[List.mem_singleton.1 ht]
   exact ⟨by simp,by simp,fun o ho=>by rw[List.mem_singleton.1 ho]; exact ⟨⟨by simp,by simp,by simp,by simp⟩,.inl inc_ok⟩,by decide,by decide,by decide⟩
theorem all0:allM [txn0] []=[(((0,1,()),0,()),inc0,1,())]:=rfl
theorem awake19:zbb=some true:=by
 have hp:=txns_low txns0 (by omega)
 have hu:LowU []:=⟨by simp,List.Pairwise.nil⟩
 have hi:=items_ok (u:=[]) txns0
 have hn:=(all_names (u:=[]) txns0.rise).1
 unfold zbb
 rw[show ([((0,1,()),0,1,false,([(3,([[97]]:Path),(0,0,[],()),1,[],())]:List Op1),())]:List Txn1)=[txn0] from rfl,all_t hp.low hu]
 simp only[zb]
 rw[checkMake_t hi hn ⟨by simp,by simp,by simp,by simp⟩,checkMake_t hi hn ⟨by simp,by simp,by simp,by simp⟩,checkMake_t hi hn ⟨by simp,by simp,by simp,by simp⟩]
 simp only[zb]
 have m1:makeM (allM [txn0] []) (1,[[97]],(1,1,[],()),0,[],())=(zeroO,10,()):=by
   unfold makeM
   rw[zn (fun e=>e (put_ok check97)),zp (by rw[all0]; decide)]
 have m2:makeM (allM [txn0] []) (1,[[97],[107]],(1,1,[],()),0,[],())=(zeroO,10,()):=by
   unfold makeM
   rw[zn (fun e=>e (put_ok check97k)),zp (by rw[all0]; decide)]
 have m3:(makeM (allM [txn0] []) (1,[[98]],(1,1,[],()),0,[],())).2.1=0:=by
   have hs:seenR (allM [txn0] []) (1,[[98]],(1,1,[],()),0,[],())=[]:=by rw[all0]; decide
   unfold makeM
   rw[zn (fun e=>e (put_ok check98)),zn (by rw[all0]; decide),hs,zn (by simp),zn (by simp)]
 rw[m1,m2,m3]
 rfl
end Go.Proofs.YtgfpkhlabdcbmaaGreatDoor.Q
namespace Go.Proofs.YtgfpkhlabdcbmaaGreatDoor.Q
open Go.EM Go.TY Go.Proofs Go.Proofs.YtgfpkhlabdcbmaaGreatDoor.Y
def wayL (a b:Leaf1):Bool:=clashM a.1 a.2.1 b.1 b.2.1
theorem wayL_sym (a b:Leaf1):wayL a b=wayL b a:=clashM_sym ..
def pairsM:List Leaf1→Nat
 | []=>0
 | x::l=>(l.countP fun y=>wayL y x)+pairsM l
theorem pairs_snoc (y:Leaf1):∀ l:List Leaf1,pairsM (l++[y])=pairsM l+l.countP (fun x=>wayL y x)
 | []=>rfl
 | x::l=>by
   rw[List.cons_append,pairsM,pairsM,pairs_snoc y l,List.countP_append,List.countP_cons]
   simp only[List.countP_cons,List.countP_nil]
   omega
theorem pairs_sub {l m:List Leaf1} (h:l.Sublist m):pairsM l≤pairsM m:=by
 induction h with
 | slnil=>exact Nat.le_refl _
 | cons a h ih=>rw[pairsM]; omega
 | cons_cons a h ih =>
   rw[pairsM,pairsM]
   have:=h.countP_le (p:=fun y=>wayL y a)
   omega
theorem pairs_le:∀ l:List Leaf1,pairsM l≤l.length*l.length
 | []=>Nat.le_refl _
 | x::l=>by
   have h1:=pairs_le l
   have h2:=List.countP_le_length (p:=fun y=>wayL y x) (l:=l)
   rw[pairsM,zl,Nat.succ_mul,Nat.mul_succ]
   omega
theorem pairs_in {l:List Leaf1}{i:Nat}{n:Nat} (hlen:l.length<900) (hl:∀ y∈l,lowLf y) (hi:i<l.length) (hn:n<900000):∀ (m k:Nat),i-k≤m→k≤i →
   loopT (zay_l6 ((n:Int),(i:Int),()) l) (((n+(l.take k).countP (fun x=>wayL l[i] x):Nat):Int),(k:Int),())=some (.inl (((n+(l.take i).countP (fun x=>wayL l[i] x):Nat):Int),((i+1:Nat):Int),())):=by
 intro m
 induction m with
 | zero =>
   intro k hk hki
   have e:k=i:=by omega
   subst e
   refine loopT_inr ?_
   unfold zay_l6
   simp only[cond_dec]
   rw[zn (by omega),wrap64 (by omega) (by omega)]; rfl
 | succ m ih =>
   intro k hk hki
   by_cases hlt:k<i
   · have hkl:k<l.length:=by omega
     have cle:=List.countP_le_length (p:=fun x=>wayL l[i] x) (l:=l.take k)
     have tl:(l.take k).length≤k:=List.length_take_le ..
     have ht:(l.take (k+1)).countP (fun x=>wayL l[i] x)=(l.take k).countP (fun x=>wayL l[i] x)+if wayL l[i] l[k]=true then 1 else 0:=by
       rw[List.take_succ_eq_append_getElem hkl,List.countP_append,List.countP_cons,List.countP_nil,Nat.zero_add]
     have l1:=hl _ (zm hi)
     have l2:=hl _ (zm hkl)
     have turn:zay_l6 ((n:Int),(i:Int),()) l (((n+(l.take k).countP (fun x=>wayL l[i] x):Nat):Int),(k:Int),())=some (.inl (((n+(l.take (k+1)).countP (fun x=>wayL l[i] x):Nat):Int),((k+1:Nat):Int),())):=by
       unfold zay_l6
       simp only[cond_dec]
       rw[zp (by omega),atI_lt hi]
       simp only[zb]
       rw[atI_lt hkl]
       simp only[zb]
       rw[refClash_t l1.1 l2.1 l1.2.1]
       simp only[zb]
       rw[wrap64 (n:=((k:Nat):Int)+1) (by omega) (by omega)]
       have e:clashM l[i].1 l[i].2.1 l[k].1 l[k].2.1=wayL l[i] l[k]:=rfl
       rw[ht,e]
       by_cases hc:wayL l[i] l[k]=true
       · rw[hc,cond_true,zp rfl,wrap64 (by omega) (by omega)]; rfl
       · rw[zn hc,eq_false_of_ne_true hc,cond_false]; rfl
     rw[loopT_inl turn]
     exact ih _ (by omega) (by omega)
   · have e:k=i:=by omega
     subst e
     refine loopT_inr ?_
     unfold zay_l6
     simp only[cond_dec]
     rw[zn (by omega),wrap64 (by omega) (by omega)]; rfl
theorem clashes_t {l:List Leaf1} (hlen:l.length<900) (hl:∀ y∈l,lowLf y):zay l=some (pairsM l:Int):=by
 have key:∀ (m i:Nat),l.length-i≤m→i≤l.length→loopT (zay_l3 l) ((pairsM (l.take i):Int),(i:Int),())=some (pairsM l:Int):=by
   intro m
   induction m with
   | zero =>
     intro i hm hi
     refine loopT_inr ?_
     unfold zay_l3
     simp only[cond_dec]
     rw[zn (by omega),List.take_of_length_le (by omega)]
   | succ m ih =>
     intro i hm hi
     by_cases hlt:i<l.length
     · have hp:=pairs_le (l.take i)
       have tl:(l.take i).length≤i:=List.length_take_le ..
       have hb:(l.take i).length*(l.take i).length≤900*900:=Nat.mul_le_mul (by omega) (by omega)
       have turn:zay_l3 l ((pairsM (l.take i):Int),(i:Int),())=some (.inl ((pairsM (l.take (i+1)):Int),((i+1:Nat):Int),())):=by
         have hin:=pairs_in (n:=pairsM (l.take i)) hlen hl hlt (by omega) i 0 (by omega) (by omega)
         rw[List.take_zero,List.countP_nil,Nat.add_zero] at hin
         unfold zay_l3
         simp only[cond_dec]
         rw[zp (by omega)]
         rw[show ((0:Int))=((0:Nat):Int) from rfl,hin,List.take_succ_eq_append_getElem hlt,pairs_snoc]
       rw[loopT_inl turn]
       exact ih _ (by omega) (by omega)
     · refine loopT_inr ?_
       unfold zay_l3
       simp only[cond_dec]
       rw[zn (by omega),List.take_of_length_le (by omega)]
 have:=key l.length 0 (by omega) (by omega)
 unfold zay
 rw[List.take_zero] at this
 exact this
theorem pairs_filter {q:Leaf1→Bool}:∀ {l:List Leaf1},(∀ x∈l,q x=false→∀ y∈l,wayL y x=false)→pairsM l=pairsM (l.filter q)
 | [],_=>rfl
 | x::l,h=>by
   have ih:=pairs_filter (q:=q) (l:=l) fun a ha hq y hy=>h a (List.mem_cons_of_mem _ ha) hq y (List.mem_cons_of_mem _ hy)
   cases hq:q x with
   | true =>
     rw[List.filter_cons_of_pos hq,pairsM,pairsM,ih,List.countP_filter]
     congr 1
     refine List.countP_congr fun y hy => ?_
     simp only[Bool.and_eq_true]
     refine ⟨fun hw=>⟨hw,?_⟩,fun hw=>hw.1⟩
     cases hqy:q y with
     | true=>rfl
     | false =>
       have:=h y (List.mem_cons_of_mem _ hy) hqy x (List.mem_cons_self ..)
       rw[wayL_sym,hw] at this; cases this
   | false =>
     rw[List.filter_cons_of_neg (by simp[hq]),pairsM,ih]
     have:l.countP (fun y=>wayL y x)=0:=List.countP_eq_zero.2 fun y hy=>by
       rw[h x (List.mem_cons_self ..) hq y (List.mem_cons_of_mem _ hy)]; simp
     omega
theorem rises_part {A:Type}{c:A→A→Int} (hc:Cmp c):∀ {m l:List A},riseA c l→riseA c m→(∀ x∈l,x∈m)→l.Sublist m
 | [],l,_,_,h=>by
   cases l with
   | nil=>exact List.Sublist.slnil
   | cons x l=>cases h x (List.mem_cons_self ..)
 | b::m,[],_,_,_=>List.nil_sublist _
 | b::m,a::l,h1,h2,h=>by
   have h1':=List.pairwise_cons.1 h1
   have h2':=List.pairwise_cons.1 h2
   rcases List.mem_cons.1 (h a (List.mem_cons_self ..)) with e | ha
   · subst e
     refine List.Sublist.cons_cons _ (rises_part hc h1'.2 h2'.2 fun x hx => ?_)
     rcases List.mem_cons.1 (h x (List.mem_cons_of_mem _ hx)) with e | hm
     · have:=h1'.1 x hx
       rw[e,(hc.zero ..).2 rfl] at this
       omega
     · exact hm
   · refine List.Sublist.cons _ (rises_part hc h1 h2'.2 fun x hx => ?_)
     rcases List.mem_cons.1 (h x hx) with e | hm
     · exfalso
       have hba:=h2'.1 a ha
       rw[e] at hx
       rcases List.mem_cons.1 hx with e' | hx
       · simp only[e',(hc.zero ..).2 rfl] at hba; omega
       · have hab:=h1'.1 b hx
         have:=(hc.neg a b)
         simp only at hab hba
         omega
     · exact hm
end Go.Proofs.YtgfpkhlabdcbmaaGreatDoor.Q
namespace Go.Proofs.YtgfpkhlabdcbmaaGreatDoor.Q
open Go.EM Go.TY Go.Proofs Go.Proofs.YtgfpkhlabdcbmaaGreatDoor.Y
open Classical in
theorem refFind_t {l:List Txn1}{d:Dot1} (hl:l.length<1000000):∃ n,zby l d=some n∧(n<0→∀ t∈l,t.1≠d):=by
 have:=loop_list (S:=Unit) (R:=Int) (f:=zby_l2 l d) (l:=l) (fun i _=>((i:Int),())) (fun i x _=>if x.1=d then .inr (i:Int) else .inl ()) (fun _=>(-1:Int)) (fun _ _=>True) (fun i h s _=>by
   have turn:zby_l2 l d ((i:Int),())=if l[i].1=d then some (.inr (i:Int)) else some (.inl (((i+1:Nat):Int),())):=by
     unfold zby_l2
     simp only[cond_dec,eqDot]
     rw[zp (by omega),atI_lt h]
     simp only[zb]
     rw[wrap64 (by omega) (by omega)]; rfl
   by_cases hc:l[i].1=d
   · exact .inr ⟨_,by rw[zp hc],by rw[turn,zp hc]⟩
   · exact .inl ⟨(),by rw[zn hc],by rw[turn,zn hc],trivial⟩) (fun s _=>by
   unfold zby_l2
   simp only[cond_dec]
   rw[zn (by omega)]) () trivial
 refine ⟨_,this,?_⟩
 have gen:∀ (l:List Txn1) (i:Nat),foldE (S:=Unit) (R:=Int) (fun i x _=>if x.1=d then .inr (i:Int) else .inl ()) (fun _=>(-1:Int)) i l ()<0→∀ t∈l,t.1≠d:=by
   intro l
   induction l with
   | nil=>intro i _ t ht; cases ht
   | cons x l ih =>
     intro i hn
     unfold foldE at hn
     by_cases hc:x.1=d
     · simp only[zp hc] at hn; omega
     · simp only[zn hc] at hn
       intro t ht
       rcases List.mem_cons.1 ht with e | ht
       · rw[e]; exact hc
       · exact ih (i+1) hn t ht
 exact gen l 0
theorem put_loop {l:List Txn1}{d:Dot1} (hl:l.length<1000000) (h:∀ t∈l,cmpD t.1 d<0):∀ (k i:Nat),l.length-i≤k→i≤l.length →
   loopT (zab_l3 l d) ((i:Int),(l.length:Int),())=some (.inl ((l.length:Int),())):=by
 intro k
 induction k with
 | zero =>
   intro i hk h1
   refine loopT_inr ?_
   unfold zab_l3
   simp only[cond_dec]
   rw[zn (by omega),show l.length=i by omega]
 | succ k ih =>
   intro i hk h1
   by_cases hij:i<l.length
   · have hh:(i+l.length)/2<l.length:=by omega
     have turn:zab_l3 l d ((i:Int),(l.length:Int),())=some (.inl ((((i+l.length)/2+1:Nat):Int),(l.length:Int),())):=by
       unfold zab_l3
       simp only[cond_dec]
       rw[zp (by omega),show (i:Int)+(l.length:Int)=((i+l.length:Nat):Int) by omega,half_t (by omega)]
       simp only[zb]
       rw[wrap64 (n:=(((i+l.length)/2:Nat):Int)) (by omega) (by omega),atI_lt hh]
       simp only[zb]
       unfold zb8
       rw[dotC_t]
       simp only[zb]
       rw[zp (h _ (zm hh)),wrap64 (by omega) (by omega)]; rfl
     rw[loopT_inl turn]
     exact ih _ (by omega) (by omega)
   · refine loopT_inr ?_
     unfold zab_l3
     simp only[cond_dec]
     rw[zn (by omega),show l.length=i by omega]
theorem with_t {l:List Txn1}{t:Txn1} (hl:l.length<900) (h:∀ x∈l,cmpD x.1 t.1<0) (hp:0<t.2.2.2.2.1.length):zcb l t=some (l++[t]):=by
 unfold zcb zcp zab
 have:=put_loop (d:=t.1) (by omega) h l.length 0 (by omega) (by omega)
 simp only[cond_dec]
 rw[zn (by omega),show ((0:Int),(l.length:Int),())=(((0:Nat):Int),(l.length:Int),()) from rfl,this,bind_join_inl]
 rw[zn (by omega)]
 simp only[zb,cond_false]
 unfold zak cloneT
 rw[zp (by simp only[most]; omega)]
 simp only[zb]
 unfold zaj
 have ins:=ins_atU (p:=l) (q:=[]) (y:=t) (by rw[List.append_nil]; omega)
 rw[List.append_nil] at ins
 rw[ins]; rfl
theorem cov_snoc {l:List Txn1}{u:List Ref1}{d:Dot1}{us ti:Int}{b:Bool}{m:Op1} (x:Ref1):covM (l++[(d,us,ti,b,[m],())]) u x=(covM l u x||(seenM u d&&coverO m x)):=by
 unfold covM
 rw[List.any_append]
 simp
theorem items_less {p q:Ref1→Bool}{c:Ref1→Bool} (h:∀ x,q x=(p x||c x)) {t:Txn1}:∀ (l:List Op1) (k:Nat),itemsM q t k l=(itemsM p t k l).filter fun y => !c y.1
 | [],k=>rfl
 | o::l,k=>by
   unfold itemsM
   rw[List.filter_append,← items_less h l (k+1)]
   congr 1
   unfold itemAt
   rw[h]
   by_cases h1:putKind o.1=true∧p (t.1,(k:Int),())=false
   · rw[zp h1]
     cases hc:c (t.1,(k:Int),()) with
     | true=>rw[zn (by simp),List.filter_cons_of_neg (by simp[hc])]; rfl
     | false=>rw[zp ⟨h1.1,by rw[h1.2]; rfl⟩,List.filter_cons_of_pos (by simp[hc])]; rfl
   · rw[zn h1,zn (fun e=>h1 ⟨e.1,by have:=e.2; rw[Bool.or_eq_false_iff] at this; exact this.1⟩)]; rfl
theorem all_snoc {l:List Txn1}{u:List Ref1}{d:Dot1}{us ti:Int}{b:Bool}{m:Op1}{y:Item1} (h:y∈allM (l++[(d,us,ti,b,[m],())]) u):y∈allM l u∨putKind m.1=true∧y.2.1=m:=by
 unfold allM at h
 rw[List.flatMap_append] at h
 rcases List.mem_append.1 h with h | h
 · left
   unfold allM
   obtain ⟨t,ht,hy⟩:=List.mem_flatMap.1 h
   refine List.mem_flatMap.2 ⟨t,ht,?_⟩
   split at hy
   · rename_i hs
     rw[zp hs]
     rw[items_less (p:=covM l u) (c:=fun x=>seenM u d&&coverO m x) (fun x=>cov_snoc x)] at hy
     exact (List.mem_filter.1 hy).1
   · cases hy
 · right
   obtain ⟨t,ht,hy⟩:=List.mem_flatMap.1 h
   rw[List.mem_singleton] at ht
   subst ht
   split at hy
   · obtain ⟨j,o,ho,hk,_,e⟩:=items_mem hy
     rw[List.mem_singleton] at ho
     subst ho
     exact ⟨hk,by rw[e]⟩
   · cases hy
theorem make_good {x:List Item1}{o m:Op1} (h:makeM x o=(m,0,())):opM o=0∧clashesM x o=false∧m=(o.1,o.2.1,o.2.2.1,o.2.2.2.1,seenR x o,()):=by
 unfold makeM at h
 by_cases h0:opM o≠0
 · rw[zp h0] at h; exact absurd (congrArg (fun z=>z.2.1) h) h0
 rw[zn h0] at h
 by_cases hc:clashesM x o=true
 · rw[zp hc] at h; have:=congrArg (fun z=>z.2.1) h; simp only at this; omega
 rw[zn hc] at h
 by_cases h1:(seenR x o).length=0∧(o.1=4∨o.1=5)
 · rw[zp h1] at h; have:=congrArg (fun z=>z.2.1) h; simp only at this; omega
 rw[zn h1] at h
 by_cases h2:(seenR x o).length>256
 · rw[zp h2] at h; have:=congrArg (fun z=>z.2.1) h; simp only at this; omega
 rw[zn h2] at h
 exact ⟨Classical.not_not.1 h0,eq_false_of_ne_true hc,(congrArg (fun z=>z.1) h).symm⟩
theorem put_leaf {k:Int} (h:putKind k=true):leafM k≠0:=by
 unfold putKind at h
 rw[decide_eq_true_eq] at h
 unfold leafM; split<;>(try split)<;>(try split)<;>omega
theorem way_self (a b:Leaf1) (h1:a.1=b.1) (h2:a.2.1=b.2.1):wayL a b=false:=by
 unfold wayL clashM
 rw[zp h1,zt h2]; rfl
theorem pairs_with {l:List Txn1}{u:List Ref1}{d:Dot1}{us ti:Int}{b:Bool}{o m:Op1} (h:makeM (allM l u) o=(m,0,())) :
   pairsM (leavesM (allM (l++[(d,us,ti,b,[m],())]) u))≤pairsM (leavesM (allM l u)):=by
 obtain ⟨_,hc,hm⟩:=make_good h
 have k1:m.1=o.1:=by rw[hm]
 have k2:m.2.1=o.2.1:=by rw[hm]
 have mem:∀ y∈leavesM (allM (l++[(d,us,ti,b,[m],())]) u),y∈leavesM (allM l u)∨putKind m.1=true∧y=(m.2.1,leafM m.1,()):=fun y hy=>by
   obtain ⟨x,hx,e⟩:=leavesM_mem.1 hy
   rcases all_snoc hx with hx | ⟨hk,hx⟩
   · exact .inl (leavesM_mem.2 ⟨x,hx,e⟩)
   · exact .inr ⟨hk,by rw[← e]; unfold leafOf; rw[hx]⟩
 have free:putKind m.1=true→∀ y∈leavesM (allM l u),wayL y (m.2.1,leafM m.1,())=false:=fun hk y hy=>by
   obtain ⟨x,hx,e⟩:=leavesM_mem.1 hy
   unfold clashesM at hc
   rw[k1] at hk
   rw[zt (put_leaf hk),Bool.true_and] at hc
   have:=List.any_eq_false.1 hc x hx
   rw[← e]
   unfold wayL leafOf
   rw[k1,k2]
   exact eq_false_of_ne_true this
 have key:=pairs_filter (q:=fun y:Leaf1=>decide (y∈leavesM (allM l u))) (l:=leavesM (allM (l++[(d,us,ti,b,[m],())]) u)) fun x hx hq y hy=>by
   have hq':x∉leavesM (allM l u):=of_decide_eq_false hq
   rcases mem x hx with hx | ⟨hk,hx⟩
   · exact absurd hx hq'
   · rw[hx]
     rcases mem y hy with hy | ⟨_,hy⟩
     · exact free hk y hy
     · rw[hy]; exact way_self _ _ rfl rfl
 rw[key]
 refine pairs_sub (rises_part cl_cmp ?_ (uniq_rises cl_cmp _) fun x hx => ?_)
 · exact List.Pairwise.sublist List.filter_sublist (uniq_rises cl_cmp _)
 · exact of_decide_eq_true (List.mem_filter.1 hx).2
theorem leavesM_short {l:List Item1}:(leavesM l).length≤l.length:=by
 have h1:=uniq_len (c:=cmpLf) (l.map leafOf)
 rw[List.length_map] at h1
 exact h1
theorem leavesM_lows {l:List Item1} (hl:LowI l):∀ y∈leavesM l,lowLf y:=fun y hy=>by
 obtain ⟨x,hx,e⟩:=leavesM_mem.1 hy
 rw[← e]; exact leafOf_low hl hx
theorem allM_few {l:List Txn1}{u:List Ref1}{n:Nat} (h:∀ t∈l,t.2.2.2.2.1.length≤n):(allM l u).length≤l.length*n:=by
 unfold allM
 refine flat_len fun t ht => ?_
 split
 · exact Nat.le_trans items_len (h t ht)
 · simp
theorem top_dot {a:Dot1} (h:rightM a=true) (hn:a≠(15,1048576,())):cmpD a (15,1048576,())<0:=by
 obtain ⟨r,n,⟨⟩⟩:=a
 unfold rightM at h
 rw[decide_eq_true_eq] at h
 simp only at h
 have:¬ (r=15∧n=1048576):=fun e=>hn (by rw[e.1,e.2])
 unfold cmpD orI cmpI
 simp only
 split<;>split<;>(try split)<;>(try split)<;>omega
theorem checkClashes_law (awake19:zbb=some true) (l:List Txn1) (u:List Ref1) (o:Op1):zaq l u o=some true:=by
 unfold zaq
 obtain ⟨b,hb,hg⟩:=good13_t l u
 rw[hb]
 simp only[zb,awake19,shortOp_t]
 cases b with
 | false=>rfl
 | true =>
   obtain ⟨h1,h2⟩:=hg rfl
   simp only[Bool.not_true,cond_false]
   cases hsp:shortB o with
   | false=>rfl
   | true =>
     have hso:=shortB_iff.1 hsp
     have hlen:=h1.len
     obtain ⟨n,hn1,hn2⟩:=refFind_t (l:=l) (d:=(15,1048576,())) (by omega)
     simp only[Bool.not_true,cond_false]
     rw[hn1]
     simp only[zb,cond_dec]
     by_cases hn0:n≥0
     · rw[zp hn0]
     rw[zn hn0]
     obtain ⟨k,p,⟨v1,v2,v3,⟨⟩⟩,nn,s,⟨⟩⟩:=o
     have hp:=txns_low h1 (by omega)
     have hu:=counts_low h2
     have hi:=items_ok (u:=u) h1
     have hnm:=(all_names (u:=u) h1.rise).1
     have hs0:=short_nil hso
     rw[all_t hp.low hu]
     simp only[zb]
     rw[checkMake_t hi hnm hs0]
     simp only[zb,cond_ndec]
     rcases make_cases (u:=u) h1 hs0 with ⟨e,he,hm⟩ | ⟨m,hm,hop,hsm⟩
     · rw[hm]
       simp only
       rw[zn he]
     · rw[hm]
       simp only
       rw[zp trivial]
       have below:∀ x∈l,cmpD x.1 (15,1048576,())<0:=fun x hx=>top_dot (h1.all x hx).dot (hn2 (by omega) x hx)
       rw[with_t (by omega) below (by simp)]
       simp only[zb]
       have hp':LowP (l++[((15,1048576,()),0,1,false,[m],())]):=by
         refine ⟨⟨by rw[List.length_append]; simp only[zl,List.length_nil]; omega,fun t ht => ?_,fun t ht q hq => ?_⟩,fun t ht q hq => ?_⟩
         · rcases List.mem_append.1 ht with ht | ht
           · exact hp.low.ops t ht
           · rw[List.mem_singleton.1 ht]; simp
         · rcases List.mem_append.1 ht with ht | ht
           · exact hp.low.seen t ht q hq
           · rw[List.mem_singleton.1 ht] at hq
             rw[List.mem_singleton.1 hq]
             have:=hsm.2.2.2; omega
         · rcases List.mem_append.1 ht with ht | ht
           · exact hp.ops t ht q hq
           · rw[List.mem_singleton.1 ht] at hq
             rw[List.mem_singleton.1 hq]
             exact ⟨⟨by have:=hsm.1; omega,fun s hs=>by have:=hsm.2.1 s hs; omega⟩,by have:=hsm.2.2.1; omega⟩
       have few:(allM (l++[((15,1048576,()),0,1,false,[m],())]) u).length≤336:=by
         have:=allM_few (l:=l++[((15,1048576,()),0,1,false,[m],())]) (u:=u) (n:=16) fun t ht=>by
           rcases List.mem_append.1 ht with ht | ht
           · exact (h1.all t ht).len
           · rw[List.mem_singleton.1 ht]; simp
         rw[List.length_append] at this
         simp only[zl,List.length_nil] at this
         omega
       have hI:=allM_low (u:=u) hp' (by rw[List.length_append]; simp only[zl,List.length_nil]; omega)
       have hI0:=itemsOk_low hi
       rw[all_t hp'.low hu]
       simp only[zb]
       rw[leaves_t hI]
       simp only[zb]
       rw[clashes_t (by have:=leavesM_short (l:=allM (l++[((15,1048576,()),0,1,false,[m],())]) u); omega) (leavesM_lows hI)]
       simp only[zb]
       rw[leaves_t hI0]
       simp only[zb]
       rw[clashes_t (by have:=leavesM_short (l:=allM l u); have:=hi.len; omega) (leavesM_lows hI0)]
       simp only[zb]
       have:=pairs_with (d:=(15,1048576,())) (us:=0) (ti:=1) (b:=false) hm
       rw[zp (by omega)]
theorem checkClashes_all:∀ v:zaq_T.ps.V,okV zaq_T.ps v→zaq_T.fn v=some true:=fun v _=>by
 obtain ⟨l,u,o,⟨⟩⟩:=v
 exact checkClashes_law awake19 l u o
end Go.Proofs.YtgfpkhlabdcbmaaGreatDoor.Q
