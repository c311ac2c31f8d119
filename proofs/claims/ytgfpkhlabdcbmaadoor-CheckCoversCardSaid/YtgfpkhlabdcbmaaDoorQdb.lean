import Derived.Test.YtgfpkhlabdcbmaaDoorQda
set_option linter.unusedVariables false
set_option linter.unusedSimpArgs false
set_option maxRecDepth 100000
namespace Go.Proofs.YtgfpkhlabdcbmaaDoor.Q
open Go.EM Go.TY Go.Proofs Go.Proofs.YtgfpkhlabdcbmaaDoor.Y
theorem strs_self {p:Path} (hp:p.length<1000000):zaj p p=some true:=by
 have loop:=loop_all (f:=zaj_l4 p p) (l:=p) (fun i=>((i:Int),())) (fun _=>true) true false (fun i h=>by
   unfold zaj_l4
   simp only[cond_dec,cond_ndec]
   rw[zp (by omega),atI_lt h]
   simp only[zb]
   rw[zp trivial,wrap64 (by omega) (by omega),zp trivial]; rfl) (by
   unfold zaj_l4
   simp only[cond_dec]
   rw[zn (by omega)])
 rw[zp (by simp)] at loop
 unfold zaj
 simp only[decide_true,Bool.not_true,cond_false]
 exact loop
theorem refs_self {s:List Ref1} (hs:s.length<1000000):zah s s=some true:=by
 have loop:=loop_all (f:=zah_l4 s s) (l:=s) (fun i=>((i:Int),())) (fun _=>true) true false (fun i h=>by
   unfold zah_l4
   simp only[cond_dec,cond_ndec]
   rw[zp (by omega),atI_lt h]
   simp only[zb]
   rw[show (eqV (.agg (.cons (.agg (.cons (.int .i64) (.cons (.int .i64) .unit))) (.cons (.int .i64) .unit))) s[i] s[i])=eqV tyRef s[i] s[i] from rfl,eqRef,zt rfl]
   simp only[Bool.not_true,cond_false]
   rw[wrap64 (by omega) (by omega),zp trivial]; rfl) (by
   unfold zah_l4
   simp only[cond_dec]
   rw[zn (by omega)])
 rw[zp (by simp)] at loop
 unfold zah
 simp only[decide_true,Bool.not_true,cond_false]
 exact loop
theorem item_self {y:Item1} (hp:y.2.1.2.1.length<1000000) (hs:y.2.1.2.2.2.2.1.length<1000000):za8 y y=some true:=by
 unfold za8 zb8
 rw[show (eqV (.agg (.cons (.agg (.cons (.int .i64) (.cons (.int .i64) .unit))) (.cons (.int .i64) .unit))) y.1 y.1)=eqV tyRef y.1 y.1 from rfl,eqRef,zt rfl]
 simp only[eqVal,decide_true,cond_true,zb]
 rw[strs_self hp]
 simp only[zb,cond_true]
 rw[refs_self hs]; rfl
theorem same_one {y:Item1} (hp:y.2.1.2.1.length<1000000) (hs:y.2.1.2.2.2.2.1.length<1000000) {b:Bool}:zb1 (if b=true then [y] else []) [y]=some b:=by
 unfold zb1 zaa
 cases b with
 | false=>rfl
 | true =>
   rw[zp rfl]
   simp only[decide_true,Bool.not_true,cond_false,cond_ndec,if_true]
   have t1:zaa_l4 [y] [y] (0,())=some (.inl (1,())):=by
     unfold zaa_l4
     have e:atI [y] 0=some y:=rfl
     simp only[e,zb,item_self hp hs]
     rfl
   have t2:zaa_l4 [y] [y] (1,())=some (.inr true):=by
     unfold zaa_l4
     rfl
   rw[loopT_inl t1,loopT_inr t2]; rfl
theorem refCov_t {o:Op1}{r:Ref1} (hs:o.2.2.2.2.1.length<1000000):zau o r=some (coverO o r):=by
 have loop:=loop_all (f:=zau_l2 o r) (l:=o.2.2.2.2.1) (fun i=>((i:Int),())) (fun y => !decide (r=y)) false true (fun i h=>by
   unfold zau_l2
   simp only[cond_dec]
   rw[zp (by omega),atI_lt h]
   simp only[zb]
   rw[show (eqV (.agg (.cons (.agg (.cons (.int .i64) (.cons (.int .i64) .unit))) (.cons (.int .i64) .unit))) o.2.2.2.2.1[i] r)=eqV tyRef o.2.2.2.2.1[i] r from rfl,eqRef,wrap64 (by omega) (by omega)]
   by_cases hc:r=o.2.2.2.2.1[i]
   · rw[zt hc.symm,zt hc]; rfl
   · rw[zf (fun e=>hc e.symm),zf hc]; rfl) (by
   unfold zau_l2
   simp only[cond_dec]
   rw[zn (by omega)])
 unfold zau coverO
 rw[show ((0:Int),())=(((0:Nat):Int),()) from rfl,loop]
 congr 1
 cases h:o.2.2.2.2.1.any fun y=>decide (r=y) with
 | true =>
   rw[zn]
   intro ha
   obtain ⟨y,hy,e⟩:=List.any_eq_true.1 h
   have:=List.all_eq_true.1 ha y hy
   rw[e] at this; cases this
 | false =>
   rw[zp]
   rw[List.all_eq_true]
   intro y hy
   have:=List.any_eq_false.1 h y hy
   rw[eq_false_of_ne_true this]; rfl
theorem make_good {x:List Item1}{o m:Op1} (h:makeM x o=(m,0,())):m=(o.1,o.2.1,o.2.2.1,o.2.2.2.1,seenR x o,()):=by
 unfold makeM at h
 by_cases h0:opM o≠0
 · rw[zp h0] at h; exact absurd (congrArg (fun z=>z.2.1) h) h0
 rw[zn h0] at h
 by_cases hc:clashesM x o=true
 · rw[zp hc] at h; have:=congrArg (fun z=>z.2.1) h; simp only at this; omega
 rw[zn hc] at h
 by_cases h1:(seenR x o).length=0∧(o.1=4∨o.1=5)
 · rw[zp h1] at h; have:=congrArg (fun z=>z.2.1) h; simp only at this; omega
 rw[zn h1] at h
 by_cases h2:(seenR x o).length>256
 · rw[zp h2] at h; have:=congrArg (fun z=>z.2.1) h; simp only at this; omega
 rw[zn h2] at h
 exact (congrArg (fun z=>z.1) h).symm
theorem cover_iff {x:List Item1}{o m:Op1} (hn:(x.map (·.1)).Nodup) (hm:m=(o.1,o.2.1,o.2.2.1,o.2.2.2.1,seenR x o,())) {y:Item1} (hy:y∈x):coverO m y.1=coversM m y:=by
 have e:coversM m=coversM o:=by rw[hm]; rfl
 rw[e,Bool.eq_iff_iff]
 unfold coverO
 rw[List.any_eq_true]
 have hs:m.2.2.2.2.1=seenR x o:=by rw[hm]
 rw[hs]
 constructor
 · rintro ⟨r,hr,h⟩
   have hyr:y.1=r:=of_decide_eq_true h
   rw[seen_mem] at hr
   obtain ⟨z,hz,hz2⟩:=List.mem_map.1 hr
   obtain ⟨h1,h2⟩:=List.mem_filter.1 hz
   have:z=y:=by
     obtain ⟨i,hi,rfl⟩:=List.mem_iff_getElem.1 h1
     obtain ⟨j,hj,rfl⟩:=List.mem_iff_getElem.1 hy
     have e1:x[i].1=x[j].1:=hz2.trans hyr.symm
     have hp:=List.pairwise_iff_getElem.1 hn
     rcases Nat.lt_trichotomy i j with hlt | heq | hlt
     · have:=hp i j (by simpa using hi) (by simpa using hj) hlt
       rw[List.getElem_map,List.getElem_map] at this
       exact absurd e1 this
     · subst heq; rfl
     · have:=hp j i (by simpa using hj) (by simpa using hi) hlt
       rw[List.getElem_map,List.getElem_map] at this
       exact absurd e1.symm this
   rw[← this]; exact h2
 · intro h
   exact ⟨y.1,seen_mem.2 (List.mem_map.2 ⟨y,List.mem_filter.2 ⟨hy,h⟩,rfl⟩),zt rfl⟩
theorem at_one {y:Item1}{p:Path}{k:Int}:atM [y] p k=if isAt p k y=true then [y] else []:=by
 unfold atM
 rw[List.filter_cons]
 split<;>rfl
theorem under_one {y:Item1}{p:Path}:([y].filter fun z=>underM z.2.1.2.1 p)=if underM y.2.1.2.1 p=true then [y] else []:=by
 rw[List.filter_cons]
 split<;>rfl
theorem one_low {x:List Item1} (hx:ItemsOk x) {y:Item1} (hy:y∈x):ItemsOk [y] where
 len:=by simp
 op z hz:=by rw[List.mem_singleton.1 hz]; exact hx.op y hy
theorem covers_loop {x:List Item1}{o m:Op1} (hx:ItemsOk x) (hn:(x.map (·.1)).Nodup) (hm:m=(o.1,o.2.1,o.2.2.1,o.2.2.2.1,seenR x o,())) (hp:m.2.1.length<1000000) (hs:m.2.2.2.2.1.length<1000000) :
   loopT (zal_l9 x) (0,0,m,())=some (.inl (((x.filter (coversM m)).length:Int),m,())):=by
 have hlen:=hx.len
 have turn:∀ (i:Nat) (h:i<x.length),zal_l9 x ((((x.take i).filter (coversM m)).length:Int),(i:Int),m,())=some (.inl ((((x.take (i+1)).filter (coversM m)).length:Int),((i+1:Nat):Int),m,())):=by
   intro i h
   have hmem:=zm h
   have hlow:=one_low hx hmem
   have hI:=itemsOk_low hlow
   have hop:=hx.op _ hmem
   have hyp:=(item_path hx hmem).1
   have hys:x[i].2.1.2.2.2.2.1.length<1000000:=by have:=hop.2.1.2.2.2; omega
   have cle:=List.length_filter_le (coversM m) (x.take i)
   have tle:(x.take i).length≤i:=List.length_take_le ..
   have ht:((x.take (i+1)).filter (coversM m)).length=((x.take i).filter (coversM m)).length+if coversM m x[i]=true then 1 else 0:=by
     rw[List.take_succ_eq_append_getElem h,List.filter_append,List.length_append,List.filter_cons]
     split<;>rfl
   unfold zal_l9
   simp only[cond_dec]
   rw[zp (by omega),atI_lt h]
   simp only[zb]
   rw[refLeaf11_t]
   simp only[zb]
   rw[at_t hI]
   simp only[zb]
   rw[at_one,same_one hyp hys]
   simp only[zb]
   rw[underIt_t hlow,under_one]
   simp only[zb,eqVal]
   have hat:isAt m.2.1 (leafM x[i].2.1.1) x[i]=decide (x[i].2.1.2.1=m.2.1):=by
     unfold isAt
     rw[zt rfl,Bool.true_and]
   rw[hat]
   have hun:((if underM x[i].2.1.2.1 m.2.1=true then [x[i]] else []:List Item1).length:Int)=if underM x[i].2.1.2.1 m.2.1=true then 1 else 0:=by
     split<;>rfl
   rw[hun]
   have want : ∀ (b : Bool), b = coversM m x[i] →
       ((zau m x[i].1).bind fun r24=>cond (!(r24==b)) (some (.inr (.inr false))) (cond b (some (.inl ((IntKind.wrap .i64 ((((x.take i).filter (coversM m)).length:Int)+1)),(IntKind.wrap .i64 ((i:Int)+1)),m,()))) (some (.inl ((((x.take i).filter (coversM m)).length:Int),(IntKind.wrap .i64 ((i:Int)+1)),m,()))))) =
       (some (.inl ((((x.take (i+1)).filter (coversM m)).length:Int),((i+1:Nat):Int),m,())):Option ((Int×Int×Op1×Unit)⊕((Int×Op1×Unit)⊕Bool))):=by
     intro b hb
     subst hb
     rw[ht,refCov_t hs,cover_iff hn hm hmem]
     simp only[zb]
     rw[wrap64 (n:=(i:Int)+1) (by omega) (by omega)]
     cases hc:coversM m x[i] with
     | true =>
       rw[wrap64 (by omega) (by omega)]; rfl
     | false=>rfl
   by_cases h1:m.1=1
   · have hcv : coversM m x[i] = (decide (x[i].2.1.2.1 = m.2.1) && decide (x[i].2.1.1 = 1)) := by
       unfold coversM
       rw[zp h1]
       congr 1
       rw[decide_eq_decide]; exact ⟨fun e=>e.symm,fun e=>e.symm⟩
     rw[zp h1]
     simp only[zb]
     by_cases hpq:x[i].2.1.2.1=m.2.1
     · by_cases hk:x[i].2.1.1=1
       · rw[zt hpq,zt hk] at *
         simp only[cond_true,zb]
         exact want true (by rw[hcv]; rfl)
       · rw[zt hpq,zf hk] at *
         simp only[cond_true,cond_false,zb]
         rw[zn (show ¬ m.1=4 by omega)]
         simp only[cond_false,zb]
         rw[zn (show ¬ m.1=5 by omega)]
         simp only[zb]
         exact want false (by rw[hcv]; rfl)
     · rw[zf hpq] at *
       simp only[cond_false,zb]
       rw[zn (by omega)]
       simp only[cond_false,zb]
       rw[zn (by omega)]
       simp only[zb]
       exact want false (by rw[hcv]; rfl)
   · rw[zn h1]
     simp only[cond_false,zb]
     by_cases h4:m.1=4
     · have hcv : coversM m x[i] = (decide (x[i].2.1.2.1 = m.2.1) && decide (x[i].2.1.1 = 2) && decide (x[i].2.1.2.2.1 = m.2.2.1)) := by
         unfold coversM
         rw[zn h1,zp h4]
         congr 2
         rw[decide_eq_decide]; exact ⟨fun e=>e.symm,fun e=>e.symm⟩
       rw[zp h4]
       by_cases hpq:x[i].2.1.2.1=m.2.1
       · rw[zt hpq] at *
         simp only[cond_true,Bool.true_and] at *
         by_cases hk:x[i].2.1.1=2
         · rw[zp hk]
           rw[zt hk,Bool.true_and] at hcv
           simp only[zb]
           cases hv:decide (x[i].2.1.2.2.1=m.2.2.1) with
           | true =>
             simp only[cond_true,zb]
             exact want true (by rw[hcv,hv])
           | false =>
             simp only[cond_false]
             rw[zn (by omega)]
             simp only[zb]
             exact want false (by rw[hcv,hv])
         · rw[zn hk]
           rw[zf hk] at hcv
           simp only[zb,cond_false]
           rw[zn (by omega)]
           simp only[zb]
           exact want false (by rw[hcv]; rfl)
       · rw[zf hpq] at *
         simp only[cond_false,zb]
         rw[zn (by omega)]
         simp only[zb]
         exact want false (by rw[hcv]; rfl)
     · rw[zn h4]
       simp only[cond_false,zb]
       by_cases h5:m.1=5
       · have hcv : coversM m x[i] = underM x[i].2.1.2.1 m.2.1 := by
           unfold coversM
           rw[zn h1,zn h4,zp h5]
         rw[zp h5]
         simp only[zb]
         refine want _ ?_
         rw[hcv]
         cases underM x[i].2.1.2.1 m.2.1<;>rfl
       · have hcv : coversM m x[i] = false := by
           unfold coversM
           rw[zn h1,zn h4,zn h5]
         rw[zn h5]
         simp only[zb]
         exact want false hcv.symm
 have key:∀ (k i:Nat),x.length-i≤k→i≤x.length→loopT (zal_l9 x) ((((x.take i).filter (coversM m)).length:Int),(i:Int),m,())=some (.inl (((x.filter (coversM m)).length:Int),m,())):=by
   intro k
   induction k with
   | zero =>
     intro i hk hi
     refine loopT_inr ?_
     unfold zal_l9
     simp only[cond_dec]
     rw[zn (by omega),List.take_of_length_le (by omega)]
   | succ k ih =>
     intro i hk hi
     by_cases hlt:i<x.length
     · rw[loopT_inl (turn i hlt)]
       exact ih _ (by omega) (by omega)
     · refine loopT_inr ?_
       unfold zal_l9
       simp only[cond_dec]
       rw[zn (by omega),List.take_of_length_le (by omega)]
 have:=key x.length 0 (by omega) (by omega)
 rw[List.take_zero] at this
 exact this
theorem sel_seen {x:List Item1}{o:Op1} (hn:(x.map (·.1)).Nodup):(seenR x o).length=(selR x o).length:=by
 have h1:(seenR x o).Nodup:=(seen_rises (x:=x) (o:=o)).imp fun {a b} h e=>by
   have h0:cmpR a b=0:=(cr_cmp.zero ..).2 e
   have:cmpR a b<0:=h
   omega
 exact ((List.perm_ext_iff_of_nodup h1 (sel_nodup hn)).2 fun r=>seen_mem).length_eq
theorem checkCovers_law (l:List Txn1) (u:List Ref1) (o:Op1):zal l u o=some true:=by
 unfold zal
 obtain ⟨b,hb,hg⟩:=good13_t l u
 rw[hb]
 simp only[zb,awake19,shortOp_t]
 cases b with
 | false=>rfl
 | true =>
   obtain ⟨h1,h2⟩:=hg rfl
   simp only[Bool.not_true,cond_false]
   cases hsp:shortB o with
   | false=>rfl
   | true =>
     have hso:=shortB_iff.1 hsp
     simp only[Bool.not_true,cond_false]
     obtain ⟨k,p,⟨v1,v2,v3,⟨⟩⟩,nn,s,⟨⟩⟩:=o
     have hp:=txns_low h1 (by omega)
     have hu:=counts_low h2
     have hi:=items_ok (u:=u) h1
     have hnm:=(all_names (u:=u) h1.rise).1
     have hs0:=short_nil hso
     rw[all_t hp.low hu]
     simp only[zb]
     rw[checkMake_t hi hnm hs0]
     simp only[zb,cond_ndec,cond_dec]
     rcases make_cases (u:=u) h1 hs0 with ⟨e,he,hm⟩ | ⟨m,hm,hop,hsm⟩
     · rw[hm]
       simp only
       rw[zn he]
     · rw[hm]
       simp only
       rw[zp trivial]
       have hmg:=make_good hm
       have q1:=hsm.1
       have q2:=hsm.2.2.2
       rw[covers_loop hi hnm hmg (by omega) (by omega),bind_join_inl]
       simp only
       rw[zp]
       have e1:(allM l u).filter (coversM m)=(allM l u).filter (coversM (k,p,(v1,v2,v3,()),nn,[],())):=by rw[hmg]; rfl
       have e2:m.2.2.2.2.1=seenR (allM l u) (k,p,(v1,v2,v3,()),nn,[],()):=by rw[hmg]
       rw[e1,e2,sel_seen hnm]
       unfold selR
       rw[List.length_map]
theorem checkCovers_all:∀ v:zal_T.ps.V,okV zal_T.ps v→zal_T.fn v=some true:=fun v _=>by
 obtain ⟨l,u,o,⟨⟩⟩:=v
 exact checkCovers_law l u o
end Go.Proofs.YtgfpkhlabdcbmaaDoor.Q
