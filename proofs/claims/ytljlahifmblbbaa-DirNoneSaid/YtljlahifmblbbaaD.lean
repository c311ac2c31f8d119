import Derived.Test.YtljlahifmblbbaaT33
import Derived.Test.YtljlahifmblbbaaE34
import Derived.Test.YtljlahifmblbbaaProg
import Derived.Shelf.SlMaps.Clone
import Derived.Test.YtljlahifmblbbaaI
set_option linter.unusedVariables false
set_option linter.unusedSimpArgs false
set_option linter.unusedSectionVars false
set_option maxRecDepth 100000
namespace Go.D35
open Go.EM Go.TY Go.Proofs
def G0:List (Nat×AVal):=[]
def Ev:Env:={ pure:=[],raw:=[],glob:=G0 }
def Hh:Hints:={ seqs:=[],loops:=[],own:=[] }
def Vv:TEnv:={}
def Yy:TH:={}
theorem Ev_ok [Drawn]:EnvOk Try.prog Ev:=⟨(fun f h=>by cases h),envP_nil,envS_nil,envP_nil,envX_nil⟩
theorem Vv_ok:EnvT Ev Vv:=⟨(fun f tf h=>by cases h),(fun f tf h=>by cases h),(fun f tf h=>by cases h),(fun f tf h=>by cases h),(fun f tf h=>by cases h),(by exact quietOk_nil rfl),(fun f tf h=>by cases h)⟩
abbrev Bs:=List UInt8
def plainE:List (AVal×AVal)→Option (List (Bs×Bs×Bs))
  | []=>some []
  | (.str k,.agg [.str a,.str b])::l=>(plainE l).map fun r=>(k,a,b)::r
  | _=>none
def dirOf (e r:Nat) (st:Store):Option (Nat×Int×Bool×List (Bs×Bs×Bs)) :=
  match st[r]? with
  | some (.row e' n [.agg [.map q,.int .i64 f,.bool d]])=>if e'=e∧n=3 then (match st[q]? with
    | some (.map es)=>(plainE es).map fun l=>(q,f,d,l)
    | _=>none) else none
  | _=>none
theorem dirOf_some {e r : Nat} {st : Store} {q : Nat} {f : Int} {d : Bool} {l : List (Bs × Bs × Bs)} (h : dirOf e r st = some (q, f, d, l)) :
    st[r]? = some (.row e 3 [.agg [.map q,.int .i64 f,.bool d]])∧∃ es,st[q]? = some (.map es)∧plainE es=some l:=by
  unfold dirOf at h
  split at h
  · rename_i hr
    split at h
    · rename_i hc
      obtain ⟨rfl,rfl⟩:=hc
      split at h
      · rename_i es hq
        rw[Option.map_eq_some_iff] at h
        obtain ⟨l',h1,h2⟩:=h
        cases h2
        exact ⟨hr,es,hq,h1⟩
      · cases h
    · cases h
  · cases h
def lens (l:List (Bs×Bs×Bs)):Nat:=(l.map fun x=>x.2.1.length+x.2.2.length).sum
def isFile (x:Bs×Bs×Bs) (m:MapEntry):Prop:=m.key = .string ⟨x.1.toArray⟩∧m.val = .agg #[.string ⟨x.2.1.toArray⟩,.string ⟨x.2.2.toArray⟩]
theorem plain_rep {w:World}{O:Nat→Prop}{α:AM}:∀ {es:List (AVal×AVal)}{ms:List MapEntry}{l:List (Bs×Bs×Bs)},plainE es=some l→RepEs w O α es ms→All2 isFile l ms
  | [],ms,l,h,hr=>by
    simp only[plainE] at h; cases h
    simp only[RepEs] at hr; subst hr; trivial
  | (k,v)::es,ms,l,h,hr=>by
    simp only[RepEs] at hr
    obtain ⟨m,ms,rfl,h1,h2,h3⟩:=hr
    unfold plainE at h
    split at h
    · rename_i h'; cases h'
    · rename_i k' a b es' h'
      cases h'
      rw[Option.map_eq_some_iff] at h
      obtain ⟨l',g1,rfl⟩:=h
      simp only[Rep,RepL] at h1 h2
      obtain ⟨c,h2,v1,vs1,rfl,rfl,v2,vs2,rfl,rfl,rfl⟩:=h2
      exact ⟨⟨h1,h2⟩,plain_rep g1 h3⟩
    · cases h
def encF (x:Bs×Bs×Bs):AVal×AVal:=(.str x.1,.agg [.str x.2.1,.str x.2.2])
theorem plain_enc:∀ {es:List (AVal×AVal)}{l:List (Bs×Bs×Bs)},plainE es=some l→es=l.map encF
  | [],l,h=>by simp only[plainE] at h; cases h; rfl
  | (k,v)::es,l,h=>by
    unfold plainE at h
    split at h
    · rename_i h'; cases h'
    · rename_i k' a b es' h'
      cases h'
      rw[Option.map_eq_some_iff] at h
      obtain ⟨l',g1,rfl⟩:=h
      rw[plain_enc g1]; rfl
    · cases h
theorem isFile_enc {x:Bs×Bs×Bs}{m:MapEntry} (h:isFile x m):(ofConst m.key,ofConst m.val)=encF x:=by
  rw[h.1,h.2]; rfl
theorem files_enc:∀ {l:List (Bs×Bs×Bs)}{ms:List MapEntry},All2 isFile l ms→(ms.map fun m=>(ofConst m.key,ofConst m.val))=l.map encF
  | [],[],_=>rfl
  | x::l,m::ms,h=>by
    rw[List.map_cons,List.map_cons,isFile_enc h.1,files_enc h.2]
def lenM (m:MapEntry):Nat:=match ofConst m.val with
  | .agg [.str a,.str b]=>a.length+b.length
  | _=>0
theorem files_len:∀ {l:List (Bs×Bs×Bs)}{ms:List MapEntry},All2 isFile l ms→(ms.map lenM).sum=lens l
  | [],[],_=>rfl
  | x::l,m::ms,h=>by
    unfold lens
    rw[List.map_cons,List.map_cons,List.sum_cons,List.sum_cons,files_len h.2]
    have:lenM m=x.2.1.length+x.2.2.length:=by
      unfold lenM; rw[h.1.2]; rfl
    rw[this]; rfl
theorem files_mem {l:List (Bs×Bs×Bs)}{ms:List MapEntry} (h:All2 isFile l ms) {m:MapEntry} (hm:m∈ms):∃ x∈l,isFile x m:=by
  induction l generalizing ms with
  | nil=>cases ms with
    | nil=>cases hm
    | cons _ _=>exact h.elim
  | cons y l ih=>cases ms with
    | nil=>exact h.elim
    | cons m' ms =>
      rcases List.mem_cons.1 hm with rfl | hm
      · exact ⟨y,List.mem_cons_self ..,h.1⟩
      · obtain ⟨x,h1,h2⟩:=ih h.2 hm
        exact ⟨x,List.mem_cons_of_mem _ h1,h2⟩
def totalS:SFn:=fun xs st=>match xs with
  | [.ptr r 1 0 0]=>(dirOf 38 r st).bind fun d=>if lens d.2.2.2<4611686018427387904 then some (.int .i64 (lens d.2.2.2),st) else none
  | _=>none
noncomputable def tc:Code:=Try.f34.body.getD .skip
noncomputable def tR0:Code:=cL tc
noncomputable def tR1:Code:=cL (cR tc)
noncomputable def tX:Code:=cL (cR (cR tc))
noncomputable def tE:Code:=cR (cR (cR tc))
noncomputable def tO2:List Oper:=cOps (cL tX)
noncomputable def tLB:Code:=cB (cB (cR tX))
noncomputable def tO3:List Oper:=cOps (cL tLB)
noncomputable def tBd:Code:=cB (cR (cR tLB))
noncomputable def tO4:List Oper:=cOps (cL tBd)
noncomputable def tR5:Code:=cR tBd
noncomputable def tnx:Oper:=opN tO3 0
noncomputable def tex:Oper:=opN tO3 1
noncomputable def ten:Oper:=opN tO4 0
noncomputable def trg:Oper:=opN tO2 4
noncomputable def tO4':List Oper:=tO4.drop 1
noncomputable def tO2':List Oper:=tO2.take 4
theorem t_body:Try.f34.body=some (.seq tR0 (.seq tR1 (.seq (.seq (.region 2 (tO2'++[trg]).toArray false) (.block 0 (.loop (.seq (.region 3 #[tnx,tex] false) (.seq (.cond (.tmp 12) .skip (.exit 0)) (.block 1 (.seq (.region 4 (ten::tO4').toArray false) tR5))))))) tE))):=by kernel_rfl
abbrev fT:Ty:=.agg (.cons .str (.cons .str .unit))
abbrev kvT:Ty:=.tup (.cons .str (.cons fT .unit))
def Kt:AExit→TS→Mem→Option Int:=fun e σ m=>match e with
  | .normal=>match getT σ 3 with
    | some ⟨.int .i64,n⟩=>some n
    | _=>none
  | _=>none
theorem t_round (k a b:Bs) (n:Int):opsT Try.prog Ev Hh Vv Yy (ten::tO4') tO4' [(13,⟨kvT,(k,(a,b,()),())⟩),(3,⟨.int .i64,n⟩)] [] (fun σ m=>DT Try.prog Ev Hh Vv Yy tR5 Int σ m Kt)=some (IntKind.wrap .i64 (n+IntKind.wrap .i64 ((a.length:Int)+(b.length:Int)))):=by kernel_rfl
theorem slotR_nil {Γ:Ctx}{σA:Slots}:SlotR Γ [] σA:=fun k w h=>by cases h
theorem slotR_cons {Γ:Ctx}{σ:TS}{σA:Slots}{k:Nat}{w:TV} (h1:w.t.isV=true) (h2:R Γ w.t w.v false [getS σA k]) (h:SlotR Γ σ σA):SlotR Γ ((k,w)::σ) σA:=fun j y hy=>by
  simp only[getT] at hy
  cases hb:Nat.beq k j with
  | true=>rw[hb] at hy; cases hy; rw[Nat.beq_eq] at hb; subst hb; exact ⟨h1,h2⟩
  | false=>rw[hb] at hy; exact h j y hy
theorem memR_nil {st:Store}:MemR (fun r=>st[r]?) Γ0 [] st:=⟨(fun id hid=>by simp at hid),(fun _ _=>rfl),(fun i j r n l n' l' h=>by cases h),(fun i r n l h=>by cases h),(fun r g h=>h),(fun r g i n l h h2=>by cases h2)⟩
section
variable [Drawn] {G:List (Nat×AVal)}{w:World}{O:Nat→Prop}{α:AM}{st:Store}
theorem total_sound:SoundS Try.prog G0 34 totalS:=by
  refine ⟨⟨Try.f34,Try.func34,rfl,by kernel_rfl⟩,fun xs st r st' hF w O α vs hi hg hv => ?_⟩
  unfold totalS at hF
  split at hF
  · rename_i rr
    rw[Option.bind_eq_some_iff] at hF
    obtain ⟨⟨q,f,d,l⟩,hd,hF⟩:=hF
    split at hF
    · rename_i hlt
      cases hF
      simp only at hlt
      obtain ⟨hst,es,hq,hpl⟩:=dirOf_some hd
      have hlen0:=hi.len
      refine calls_of_wp Try.func34 t_body ?_
      have hslots:=entry_slots (N:=Try.f34.ntmps) (n:=1) hv rfl (Nat.le_of_ble_eq_true (by kernel_rfl))
      have hh:∀ {c:Code}{σ σ':Slots}{st st':Store}{e:AExit},dstsIn Try.f34.ntmps c=true→D Try.prog Ev Hh c (AExit×Slots×Store) σ st (fun e σ st=>some (e,σ,st))=some (e,σ',st')→Runs Try.prog Ev Try.f34.ntmps c σ st e σ' st':=fun h1 h2=>D_run Ev_ok h1 h2
      have r0:=hh (c:=tR0) (σ:=plugK (List.range 1) 0 [.ptr rr 1 0 0]) (st:=st) (st':=st) (e:=.normal) (σ':=[(2,.int .i64 0),(0,.ptr rr 1 0 0)]) (by kernel_rfl) (by kernel_rfl)
      refine wp_seq (r0 w O α _ _ hi hg hslots (fun a1 w1 hp1 => ?_))
      obtain ⟨α1,e1,i1,s1⟩:=hp1
      have r1:=hh (c:=tR1) (σ:=[(2,.int .i64 0),(0,.ptr rr 1 0 0)]) (st:=st) (st':=st) (e:=.normal) (σ':=[(3,.int .i64 0),(2,.int .i64 0),(0,.ptr rr 1 0 0)]) (by kernel_rfl) (by kernel_rfl)
      refine wp_seq (r1 w1 O α1 a1 _ i1 (hg.ext e1) s1 (fun a2 w2 hp2 => ?_))
      obtain ⟨α2,e2,i2,s2⟩:=hp2
      refine wp_seq (wp_seq (wp_region ?_))
      have hrng:List.range (tO2'++[trg]).toArray.size=List.range' 0 tO2'.length++[4]:=by kernel_rfl
      rw[hrng]
      have hload:aload Try.prog 36 (.ptr rr 1 0 0) st=some (.map q):=by
        simp only[aload,cellsAt,hst,List.length_cons,List.length_nil,Nat.zero_add,if_true,List.getElem?_cons_zero,Option.map_some]
        kernel_rfl
      have hev : evalOps Try.prog Ev Hh (tO2' ++ [trg]) tO2' [(3, .int .i64 0), (2, .int .i64 0), (0, .ptr rr 1 0 0)] st (fun σ st => some (σ, st)) =
          ((aload Try.prog 36 (.ptr rr 1 0 0) st).map fun v=>(v,st)).bind fun p=>some ((9,p.1)::(8,.ptr rr 1 0 0)::(7,.ptr rr 1 0 0)::(6,.ptr rr 1 0 0)::[(3,.int .i64 0),(2,.int .i64 0),(0,.ptr rr 1 0 0)],p.2):=by kernel_rfl
      rw[hload] at hev
      simp only[Option.map_some,Option.bind_some] at hev
      have hdst:∀ o∈tO2'++[trg],∀ t,o.dst=some t→t<Try.f34.ntmps:=by
        have:=dstsIn_region (n:=Try.f34.ntmps) (id:=2) (ops:=(tO2'++[trg]).toArray) (dr:=false) (by kernel_rfl)
        simpa only[List.toList_toArray] using this
      obtain ⟨σ3,st3,hk3,hw3⟩:=evalOps_head (N:=Try.f34.ntmps) Ev_ok (ops:=tO2'++[trg]) hdst tO2' 0 _ _ (fun j hj=>by rw[Nat.zero_add,List.getElem?_append_left hj]) hev
      cases hk3
      refine hw3 [4] w2 O α2 a2 _ i2 (hg.ext (e1.trans e2)) s2 (fun a3 w3 hp3 => ?_)
      obtain ⟨α3,e3,i3,s3⟩:=hp3
      rw[wpOps_cons]
      unfold wpOp
      have hrg:(tO2'++[trg]).toArray[4]? = some trg:=by kernel_rfl
      simp only[hrg,wanted_none (show trg.guard=none by kernel_rfl),if_true]
      left
      have hexec:execOp a3.eval trg=(do pure (.value (← Instr.range 36 (a3.eval (.tmp 9))))):=by kernel_rfl
      obtain ⟨ri,ms,clock,p1,p2,p3,p4,p5,i3'⟩:=i3.still hq
      have h9:a3.eval (.tmp 9) = .map (some ri.block):=by
        have:=s3.slot 9
        simp only[getS,Nat.beq_refl,cond_true,Rep] at this
        obtain ⟨_,b,hb,hb2⟩:=this
        rw[← hb2 ri p1 p2]; exact hb
      refine wp_of_run hexec (by rw[h9]; exact run_range_map w3 36 9 54 ri.block ms clock (by kernel_rfl) p3) ?_
      have hlen3:(st.set q (.fix (.map ms clock))).length=α3.length:=by rw[List.length_set]; exact i3.len
      obtain ⟨e4,i4⟩:=i3'.push ⟨w3.heap.size,0,0,0⟩ (.fix (.mapIter (some ri.block) clock #[] clock)) (.mapIter (some ri.block) clock #[] clock) rfl (by
        simp only[RegRep]
        exact ⟨⟨w3.heap.size,0,0,0⟩,by simp,rfl,(heap_alloc_new _ _)⟩)
      have hfiles:=plain_rep hpl p4
      have hq':q<st.length:=(List.getElem?_eq_some_iff.1 hq).1
      obtain ⟨X,hX⟩:∃ X,X=st.set q (.fix (.map ms clock)):=⟨_,rfl⟩
      rw[← hX] at i4 hlen3
      have hXl:X.length=st.length:=by rw[hX,List.length_set]
      have hXq:X[q]? = some (.fix (.map ms clock)):=by rw[hX]; exact List.getElem?_set_self hq'
      have hlowX:∀ (n r:Nat) (g:AReg),st.length≤n→X[r]? = some g→lowG n g=true:=fun n r g hn hg'=>by
        rw[hX] at hg'
        by_cases hr:r=q
        · subst hr
          rw[List.getElem?_set_self hq'] at hg'; cases hg'; rfl
        · rw[List.getElem?_set_ne (Ne.symm hr)] at hg'
          exact hi.low (by omega) hg'
      have hsetL:∀ g g':AReg,(X++[g]).set X.length g'=X++[g']:=fun g g'=>by simp
      let S:Array Nat→Slots:=fun s=>[(10,.ptr X.length 0 0 0),(3,.int .i64 (sumIf lenM ms.toList s:Nat))]
      have hslotS:∀ s t,getS (S s) t=cond (Nat.beq 10 t) (.ptr X.length 0 0 0) (cond (Nat.beq 3 t) (.int .i64 (sumIf lenM ms.toList s:Nat)) .any):=fun s t=>rfl
      have hsum:(ms.toList.map lenM).sum=lens l:=files_len hfiles
      have s4:=slot_put (d:=some 10) (v:=.ptr X.length 0 0 0) (u:=.pointer (some ⟨w3.heap.size,0,none⟩)) (s3.ext e4) (fun t ht=>by cases ht; exact Nat.le_of_ble_eq_true (by kernel_rfl)) (by rw[hlen3]; exact ptr_new)
      have hput:trg.dst=some 10:=by kernel_rfl
      rw[← hput] at s4
      simp only[wpOps]
      show (Code.block 0 _).wp Try.prog _ (a3.put trg.dst (.pointer (some ⟨w3.heap.size,0,none⟩))) _
      refine mapRange_wp (N:=Try.f34.ntmps) (h:=Hh) Ev_ok (nx:=tnx) (ex:=tex) (en:=ten) (ops2:=tO4') (rest:=tR5) (it:=10) (tn:=11) (tb:=12) (te:=13) (by kernel_rfl) (by kernel_rfl) (by kernel_rfl) (by kernel_rfl) (by kernel_rfl) (by kernel_rfl) (by kernel_rfl) (by kernel_rfl) (by kernel_rfl)
        (Nat.le_of_ble_eq_true (by kernel_rfl)) (Nat.le_of_ble_eq_true (by kernel_rfl)) (Nat.le_of_ble_eq_true (by kernel_rfl)) ?_ (by kernel_rfl) (ms:=ms) (clock:=clock) (bm:=ri.block) (im:=q) (ii:=X.length) (n0:=X.length+1) p5 (fun _=>X++[.dead]) S (fun _=>True)
        (fun s=>by simp) (fun s r g hg' => ?_) (fun s t => ?_) (fun s => ?_) (by omega) (by omega) (fun s=>rfl) (fun s=>rfl) (fun s=>rfl) (fun s e _ he=>⟨trivial,?_⟩) (by rw[hsetL]; exact i4) (hg.ext ((e1.trans e2).trans (e3.trans e4))) (slots_weak s4 (fun t => ?_)) (by rw[List.getElem?_append_left (by omega)]; exact p1) rfl trivial (fun s a5 w5 _ hall hp5 => ?_)
      · have:=dstsIn_region (n:=Try.f34.ntmps) (id:=4) (ops:=(ten::tO4').toArray) (dr:=false) (by kernel_rfl)
        simpa only[List.toList_toArray] using this
      · by_cases hr:r<X.length
        · rw[List.getElem?_append_left hr] at hg'
          exact hlowX _ r g (by omega) hg'
        · by_cases hr2:r=X.length
          · subst hr2; simp at hg'; subst hg'; rfl
          · rw[List.getElem?_eq_none (by simp; omega)] at hg'; cases hg'
      · rw[hslotS]
        cases Nat.beq 10 t with
        | true=>simp[lowV]
        | false=>cases Nat.beq 3 t<;>rfl
      · rw[List.getElem?_append_left (by omega)]; exact hXq
      · -- a round
        obtain ⟨hmem,hun⟩:=mem_left he
        obtain ⟨x,hx,hf⟩:=files_mem hfiles hmem
        have hc:=isFile_enc hf
        simp only[encF,Prod.mk.injEq] at hc
        have hle:sumIf lenM ms.toList s+lenM e≤lens l:=by
          rw[← sumIf_push lenM s e hun ms.toList p5.2.1 hmem,← hsum]
          exact sumIf_le _ _ _
        have hlm:lenM e=x.2.1.length+x.2.2.length:=by unfold lenM; rw[hc.2]
        obtain ⟨ex,σ',m',σA',st5,Γ',hk,hs5,hm5,hstay,hev5⟩:=frag_eval Vv_ok (slotR_cons (k:=13) (w:=⟨kvT,(x.1,(x.2.1,x.2.2,()),())⟩) (Γ:=Γ0) (σA:=(13,.tup [ofConst e.key,ofConst e.val])::(12,.bool true)::(11,.tup [.bool true,ofConst e.key,ofConst e.val])::S s) rfl
          (by
            simp only[getS,Nat.beq_refl,cond_true,hc.1,hc.2]
            exact ⟨_,rfl,[.str x.1],[.agg [.str x.2.1,.str x.2.2]],rfl,rfl,[_],[],rfl,⟨_,rfl,[_],[_],rfl,rfl,[_],[],rfl,rfl,rfl⟩,rfl⟩)
          (slotR_cons (k:=3) (w:=⟨.int .i64,(sumIf lenM ms.toList s:Nat)⟩) rfl rfl slotR_nil)) (memR_nil (st:=(X++[AReg.dead]).set X.length (.fix (.mapIter (some ri.block) clock (s.push e.born) clock)))) (t_round x.1 x.2.1 x.2.2 (sumIf lenM ms.toList s:Nat))
        have hex:ex = .normal∧∃ n,getT σ' 3=some ⟨.int .i64,n⟩∧n=IntKind.wrap .i64 ((sumIf lenM ms.toList s:Nat)+IntKind.wrap .i64 ((x.2.1.length:Int)+(x.2.2.length:Int))):=by
          unfold Kt at hk
          split at hk
          · refine ⟨rfl,?_⟩
            split at hk
            · rename_i n hn
              cases hk
              exact ⟨_,hn,rfl⟩
            · cases hk
          · cases hk
        obtain ⟨rfl,n,hn,hn2⟩:=hex
        have hn3:n=((sumIf lenM ms.toList (s.push e.born):Nat):Int):=by
          rw[sumIf_push lenM s e hun ms.toList p5.2.1 hmem,hn2,hlm]
          have q1:IntKind.wrap .i64 ((x.2.1.length:Int)+(x.2.2.length:Int))=(x.2.1.length:Int)+(x.2.2.length:Int):=EM.wrap_i64 (by omega) (by omega)
          have q2:IntKind.wrap .i64 (((sumIf lenM ms.toList s:Nat):Int)+((x.2.1.length:Int)+(x.2.2.length:Int)))=((sumIf lenM ms.toList s:Nat):Int)+((x.2.1.length:Int)+(x.2.2.length:Int)):=EM.wrap_i64 (by omega) (by omega)
          rw[q1,q2]
          have q3:((sumIf lenM ms.toList s:Nat):Int)+((x.2.1.length:Int)+(x.2.2.length:Int))=((sumIf lenM ms.toList s+(x.2.1.length+x.2.2.length):Nat):Int):=by omega
          exact q3
        have hσ3:=(hs5 3 _ hn).2
        simp only[R] at hσ3
        have hσ3:=(List.cons.inj hσ3).1
        obtain ⟨tk,tl⟩:=take_old (a:=(X++[AReg.dead]).set X.length (.fix (.mapIter (some ri.block) clock (s.push e.born) clock))) (b:=st5) (fun r g hg'=>hm5.old r g hg')
        rw[List.length_set,List.length_append,List.length_cons,List.length_nil] at tk tl
        refine ⟨σA',st5,?_,tk,tl,fun t => ?_⟩
        · rw[hev5]
        · rw[hslotS]
          cases h10:Nat.beq 10 t with
          | true =>
            right
            rw[← Nat.eq_of_beq_eq_true h10,hstay 10 (by kernel_rfl) (by kernel_rfl)]
            rfl
          | false =>
            cases h3:Nat.beq 3 t with
            | true =>
              right
              rw[← Nat.eq_of_beq_eq_true h3,hσ3,hn3]; rfl
            | false=>left; rfl
      · rw[hslotS,sumIf_none]
        cases h10:Nat.beq 10 t with
        | true =>
          left
          rw[← Nat.eq_of_beq_eq_true h10]; rfl
        | false =>
          cases h3:Nat.beq 3 t with
          | true =>
            left
            rw[← Nat.eq_of_beq_eq_true h3]; rfl
          | false=>right; rfl
      · -- the end
        show tE.wp Try.prog _ a5 w5
        obtain ⟨α5,e5,i5,s5⟩:=hp5
        rw[hsetL] at i5
        have hfin:sumIf lenM ms.toList s=lens l:=by rw[sumIf_all _ _ _ (all_seen ms s hall),hsum]
        have rE:=hh (c:=tE) (σ:=S s) (st:=X++[.fix (.mapIter (some ri.block) clock s clock)]) (st':=X++[.fix (.mapIter (some ri.block) clock s clock)]) (e:=.ret) (σ':=(2,.int .i64 (sumIf lenM ms.toList s:Nat))::(24,.int .i64 (sumIf lenM ms.toList s:Nat))::S s) (by kernel_rfl) (by kernel_rfl)
        have e0:=((e1.trans e2).trans (e3.trans e4)).trans e5
        refine rE w5 O α5 a5 _ i5 (hg.ext e0) s5 (fun a6 w6 hp6 => ?_)
        obtain ⟨α6,e6,i6,s6⟩:=hp6
        have e7:=e0.trans e6
        have hcut:=i6.cut X.length (fun r g hr hg'=>by
          rw[List.getElem?_append_left hr] at hg'
          exact hlowX _ r g (by omega) hg')
        rw[List.take_left' rfl] at hcut
        have hmv:=hcut.move hXq p5
        have hback:X.set q (.map (ms.toList.map fun m=>(ofConst m.key,ofConst m.val)))=st:=by
          rw[files_enc hfiles,← plain_enc hpl,hX,List.set_set,set_same hq]
        rw[hback] at hmv
        have hres:=resV_run (P:=Try.prog) (fn:=Try.f34) (v:=.int .i64 (sumIf lenM ms.toList s:Nat)) i6 s6 (by kernel_rfl)
        obtain ⟨u,k1,k2⟩:=hres
        refine ⟨s6.defers,u,k1,u,α6.take X.length,rfl,e7.cut (by omega),hmv,?_⟩
        rw[hfin] at k2
        exact Rep_cut _ _ rfl k2
    · cases hF
  · cases hF
end
abbrev dT:Ty:=.agg (.cons (.mp 1) (.cons (.int .i64) (.cons .bool .unit)))
def dIn:List RS:=[.box 38 dT,.map .str fT]
abbrev DV:=dT.V×List (Bs×fT.V)×Unit
def nH:Hints:={ seqs:=[],loops:=[],own:=[4] }
noncomputable def none_S:SFn:=runF Try.prog Ev nH Try.f29
noncomputable def none_R:TRaw:={ ps:=.cons (.bx 0 0) .unit,ins:=dIn,res:=.bool,outs:=dIn,fn:=fun v w=>some (false,w) }
theorem none_eq:rawY Try.prog Ev nH Vv Yy [(0,0)] Try.f29 none_R.ps none_R.ins none_R.res none_R.outs=none_R.fn:=by kernel_rfl
theorem none_Sok [Drawn]:SoundS Try.prog G0 29 none_S:=runF_sound (P:=Try.prog) (E:=Ev) (h:=nH) (f:=29) (fn:=Try.f29) Ev_ok Try.func29 rfl (by kernel_rfl)
theorem none_ok:TRawOk none_S none_R:=rawY_ok (E:=Ev) (ET:=Vv) Vv_ok none_eq
theorem none_quiet:∀ xs st p,none_S xs st=some p→p.2=st:=fun xs st p hp=>runF_quiet (by kernel_rfl) hp
noncomputable def rV:TEnv:={ raw:=[(29,none_R)] }
noncomputable def rE:Env:={ pure:=[],raw:=[(29,none_S)],glob:=G0 }
noncomputable def rc:Code:=Try.f13.body.getD .skip
noncomputable def rP:Code:=cL rc
noncomputable def rX:Code:=cL (cR rc)
noncomputable def rEnd:Code:=cR (cR rc)
noncomputable def rO1:List Oper:=cOps (cL rX)
noncomputable def rLB:Code:=cB (cB (cR rX))
noncomputable def rO2:List Oper:=cOps (cL rLB)
noncomputable def rBd:Code:=cB (cR (cR rLB))
noncomputable def rO3:List Oper:=cOps (cL rBd)
noncomputable def rRest:Code:=cR rBd
noncomputable def rnx:Oper:=opN rO2 0
noncomputable def rex:Oper:=opN rO2 1
noncomputable def ren:Oper:=opN rO3 0
noncomputable def rcl:Oper:=opN rO1 4
noncomputable def rrg:Oper:=opN rO1 5
noncomputable def rO3':List Oper:=rO3.drop 1
noncomputable def rO1':List Oper:=rO1.take 4
theorem r_body:Try.f13.body=some (.seq rP (.seq (.seq (.region 1 (rO1'++[rcl,rrg]).toArray false) (.block 0 (.loop (.seq (.region 2 #[rnx,rex] false) (.seq (.cond (.tmp 15) .skip (.exit 0)) (.block 1 (.seq (.region 3 (ren::rO3').toArray false) rRest))))))) rEnd)):=by kernel_rfl
def isBx:Option TV→Bool
  | some ⟨.bx 0 0,_⟩=>true
  | _=>false
def isMp:Option TV→Bool
  | some ⟨.mp 1,_⟩=>true
  | _=>false
theorem isBx_eq {x:Option TV} (h:isBx x=true):x=some ⟨.bx 0 0,()⟩:=by
  unfold isBx at h
  split at h
  · rfl
  · cases h
theorem isMp_eq {x:Option TV} (h:isMp x=true):x=some ⟨.mp 1,()⟩:=by
  unfold isMp at h
  split at h
  · rfl
  · cases h
def Kr:AExit→TS→Mem→Option DV:=fun e σ m=>match e with
  | .normal=>cond (isBx (getT σ 0)&&isMp (getT σ 11)) (enterM [] m m dIn 0) none
  | _=>none
theorem Kr_some {e:AExit}{σ:TS}{m:Mem}{w:DV} (h:Kr e σ m=some w):e = .normal∧getT σ 0=some ⟨.bx 0 0,()⟩∧getT σ 11=some ⟨.mp 1,()⟩∧enterM [] m m dIn 0=some w:=by
  unfold Kr at h
  cases e with
  | exit _=>cases h
  | ret=>cases h
  | normal =>
    simp only at h
    cases hb:(isBx (getT σ 0)&&isMp (getT σ 11)) with
    | false=>rw[hb] at h; cases h
    | true =>
      rw[hb] at h
      rw[Bool.and_eq_true] at hb
      exact ⟨rfl,isBx_eq hb.1,isMp_eq hb.2,h⟩
theorem r_round (k a b : Bs) (n : Int) (v : dT.V) (xs : List (Bs × fT.V)) : opsT Try.prog rE Hh rV Yy (ren :: rO3') rO3' [(16, ⟨kvT, (k, (a, b, ()), ())⟩), (0, ⟨.bx 0 0, ()⟩), (1, ⟨.int .i64, n⟩), (11, ⟨.mp 1, ()⟩)] [.box 38 dT v, .map .str fT xs] (fun σ m => DT Try.prog rE Hh rV Yy rRest DV σ m Kr) =
    (subI b 0 (min (max n 0) (b.length:Int))).bind fun s1=>(catT a s1).bind fun s2=>cond (decide (s2=[])) (some (v,delK .str k (putK .str k (s2,[],()) xs),())) (some (v,putK .str k (s2,[],()) xs,())):=by kernel_rfl
def typedL (l:List (Bs×Bs×Bs)):List (Bs×fT.V):=l.map fun x=>(x.1,(x.2.1,x.2.2,()))
def encT (x:Bs×fT.V):AVal×AVal:=(.str x.1,.agg [.str x.2.1,.str x.2.2.1])
theorem encT_typed (l:List (Bs×Bs×Bs)):(typedL l).map encT=l.map encF:=by
  unfold typedL
  rw[List.map_map]
  rfl
def dGam (r q:Nat):Ctx:=fun id=>if id=0 then some (.inr (r,3,1)) else if id=1 then some (.inr (q,0,0)) else none
def dPhi (r q:Nat) (st:Store):TY.Frame:=fun i=>if i=r∨i=q then none else st[i]?
theorem all2_files {Γ:Ctx}:∀ (l:List (Bs×Bs×Bs)),All2 (fun (p:Ty.str.V×fT.V) (e:AVal×AVal)=>R Γ .str p.1 false [e.1]∧R Γ fT p.2 false [e.2]) (typedL l) (l.map encF)
  | []=>trivial
  | x::l=>⟨⟨rfl,⟨_,rfl,[_],[_],rfl,rfl,[_],[],rfl,rfl,rfl⟩⟩,all2_files l⟩
theorem files_all2 {Γ:Ctx}:∀ {xs:List (Bs×fT.V)}{es:List (AVal×AVal)},All2 (fun (p:Ty.str.V×fT.V) (e:AVal×AVal)=>R Γ .str p.1 false [e.1]∧R Γ fT p.2 false [e.2]) xs es→es=xs.map encT
  | [],[],_=>rfl
  | x::xs,e::es,h=>by
    rw[List.map_cons,← files_all2 h.2]
    obtain ⟨⟨h1,h2⟩,_⟩:=h
    simp only[R] at h1 h2
    have h1:=(List.cons.inj h1).1
    obtain ⟨cs,h2,l1,l2,rfl,rfl,l3,l4,rfl,rfl,rfl⟩:=h2
    have h2:=(List.cons.inj h2).1
    obtain ⟨a,b⟩:=e
    simp only at h1 h2
    rw[h1,h2]; rfl
theorem dMem {st : Store} {r q : Nat} {f : Int} {d : Bool} {l : List (Bs × Bs × Bs)} (hr : st[r]? = some (.row 38 3 [.agg [.map q, .int .i64 f, .bool d]])) (hq : st[q]? = some (.map (l.map encF))) :
    MemR (dPhi r q st) (dGam r q) [.box 38 dT ((),f,d,()),.map .str fT (typedL l)] st where
  reg id hid:=by
    match id,hid with
    | 0,_=>exact ⟨rfl,rfl,(by decide),r,_,rfl,hr,_,rfl,[.map q],[.int .i64 f,.bool d],rfl,⟨q,rfl,rfl⟩,[_],[_],rfl,rfl,[_],[],rfl,rfl,rfl⟩
    | 1,_=>exact ⟨rfl,rfl,rfl,rfl,q,_,rfl,hq,all2_files l⟩
    | n+2,h=>exact absurd h (by simp)
  out id hid:=by
    simp only[List.length_cons,List.length_nil] at hid
    unfold dGam
    rw[if_neg (by omega),if_neg (by omega)]
  inj i j r' n l' n' l'' h1 h2:=by
    have hne:r≠q:=fun e=>by subst e; rw[hr] at hq; cases hq
    unfold dGam at h1 h2
    split at h1
    · split at h2
      · omega
      · split at h2
        · cases h1; cases h2; exact absurd rfl hne
        · cases h2
    · split at h1
      · split at h2
        · cases h1; cases h2; exact absurd rfl hne
        · split at h2
          · omega
          · cases h2
      · cases h1
  lt i r' n l' h:=by
    unfold dGam at h
    split at h
    · cases h; exact (List.getElem?_eq_some_iff.1 hr).1
    · split at h
      · cases h; exact (List.getElem?_eq_some_iff.1 hq).1
      · cases h
  old i g h:=by
    unfold dPhi at h
    split at h
    · cases h
    · exact h
  dis i g j n l' h h2:=by
    unfold dPhi at h
    split at h
    · cases h
    · rename_i hn
      unfold dGam at h2
      split at h2
      · cases h2; exact hn (.inl rfl)
      · split at h2
        · cases h2; exact hn (.inr rfl)
        · cases h2
theorem none_at {st:Store}{r q:Nat}{f:Int}{d:Bool}{l:List (Bs×Bs×Bs)} (hr:st[r]? = some (.row 38 3 [.agg [.map q,.int .i64 f,.bool d]])) (hq:st[q]? = some (.map (l.map encF))):none_S [.ptr r 1 0 0] st=some (.bool false,st):=by
  obtain ⟨a,st',Γ',h1,h2,h3,h4⟩:=none_ok.run (dPhi r q st) (dGam r q) st ((),()) (((),f,d,()),typedL l,()) [.ptr r 1 0 0] false (((),f,d,()),typedL l,()) (dMem hr hq) ⟨[_],[],rfl,⟨r,3,rfl,rfl⟩,rfl⟩ rfl
  have h5:=none_quiet _ _ _ h1
  simp only at h5
  rw[h1,h5]
  have h2:[a]=[AVal.bool false]:=h2
  rw[(List.cons.inj h2).1]
theorem dEnd {Φ : TY.Frame} {Γ' : Ctx} {m' : Mem} {st' : Store} {σ' : TS} {σA' : Slots} {w : DV} {r q : Nat} (hm : MemR Φ Γ' m' st') (hs : SlotR Γ' σ' σA') (h0 : getT σ' 0 = some ⟨.bx 0 0, ()⟩) (g0 : getS σA' 0 = .ptr r 1 0 0) (h11 : getT σ' 11 = some ⟨.mp 1, ()⟩) (g11 : getS σA' 11 = .map q)
    (hw:enterM [] m' m' dIn 0=some w):st'[r]? = some (.row 38 3 [.agg [.map q,.int .i64 w.1.2.1,.bool w.1.2.2.1]])∧st'[q]? = some (.map (w.2.1.map encT)):=by
  have hregs:=enterM_ok hm (.refl m') (l:=[]) (n:=2) (rs:=dIn) (j:=0) (Nat.le_refl _) (rawOk_below (n:=2) (rs:=dIn) rfl) hw
  have a0:=(hs 0 _ h0).2
  have a11:=(hs 11 _ h11).2
  rw[g0] at a0
  rw[g11] at a11
  obtain ⟨r0,n0,b1,b2⟩:=a0
  cases b2
  obtain ⟨q0,c1,c2⟩:=a11
  cases c2
  have lt:∀ i y,Γ' i=some y→i<m'.length:=fun i y hy=>by
    rcases Nat.lt_or_ge i m'.length with h | h
    · exact h
    · rw[hm.out i h] at hy; cases hy
  have e0:anew Γ' [] m'.length 2 0=Γ' 0:=by
    have:=lt 0 _ b1
    unfold anew
    rw[if_pos (by omega),if_neg (by show ¬ m'.length≤0; omega)]; rfl
  have e1:anew Γ' [] m'.length 2 1=Γ' 1:=by
    have:=lt 1 _ c1
    unfold anew
    rw[if_pos (by omega),if_neg (by show ¬ m'.length≤1; omega)]; rfl
  obtain ⟨v,xs,u⟩:=w
  obtain ⟨_,_,_,r1,a,k4,k5,k6⟩:=hregs 0 (by decide)
  obtain ⟨_,_,_,_,q1,es,l5,l6,l7⟩:=hregs 1 (by decide)
  simp only[Nat.zero_add] at k4 l5
  rw[e0,b1] at k4
  cases k4
  have l5:anew Γ' [] m'.length 2 1=some (.inr (q1,0,0)):=l5
  rw[e1,c1] at l5
  cases l5
  refine ⟨?_,?_⟩
  · obtain ⟨cs,k6,x1,x2,rfl,⟨q2,d1,rfl⟩,x3,x4,rfl,rfl,x5,x6,rfl,rfl,rfl⟩:=k6
    have k6:=(List.cons.inj k6).1
    rw[k6] at k5
    rw[show anew Γ' [] m'.length 2 1=Γ' 1 from e1,c1] at d1
    cases d1
    exact k5
  · rw[l6,files_all2 l7]
noncomputable def restart_ren:Go.Shelf.Ren:=⟨fun | 5=>30 | 7=>39 | n=>n,fun | 23=>36 | 20=>20 | 4=>4 | 25=>9 | 3=>54 | n=>n,fun | n=>n⟩
theorem restart_lays:Go.Proofs.SlLaysW.n5 Try.prog restart_ren:={
  mixed:=by kernel_rfl
  f5:=⟨Try.f30.name,by decide,Try.func30.trans (congrArg some (by kernel_rfl))⟩
  f7:=Try.func39.trans (congrArg some (by kernel_rfl))
  t4:=Try.underlying4
  a4:=Try.isAgg4
  z4:=Try.sizeOf4
  v4:=Try.zeroValue4
  t20:=Try.underlying20
  a20:=Try.isAgg20
  z20:=Try.sizeOf20
  v20:=Try.zeroValue20
  t23:=Try.underlying36
  a23:=Try.isAgg36
  z23:=Try.sizeOf36
  v23:=Try.zeroValue36 }
theorem r_end (v:dT.V) (xs:List (Bs×fT.V)):DT Try.prog rE Hh rV Yy rEnd DV [(0,⟨.bx 0 0,()⟩),(11,⟨.mp 1,()⟩)] [.box 38 dT v,.map .str fT xs] Kr=some (((),-1,false,()),xs,()):=by kernel_rfl
theorem r_preD (rr : Nat) (n : Int) (st : Store) : D Try.prog rE Hh rP (AExit × Slots × Store) (plugK (List.range 2) 0 [.ptr rr 1 0 0, .int .i64 n]) st (fun e σ st => some (e, σ, st)) =
    (none_S [.ptr rr 1 0 0] st).bind fun p=>condA p.1 (fun _=>some (.ret,(7,p.1)::(6,.ptr rr 1 0 0)::[(0,.ptr rr 1 0 0),(1,.int .i64 n)],p.2)) (fun _=>some (.normal,(7,p.1)::(6,.ptr rr 1 0 0)::[(0,.ptr rr 1 0 0),(1,.int .i64 n)],p.2)):=by kernel_rfl
def newF (n:Int) (x:Bs×Bs×Bs):List (Bs×Bs×Bs) :=
  let s:=x.2.1++x.2.2.take (min (max n 0) (x.2.2.length:Int)).toNat
  if s=[] then [] else [(x.1,s,[])]
def restartS:SFn:=fun xs st=>match xs with
  | [.ptr r 1 0 0, .int .i64 n] => (dirOf 38 r st).bind fun d => if lens d.2.2.2 < 4611686018427387904 then
      some (.tup [],(st.set d.1 (.map ((d.2.2.2.flatMap (newF n)).map encF))).set r (.row 38 3 [.agg [.map d.1,.int .i64 (-1),.bool false]])) else none
  | _=>none
def fileM (m:MapEntry):Bs×Bs×Bs:=match ofConst m.key,ofConst m.val with
  | .str k,.agg [.str a,.str b]=>(k,a,b)
  | _,_=>([],[],[])
theorem fileM_of {x:Bs×Bs×Bs}{m:MapEntry} (h:isFile x m):fileM m=x:=by
  unfold fileM
  rw[h.1,h.2]; rfl
theorem files_all:∀ {l:List (Bs×Bs×Bs)}{ms:List MapEntry},All2 isFile l ms→ms.map fileM=l
  | [],[],_=>rfl
  | x::l,m::ms,h=>by rw[List.map_cons,fileM_of h.1,files_all h.2]
theorem files_flat {f:Bs×Bs×Bs→List (Bs×Bs×Bs)}{l:List (Bs×Bs×Bs)}{ms:List MapEntry} (h:All2 isFile l ms):ms.flatMap (fun m=>f (fileM m))=l.flatMap f:=by
  rw[← files_all h,List.flatMap_map]
theorem newF_key {n:Int}{x y:Bs×Bs×Bs} (h:y∈newF n x):y.1=x.1:=by
  unfold newF at h
  simp only at h
  split at h
  · cases h
  · simp only[List.mem_singleton] at h; rw[h]
theorem cur_key {n:Int}{l:List (Bs×Bs×Bs)}{ms:List MapEntry} (h:All2 isFile l ms) {s:Array Nat}{y:Bs×Bs×Bs} (hy:y∈curOf (fun m=>[fileM m]) (fun m=>newF n (fileM m)) ms s):∃ m∈ms,m.key = .string ⟨y.1.toArray⟩:=by
  unfold curOf at hy
  rw[List.mem_flatMap] at hy
  obtain ⟨m,hm,hy⟩:=hy
  obtain ⟨x,_,hx⟩:=files_mem h hm
  refine ⟨m,hm,?_⟩
  have e:=fileM_of hx
  rw[hx.1]
  split at hy
  · rw[newF_key hy,e]
  · simp only[List.mem_singleton] at hy; rw[hy,e]
theorem putK_mid {k:Bs}{y z:fT.V}{A B:List (Bs×fT.V)} (h:∀ p∈A,p.1≠k):putK .str k y (A++(k,z)::B)=A++(k,y)::B:=by
  induction A with
  | nil=>simp[putK,eqV]
  | cons p A ih =>
    have h1:eqV .str k p.1=false:=by simp only[eqV,decide_eq_false_iff_not]; exact fun e=>h p (List.mem_cons_self ..) e.symm
    simp only[List.cons_append,putK,h1,cond_false,ih (fun q hq=>h q (List.mem_cons_of_mem _ hq))]
theorem delK_mid {k:Bs}{z:fT.V}{A B:List (Bs×fT.V)} (h:∀ p∈A,p.1≠k):delK .str k (A++(k,z)::B)=A++B:=by
  induction A with
  | nil=>simp[delK,eqV]
  | cons p A ih =>
    have h1:eqV .str k p.1=false:=by simp only[eqV,decide_eq_false_iff_not]; exact fun e=>h p (List.mem_cons_self ..) e.symm
    simp only[List.cons_append,delK,h1,cond_false,ih (fun q hq=>h q (List.mem_cons_of_mem _ hq))]
theorem round_val {n : Int} {k a b : Bs} {v : dT.V} {A B : List (Bs × Bs × Bs)} (hA : ∀ p ∈ A, p.1 ≠ k) (hb : a.length + b.length < 4611686018427387904) :
    ((subI b 0 (min (max n 0) (b.length:Int))).bind fun s1=>(catT a s1).bind fun s2=>cond (decide (s2=[])) (some (v,delK .str k (putK .str k (s2,[],()) (typedL (A++(k,a,b)::B))),())) (some (v,putK .str k (s2,[],()) (typedL (A++(k,a,b)::B)),()))) =
      (some (v,typedL (A++(newF n (k,a,b)++B)),()):Option DV):=by
  have hA':∀ p∈typedL A,p.1≠k:=by
    intro p hp
    obtain ⟨x,hx,rfl⟩:=List.mem_map.1 hp
    exact hA x hx
  have e1:subI b 0 (min (max n 0) (b.length:Int))=some (b.take (min (max n 0) (b.length:Int)).toNat):=by
    unfold subI
    rw[if_pos (by omega)]
    simp
  have hl:(b.take (min (max n 0) (b.length:Int)).toNat).length≤b.length:=by simp; omega
  have e2:catT a (b.take (min (max n 0) (b.length:Int)).toNat)=some (a++b.take (min (max n 0) (b.length:Int)).toNat):=by
    unfold catT
    rw[if_neg (by omega)]
  rw[e1,Option.bind_some,e2,Option.bind_some]
  have e3:typedL (A++(k,a,b)::B)=typedL A++((k,(a,b,())):Bs×fT.V)::typedL B:=by simp[typedL]
  rw[e3,putK_mid hA',delK_mid hA']
  unfold newF
  simp only
  by_cases hs:a++b.take (min (max n 0) (b.length:Int)).toNat=[]
  · simp only[hs,decide_true,cond_true,if_true,List.nil_append]
    simp[typedL]
  · simp only[hs,decide_false,cond_false,if_false]
    simp[typedL]
theorem set_two {A:Type}{Y:List A}{a b g:A}:(Y++[a,b]).set (Y.length+1) g=Y++[a,g]:=by
  induction Y with
  | nil=>rfl
  | cons y Y ih=>simp[ih]
section
variable [Drawn] {G:List (Nat×AVal)}{w:World}{O:Nat→Prop}{α:AM}{st:Store}
theorem rE_ok:EnvOk Try.prog rE:=⟨(fun f h=>by cases h),envP_nil,envS_cons none_Sok envS_nil,envP_nil,envX_nil⟩
omit [Drawn] in
theorem rV_ok : EnvT rE rV := ⟨(fun f tf h => by cases h), (fun f tf h => by cases h), (fun f tr h => by
    simp only[rV,lookN] at h
    cases hb:Nat.beq 29 f with
    | true =>
      rw[hb] at h; cases h
      refine ⟨rfl,rfl,none_S,?_,none_ok⟩
      simp only[rE,lookN,hb,cond_true]
    | false=>rw[hb] at h; cases h),(fun f tf h=>by cases h),(fun f tf h=>by cases h),(by exact quietOk_nil rfl),(fun f tf h=>by cases h)⟩
theorem lens_mem {l:List (Bs×Bs×Bs)}{x:Bs×Bs×Bs} (h:x∈l):x.2.1.length+x.2.2.length≤lens l:=by
  unfold lens
  induction l with
  | nil=>cases h
  | cons y l ih =>
    rw[List.map_cons,List.sum_cons]
    rcases List.mem_cons.1 h with rfl | h
    · omega
    · have:=ih h; omega
theorem restart_sound:SoundS Try.prog G0 13 restartS:=by
  refine ⟨⟨Try.f13,Try.func13,rfl,by kernel_rfl⟩,fun xs st r st' hF w O α vs hi hg hv => ?_⟩
  unfold restartS at hF
  split at hF
  · rename_i rr n
    rw[Option.bind_eq_some_iff] at hF
    obtain ⟨⟨q,f,d,l⟩,hd,hF⟩:=hF
    split at hF
    · rename_i hlt
      cases hF
      simp only at hlt
      obtain ⟨hst,es,hq,hpl⟩:=dirOf_some hd
      have hes:=plain_enc hpl
      subst hes
      have hlen0:=hi.len
      have hne:rr≠q:=fun e=>by subst e; rw[hst] at hq; cases hq
      have hq':q<st.length:=(List.getElem?_eq_some_iff.1 hq).1
      have hr':rr<st.length:=(List.getElem?_eq_some_iff.1 hst).1
      refine calls_of_wp Try.func13 r_body ?_
      have hslots:=entry_slots (N:=Try.f13.ntmps) (n:=2) hv rfl (Nat.le_of_ble_eq_true (by kernel_rfl))
      have hpD:=r_preD rr n st
      rw[none_at hst hq] at hpD
      simp only[Option.bind_some,condA,cond_false] at hpD
      have r0:=D_run (N:=Try.f13.ntmps) (P:=Try.prog) (E:=rE) (h:=Hh) rE_ok (c:=rP) (by kernel_rfl) hpD
      refine wp_seq (r0 w O α _ _ hi hg hslots (fun a2 w2 hp2 => ?_))
      obtain ⟨α2,e2,i2,s2⟩:=hp2
      refine wp_seq (wp_seq (wp_region ?_))
      have hrng:List.range (rO1'++[rcl,rrg]).toArray.size=List.range' 0 rO1'.length++[4,5]:=by kernel_rfl
      rw[hrng]
      have hload:aload Try.prog 36 (.ptr rr 1 0 0) st=some (.map q):=by
        simp only[aload,cellsAt,hst,List.length_cons,List.length_nil,Nat.zero_add,if_true,List.getElem?_cons_zero,Option.map_some]
        kernel_rfl
      have hev : evalOps Try.prog rE Hh (rO1' ++ [rcl, rrg]) rO1' ((7, .bool false) :: (6, .ptr rr 1 0 0) :: [(0, .ptr rr 1 0 0), (1, .int .i64 n)]) st (fun σ st => some (σ, st)) =
          ((aload Try.prog 36 (.ptr rr 1 0 0) st).map fun v=>(v,st)).bind fun p=>some ((11,p.1)::(10,.ptr rr 1 0 0)::(9,.ptr rr 1 0 0)::(8,.ptr rr 1 0 0)::(7,.bool false)::(6,.ptr rr 1 0 0)::[(0,.ptr rr 1 0 0),(1,.int .i64 n)],p.2):=by kernel_rfl
      rw[hload] at hev
      simp only[Option.map_some,Option.bind_some] at hev
      have hdst:∀ o∈rO1'++[rcl,rrg],∀ t,o.dst=some t→t<Try.f13.ntmps:=by
        have:=dstsIn_region (n:=Try.f13.ntmps) (id:=1) (ops:=(rO1'++[rcl,rrg]).toArray) (dr:=false) (by kernel_rfl)
        simpa only[List.toList_toArray] using this
      obtain ⟨σ3,st3,hk3,hw3⟩:=evalOps_head (N:=Try.f13.ntmps) rE_ok (ops:=rO1'++[rcl,rrg]) hdst rO1' 0 _ _ (fun j hj=>by rw[Nat.zero_add,List.getElem?_append_left hj]) hev
      cases hk3
      refine hw3 [4,5] w2 O α2 a2 _ i2 (hg.ext e2) s2 (fun a3 w3 hp3 => ?_)
      obtain ⟨α3,e3,i3,s3⟩:=hp3
      -- maps.Clone
      obtain ⟨ri,ms,clock,p1,p2,p3,p4,p5,_⟩:=i3.still hq
      have hfiles:=plain_rep hpl p4
      have h11:a3.eval (.tmp 11) = .map (some ri.block):=by
        have:=s3.slot 11
        simp only[getS,Nat.beq_refl,cond_true,Rep] at this
        obtain ⟨_,b,hb,hb2⟩:=this
        rw[← hb2 ri p1 p2]; exact hb
      rw[wpOps_cons]
      unfold wpOp
      have hcl:(rO1'++[rcl,rrg]).toArray[4]? = some rcl:=by kernel_rfl
      simp only[hcl,wanted_none (show rcl.guard=none by kernel_rfl),if_true]
      left
      have hG30:Goes Try.prog 30:=⟨Try.f30,Try.func30,rfl,by kernel_rfl⟩
      have hcall:(execOp a3.eval rcl).run Try.prog w3 = .ok (.enter 30 #[.map (some ri.block)]) w3:=by
        have hop:rcl.op = .call { callee:=.value (.func 30),args := #[.tmp 11],argTypes := #[36] }:=by kernel_rfl
        have:=exec_call (P:=Try.prog) (a:=a3) (w:=w3) hop rfl hG30
        rw[this]
        simp only[List.map_cons,List.map_nil,h11]
      refine wp_enter hcall ((AnyW.maps_Clone restart_lays ri.block ms clock w3 p3).mono ?_)
      rintro e w4 ⟨rfl,rfl⟩
      refine ⟨_,rfl,?_⟩
      obtain ⟨e4,i4⟩:=i3.push ⟨w3.heap.size,0,0,0⟩ (.fix (.map ms clock)) (.map ms clock) rfl (by
        simp only[RegRep]
        exact ⟨⟨w3.heap.size,0,0,0⟩,by simp,rfl,heap_alloc_new _ _⟩)
      have hcd:rcl.dst=some 12:=by kernel_rfl
      -- range
      rw[wpOps_cons]
      unfold wpOp
      have hrg:(rO1'++[rcl,rrg]).toArray[5]? = some rrg:=by kernel_rfl
      simp only[hrg,wanted_none (show rrg.guard=none by kernel_rfl),if_true]
      left
      have hexec:execOp (a3.put rcl.dst (.map (some w3.heap.size))).eval rrg=(do pure (.value (← Instr.range 36 ((a3.put rcl.dst (.map (some w3.heap.size))).eval (.tmp 12))))):=by kernel_rfl
      have h12:(a3.put rcl.dst (.map (some w3.heap.size))).eval (.tmp 12) = .map (some w3.heap.size):=by
        rw[hcd]
        simp only[Act.eval,Act.put]
        rw[Array.getD_eq_getD_getElem?,Array.getElem?_setIfInBounds_self_of_lt (by rw[s3.size]; exact Nat.le_of_ble_eq_true (by kernel_rfl))]
        rfl
      refine wp_of_run hexec (by rw[h12]; exact run_range_map (w3.alloc (.map ms clock)) 36 9 54 w3.heap.size ms clock (by kernel_rfl) (heap_alloc_new _ _)) ?_
      obtain ⟨e5,i5⟩:=i4.push ⟨(w3.alloc (.map ms clock)).heap.size,0,0,0⟩ (.fix (.mapIter (some w3.heap.size) clock #[] clock)) (.mapIter (some w3.heap.size) clock #[] clock) rfl (by
        simp only[RegRep]
        exact ⟨⟨(w3.alloc (.map ms clock)).heap.size,0,0,0⟩,by simp,rfl,heap_alloc_new _ _⟩)
      rw[List.append_assoc st] at i5
      have i5:EM.Inv _ O _ (st++[.fix (.map ms clock),.fix (.mapIter (some w3.heap.size) clock #[] clock)]):=i5
      have hl3:α3.length=st.length:=i3.len.symm
      -- what the loop keeps
      let cur:Array Nat→List (Bs×Bs×Bs):=fun s=>curOf (fun m=>[fileM m]) (fun m=>newF n (fileM m)) ms.toList s
      let Y:Array Nat→Store:=fun s=>st.set q (.map ((cur s).map encF))
      have hYl:∀ s,(Y s).length=st.length:=fun s=>List.length_set
      have hYq:∀ s,(Y s)[q]? = some (.map ((cur s).map encF)):=fun s=>List.getElem?_set_self hq'
      have hYr:∀ s,(Y s)[rr]? = some (.row 38 3 [.agg [.map q,.int .i64 f,.bool d]]):=fun s=>by rw[List.getElem?_set_ne (Ne.symm hne)]; exact hst
      have hY0:Y #[]=st:=by
        show st.set q (.map ((curOf (fun m=>[fileM m]) (fun m=>newF n (fileM m)) ms.toList #[]).map encF))=st
        rw[curOf_none]
        have:ms.toList.flatMap (fun m=>[fileM m])=l:=by
          rw[files_flat (f:=fun x=>[x]) hfiles]; simp
        rw[this]; exact set_same hq
      have hlowE:∀ (k:Nat) (l:List (Bs×Bs×Bs)),lowG k (.map (l.map encF))=true:=fun k l=>by
        simp only[lowG,List.all_map,List.all_eq_true]
        intro x _
        rfl
      have hlowY:∀ (s:Array Nat) (k r:Nat) (g:AReg),st.length≤k→(Y s)[r]? = some g→lowG k g=true:=fun s k r g hk hg'=>by
        by_cases hr:r=q
        · subst hr
          rw[hYq] at hg'; cases hg'; exact hlowE _ _
        · rw[List.getElem?_set_ne (Ne.symm hr)] at hg'
          exact hi.low (by omega) hg'
      let M:AReg:=.fix (.map ms clock)
      have hset2:∀ s g,(Y s++[M,AReg.dead]).set (st.length+1) g=Y s++[M,g]:=fun s g=>by rw[← hYl s]; exact set_two
      let S:Array Nat→Slots:=fun _=>[(0,.ptr rr 1 0 0),(1,.int .i64 n),(11,.map q),(13,.ptr (st.length+1) 0 0 0)]
      have s5:=slot_put (d:=some 13) (v:=.ptr (st.length+1) 0 0 0) (u:=.pointer (some ⟨(w3.alloc (.map ms clock)).heap.size,0,none⟩))
        ((slot_put (d:=some 12) (v:=.any) (u:=.map (some w3.heap.size)) (s3.ext e4) (fun t ht=>by cases ht; exact Nat.le_of_ble_eq_true (by kernel_rfl)) (by simp only[Rep])).ext e5) (fun t ht=>by cases ht; exact Nat.le_of_ble_eq_true (by kernel_rfl))
        (by have := ptr_new (O := O) (w := w3.alloc (.map ms clock)) (w' := (w3.alloc (.map ms clock)).alloc (.mapIter (some w3.heap.size) clock #[] clock)) (α := α3 ++ [some ⟨w3.heap.size, 0, 0, 0⟩]) (n := 0) (cap := 0) (k := 0)
            simp only[List.length_append,List.length_cons,List.length_nil,hl3] at this
            exact this)
      have hput:rrg.dst=some 13:=by kernel_rfl
      rw[← hput,← hcd] at s5
      simp only[wpOps]
      show (Code.block 0 _).wp Try.prog _ ((a3.put rcl.dst (.map (some w3.heap.size))).put rrg.dst (.pointer (some ⟨(w3.alloc (.map ms clock)).heap.size,0,none⟩))) _
      refine mapRange_wp (N:=Try.f13.ntmps) (h:=Hh) rE_ok (nx:=rnx) (ex:=rex) (en:=ren) (ops2:=rO3') (rest:=rRest) (it:=13) (tn:=14) (tb:=15) (te:=16) (by kernel_rfl) (by kernel_rfl) (by kernel_rfl) (by kernel_rfl) (by kernel_rfl) (by kernel_rfl) (by kernel_rfl) (by kernel_rfl) (by kernel_rfl)
        (Nat.le_of_ble_eq_true (by kernel_rfl)) (Nat.le_of_ble_eq_true (by kernel_rfl)) (Nat.le_of_ble_eq_true (by kernel_rfl)) ?_ (by kernel_rfl) (ms:=ms) (clock:=clock) (bm:=w3.heap.size) (im:=st.length) (ii:=st.length+1) (n0:=st.length+2) p5 (fun s=>Y s++[M,.dead]) S (fun _=>True)
        (fun s=>by simp[hYl]) (fun s r g hg' => ?_) (fun s t => ?_) (fun s => ?_) (by omega) (by omega) (fun s=>rfl) (fun s=>rfl) (fun s=>rfl) (fun s e _ he=>⟨trivial,?_⟩) (by rw[hset2,hY0]; exact i5) (hg.ext ((e2.trans e3).trans (e4.trans e5))) (slots_weak s5 (fun t => ?_)) (rim:=⟨w3.heap.size,0,0,0⟩) (by
          rw[List.getElem?_append_left (by simp[hl3]),List.getElem?_append_right (by omega),hl3,Nat.sub_self]; rfl) rfl trivial (fun s a5 w5 _ hall hp5 => ?_)
      · have:=dstsIn_region (n:=Try.f13.ntmps) (id:=3) (ops:=(ren::rO3').toArray) (dr:=false) (by kernel_rfl)
        simpa only[List.toList_toArray] using this
      · by_cases hr:r<(Y s).length
        · rw[List.getElem?_append_left hr] at hg'
          exact hlowY s _ r g (by omega) hg'
        · rw[List.getElem?_append_right (by omega)] at hg'
          generalize r-(Y s).length=j at hg'
          match j,hg' with
          | 0,hg'=>cases hg'; rfl
          | 1,hg'=>cases hg'; rfl
          | j+2,hg'=>simp at hg'
      · show lowV (st.length+2) (cond (Nat.beq 0 t) (.ptr rr 1 0 0) (cond (Nat.beq 1 t) (.int .i64 n) (cond (Nat.beq 11 t) (.map q) (cond (Nat.beq 13 t) (.ptr (st.length+1) 0 0 0) .any))))=true
        cases Nat.beq 0 t with
        | true=>simp only[cond_true,lowV,Nat.ble_eq]; omega
        | false=>cases Nat.beq 1 t with
          | true=>rfl
          | false=>cases Nat.beq 11 t with
            | true=>simp only[cond_true,cond_false,lowV,Nat.ble_eq]; omega
            | false=>cases Nat.beq 13 t with
              | true=>simp only[cond_true,cond_false,lowV,Nat.ble_eq]; omega
              | false=>rfl
      · rw[List.getElem?_append_right (by rw[hYl]; omega),hYl,Nat.sub_self]; rfl
      · -- a round
        obtain ⟨hmem,hun⟩:=mem_left he
        obtain ⟨x,hx,hf⟩:=files_mem hfiles hmem
        have hc:=isFile_enc hf
        simp only[encF,Prod.mk.injEq] at hc
        have hfx:=fileM_of hf
        obtain ⟨A,B,⟨l1,l2,hl12,hA,hB⟩,hcur,hcur'⟩:=curOf_push (old:=fun m=>[fileM m]) (new:=fun m=>newF n (fileM m)) hun p5.2.1 hmem
        rw[hfx] at hcur hcur'
        have hcur:cur s=A++(x::B):=hcur
        have hcur':cur (s.push e.born)=A++(newF n x++B):=hcur'
        have hAk:∀ p∈A,p.1≠x.1:=by
          intro p hp ek
          rw[hA] at hp
          have hf1:∃ l0,All2 isFile l0 l1:=by
            have:∀ {l0:List (Bs×Bs×Bs)}{m1 m2:List MapEntry},All2 isFile l0 (m1++m2)→∃ l',All2 isFile l' m1:=by
              intro l0 m1
              induction m1 generalizing l0 with
              | nil=>intro m2 _; exact ⟨[],trivial⟩
              | cons m m1 ih =>
                intro m2 h
                cases l0 with
                | nil=>exact h.elim
                | cons y l0 =>
                  obtain ⟨l',h'⟩:=ih h.2
                  exact ⟨y::l',h.1,h'⟩
            rw[hl12] at hfiles
            exact this hfiles
          obtain ⟨l0,hf1⟩:=hf1
          obtain ⟨m,hm,hmk⟩:=cur_key hf1 hp
          have hnd:=p5.2.2
          rw[hl12,List.map_append,List.map_cons] at hnd
          have h3:=(List.nodup_append.1 hnd).2.2 _ (List.mem_map.2 ⟨m,hm,rfl⟩) _ (List.mem_cons_self ..)
          apply h3
          rw[hmk,hf.1,ek]
        have hlx:=lens_mem hx
        let st0:Store:=Y s++[M,.fix (.mapIter (some w3.heap.size) clock (s.push e.born) clock)]
        have h0r:st0[rr]? = some (.row 38 3 [.agg [.map q,.int .i64 f,.bool d]]):=by show (Y s++_)[rr]? = _; rw[List.getElem?_append_left (by rw[hYl]; exact hr')]; exact hYr s
        have h0q:st0[q]? = some (.map ((cur s).map encF)):=by show (Y s++_)[q]? = _; rw[List.getElem?_append_left (by rw[hYl]; exact hq')]; exact hYq s
        have hrv:=round_val (n:=n) (k:=x.1) (a:=x.2.1) (b:=x.2.2) (v:=((),f,d,())) (A:=A) (B:=B) hAk (by omega)
        have hrnd0:=r_round x.1 x.2.1 x.2.2 n ((),f,d,()) (typedL (A++x::B))
        have hrnd:=hrnd0.trans hrv
        rw[hcur] at h0q
        rw[hset2]
        obtain ⟨ex,σ',m',σA',st6,Γ',hk,hs6,hm6,hstay,hev6⟩:=frag_eval rV_ok (slotR_cons (k:=16) (w:=⟨kvT,(x.1,(x.2.1,x.2.2,()),())⟩) (Γ:=dGam rr q) (σA:=(16,.tup [ofConst e.key,ofConst e.val])::(15,.bool true)::(14,.tup [.bool true,ofConst e.key,ofConst e.val])::S s) rfl
          (by
            simp only[getS,Nat.beq_refl,cond_true,hc.1,hc.2]
            exact ⟨_,rfl,[.str x.1],[.agg [.str x.2.1,.str x.2.2]],rfl,rfl,[_],[],rfl,⟨_,rfl,[_],[_],rfl,rfl,[_],[],rfl,rfl,rfl⟩,rfl⟩)
          (slotR_cons (k:=0) (w:=⟨.bx 0 0,()⟩) rfl ⟨rr,3,rfl,rfl⟩ (slotR_cons (k:=1) (w:=⟨.int .i64,n⟩) rfl rfl (slotR_cons (k:=11) (w:=⟨.mp 1,()⟩) rfl ⟨q,rfl,rfl⟩ slotR_nil)))) (dMem h0r h0q) hrnd
        have hex:ex = .normal∧getT σ' 0=some ⟨.bx 0 0,()⟩∧getT σ' 11=some ⟨.mp 1,()⟩∧enterM [] m' m' dIn 0=some (((),f,d,()),typedL (A++(newF n x++B)),()):=Kr_some hk
        obtain ⟨rfl,h0,h11',hw⟩:=hex
        have g0:getS σA' 0 = .ptr rr 1 0 0:=by rw[hstay 0 (by kernel_rfl) (by kernel_rfl)]; rfl
        have g1:getS σA' 1 = .int .i64 n:=by rw[hstay 1 (by kernel_rfl) (by kernel_rfl)]; rfl
        have g11:getS σA' 11 = .map q:=by rw[hstay 11 (by kernel_rfl) (by kernel_rfl)]; rfl
        have g13:getS σA' 13 = .ptr (st.length+1) 0 0 0:=by rw[hstay 13 (by kernel_rfl) (by kernel_rfl)]; rfl
        obtain ⟨d1,d2⟩:=dEnd hm6 hs6 h0 g0 h11' g11 hw
        rw[encT_typed,← hcur'] at d2
        let st1:Store:=Y (s.push e.born)++[M,.fix (.mapIter (some w3.heap.size) clock (s.push e.born) clock)]
        have h1l:st1.length=st.length+2:=by show (Y (s.push e.born)++[_,_]).length=_; rw[List.length_append,hYl]; rfl
        have hall1:∀ (r:Nat) (g:AReg),st1[r]? = some g→st6[r]? = some g:=by
          intro r g hg'
          by_cases h1:r=q
          · subst h1
            have:st1[r]? = some (.map ((cur (s.push e.born)).map encF)):=by show (Y _++_)[r]? = _; rw[List.getElem?_append_left (by rw[hYl]; exact hq')]; exact hYq _
            rw[this] at hg'; cases hg'; exact d2
          · by_cases h2:r=rr
            · subst h2
              have:st1[r]? = some (.row 38 3 [.agg [.map q,.int .i64 f,.bool d]]):=by show (Y _++_)[r]? = _; rw[List.getElem?_append_left (by rw[hYl]; exact hr')]; exact hYr _
              rw[this] at hg'; cases hg'; exact d1
            · refine hm6.old r g ?_
              unfold dPhi
              rw[if_neg (by omega)]
              have e0:st1[r]? = st0[r]? := by
                show (Y _++_)[r]? = (Y _++_)[r]?
                by_cases h3:r<st.length
                · rw[List.getElem?_append_left (by rw[hYl]; exact h3),List.getElem?_append_left (by rw[hYl]; exact h3)]
                  show (st.set q _)[r]? = (st.set q _)[r]?
                  rw[List.getElem?_set_ne (Ne.symm h1),List.getElem?_set_ne (Ne.symm h1)]
                · rw[List.getElem?_append_right (by rw[hYl]; omega),List.getElem?_append_right (by rw[hYl]; omega),hYl,hYl]
              rw[← e0]; exact hg'
        obtain ⟨tk,tl⟩:=take_old (a:=st1) (b:=st6) hall1
        rw[h1l] at tk tl
        refine ⟨σA',st6,?_,?_,tl,fun t => ?_⟩
        · exact hev6 _ _
        · rw[tk,hset2]
        · show (cond (Nat.beq 0 t) (AVal.ptr rr 1 0 0) (cond (Nat.beq 1 t) (AVal.int .i64 n) (cond (Nat.beq 11 t) (AVal.map q) (cond (Nat.beq 13 t) (AVal.ptr (st.length+1) 0 0 0) AVal.any))))=AVal.any∨_=getS σA' t
          cases q0:Nat.beq 0 t with
          | true=>right; rw[← Nat.eq_of_beq_eq_true q0,g0]; rfl
          | false=>cases q1:Nat.beq 1 t with
            | true=>right; rw[← Nat.eq_of_beq_eq_true q1,g1]; rfl
            | false=>cases q2:Nat.beq 11 t with
              | true=>right; rw[← Nat.eq_of_beq_eq_true q2,g11]; rfl
              | false=>cases q3:Nat.beq 13 t with
                | true=>right; rw[← Nat.eq_of_beq_eq_true q3,g13]; rfl
                | false=>left; rfl
      · show (cond (Nat.beq 0 t) (AVal.ptr rr 1 0 0) (cond (Nat.beq 1 t) (AVal.int .i64 n) (cond (Nat.beq 11 t) (AVal.map q) (cond (Nat.beq 13 t) (AVal.ptr (st.length+1) 0 0 0) AVal.any))))=_∨_=AVal.any
        cases q0:Nat.beq 0 t with
        | true=>left; rw[← Nat.eq_of_beq_eq_true q0,hput,hcd]; rfl
        | false=>cases q1:Nat.beq 1 t with
          | true=>left; rw[← Nat.eq_of_beq_eq_true q1]; rfl
          | false=>cases q2:Nat.beq 11 t with
            | true=>left; rw[← Nat.eq_of_beq_eq_true q2]; rfl
            | false=>cases q3:Nat.beq 13 t with
              | true=>left; rw[← Nat.eq_of_beq_eq_true q3]; rfl
              | false=>right; show (cond (Nat.beq 0 t) (AVal.ptr rr 1 0 0) (cond (Nat.beq 1 t) (AVal.int .i64 n) (cond (Nat.beq 11 t) (AVal.map q) (cond (Nat.beq 13 t) (AVal.ptr (st.length+1) 0 0 0) AVal.any))))=AVal.any; rw[q0,q1,q2,q3]; rfl
      · -- the end
        show rEnd.wp Try.prog _ a5 w5
        obtain ⟨α5,e6,i6,s6⟩:=hp5
        rw[hset2] at i6
        have hfin:cur s=l.flatMap (newF n):=by
          show curOf (fun m=>[fileM m]) (fun m=>newF n (fileM m)) ms.toList s=_
          rw[curOf_all (all_seen ms s hall),files_flat (f:=newF n) hfiles]
        have e0:=((e2.trans e3).trans (e4.trans e5)).trans e6
        let st0:Store:=Y s++[M,.fix (.mapIter (some w3.heap.size) clock s clock)]
        have h0r:st0[rr]? = some (.row 38 3 [.agg [.map q,.int .i64 f,.bool d]]):=by show (Y s++_)[rr]? = _; rw[List.getElem?_append_left (by rw[hYl]; exact hr')]; exact hYr s
        have h0q:st0[q]? = some (.map ((cur s).map encF)):=by show (Y s++_)[q]? = _; rw[List.getElem?_append_left (by rw[hYl]; exact hq')]; exact hYq s
        obtain ⟨ex,σ',m',σA',st6,Γ',hk,hs6,hm6,hstay,hrun⟩:=DT_runs (N:=Try.f13.ntmps) rE_ok rV_ok (c:=rEnd) (by kernel_rfl) (slotR_cons (k:=0) (w:=⟨.bx 0 0,()⟩) (Γ:=dGam rr q) (σA:=S s) rfl ⟨rr,3,rfl,rfl⟩ (slotR_cons (k:=11) (w:=⟨.mp 1,()⟩) rfl ⟨q,rfl,rfl⟩ slotR_nil)) (dMem h0r h0q) (r_end ((),f,d,()) (typedL (cur s)))
        have hex:ex = .normal∧getT σ' 0=some ⟨.bx 0 0,()⟩∧getT σ' 11=some ⟨.mp 1,()⟩∧enterM [] m' m' dIn 0=some (((),-1,false,()),typedL (cur s),()):=Kr_some hk
        obtain ⟨rfl,h0,h11',hw⟩:=hex
        have g0:getS σA' 0 = .ptr rr 1 0 0:=by rw[hstay 0 (by kernel_rfl)]; rfl
        have g11:getS σA' 11 = .map q:=by rw[hstay 11 (by kernel_rfl)]; rfl
        obtain ⟨d1,d2⟩:=dEnd hm6 hs6 h0 g0 h11' g11 hw
        rw[encT_typed,hfin] at d2
        refine hrun w5 O α5 a5 _ i6 (hg.ext e0) s6 (fun a6 w6 hp6 => ?_)
        obtain ⟨α6,e7,i7,s7⟩:=hp6
        have e8:=e0.trans e7
        let F:Store:=(st.set q (.map ((l.flatMap (newF n)).map encF))).set rr (.row 38 3 [.agg [.map q,.int .i64 (-1),.bool false]])
        have hFl:F.length=st.length:=by show ((st.set q _).set rr _).length=_; simp
        have hFall:∀ (r:Nat) (g:AReg),F[r]? = some g→st6[r]? = some g:=by
          intro r g hg'
          by_cases h2:r=rr
          · subst h2
            have:F[r]? = some (.row 38 3 [.agg [.map q,.int .i64 (-1),.bool false]]):=List.getElem?_set_self (by simp; exact hr')
            rw[this] at hg'; cases hg'; exact d1
          · by_cases h1:r=q
            · subst h1
              have:F[r]? = some (.map ((l.flatMap (newF n)).map encF)):=by
                show ((st.set r _).set rr _)[r]? = _
                rw[List.getElem?_set_ne (Ne.symm h2)]; exact List.getElem?_set_self hq'
              rw[this] at hg'; cases hg'; exact d2
            · refine hm6.old r g ?_
              unfold dPhi
              rw[if_neg (by omega)]
              have hrl:r<st.length:=by
                have:=(List.getElem?_eq_some_iff.1 hg').1
                rw[hFl] at this; exact this
              have e0:st0[r]? = F[r]? := by
                show (Y _++_)[r]? = ((st.set q _).set rr _)[r]?
                rw[List.getElem?_append_left (by rw[hYl]; exact hrl)]
                show (st.set q _)[r]? = ((st.set q _).set rr _)[r]?
                rw[List.getElem?_set_ne (Ne.symm h1),List.getElem?_set_ne (Ne.symm h2),List.getElem?_set_ne (Ne.symm h1)]
              rw[e0]; exact hg'
        obtain ⟨tk,tl⟩:=take_old (a:=F) (b:=st6) hFall
        rw[hFl] at tk tl
        have hcut:=i7.cut st.length (fun r g hr hg'=>by
          have hgF:F[r]? = some g:=by rw[← tk,List.getElem?_take_of_lt hr]; exact hg'
          by_cases h2:r=rr
          · subst h2
            have:F[r]? = some (.row 38 3 [.agg [.map q,.int .i64 (-1),.bool false]]):=List.getElem?_set_self (by simp; exact hr')
            rw[this] at hgF; cases hgF
            simp only[lowG,lowL,lowV,Bool.and_true,Nat.ble_eq]; omega
          · by_cases h1:r=q
            · subst h1
              have:F[r]? = some (.map ((l.flatMap (newF n)).map encF)):=by
                show ((st.set r _).set rr _)[r]? = _
                rw[List.getElem?_set_ne (Ne.symm h2)]; exact List.getElem?_set_self hq'
              rw[this] at hgF; cases hgF; exact hlowE _ _
            · have : F[r]? = st[r]? := by
                show ((st.set q _).set rr _)[r]? = _
                rw[List.getElem?_set_ne (Ne.symm h2),List.getElem?_set_ne (Ne.symm h1)]
              rw[this] at hgF
              exact hi.low (by omega) hgF)
        rw[tk] at hcut
        obtain ⟨u,k1,k2⟩:=resV_run (P:=Try.prog) (fn:=Try.f13) (v:=.tup []) i7 s7 (by kernel_rfl)
        exact ⟨s7.defers,u,k1,u,α6.take st.length,rfl,e8.cut (by omega),hcut,Rep_cut _ _ rfl k2⟩
    · cases hF
  · cases hF
end
def insB (x:Bs):List Bs→List Bs
  | []=>[x]
  | y::l=>cond (decide (x≤y)) (x::y::l) (y::insB x l)
def sortB:List Bs→List Bs
  | []=>[]
  | x::l=>insB x (sortB l)
theorem insB_perm (x:Bs):∀ l,(insB x l).Perm (x::l)
  | []=>List.Perm.refl _
  | y::l=>by
    unfold insB
    cases decide (x≤y) with
    | true=>exact List.Perm.refl _
    | false=>exact ((insB_perm x l).cons y).trans (List.Perm.swap x y l)
theorem sortB_perm:∀ l,(sortB l).Perm l
  | []=>List.Perm.refl _
  | x::l=>(insB_perm x (sortB l)).trans ((sortB_perm l).cons x)
theorem insB_sorted (x:Bs):∀ l,l.Pairwise (· ≤ ·)→(insB x l).Pairwise (· ≤ ·)
  | [],_=>by simp[insB]
  | y::l,h=>by
    obtain ⟨h1,h2⟩:=List.pairwise_cons.1 h
    unfold insB
    cases hc:decide (x≤y) with
    | true =>
      simp only[decide_eq_true_eq] at hc
      refine List.pairwise_cons.2 ⟨fun z hz => ?_,h⟩
      rcases List.mem_cons.1 hz with rfl | hz
      · exact hc
      · exact List.le_trans hc (h1 z hz)
    | false =>
      simp only[decide_eq_false_iff_not] at hc
      have hyx:y≤x:=(List.le_total y x).resolve_right hc
      refine List.pairwise_cons.2 ⟨fun z hz => ?_,insB_sorted x l h2⟩
      rcases List.mem_cons.1 ((insB_perm x l).mem_iff.1 hz) with rfl | hz
      · exact hyx
      · exact h1 z hz
theorem sortB_sorted:∀ l,(sortB l).Pairwise (· ≤ ·)
  | []=>List.Pairwise.nil
  | x::l=>insB_sorted x _ (sortB_sorted l)
theorem mergeSort_eq {l ss:List Bs} (h:ss.Perm l):ss.mergeSort (fun x y=>decide (x≤y))=sortB l:=by
  have tr:∀ a b c:Bs,Go.leB a b=true→Go.leB b c=true→Go.leB a c=true:=fun a b c h1 h2=>by simp only[Go.leB,decide_eq_true_eq] at *; exact List.le_trans h1 h2
  have to:∀ a b:Bs,(Go.leB a b||Go.leB b a)=true:=fun a b=>by simp only[Go.leB,Bool.or_eq_true,decide_eq_true_eq]; exact List.le_total a b
  refine List.Perm.eq_of_pairwise (le:=fun a b=>a≤b) (fun a b _ _ h1 h2=>List.le_antisymm h1 h2) ?_ (sortB_sorted l) (((List.mergeSort_perm ss _).trans h).trans (sortB_perm l).symm)
  have:=List.pairwise_mergeSort tr to ss
  exact this.imp (fun h=>by simpa only[Go.leB,decide_eq_true_eq] using h)
def namesOk (l:List (Bs×Bs×Bs)):Bool:=Nat.ble l.length 65536&&l.all fun x=>Nat.ble x.1.length 65536
def namesS:SFn:=fun xs st=>match xs with
  | [.ptr r 1 0 0]=>(dirOf 38 r st).bind fun d=>cond (namesOk d.2.2.2) (some (.tree false 1 ((sortB (d.2.2.2.map (·.1))).map .str),st)) none
  | _=>none
noncomputable def mc:Code:=Try.f15.body.getD .skip
noncomputable def mR0:Code:=cL mc
noncomputable def mP:Code:=cL (cR mc)
noncomputable def mQ:Code:=cL (cR (cR mc))
noncomputable def mO:List Oper:=cOps mQ
noncomputable def mO':List Oper:=mO.take 4
noncomputable def m4:Oper:=opN mO 4
noncomputable def m5:Oper:=opN mO 5
noncomputable def m6:Oper:=opN mO 6
theorem m_body:Try.f15.body=some (.seq mR0 (.seq mP (.seq (.region 3 (mO'++[m4,m5,m6]).toArray false) .ret))):=by kernel_rfl
theorem m_preD (rr : Nat) (st : Store) : D Try.prog rE Hh mP (AExit × Slots × Store) [(2, .nil), (0, .ptr rr 1 0 0)] st (fun e σ st => some (e, σ, st)) =
    (none_S [.ptr rr 1 0 0] st).bind fun p=>condA p.1 (fun _=>some (.ret,(2,.nil)::(4,p.1)::(3,.ptr rr 1 0 0)::[(2,.nil),(0,.ptr rr 1 0 0)],p.2)) (fun _=>some (.normal,(4,p.1)::(3,.ptr rr 1 0 0)::[(2,.nil),(0,.ptr rr 1 0 0)],p.2)):=by kernel_rfl
example:sortB [[98],[97],[97,98]]=[[97],[97,98],[98]]:=by kernel_rfl
def Rany (v:Value):Option (DataW Unit×List MemPlace):=some (.lit (.bool false),[])
theorem owns_map {w : World} {b : Nat} {ms : Array MapEntry} {clock : Nat} {l : List (Bs × Bs × Bs)} (hb : w.heap[b]? = some (.map ms clock)) (hs : MapKept.Stamped ms clock) (hf : All2 isFile l ms.toList) (hok : namesOk l = true) :
    ∃ D0,w.ownsMap Try.prog 9 Rany b 65536 D0∧Maps.size D0≤65536∧((l.map (·.1)).Perm (Go.strKeys D0)):=by
  unfold namesOk at hok
  rw[Bool.and_eq_true,List.all_eq_true] at hok
  obtain ⟨h1,h2⟩:=hok
  rw[Nat.ble_eq] at h1
  have hlen:ms.size=l.length:=by
    have:=All2_len hf
    simpa using this
  have hkey:∀ m∈ms.toList,∃ x∈l,isFile x m∧keyOf Try.prog 9 m.key=some (.string x.1):=by
    intro m hm
    obtain ⟨x,hx,hfx⟩:=files_mem hf hm
    refine ⟨x,hx,hfx,?_⟩
    have hl:=h2 x hx
    rw[Nat.ble_eq] at hl
    rw[hfx.1,Go.WideMaps.keyOf_string_mk Try.underlying9 (by simp only[ByteArray.size,List.size_toArray]; unfold maxLen; omega)]
  have hfit:WideElems.Fit Try.prog 9 Rany ms clock:=⟨by unfold maxLen; omega,hs,fun m hm=>by
    obtain ⟨x,_,_,hk⟩:=hkey m hm
    exact ⟨_,by simp only[WideElems.rd,hk,Option.bind_some,Rany,Option.map_some]; rfl⟩⟩
  refine ⟨_,⟨ms,clock,hb,hfit,by omega,rfl⟩,?_,?_⟩
  · rw[Maps.size,Go.length_sorted,List.length_map]
    simp; omega
  · refine List.Perm.symm (((Go.WideShapes.sorted_perm _).map _).trans ?_)
    rw[List.map_map]
    have hm:∀ m∈ms.toList,((fun p=>Go.strOf p.1) ∘ WideElems.rg Try.prog 9 Rany) m=(fileM m).1:=by
      intro m hm
      obtain ⟨x,_,hfx,hk⟩:=hkey m hm
      have hrd:WideElems.rd Try.prog 9 Rany m=some (.string x.1,.lit (.bool false)):=by
        simp only[WideElems.rd,hk,Option.bind_some,Rany,Option.map_some]
      simp only[Function.comp_apply,WideElems.rg_of hrd,fileM_of hfx,Go.strOf]
    have e:ms.toList.map ((fun p=>Go.strOf p.1) ∘ WideElems.rg Try.prog 9 Rany)=l.map (·.1):=by
      rw[List.map_congr_left hm,← files_all hf,List.map_map]; rfl
    rw[e]
theorem strs_vals {w:World}{O:Nat→Prop}{α:AM}:∀ l:List Bs,RowVals w O α 1 (l.map .str) (l.map Proofs.encStr)
  | []=>rfl
  | x::l=>by
    simp only[List.map_cons,RowVals]
    exact ⟨_,_,rfl,⟨rfl,rfl,rfl,fun u hu=>by simp[Value.cells,Proofs.encStr] at hu; subst hu; rfl⟩,strs_vals l⟩
theorem strs_flat:∀ l:List Bs,flat (l.map Proofs.encStr)=l.map Proofs.encStr
  | []=>rfl
  | x::l=>by
    have:=strs_flat l
    simp only[flat,List.map_cons,List.flatMap_cons] at *
    rw[this]; rfl
section
attribute [local instance] Drawn.off
theorem names_sound:SoundS Try.prog G0 15 namesS:=by
  refine ⟨⟨Try.f15,Try.func15,rfl,by kernel_rfl⟩,fun xs st r st' hF w O α vs hi hg hv => ?_⟩
  unfold namesS at hF
  split at hF
  · rename_i rr
    rw[Option.bind_eq_some_iff] at hF
    obtain ⟨⟨q,f,d,l⟩,hd,hF⟩:=hF
    cases hok:namesOk l with
    | false=>simp only[hok,cond_false] at hF; cases hF
    | true =>
      simp only[hok,cond_true] at hF
      cases hF
      obtain ⟨hst,es,hq,hpl⟩:=dirOf_some hd
      have hes:=plain_enc hpl
      subst hes
      refine calls_of_wp Try.func15 m_body ?_
      have hslots:=entry_slots (N:=Try.f15.ntmps) (n:=1) hv rfl (Nat.le_of_ble_eq_true (by kernel_rfl))
      have r0:=D_run (N:=Try.f15.ntmps) (P:=Try.prog) (E:=rE) (h:=Hh) rE_ok (c:=mR0) (σ:=plugK (List.range 1) 0 [.ptr rr 1 0 0]) (st:=st) (st':=st) (e:=.normal) (σ':=[(2,.nil),(0,.ptr rr 1 0 0)]) (by kernel_rfl) (by kernel_rfl)
      refine wp_seq (r0 w O α _ _ hi hg hslots (fun a1 w1 hp1 => ?_))
      obtain ⟨α1,e1,i1,s1⟩:=hp1
      have hpD:=m_preD rr st
      rw[none_at hst hq] at hpD
      simp only[Option.bind_some,condA,cond_false] at hpD
      have r1:=D_run (N:=Try.f15.ntmps) (P:=Try.prog) (E:=rE) (h:=Hh) rE_ok (c:=mP) (by kernel_rfl) hpD
      refine wp_seq (r1 w1 O α1 a1 _ i1 (hg.ext e1) s1 (fun a2 w2 hp2 => ?_))
      obtain ⟨α2,e2,i2,s2⟩:=hp2
      refine wp_seq (wp_region ?_)
      have hrng:List.range (mO'++[m4,m5,m6]).toArray.size=List.range' 0 mO'.length++[4,5,6]:=by kernel_rfl
      rw[hrng]
      have hload:aload Try.prog 36 (.ptr rr 1 0 0) st=some (.map q):=by
        simp only[aload,cellsAt,hst,List.length_cons,List.length_nil,Nat.zero_add,if_true,List.getElem?_cons_zero,Option.map_some]
        kernel_rfl
      have hev : evalOps Try.prog rE Hh (mO' ++ [m4, m5, m6]) mO' ((4, .bool false) :: (3, .ptr rr 1 0 0) :: [(2, .nil), (0, .ptr rr 1 0 0)]) st (fun σ st => some (σ, st)) =
          ((aload Try.prog 36 (.ptr rr 1 0 0) st).map fun v=>(v,st)).bind fun p=>some ((8,p.1)::(7,.ptr rr 1 0 0)::(6,.ptr rr 1 0 0)::(5,.ptr rr 1 0 0)::(4,.bool false)::(3,.ptr rr 1 0 0)::[(2,.nil),(0,.ptr rr 1 0 0)],p.2):=by kernel_rfl
      rw[hload] at hev
      simp only[Option.map_some,Option.bind_some] at hev
      have hdst:∀ o∈mO'++[m4,m5,m6],∀ t,o.dst=some t→t<Try.f15.ntmps:=by
        have:=dstsIn_region (n:=Try.f15.ntmps) (id:=3) (ops:=(mO'++[m4,m5,m6]).toArray) (dr:=false) (by kernel_rfl)
        simpa only[List.toList_toArray] using this
      obtain ⟨σ3,st3,hk3,hw3⟩:=evalOps_head (N:=Try.f15.ntmps) rE_ok (ops:=mO'++[m4,m5,m6]) hdst mO' 0 _ _ (fun j hj=>by rw[Nat.zero_add,List.getElem?_append_left hj]) hev
      cases hk3
      refine hw3 [4,5,6] w2 O α2 a2 _ i2 (hg.ext (e1.trans e2)) s2 (fun a3 w3 hp3 => ?_)
      obtain ⟨α3,e3,i3,s3⟩:=hp3
      obtain ⟨ri,ms,clock,p1,p2,p3,p4,p5,_⟩:=i3.still hq
      have hfiles:=plain_rep hpl p4
      have h8:a3.eval (.tmp 8) = .map (some ri.block):=by
        have:=s3.slot 8
        simp only[getS,Nat.beq_refl,cond_true,Rep] at this
        obtain ⟨_,b,hb,hb2⟩:=this
        rw[← hb2 ri p1 p2]; exact hb
      -- maps.Keys
      rw[wpOps_cons]
      unfold wpOp
      have hc4:(mO'++[m4,m5,m6]).toArray[4]? = some m4:=by kernel_rfl
      simp only[hc4,wanted_none (show m4.guard=none by kernel_rfl),if_true]
      left
      have hG32:Goes Try.prog 32:=⟨Try.f32,Try.func32,rfl,by kernel_rfl⟩
      have hcall:(execOp a3.eval m4).run Try.prog w3 = .ok (.enter 32 #[.map (some ri.block)]) w3:=by
        have hop:m4.op = .call { callee:=.value (.func 32),args := #[.tmp 8],argTypes := #[36] }:=by kernel_rfl
        have:=exec_call (P:=Try.prog) (a:=a3) (w:=w3) hop rfl hG32
        rw[this]
        simp only[List.map_cons,List.map_nil,h8]
      refine wp_enter hcall ((callsIn_wide.1 (Try.maps_Keys_32 (some ri.block) w3)).mono ?_)
      rintro e w4 ⟨rfl,rfl⟩
      refine ⟨_,rfl,?_⟩
      have q4:Quiet w3 (w3.alloc (.cells #[.map (some ri.block)] 36)):=Quiet.alloc w3 _
      have i4:=q4.inv i3
      have hcd4:m4.dst=some 9:=by kernel_rfl
      have s4:=slot_put (d:=some 9) (v:=.any) (u:=.func (.func 42) #[] #[.pointer (some ⟨w3.heap.size,0,none⟩)]) (s3.ext (q4.ext α3)) (fun t ht=>by cases ht; exact Nat.le_of_ble_eq_true (by kernel_rfl)) (by simp only[Rep])
      -- slices.Sorted
      rw[wpOps_cons]
      unfold wpOp
      have hc5:(mO'++[m4,m5,m6]).toArray[5]? = some m5:=by kernel_rfl
      simp only[hc5,wanted_none (show m5.guard=none by kernel_rfl),if_true]
      left
      have hG31:Goes Try.prog 31:=⟨Try.f31,Try.func31,rfl,by kernel_rfl⟩
      have h9:(a3.put m4.dst (.func (.func 42) #[] #[.pointer (some ⟨w3.heap.size,0,none⟩)])).eval (.tmp 9) = .func (.func 42) #[] #[.pointer (some ⟨w3.heap.size,0,none⟩)]:=by
        rw[hcd4]
        simp only[Act.eval,Act.put]
        rw[Array.getD_eq_getD_getElem?,Array.getElem?_setIfInBounds_self_of_lt (by rw[s3.size]; exact Nat.le_of_ble_eq_true (by kernel_rfl))]
        rfl
      have hcall5:(execOp (a3.put m4.dst (.func (.func 42) #[] #[.pointer (some ⟨w3.heap.size,0,none⟩)])).eval m5).run Try.prog (w3.alloc (.cells #[.map (some ri.block)] 36)) = .ok (.enter 31 #[.func (.func 42) #[] #[.pointer (some ⟨w3.heap.size,0,none⟩)]]) (w3.alloc (.cells #[.map (some ri.block)] 36)):=by
        have hop:m5.op = .call { callee:=.value (.func 31),args := #[.tmp 9],argTypes := #[59] }:=by kernel_rfl
        have:=exec_call (P:=Try.prog) (a:=a3.put m4.dst (.func (.func 42) #[] #[.pointer (some ⟨w3.heap.size,0,none⟩)])) (w:=w3.alloc (.cells #[.map (some ri.block)] 36)) hop rfl hG31
        rw[this]
        simp only[List.map_cons,List.map_nil,h9]
      obtain ⟨D0,hown,hsz,hperm⟩:=owns_map p3 p5 hfiles hok
      refine wp_enter hcall5 ((callsIn_wide.1 (Try.slices_Sorted_keys_31_32 ri.block 65536 D0 Rany w3 hown (by unfold maxLen; omega) (by omega))).mono ?_)
      rintro e w5 ⟨v,ss,rfl,hss,hrow,_,hbel⟩
      refine ⟨_,rfl,?_⟩
      have hq5:=below_quiet hbel
      have i5:=hq5.inv i4
      have hms:ss.mergeSort (fun x y=>decide (x≤y))=sortB (l.map (·.1)):=mergeSort_eq (hss.trans hperm.symm)
      rw[hms] at hrow
      have hrep:Rep w5 O α3 (.tree false 1 ((sortB (l.map (·.1))).map .str)) v:=by
        simp only[Rep]
        have hl:=hrow.1
        rcases hrow.2 with ⟨rfl,h0⟩ | ⟨g,cap',cur,rfl,hgg,hcur,hn,_,_,htake⟩
        · rw[h0] at hl
          have:sortB (l.map (·.1))=[]:=by
            rw[← List.length_eq_zero_iff]; simpa using hl
          rw[this]
          exact ⟨none,0,rfl,Nat.le_refl _,(fun h=>by cases h),.inl rfl⟩
        · have hl2:((sortB (l.map (·.1))).map AVal.str).length=ss.length:=by simpa using hl
          refine ⟨_,cap',by rw[hl2],by rw[hl2]; exact hn,(fun h=>by cases h),.inr ⟨by decide,g,0,rfl,(fun h => ?_),(fun ⟨r,ri',h,h'⟩ => ?_),?_⟩⟩
          · have:=i4.bound _ h; omega
          · have:=(i4.fresh _ _ h).2; omega
          · refine row_of 0 (strs_vals _) fun j hj => ?_
            rw[strs_flat] at hj ⊢
            have htake':(sortB (l.map (·.1))).map Proofs.encStr=cur.toList.take ss.length:=by rw[← htake,Nat.mul_one]
            rw[htake'] at hj ⊢
            rw[List.getElem?_take,if_pos (by simp at hj; omega)]
            unfold World.cell?
            rw[hcur]
            simp
      have hcd5:m5.dst=some 10:=by kernel_rfl
      rw[← hcd4] at s4
      have s5:=slot_put (d:=some 10) (v:=.tree false 1 ((sortB (l.map (·.1))).map .str)) (u:=v) (s4.ext (hq5.ext α3)) (fun t ht=>by cases ht; exact Nat.le_of_ble_eq_true (by kernel_rfl)) hrep
      rw[← hcd5] at s5
      have hev6 : evalOps Try.prog rE Hh (mO' ++ [m4, m5, m6]) [m6] ((10, .tree false 1 ((sortB (l.map (·.1))).map .str)) :: (9, .any) :: (8, .map q) :: (7, .ptr rr 1 0 0) :: (6, .ptr rr 1 0 0) :: (5, .ptr rr 1 0 0) :: (4, .bool false) :: (3, .ptr rr 1 0 0) :: [(2, .nil), (0, .ptr rr 1 0 0)]) st (fun σ st => some (σ, st)) =
          some ((2,.tree false 1 ((sortB (l.map (·.1))).map .str))::(10,.tree false 1 ((sortB (l.map (·.1))).map .str))::(9,.any)::(8,.map q)::(7,.ptr rr 1 0 0)::(6,.ptr rr 1 0 0)::(5,.ptr rr 1 0 0)::(4,.bool false)::(3,.ptr rr 1 0 0)::[(2,.nil),(0,.ptr rr 1 0 0)],st):=by kernel_rfl
      obtain ⟨σ6,st6,hk6,hw6⟩:=evalOps_head (N:=Try.f15.ntmps) rE_ok (ops:=mO'++[m4,m5,m6]) hdst [m6] 6 _ _ (fun j hj=>by
        have:j=0:=by simp at hj; omega
        subst this
        show (mO'++[m4,m5,m6])[6]? = [m6][0]?
        kernel_rfl) hev6
      cases hk6
      have e5:=((e1.trans e2).trans e3).trans ((q4.ext α3).trans (hq5.ext α3))
      have hw7:=hw6 []
      refine hw7 w5 O α3 _ _ i5 (hg.ext e5) s5 (fun a6 w6 hp6 => ?_)
      obtain ⟨α6,e6,i6,s6⟩:=hp6
      obtain ⟨u,k1,k2⟩:=resV_run (P:=Try.prog) (fn:=Try.f15) (v:=.tree false 1 ((sortB (l.map (·.1))).map .str)) i6 s6 (by kernel_rfl)
      exact wp_ret ⟨s6.defers,u,k1,u,α6,rfl,e5.trans e6,i6,k2⟩
  · cases hF
end
def untL (xs:List (Bs×fT.V)):List (Bs×Bs×Bs):=xs.map fun x=>(x.1,x.2.1,x.2.2.1)
theorem plain_encT:∀ xs:List (Bs×fT.V),plainE (xs.map encT)=some (untL xs)
  | []=>rfl
  | x::xs=>by
    have:=plain_encT xs
    show (plainE (xs.map encT)).map _=_
    rw[this]; rfl
theorem dRead {Φ : TY.Frame} {Γ : Ctx} {st : Store} {v : dT.V} {xs : List (Bs × fT.V)} (h : MemR Φ Γ [.box 38 dT v, .map .str fT xs] st) :
    ∃ r q,Γ 0=some (.inr (r,3,1))∧Γ 1=some (.inr (q,0,0))∧st[r]? = some (.row 38 3 [.agg [.map q,.int .i64 v.2.1,.bool v.2.2.1]])∧st[q]? = some (.map (xs.map encT)):=by
  obtain ⟨_,_,_,r,a,k4,k5,k6⟩:=h.reg 0 (by simp)
  obtain ⟨_,_,_,_,q,es,l5,l6,l7⟩:=h.reg 1 (by simp)
  refine ⟨r,q,k4,l5,?_,?_⟩
  · obtain ⟨cs,k6,x1,x2,rfl,⟨q2,d1,rfl⟩,x3,x4,rfl,rfl,x5,x6,rfl,rfl,rfl⟩:=k6
    have k6:=(List.cons.inj k6).1
    rw[k6] at k5
    rw[l5] at d1
    cases d1
    exact k5
  · rw[l6,files_all2 l7]
theorem dirOf_typed {Φ : TY.Frame} {Γ : Ctx} {st : Store} {v : dT.V} {xs : List (Bs × fT.V)} (h : MemR Φ Γ [.box 38 dT v, .map .str fT xs] st) :
    ∃ r q,Γ 0=some (.inr (r,3,1))∧Γ 1=some (.inr (q,0,0))∧dirOf 38 r st=some (q,v.2.1,v.2.2.1,untL xs):=by
  obtain ⟨r,q,h0,h1,h2,h3⟩:=dRead h
  refine ⟨r,q,h0,h1,?_⟩
  unfold dirOf
  rw[h2]
  have e:plainE (xs.map encT)=some (untL xs):=plain_encT xs
  simp only[and_self,if_true,h3]
  exact congrArg (Option.map _) e
theorem dSet {Φ : TY.Frame} {Γ : Ctx} {st : Store} {v v' : dT.V} {xs : List (Bs × fT.V)} {l : List (Bs × Bs × Bs)} {r q : Nat} (h : MemR Φ Γ [.box 38 dT v, .map .str fT xs] st) (h0 : Γ 0 = some (.inr (r, 3, 1))) (h1 : Γ 1 = some (.inr (q, 0, 0))) :
    MemR Φ Γ [.box 38 dT v',.map .str fT (typedL l)] ((st.set q (.map (l.map encF))).set r (.row 38 3 [.agg [.map q,.int .i64 v'.2.1,.bool v'.2.2.1]])):=by
  obtain ⟨r',q',g0,g1,g2,g3⟩:=dRead h
  rw[h0] at g0; cases g0
  rw[h1] at g1; cases g1
  have hne:r≠q:=fun e=>by subst e; rw[g2] at g3; cases g3
  have hr:r<st.length:=h.lt 0 _ _ _ h0
  have hq:q<st.length:=h.lt 1 _ _ _ h1
  refine ⟨fun id hid => ?_,fun id hid=>h.out id hid,h.inj,fun i r' n l h'=>by rw[List.length_set,List.length_set]; exact h.lt i r' n l h',fun i g h' => ?_,h.dis⟩
  · match id,hid with
    | 0,_=>exact ⟨rfl,rfl,(by decide),r,_,h0,List.getElem?_set_self (by simp; exact hr),_,rfl,[.map q],[.int .i64 v'.2.1,.bool v'.2.2.1],rfl,⟨q,h1,rfl⟩,[_],[_],rfl,rfl,[_],[],rfl,rfl,rfl⟩
    | 1,_=>exact ⟨rfl,rfl,rfl,rfl,q,_,h1,by rw[List.getElem?_set_ne hne]; exact List.getElem?_set_self hq,all2_files l⟩
    | n+2,h=>exact absurd h (by simp)
  · have k1:i≠r:=fun e=>by subst e; exact h.dis i g 0 _ _ h' h0
    have k2:i≠q:=fun e=>by subst e; exact h.dis i g 1 _ _ h' h1
    rw[List.getElem?_set_ne (Ne.symm k1),List.getElem?_set_ne (Ne.symm k2)]
    exact h.old i g h'
theorem arg_bx {Γ:Ctx}{r:Nat}{ts:Ty}{v:ts.V}{bs:List AVal} (h0:Γ 0=some (.inr (r,3,1))) (h:R Γ (.cons (.bx 0 0) ts) ((),v) false bs):∃ bs',bs = .ptr r 1 0 0::bs'∧R Γ ts v false bs':=by
  obtain ⟨x1,x2,rfl,⟨r',n',e,rfl⟩,hx⟩:=h
  rw[h0] at e; cases e
  exact ⟨x2,rfl,hx⟩
theorem total_at {st:Store}{rr q:Nat}{f:Int}{d:Bool}{l:List (Bs×Bs×Bs)} (h:dirOf 38 rr st=some (q,f,d,l)) (hb:lens l+1≤4611686018427387904):totalS [.ptr rr 1 0 0] st=some (.int .i64 (lens l:Nat),st):=by
  show (dirOf 38 rr st).bind _=_
  rw[h]
  simp only[Option.bind_some]
  rw[if_pos (by omega)]
theorem restart_at {st:Store}{rr q:Nat}{n f:Int}{d:Bool}{l:List (Bs×Bs×Bs)} (h:dirOf 38 rr st=some (q,f,d,l)) (hb:lens l+1≤4611686018427387904):restartS [.ptr rr 1 0 0,.int .i64 n] st=some (.tup [],(st.set q (.map ((l.flatMap (newF n)).map encF))).set rr (.row 38 3 [.agg [.map q,.int .i64 (-1),.bool false]])):=by
  show (dirOf 38 rr st).bind _=_
  rw[h]
  simp only[Option.bind_some]
  rw[if_pos (by omega)]
theorem names_at {st:Store}{rr q:Nat}{f:Int}{d:Bool}{l:List (Bs×Bs×Bs)} (h:dirOf 38 rr st=some (q,f,d,l)) (hb:namesOk l=true):namesS [.ptr rr 1 0 0] st=some (.tree false 1 ((sortB (l.map (·.1))).map .str),st):=by
  show (dirOf 38 rr st).bind _=_
  rw[h]
  simp only[Option.bind_some]
  rw[hb]; rfl
theorem names_typed {Γ:Ctx}:∀ l:List Bs,All2 (fun (x:Ty.str.V) a=>R Γ .str x false [a]) l (l.map AVal.str)
  | []=>trivial
  | x::l=>⟨rfl,names_typed l⟩
def total_R:TRaw:={ ps:=.cons (.bx 0 0) .unit,ins:=dIn,res:=.int .i64,outs:=dIn,fn:=fun _ v=>cond (Nat.ble (lens (untL v.2.1)+1) 4611686018427387904) (some ((lens (untL v.2.1):Nat),v)) none,stay:=true }
theorem total_ok:TRawOk totalS total_R:=⟨fun Φ Γ st pv v bs r w h1 h2 h3=>by
  obtain ⟨⟨u1,f,d,u2⟩,xs,u3⟩:=v
  have h1:MemR Φ Γ [.box 38 dT (u1,f,d,u2),.map .str fT xs] st:=h1
  obtain ⟨rr,q,k0,k1,k2⟩:=dirOf_typed h1
  have h2:R Γ (.cons (.bx 0 0) .unit) ((),()) false bs:=h2
  obtain ⟨bs',rfl,h6⟩:=arg_bx k0 h2
  have h6:bs'=[]:=h6
  subst h6
  have h3:cond (Nat.ble (lens (untL xs)+1) 4611686018427387904) (some (((lens (untL xs):Nat):Int),((u1,f,d,u2),xs,u3))) none=some (r,w):=h3
  cases hb:Nat.ble (lens (untL xs)+1) 4611686018427387904 with
  | false=>rw[hb] at h3; cases h3
  | true =>
    rw[hb] at h3
    cases h3
    rw[Nat.ble_eq] at hb
    exact ⟨_,st,Γ,total_at k2 hb,rfl,h1,fun _ _ _ h=>h⟩⟩
def restart_R:TRaw:={ ps:=.cons (.bx 0 0) (.cons (.int .i64) .unit),ins:=dIn,res:=.tup .unit,outs:=dIn,fn:=fun pv v=>cond (Nat.ble (lens (untL v.2.1)+1) 4611686018427387904) (some ((),(((),-1,false,()),typedL ((untL v.2.1).flatMap (newF pv.2.1)),()))) none,stay:=true }
theorem restart_ok:TRawOk restartS restart_R:=⟨fun Φ Γ st pv v bs r w h1 h2 h3=>by
  obtain ⟨⟨u1,f,d,u2⟩,xs,u3⟩:=v
  obtain ⟨p1,n,p2⟩:=pv
  have h1:MemR Φ Γ [.box 38 dT (u1,f,d,u2),.map .str fT xs] st:=h1
  obtain ⟨rr,q,k0,k1,k2⟩:=dirOf_typed h1
  have h2:R Γ (.cons (.bx 0 0) (.cons (.int .i64) .unit)) ((),n,()) false bs:=h2
  obtain ⟨bs',rfl,x1,x2,rfl,h4,h5⟩:=arg_bx k0 h2
  have h4:x1=[.int .i64 n]:=h4
  have h5:x2=[]:=h5
  subst h4 h5
  have h3:cond (Nat.ble (lens (untL xs)+1) 4611686018427387904) (some ((),((((),-1,false,()):dT.V),typedL ((untL xs).flatMap (newF n)),()))) none=some (r,w):=h3
  cases hb:Nat.ble (lens (untL xs)+1) 4611686018427387904 with
  | false=>rw[hb] at h3; cases h3
  | true =>
    rw[hb] at h3
    cases h3
    rw[Nat.ble_eq] at hb
    exact ⟨_,_,Γ,restart_at k2 hb,⟨[],rfl,rfl⟩,dSet (v':=((),-1,false,())) h1 k0 k1,fun _ _ _ h=>h⟩⟩
def names_R:TRaw:={ ps:=.cons (.bx 0 0) .unit,ins:=dIn,res:=.sl .str,outs:=dIn,fn:=fun _ v=>cond (namesOk (untL v.2.1)) (some (sortB ((untL v.2.1).map (·.1)),v)) none,stay:=true }
theorem names_ok:TRawOk namesS names_R:=⟨fun Φ Γ st pv v bs r w h1 h2 h3=>by
  obtain ⟨⟨u1,f,d,u2⟩,xs,u3⟩:=v
  have h1:MemR Φ Γ [.box 38 dT (u1,f,d,u2),.map .str fT xs] st:=h1
  obtain ⟨rr,q,k0,k1,k2⟩:=dirOf_typed h1
  have h2:R Γ (.cons (.bx 0 0) .unit) ((),()) false bs:=h2
  obtain ⟨bs',rfl,h6⟩:=arg_bx k0 h2
  have h6:bs'=[]:=h6
  subst h6
  have h3:cond (namesOk (untL xs)) (some (sortB ((untL xs).map (·.1)),(((u1,f,d,u2):dT.V),xs,u3))) none=some (r,w):=h3
  cases hb:namesOk (untL xs) with
  | false=>rw[hb] at h3; cases h3
  | true =>
    rw[hb] at h3
    cases h3
    exact ⟨_,st,Γ,names_at k2 hb,.inr ⟨false,1,_,rfl,.inr rfl,names_typed _⟩,h1,fun _ _ _ h=>h⟩⟩
def newS:SFn:=fun xs st=>match xs with
  | []=>some (.ptr (st++[AReg.map []]).length 1 0 0,(st++[AReg.map []])++[.row 38 3 [.agg [.map st.length,.int .i64 (-1),.bool false]]])
  | _=>none
theorem new_run (st:Store):runF Try.prog Ev Hh Try.f5 [] st=newS [] st:=by kernel_rfl
theorem new_sound:SoundS Try.prog G0 5 newS:=by
  obtain ⟨h1,h2⟩:=runF_sound (P:=Try.prog) (E:=Ev) (h:=Hh) (f:=5) (fn:=Try.f5) Ev_ok Try.func5 rfl (by kernel_rfl)
  refine ⟨h1,fun xs st r st' hF=>h2 xs st r st' ?_⟩
  cases xs with
  | nil=>rw[new_run]; exact hF
  | cons _ _=>cases hF
def new_D:TDeep:={ ps:=.unit,root:=0,outs:=dIn,fn:=fun _=>some (((),-1,false,()),[],()) }
theorem new_ok:TDeepOk newS new_D:=⟨fun st pv w bs Γ h1 h2=>by
  have h1:bs=[]:=h1
  subst h1
  have h2:some ((((),-1,false,()),[],()):DV)=some w:=h2
  cases h2
  refine ⟨_,3,_,dGam (st.length+1) st.length,rfl,?_,?_⟩
  · have hm:=dMem (st:=(st++[AReg.map []])++[.row 38 3 [.agg [.map st.length,.int .i64 (-1),.bool false]]]) (r:=st.length+1) (q:=st.length) (f := -1) (d:=false) (l:=[]) (by simp) (by simp)
    have e:dPhi (st.length+1) st.length ((st++[AReg.map []])++[.row 38 3 [.agg [.map st.length,.int .i64 (-1),.bool false]]])=fun q=>st[q]? := by
      funext i
      unfold dPhi
      split
      · rename_i h
        rw[List.getElem?_eq_none (by omega)]
      · rename_i h
        rcases Nat.lt_or_ge i st.length with hl | hl
        · rw[List.append_assoc,List.getElem?_append_left hl]
        · rw[List.getElem?_eq_none (by simp; omega),List.getElem?_eq_none hl]
    rw[e] at hm
    exact hm
  · show dGam (st.length+1) st.length 0=some (.inr ((st++[AReg.map []]).length,3,1))
    simp[dGam]⟩
end Go.D35
