import Derived.Test.YtljlahifmblbbaaW
import Derived.Test.YtljlahifmblbbaaT14
set_option linter.unusedVariables false
set_option linter.unusedSimpArgs false
set_option maxRecDepth 100000
namespace Go.Proofs.Ytljlahifmblbbaa.Q
open Go.EM Go.TY Go.Proofs Go.Proofs.Ytljlahifmblbbaa.Y
abbrev Bs:=List UInt8
abbrev Fl:=Bs×Bs×Unit
abbrev En:=Bs×Fl
abbrev DS:=Unit×Int×Bool×Unit
def zF:Fl:=([],[],())
def gF (k:Bs) (xs:List En):Fl:=(getK .str (zF:Fl) k xs).1
def flen (f:Fl):Nat:=f.1.length+f.2.1.length
def tot (xs:List En):Nat:=D35.lens (D35.untL xs)
theorem tot_nil:tot []=0:=rfl
theorem tot_cons (x:En) (xs:List En):tot (x::xs)=flen x.2+tot xs:=by
  simp[tot,D35.lens,D35.untL,flen]
theorem eqS {a b:Bs}:eqV .str a b=decide (a=b):=rfl
theorem gF_cons (k:Bs) (x:En) (xs:List En):gF k (x::xs)=if k=x.1 then x.2 else gF k xs:=by
  unfold gF getK
  simp only[findK,eqS]
  by_cases h:k=x.1
  · rw[if_pos h,decide_eq_true h,cond_true]
  · rw[if_neg h,decide_eq_false h,cond_false]
theorem gF_put (k j:Bs) (v:Fl):∀ xs:List En,gF k (putK .str j v xs)=if k=j then v else gF k xs
  | []=>by
    simp only[putK]
    rw[gF_cons]
  | x::xs=>by
    simp only[putK,eqS]
    by_cases h:j=x.1
    · rw[decide_eq_true h,cond_true,gF_cons,gF_cons]
      simp only
      by_cases hk:k=j
      · rw[if_pos hk,if_pos hk]
      · rw[if_neg hk,if_neg hk,if_neg (fun e=>hk (e.trans h.symm))]
    · rw[decide_eq_false h,cond_false,gF_cons,gF_cons,gF_put k j v xs]
      by_cases hk:k=x.1
      · rw[if_pos hk,if_neg (fun e=>h (e.symm.trans hk)),if_pos hk]
      · rw[if_neg hk,if_neg hk]
theorem gF_del (k j:Bs) (hk:k≠j):∀ xs:List En,gF k (delK .str j xs)=gF k xs
  | []=>rfl
  | x::xs=>by
    simp only[delK,eqS]
    by_cases h:j=x.1
    · rw[decide_eq_true h,cond_true,gF_cons,if_neg (fun e=>hk (e.trans h.symm))]
    · rw[decide_eq_false h,cond_false,gF_cons,gF_cons,gF_del k j hk xs]
theorem tot_put (j:Bs) (v:Fl):∀ xs:List En,tot (putK .str j v xs)+flen (gF j xs)=tot xs+flen v
  | []=>by
    simp only[putK]
    rw[tot_cons]
    show flen v+0+0=0+flen v
    omega
  | x::xs=>by
    simp only[putK,eqS]
    by_cases h:j=x.1
    · rw[decide_eq_true h,cond_true,gF_cons,if_pos h,tot_cons,tot_cons]
      simp only; omega
    · rw[decide_eq_false h,cond_false,gF_cons,if_neg h,tot_cons,tot_cons]
      have:=tot_put j v xs
      omega
theorem tot_del (j:Bs):∀ xs:List En,tot (delK .str j xs)+flen (gF j xs)=tot xs
  | []=>rfl
  | x::xs=>by
    simp only[delK,eqS]
    by_cases h:j=x.1
    · rw[decide_eq_true h,cond_true,gF_cons,if_pos h,tot_cons]; omega
    · rw[decide_eq_false h,cond_false,gF_cons,if_neg h,tot_cons,tot_cons]
      have:=tot_del j xs
      omega
theorem gF_le (j:Bs) (xs:List En):flen (gF j xs)≤tot xs:=by have:=tot_del j xs; omega
def Keeps (k:Bs) (xs ys:List En):Prop:=(gF k xs).1 <+: (gF k ys).1++(gF k ys).2.1
theorem Keeps.same {k:Bs}{xs ys:List En} (h:gF k ys=gF k xs):Keeps k xs ys:=by unfold Keeps; rw[h]; exact List.prefix_append _ _
theorem Keeps.refl (k:Bs) (xs:List En):Keeps k xs xs:=.same rfl
def re1 (n:Int) (x:En):List En:=D35.typedL (D35.newF n (x.1,x.2.1,x.2.2.1))
theorem re_cons (n:Int) (x:En) (xs:List En):D35.typedL ((D35.untL (x::xs)).flatMap (D35.newF n))=re1 n x++D35.typedL ((D35.untL xs).flatMap (D35.newF n)):=by
  simp[re1,D35.typedL,D35.untL]
theorem tot_app (xs ys:List En):tot (xs++ys)=tot xs+tot ys:=by
  induction xs with
  | nil=>rw[tot_nil]; simp
  | cons x xs ih=>rw[List.cons_append,tot_cons,tot_cons,ih]; omega
theorem re1_cases (n:Int) (x:En):re1 n x=[]∧x.2.1=[]∨∃ w:Bs,re1 n x=[(x.1,x.2.1++w,[],())]∧w.length≤x.2.2.1.length:=by
  unfold re1 D35.newF
  simp only
  split
  · rename_i h
    left
    exact ⟨rfl,(List.append_eq_nil_iff.1 h).1⟩
  · right
    exact ⟨_,rfl,by rw[List.length_take]; omega⟩
theorem re_tot (n:Int):∀ xs:List En,tot (D35.typedL ((D35.untL xs).flatMap (D35.newF n)))≤tot xs
  | []=>Nat.le_refl _
  | x::xs=>by
    have:=re_tot n xs
    rw[re_cons,tot_app,tot_cons]
    rcases re1_cases n x with ⟨h,_⟩ | ⟨w,h,hw⟩
    · rw[h,tot_nil]; omega
    · rw[h,tot_cons,tot_nil]
      simp only[flen,List.length_append,List.length_nil]
      omega
theorem re_keeps (n:Int) (k:Bs):∀ xs:List En,Keeps k xs (D35.typedL ((D35.untL xs).flatMap (D35.newF n)))
  | []=>.refl _ _
  | x::xs=>by
    have:=re_keeps n k xs
    unfold Keeps
    rw[re_cons]
    rcases re1_cases n x with ⟨h,h2⟩ | ⟨w,h,hw⟩
    · rw[h,List.nil_append,gF_cons]
      by_cases hk:k=x.1
      · rw[if_pos hk,h2]; exact List.nil_prefix
      · rw[if_neg hk]; exact this
    · rw[h,List.singleton_append,gF_cons,gF_cons]
      by_cases hk:k=x.1
      · rw[if_pos hk,if_pos hk]
        simp only[List.append_nil]
        exact List.prefix_append _ _
      · rw[if_neg hk,if_neg hk]; exact this
theorem deed_t (d:DS) (xs:List En):∃ e d',dir_Dir_deed d xs=some (e,d',xs,()):=by
  unfold dir_Dir_deed dir_Dir_none
  simp only[Option.bind_some,cond_false,cond_dec]
  cases d.2.2.1 with
  | true=>exact ⟨_,_,rfl⟩
  | false =>
    simp only[cond_false]
    split
    · exact ⟨_,_,rfl⟩
    · split
      · exact ⟨_,_,rfl⟩
      · exact ⟨_,_,rfl⟩
theorem total_t {d:DS}{xs:List En} (h:tot xs≤4194304):dir_Dir_total d xs=some (((tot xs:Nat):Int),d,xs,()):=by
  have h':Nat.ble (D35.lens (D35.untL xs)+1) 4611686018427387904=true:=by rw[Nat.ble_eq]; unfold tot at h; omega
  show cond (Nat.ble (D35.lens (D35.untL xs)+1) 4611686018427387904) (some (((D35.lens (D35.untL xs):Nat):Int),d,xs,())) none=_
  rw[h']; rfl
theorem restart_t {n:Int}{d:DS}{xs:List En} (h:tot xs≤4194304):dir_Dir_Restart n d xs=some ((),((),-1,false,()),D35.typedL ((D35.untL xs).flatMap (D35.newF n)),()):=by
  have h':Nat.ble (D35.lens (D35.untL xs)+1) 4611686018427387904=true:=by rw[Nat.ble_eq]; unfold tot at h; omega
  show cond (Nat.ble (D35.lens (D35.untL xs)+1) 4611686018427387904) (some ((),((),-1,false,()),D35.typedL ((D35.untL xs).flatMap (D35.newF n)),())) none=_
  rw[h']; rfl
def Left1 {A:Type} (xs:List En) (p:Bs→Prop) (x:Option (A×DS×List En×Unit)):Prop :=
  ∃ r d ys,x=some (r,d,ys,())∧tot ys≤4194304∧∀ k,p k→Keeps k xs ys
theorem append_t {a s:Bs}{d:DS}{xs:List En} (h:tot xs≤4194304):Left1 xs (fun _=>True) (dir_Dir_Append a s d xs):=by
  unfold dir_Dir_Append
  simp only[cond_dec,cond_ndec]
  split
  · exact ⟨_,_,_,rfl,h,fun _ _=>.refl _ _⟩
  split
  · exact ⟨_,_,_,rfl,h,fun _ _=>.refl _ _⟩
  obtain ⟨e,d',hd⟩:=deed_t d xs
  simp only[hd,Option.bind_some]
  split
  · have ht:=total_t (d:=d') h
    have hg:=gF_le a xs
    have key : Left1 xs (fun _ => True) (((dir_Dir_total d' xs).bind fun q3 => if (s.length : Int) > (IntKind.wrap .i64 (4194304 - q3.1)) then some (.inr (7, q3.2.1, q3.2.2.1, ())) else
        some (.inl (q3.2.1,q3.2.2.1,(getK .str ([],[],()) a xs).1,())):Option ((DS×List En×Fl×Unit)⊕(Int×DS×List En×Unit))).bind (joinS fun v4 =>
      (catT v4.2.2.1.2.1 s).bind fun s5=>some (0,v4.1,(putK .str a (v4.2.2.1.1,s5,()) v4.2.1),()))):=by
      rw[ht]
      simp only[Option.bind_some]
      rw[wrap64 (by omega) (by omega)]
      split
      · exact ⟨_,_,_,rfl,h,fun _ _=>.refl _ _⟩
      · rename_i hs
        simp only[Option.bind_some,joinS_inl]
        have hc:catT (gF a xs).2.1 s=some ((gF a xs).2.1++s):=catT_some (by unfold flen at hg; omega)
        have hc':catT (getK .str (([],[],()):Fl) a xs).1.2.1 s=some ((gF a xs).2.1++s):=hc
        rw[hc']
        have hp:=tot_put a ((gF a xs).1,(gF a xs).2.1++s,()) xs
        have hfl:flen ((gF a xs).1,(gF a xs).2.1++s,())=flen (gF a xs)+s.length:=by simp[flen]; omega
        refine ⟨_,_,_,rfl,?_,fun k _ => ?_⟩
        · show tot (putK .str a ((gF a xs).1,(gF a xs).2.1++s,()) xs)≤_
          omega
        · show Keeps k xs (putK .str a ((gF a xs).1,(gF a xs).2.1++s,()) xs)
          unfold Keeps
          rw[gF_put]
          by_cases hk:k=a
          · rw[if_pos hk,hk]; exact List.prefix_append _ _
          · rw[if_neg hk]; exact List.prefix_append _ _
    cases hf:(getK .str (([],[],()):Fl) a xs).2 with
    | true =>
      simp only[Bool.not_true,cond_false]
      exact key
    | false =>
      simp only[Bool.not_false,cond_true]
      split
      · exact ⟨_,_,_,rfl,h,fun _ _=>.refl _ _⟩
      · exact key
  · exact ⟨_,_,_,rfl,h,fun _ _=>.refl _ _⟩
theorem sync_t {a:Bs}{d:DS}{xs:List En} (h:tot xs≤4194304):Left1 xs (fun _=>True) (dir_Dir_Sync a d xs):=by
  unfold dir_Dir_Sync
  obtain ⟨e,d',hd⟩:=deed_t d xs
  simp only[hd,Option.bind_some,cond_ndec]
  have hg:=gF_le a xs
  split
  · cases hf:(getK .str (([],[],()):Fl) a xs).2 with
    | false=>exact ⟨_,_,_,rfl,h,fun _ _=>.refl _ _⟩
    | true =>
      simp only[Bool.not_true,cond_false]
      have hc:catT (getK .str (([],[],()):Fl) a xs).1.1 (getK .str (([],[],()):Fl) a xs).1.2.1=some ((gF a xs).1++(gF a xs).2.1):=catT_some (by unfold flen gF zF at hg; omega)
      rw[hc]
      have hp:=tot_put a ((gF a xs).1++(gF a xs).2.1,[],()) xs
      have hfl:flen ((gF a xs).1++(gF a xs).2.1,[],())=flen (gF a xs):=by simp[flen]
      refine ⟨_,_,_,rfl,?_,fun k _ => ?_⟩
      · show tot (putK .str a ((gF a xs).1++(gF a xs).2.1,[],()) xs)≤_
        omega
      · show Keeps k xs (putK .str a ((gF a xs).1++(gF a xs).2.1,[],()) xs)
        unfold Keeps
        rw[gF_put]
        by_cases hk:k=a
        · rw[if_pos hk,hk]; exact ⟨(gF a xs).2.1,by simp⟩
        · rw[if_neg hk]; exact List.prefix_append _ _
  · exact ⟨_,_,_,rfl,h,fun _ _=>.refl _ _⟩
theorem rename_t {a b:Bs}{d:DS}{xs:List En} (h:tot xs≤4194304):Left1 xs (fun k=>k≠a∧k≠b) (dir_Dir_Rename a b d xs):=by
  unfold dir_Dir_Rename
  simp only[cond_dec,cond_ndec]
  split
  · exact ⟨_,_,_,rfl,h,fun _ _=>.refl _ _⟩
  split
  · exact ⟨_,_,_,rfl,h,fun _ _=>.refl _ _⟩
  obtain ⟨e,d',hd⟩:=deed_t d xs
  simp only[hd,Option.bind_some,cond_ndec]
  split
  · cases hf:(getK .str (([],[],()):Fl) a xs).2 with
    | false=>exact ⟨_,_,_,rfl,h,fun _ _=>.refl _ _⟩
    | true =>
      simp only[Bool.not_true,cond_false]
      have hp:=tot_put b (gF a xs) (delK .str a xs)
      have hq:=tot_del a xs
      refine ⟨_,_,_,rfl,?_,fun k hk=>.same ?_⟩
      · show tot (putK .str b (gF a xs) (delK .str a xs))≤_
        omega
      · show gF k (putK .str b (gF a xs) (delK .str a xs))=_
        rw[gF_put,if_neg hk.2,gF_del k a hk.1]
  · exact ⟨_,_,_,rfl,h,fun _ _=>.refl _ _⟩
theorem remove_t {a:Bs}{d:DS}{xs:List En} (h:tot xs≤4194304):Left1 xs (fun k=>k≠a) (dir_Dir_Remove a d xs):=by
  unfold dir_Dir_Remove
  obtain ⟨e,d',hd⟩:=deed_t d xs
  simp only[hd,Option.bind_some,cond_ndec]
  split
  · cases hf:(getK .str (([],[],()):Fl) a xs).2 with
    | false=>exact ⟨_,_,_,rfl,h,fun _ _=>.refl _ _⟩
    | true =>
      simp only[Bool.not_true,cond_false]
      have hq:=tot_del a xs
      exact ⟨_,_,_,rfl,by omega,fun k hk=>.same (gF_del k a hk xs)⟩
  · exact ⟨_,_,_,rfl,h,fun _ _=>.refl _ _⟩
theorem cut_t {a:Bs}{n:Int}{d:DS}{xs:List En} (h:tot xs≤4194304):Left1 xs (fun k=>k≠a) (dir_Dir_Cut a n d xs):=by
  unfold dir_Dir_Cut
  obtain ⟨e,d',hd⟩:=deed_t d xs
  simp only[hd,Option.bind_some,cond_ndec,cond_dec]
  split
  · cases hf:(getK .str (([],[],()):Fl) a xs).2 with
    | false=>exact ⟨_,_,_,rfl,h,fun _ _=>.refl _ _⟩
    | true =>
      simp only[Bool.not_true,cond_false]
      split
      · exact ⟨_,_,_,rfl,h,fun _ _=>.refl _ _⟩
      split
      · exact ⟨_,_,_,rfl,h,fun _ _=>.refl _ _⟩
      rename_i h1 h2
      obtain ⟨m,rfl⟩:∃ m:Nat,n=m:=⟨n.toNat,by omega⟩
      have hm:m≤(gF a xs).1.length:=by
        show m≤(getK .str (([],[],()):Fl) a xs).1.1.length
        omega
      have hs:subI (getK .str (([],[],()):Fl) a xs).1.1 0 (m:Int)=some ((gF a xs).1.take m):=by
        have:=subI_nat (l:=(gF a xs).1) (i:=0) (j:=m) (Nat.zero_le _) hm
        rw[List.drop_zero] at this
        exact this
      rw[hs]
      have hp:=tot_put a ((gF a xs).1.take m,[],()) xs
      have hfl:flen ((gF a xs).1.take m,[],())≤flen (gF a xs):=by
        simp only[flen,List.length_take,List.length_nil]; omega
      refine ⟨_,_,_,rfl,?_,fun k hk=>.same ?_⟩
      · show tot (putK .str a ((gF a xs).1.take m,[],()) xs)≤_
        omega
      · show gF k (putK .str a ((gF a xs).1.take m,[],()) xs)=_
        rw[gF_put,if_neg hk]
  · exact ⟨_,_,_,rfl,h,fun _ _=>.refl _ _⟩
theorem fuse_t {n:Int}{d:DS}{xs:List En} (h:tot xs≤4194304):Left1 xs (fun _=>True) (dir_Dir_Fuse n d xs) :=
  ⟨_,_,_,rfl,h,fun _ _=>.refl _ _⟩
theorem read_t {a:Bs}{d:DS}{xs:List En} (h:tot xs≤4194304):∃ ok,dir_Dir_Read a d xs=some (((gF a xs).1++(gF a xs).2.1,ok,()),d,xs,()):=by
  have hg:=gF_le a xs
  have hc:catT (getK .str (([],[],()):Fl) a xs).1.1 (getK .str (([],[],()):Fl) a xs).1.2.1=some ((gF a xs).1++(gF a xs).2.1):=catT_some (by unfold flen gF zF at hg; omega)
  unfold dir_Dir_Read dir_Dir_none
  simp only[Option.bind_some,cond_false]
  rw[hc]
  exact ⟨_,rfl⟩
theorem kept_t {a:Bs}{d:DS}{xs:List En}:dir_Dir_Kept a d xs=some (((gF a xs).1.length:Int),d,xs,()):=rfl
abbrev RS0:List (Bs×Bs×Bs×Unit)×Int×Bool×Unit:=([],-1,false,())
theorem rfind_t (a:Bs):ref35_Dir_Find a RS0=some (-1,RS0,()):=loopT_inr rfl
theorem rwithout_t (n:Int):ref35_Dir_without n RS0=some ([],RS0,()):=loopT_inr rfl
theorem rput_t (f:Bs×Bs×Bs×Unit):ref35_Dir_put f RS0=some ((),([f],-1,false,()),()):=by
  unfold ref35_Dir_put
  rw[rfind_t]
  simp only[Option.bind_some]
  rw[rwithout_t]
  simp only[Option.bind_some]
  have:loopT (ref35_Dir_put_l5 f ([],RS0,())) (false,0,RS0,[],())=some (.inl (false,RS0,[],())):=loopT_inr rfl
  rw[this]
  rfl
theorem rdeed_t:ref35_Dir_deed RS0=some (0,RS0,()):=rfl
theorem rappend_t {a s:Bs} (h:s.length≤500):∃ q,ref35_Dir_Append a s RS0=some q:=by
  unfold ref35_Dir_Append
  simp only[cond_dec,cond_ndec]
  split
  · exact ⟨_,rfl⟩
  split
  · exact ⟨_,rfl⟩
  rw[rdeed_t]
  simp only[Option.bind_some,if_true]
  have:loopT ref35_Dir_Append_l7 ((s.length:Int),0,RS0,())=some (.inl ((s.length:Int),RS0,())):=loopT_inr rfl
  rw[this]
  simp only[Option.bind_some,joinS_inl]
  rw[rfind_t]
  simp only[Option.bind_some]
  rw[if_pos (by decide),if_neg (by decide),if_neg (by omega)]
  simp only[Option.bind_some,joinS_inl]
  rw[if_neg (by decide)]
  simp only[Option.bind_some,joinS_inl]
  rw[catT_some (by simp; omega)]
  simp only[Option.bind_some]
  rw[rput_t]
  exact ⟨_,rfl⟩
theorem rsync_t (a:Bs):∃ q,ref35_Dir_Sync a RS0=some q:=by
  unfold ref35_Dir_Sync
  rw[rdeed_t]
  simp only[Option.bind_some]
  rw[rfind_t]
  exact ⟨_,rfl⟩
theorem rrename_t (a b:Bs):∃ q,ref35_Dir_Rename a b RS0=some q:=by
  unfold ref35_Dir_Rename
  simp only[cond_dec,cond_ndec]
  split
  · exact ⟨_,rfl⟩
  split
  · exact ⟨_,rfl⟩
  rw[rdeed_t]
  simp only[Option.bind_some]
  rw[rfind_t]
  exact ⟨_,rfl⟩
theorem rremove_t (a:Bs):∃ q,ref35_Dir_Remove a RS0=some q:=by
  unfold ref35_Dir_Remove
  rw[rdeed_t]
  simp only[Option.bind_some]
  rw[rfind_t]
  exact ⟨_,rfl⟩
theorem rcut_t (a:Bs) (n:Int):∃ q,ref35_Dir_Cut a n RS0=some q:=by
  unfold ref35_Dir_Cut
  rw[rdeed_t]
  simp only[Option.bind_some]
  rw[rfind_t]
  exact ⟨_,rfl⟩
theorem rburn_t (n:Int):∃ q,ref35_Dir_Burn n RS0=some q:=by
  unfold ref35_Dir_Burn
  simp only[cond_dec]
  split
  · exact ⟨_,rfl⟩
  · exact ⟨_,rfl⟩
theorem rrestart_t (n:Int):∃ q,ref35_Dir_Restart n RS0=some q:=by
  unfold ref35_Dir_Restart
  have:loopT (ref35_Dir_Restart_l2 n) (0,RS0,[],())=some (.inl (RS0,[],())):=loopT_inr rfl
  rw[this]
  exact ⟨_,rfl⟩
theorem awake_t:law35_awake=some true:=by
  have h1:dir_New=some (((),-1,false,()),[],()):=rfl
  have h2:dir_Dir_Fuse 1 ((),-1,false,()) []=some ((),((),1,false,()),[],()):=by kernel_rfl
  have h3:dir_Dir_Append [97] [120,121] ((),1,false,()) []=some (0,((),0,false,()),[([97],[],[120,121],())],()):=by kernel_rfl
  have h4:dir_Dir_Append [97] [122] ((),0,false,()) [([97],[],[120,121],())]=some (15,((),0,true,()),[([97],[],[120,121],())],()):=by kernel_rfl
  have h5:dir_Dir_Restart 1 ((),0,true,()) [([97],[],[120,121],())]=some ((),((),-1,false,()),[([97],[120],[],())],()):=by kernel_rfl
  have h6:dir_Dir_Read [97] ((),-1,false,()) [([97],[120],[],())]=some (([120],true,()),((),-1,false,()),[([97],[120],[],())],()):=by kernel_rfl
  have h7:dir_Dir_Names ((),-1,false,()) [([97],[120],[],())]=some ([[97]],((),-1,false,()),[([97],[120],[],())],()):=by kernel_rfl
  have h8:ref03_Same [[97]] [[97]]=some true:=by
    have e:ref03_Same [[97]] [[97]]=loopT (ref03_Same_l4 [[97]] [[97]]) (0,()):=by kernel_rfl
    rw[e,loopT_inl (b:=(1,())) (by kernel_rfl)]
    exact loopT_inr (by kernel_rfl)
  unfold law35_awake
  rw[h1]; simp only[Option.bind_some]
  rw[h2]; simp only[Option.bind_some]
  rw[h3]; simp only[Option.bind_some]
  rw[h4]; simp only[Option.bind_some]
  rw[h5]; simp only[Option.bind_some]
  rw[h6]
  have h9:dir_Dir_Down ((),-1,false,()) [([97],[120],[],())]=some (false,((),-1,false,()),[([97],[120],[],())],()):=rfl
  simp only[Option.bind_some,cond_dec,if_true,cond_true,decide_true]
  rw[h9]
  simp only[Option.bind_some,Bool.not_false,cond_true]
  rw[h7]
  simp only[Option.bind_some]
  rw[h8]; rfl
abbrev De:=Int×Int×Bs×Bs×Bs×Unit
def touches (x:De) (k:Bs):Prop:=(x.1=4∨x.1=5∨x.1=6)∧(x.2.2.1=k∨x.2.2.2.1=k)
theorem does_t {x : De} {d : DS} {xs : List En} {k : Bs} (h : tot xs ≤ 4194304) (hs : x.2.2.2.2.1.length ≤ 500) (hk : ¬ touches x k) :
    ∃ r d' ys q,law35_Does x d xs RS0=some (r,d',ys,q,())∧tot ys≤4194304∧Keeps k xs ys:=by
  unfold touches at hk
  unfold law35_Does
  have fin : ∀ {A B : Type} {a : Option (A × DS × List En × Unit)} {b : Option (B × (List (Bs × Bs × Bs × Unit) × Int × Bool × Unit) × Unit)} {f : A → B → Bool} {p : Bs → Prop}, Left1 xs p a → p k → (∃ q, b = some q) →
      ∃ r d' ys q,(a.bind fun q2=>b.bind fun q3=>some (f q2.1 q3.1,q2.2.1,q2.2.2.1,q3.2.1,()))=some (r,d',ys,q,())∧tot ys≤4194304∧Keeps k xs ys:=by
    rintro A B a b f p ⟨r,d',ys,rfl,h1,h2⟩ hp ⟨q,rfl⟩
    exact ⟨_,_,_,_,rfl,h1,h2 k hp⟩
  have key:∀ (c:Bool) (hc:c=decide (x.1=0∨x.1=1∨x.1=2)),∃ r d' ys q,(cond c ((dir_Dir_Append x.2.2.1 x.2.2.2.2.1 d xs).bind fun q2 =>
(ref35_Dir_Append x.2.2.1 x.2.2.2.2.1 RS0).bind fun q3 =>
 some ((decide (q2.1=q3.1)),q2.2.1,q2.2.2.1,q3.2.1,())) (
 cond (decide (x.1=3)) (
(dir_Dir_Sync x.2.2.1 d xs).bind fun q4 =>
(ref35_Dir_Sync x.2.2.1 RS0).bind fun q5 =>
 some ((decide (q4.1=q5.1)),q4.2.1,q4.2.2.1,q5.2.1,())) (
 cond (decide (x.1=4)) (
(dir_Dir_Rename x.2.2.1 x.2.2.2.1 d xs).bind fun q6 =>
(ref35_Dir_Rename x.2.2.1 x.2.2.2.1 RS0).bind fun q7 =>
 some ((decide (q6.1=q7.1)),q6.2.1,q6.2.2.1,q7.2.1,())) (
 cond (decide (x.1=5)) (
(dir_Dir_Remove x.2.2.1 d xs).bind fun q8 =>
(ref35_Dir_Remove x.2.2.1 RS0).bind fun q9 =>
 some ((decide (q8.1=q9.1)),q8.2.1,q8.2.2.1,q9.2.1,())) (
 cond (decide (x.1=6)) (
(dir_Dir_Cut x.2.2.1 x.2.1 d xs).bind fun q10 =>
(ref35_Dir_Cut x.2.2.1 x.2.1 RS0).bind fun q11 =>
 some ((decide (q10.1=q11.1)),q10.2.1,q10.2.2.1,q11.2.1,())) (
 cond (decide (x.1=7)) (
(dir_Dir_Fuse x.2.1 d xs).bind fun q12 =>
(ref35_Dir_Burn x.2.1 RS0).bind fun q13 =>
 some (true,q12.2.1,q12.2.2.1,q13.2.1,())) (
 cond (decide (x.1=8)) (
(dir_Dir_Restart x.2.1 d xs).bind fun q14 =>
(ref35_Dir_Restart x.2.1 RS0).bind fun q15 =>
 some (true,q14.2.1,q14.2.2.1,q15.2.1,())) (
 some (true,d,xs,RS0,())))))))))=some (r,d',ys,q,())∧tot ys≤4194304∧Keeps k xs ys:=by
    rintro c rfl
    simp only[cond_dec]
    split
    · exact fin (f:=fun a b=>decide (a=b)) (append_t h) trivial (rappend_t hs)
    split
    · exact fin (f:=fun a b=>decide (a=b)) (sync_t h) trivial (rsync_t _)
    split
    · rename_i h4
      exact fin (f:=fun a b=>decide (a=b)) (rename_t h) ⟨fun e=>hk ⟨.inl h4,.inl e.symm⟩,fun e=>hk ⟨.inl h4,.inr e.symm⟩⟩ (rrename_t _ _)
    split
    · rename_i h5
      exact fin (f:=fun a b=>decide (a=b)) (remove_t h) (fun e=>hk ⟨.inr (.inl h5),.inl e.symm⟩) (rremove_t _)
    split
    · rename_i h6
      exact fin (f:=fun a b=>decide (a=b)) (cut_t h) (fun e=>hk ⟨.inr (.inr h6),.inl e.symm⟩) (rcut_t _ _)
    split
    · exact fin (f:=fun _ _=>true) (fuse_t h) trivial (rburn_t _)
    split
    · refine fin (f:=fun _ _=>true) ⟨_,_,_,restart_t h,Nat.le_trans (re_tot _ _) h,fun k _=>re_keeps _ k xs⟩ (p:=fun _=>True) trivial (rrestart_t _)
    · exact ⟨_,_,_,_,rfl,h,.refl _ _⟩
  have:=key _ rfl
  simp only[cond_dec] at this ⊢
  by_cases h0:x.1=0
  · simp only[h0,true_or,if_true,decide_true,Option.bind_some,joinS_inl] at this ⊢
    exact this
  · by_cases h1:x.1=1
    · simp only[h1,true_or,or_true,if_true,decide_true,Option.bind_some,joinS_inl,Int.reduceEq,if_false] at this ⊢
      exact this
    · simp only[h0,h1,if_false,false_or,Option.bind_some,joinS_inl] at this ⊢
      simp only[cond_dec]
      exact this
theorem keeps_t (l:List De) (name:Bs):law35_DirKeeps l name=some true:=by
  have key:∀ (n i:Nat) (d:DS) (xs:List En),40-i≤n→tot xs≤4194304→loopT (law35_DirKeeps_l4 l name) ((gF name xs).1,(i:Int),d,xs,())=some true:=by
    intro n
    induction n with
    | zero =>
      intro i d xs hi ht
      refine loopT_inr ?_
      unfold law35_DirKeeps_l4
      simp only[cond_dec]
      rw[awake_t]
      split
      · rw[if_neg (by omega)]; rfl
      · rfl
    | succ n ih =>
      intro i d xs hi ht
      by_cases h1:i<l.length
      · by_cases h2:i<40
        · have hstep : law35_DirKeeps_l4 l name ((gF name xs).1, (i : Int), d, xs, ()) = some (.inr true) ∨ ∃ d' ys, law35_DirKeeps_l4 l name ((gF name xs).1, (i : Int), d, xs, ()) = some (.inl ((gF name ys).1, ((i + 1 : Nat) : Int), d', ys, ())) ∧ tot ys ≤ 4194304 := by
            unfold law35_DirKeeps_l4
            simp only[cond_dec,cond_ndec]
            rw[if_pos (by omega),if_pos (by omega),atI_lt h1]
            simp only[Option.bind_some]
            generalize l[i]=x
            have hw:IntKind.wrap .i64 ((i:Int)+1)=((i+1:Nat):Int):=by rw[wrap64 (by omega) (by omega)]; omega
            rw[hw,awake_t]
            obtain ⟨b,hb,hb2⟩:∃ b,law35_small x=some b∧(b=true→x.2.2.2.2.1.length≤500):=by
              unfold law35_small
              simp only[cond_dec]
              split
              · split
                · exact ⟨_,rfl,fun h=>Int.ofNat_le.1 (of_decide_eq_true h)⟩
                · exact ⟨_,rfl,fun h=>by cases h⟩
              · exact ⟨_,rfl,fun h=>by cases h⟩
            rw[hb]
            simp only[Option.bind_some]
            cases b with
            | false=>left; rfl
            | true =>
              right
              simp only[Bool.not_true,cond_false]
              have go:¬ touches x name→∃ d' ys,((ref35_New).bind fun n7 =>
(law35_Does x d xs n7).bind fun q8 =>
(dir_Dir_Read name q8.2.1 q8.2.2.1).bind fun q9 =>
 if (q9.1.1.length:Int)<((gF name xs).1.length:Int) then some (.inr false) else ((subI q9.1.1 0 ((gF name xs).1.length:Int)).bind fun s10 =>
 if s10=(gF name xs).1 then
(dir_Dir_Kept name q9.2.1 q9.2.2.1).bind fun q11 =>
(subI q9.1.1 0 q11.1).bind fun s12 =>
 some (.inl (s12, ((i + 1 : Nat) : Int), q11.2.1, q11.2.2.1, ())) else some (.inr false)) : Option ((Bs × Int × DS × List En × Unit) ⊕ Bool)) = some (.inl ((gF name ys).1, ((i + 1 : Nat) : Int), d', ys, ())) ∧ tot ys ≤ 4194304 := by
                intro hk
                obtain ⟨r,d',ys,q,hd,hy,hp⟩:=does_t (d:=d) ht (hb2 rfl) hk
                obtain ⟨ok,hr⟩:=read_t (a:=name) (d:=d') hy
                refine ⟨d',ys,?_,hy⟩
                show ((law35_Does x d xs RS0).bind _)=_
                rw[hd]
                simp only[Option.bind_some]
                rw[hr]
                simp only[Option.bind_some]
                obtain ⟨t,ht2⟩:=hp
                have hlen:(gF name xs).1.length≤((gF name ys).1++(gF name ys).2.1).length:=by rw[← ht2]; simp
                rw[if_neg (by omega)]
                have e1:subI ((gF name ys).1++(gF name ys).2.1) 0 ((gF name xs).1.length:Int)=some (gF name xs).1:=by
                  have:=subI_nat (l:=(gF name ys).1++(gF name ys).2.1) (i:=0) (j:=(gF name xs).1.length) (Nat.zero_le _) hlen
                  rw[List.drop_zero,← ht2,List.take_left'] at this
                  · rw[← ht2]; exact this
                  · rfl
                rw[e1]
                simp only[Option.bind_some,if_true]
                rw[kept_t]
                simp only[Option.bind_some]
                have e2:subI ((gF name ys).1++(gF name ys).2.1) 0 ((gF name ys).1.length:Int)=some (gF name ys).1:=by
                  have:=subI_nat (l:=(gF name ys).1++(gF name ys).2.1) (i:=0) (j:=(gF name ys).1.length) (Nat.zero_le _) (by simp)
                  rw[List.drop_zero,List.take_left'] at this
                  · exact this
                  · rfl
                rw[e2]
                rfl
              have skip:∃ d' ys,(some (.inl ((gF name xs).1,((i+1:Nat):Int),d,xs,())):Option ((Bs×Int×DS×List En×Unit)⊕Bool))=some (.inl ((gF name ys).1,((i+1:Nat):Int),d',ys,()))∧tot ys≤4194304:=⟨d,xs,rfl,ht⟩
              unfold touches at go
              by_cases c4:x.1=4
              · by_cases cn:x.2.2.1=name
                · exact ⟨d,xs,by simp[c4,cn],ht⟩
                · by_cases ct:x.2.2.2.1=name
                  · exact ⟨d,xs,by simp[c4,cn,ct],ht⟩
                  · have:=go (by rintro ⟨_,h | h⟩; exact cn h; exact ct h)
                    simpa [c4,cn,ct] using this
              · by_cases c5:x.1=5
                · by_cases cn:x.2.2.1=name
                  · exact ⟨d,xs,by simp[c5,cn],ht⟩
                  · by_cases ct:x.2.2.2.1=name
                    · exact ⟨d,xs,by simp[c5,cn,ct],ht⟩
                    · have:=go (by rintro ⟨_,h | h⟩; exact cn h; exact ct h)
                      simpa [c5,cn,ct] using this
                · by_cases c6:x.1=6
                  · by_cases cn:x.2.2.1=name
                    · exact ⟨d,xs,by simp[c6,cn],ht⟩
                    · by_cases ct:x.2.2.2.1=name
                      · exact ⟨d,xs,by simp[c6,cn,ct],ht⟩
                      · have:=go (by rintro ⟨_,h | h⟩; exact cn h; exact ct h)
                        simpa [c6,cn,ct] using this
                  · have:=go (by rintro ⟨h | h | h,_⟩; exact c4 h; exact c5 h; exact c6 h)
                    simpa [c4,c5,c6] using this
          rcases hstep with h | ⟨d',ys,h,hy⟩
          · exact loopT_inr h
          · rw[loopT_inl h]; exact ih (i+1) d' ys (by omega) hy
        · refine loopT_inr ?_
          unfold law35_DirKeeps_l4
          simp only[cond_dec]
          rw[if_pos (by omega),if_neg (by omega),awake_t]; rfl
      · refine loopT_inr ?_
        unfold law35_DirKeeps_l4
        simp only[cond_dec]
        rw[if_neg (by omega),awake_t]; rfl
  have h1:dir_New=some (((),-1,false,()),[],()):=rfl
  unfold law35_DirKeeps
  rw[h1]
  simp only[Option.bind_some]
  exact key 40 0 ((),-1,false,()) [] (by omega) (by rw[tot_nil]; omega)
theorem dirKeeps_law:∀ v:law35_DirKeeps_T.ps.V,okV law35_DirKeeps_T.ps v→law35_DirKeeps_T.fn v=some true:=fun v _=>keeps_t v.1 v.2.1
end Go.Proofs.Ytljlahifmblbbaa.Q
