import Derived.Test.YtljlahifmblbbaaP
import Derived.Test.YtljlahifmblbbaaE19
import Derived.Test.YtljlahifmblbbaaT14
set_option linter.unusedVariables false
set_option linter.unusedSimpArgs false
set_option maxRecDepth 100000
namespace Go.Proofs.Ytljlahifmblbbaa.N
open Go.EM Go.TY Go.Proofs Go.Proofs.Ytljlahifmblbbaa.Y Go.Proofs.Ytljlahifmblbbaa.Q
def orS (F G:SFn):SFn:=fun xs st=>match F xs st with
  | some p=>some p
  | none=>G xs st
theorem orS_sound {P:Program}{G:List (Nat×AVal)}{f:Nat}{F F':SFn} (h1:SoundS P G f F) (h2:SoundS P G f F'):SoundS P G f (orS F F'):=by
  refine ⟨h1.1,fun xs st r st' hF => ?_⟩
  unfold orS at hF
  split at hF
  · rename_i p hp
    cases hF
    exact h1.2 xs st _ _ hp
  · exact h2.2 xs st r st' hF
noncomputable def restartN:SFn:=runF Try.prog D35.rE D35.Hh Try.f13
theorem restartN_ok:SoundS Try.prog G0 13 restartN:=runF_sound (P:=Try.prog) (E:=D35.rE) (h:=D35.Hh) (f:=13) (fn:=Try.f13) D35.rE_ok Try.func13 rfl (by kernel_rfl)
noncomputable def namesN:SFn:=runF Try.prog D35.rE D35.Hh Try.f15
theorem namesN_ok:SoundS Try.prog G0 15 namesN:=runF_sound (P:=Try.prog) (E:=D35.rE) (h:=D35.Hh) (f:=15) (fn:=Try.f15) D35.rE_ok Try.func15 rfl (by kernel_rfl)
def smallB (a b s:Bs):Bool:=decide ((a.length:Int)≤50)&&(decide ((b.length:Int)≤50)&&decide ((s.length:Int)≤500))
def smallF:PFn:=fun xs=>match xs with
  | [.agg [.int .i64 _,.int .i64 _,.str a,.str b,.str s]]=>some (.bool (smallB a b s))
  | _=>none
def awakeF:PFn:=fun xs=>match xs with
  | []=>some (.bool true)
  | _=>none
theorem smallF_ok:SoundP Try.prog G0 6 smallF:=soundP_sub law35_small_Fok (fun xs v hv=>by
  unfold smallF at hv
  split at hv
  · rename_i k n a b s
    cases hv
    have hl:law35_small_T.fn ((k,n,a,b,s,()),())=some (smallB a b s):=by
      show law35_small (k,n,a,b,s,())=_
      unfold law35_small smallB
      cases decide ((a.length:Int)≤50)<;>cases decide ((b.length:Int)≤50)<;>rfl
    obtain ⟨x,h1,h2⟩:=law35_small_ok.run _ _ [.agg [.int .i64 k,.int .i64 n,.str a,.str b,.str s]] hl ⟨[_],[],rfl,⟨_,rfl,[_],[_,_,_,_],rfl,rfl,[_],[_,_,_],rfl,rfl,[_],[_,_],rfl,rfl,[_],[_],rfl,rfl,[_],[],rfl,rfl,rfl⟩,rfl⟩
    have h2:[x]=[.bool (smallB a b s)]:=h2
    cases h2
    exact h1
  · cases hv)
theorem awakeF_ok:SoundP Try.prog G0 7 awakeF:=soundP_sub law35_awake_Fok (fun xs v hv=>by
  unfold awakeF at hv
  split at hv
  · cases hv
    obtain ⟨x,h1,h2⟩:=law35_awake_ok.run () true [] awake_t rfl
    have h2:[x]=[.bool true]:=h2
    cases h2
    exact h1
  · cases hv)
def nH:Hints:={ seqs:=[],loops:=[(6,[1,4,5])],own:=[] }
noncomputable def nE:Env:={ pure:=[(6,smallF),(7,awakeF)],raw:=[(10,dir_Dir_Read_S),(11,dir_Dir_Kept_S),(12,dir_Dir_Fuse_S),(13,orS restartN D35.restartS),(14,dir_Dir_Down_S),(15,orS namesN D35.namesS),(16,dir_Dir_Sync_S),(17,dir_Dir_Remove_S),(18,dir_Dir_Append_S),(19,dir_Dir_Rename_S),(20,dir_Dir_Cut_S)],glob:=G0 }
theorem nE_ok:EnvOk Try.prog nE:=⟨(fun f h=>by cases h),envP_cons smallF_ok (envP_cons awakeF_ok envP_nil),(envS_cons dir_Dir_Read_Sok (envS_cons dir_Dir_Kept_Sok (envS_cons dir_Dir_Fuse_Sok (envS_cons (orS_sound restartN_ok D35.restart_sound) (envS_cons dir_Dir_Down_Sok (envS_cons (orS_sound namesN_ok D35.names_sound) (envS_cons dir_Dir_Sync_Sok (envS_cons dir_Dir_Remove_Sok (envS_cons dir_Dir_Append_Sok (envS_cons dir_Dir_Rename_Sok (envS_cons dir_Dir_Cut_Sok envS_nil))))))))))),envP_nil,envX_nil⟩
noncomputable def nS:SFn:=runK 4 Try.prog nE nH Try.f4
theorem nS_ok:SoundS Try.prog G0 4 nS:=soundS_sub (runF_sound (P:=Try.prog) (E:=nE) (h:=nH) (f:=4) (fn:=Try.f4) nE_ok Try.func4 rfl (by kernel_rfl)) runK_sub
theorem nS_run (k n : Int) (a b s : Bs) : nS [.agg [.int .i64 k, .int .i64 n, .str a, .str b, .str s]] [] = cond (!(smallB a b s))
    (some (.bool true,[.row 26 5 [.agg [.int .i64 k,.int .i64 n,.str a,.str b,.str s]]]))
    (some (.bool true,[.row 26 5 [.agg [.int .i64 k,.int .i64 n,.str a,.str b,.str s]],.row 38 3 [.agg [.nilmap,.int .i64 0,.bool false]]])):=by kernel_rfl
def dirNoneF:PFn:=fun xs=>match xs with
  | [.agg [.int .i64 _,.int .i64 _,.str _,.str _,.str _]]=>some (.bool true)
  | _=>none
theorem dirNone_Fok:SoundP Try.prog G0 4 dirNoneF:=soundP_sub (closeF_sound nS_ok) (fun xs v hv=>by
  unfold dirNoneF at hv
  split at hv
  · rename_i k n a b s
    cases hv
    unfold closeF
    rw[nS_run]
    cases smallB a b s<;>rfl
  · cases hv)
def dirNone_T:TFn:={ ps:=(.cons (.agg (.cons (.int .i64) (.cons (.int .i64) (.cons .str (.cons .str (.cons .str .unit)))))) .unit),res:=.bool,fn:=fun _=>some true }
theorem dirNone_ok:TOk dirNoneF dirNone_T:=⟨rfl,rfl,rfl,fun v r l0 h hR=>by
  obtain ⟨⟨k,n,a,b,s,u⟩,u'⟩:=v
  cases h
  obtain ⟨l1,l2,rfl,⟨cs,e1,x1,y1,rfl,z1,x2,y2,rfl,z2,x3,y3,rfl,z3,x4,y4,rfl,z4,x5,y5,rfl,z5,z6⟩,e2⟩:=hR
  have z1:x1=[.int .i64 k]:=z1
  have z2:x2=[.int .i64 n]:=z2
  have z3:x3=[.str a]:=z3
  have z4:x4=[.str b]:=z4
  have z5:x5=[.str s]:=z5
  have z6:y5=[]:=z6
  have e2:l2=[]:=e2
  subst z1 z2 z3 z4 z5 z6 e2 e1
  exact ⟨_,rfl,rfl⟩⟩
theorem dirNone_law:∀ v:dirNone_T.ps.V,okV dirNone_T.ps v→dirNone_T.fn v=some true:=fun v _=>rfl
end Go.Proofs.Ytljlahifmblbbaa.N
