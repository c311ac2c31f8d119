import Derived.Test.YtljlahifmblbbaaW
import Derived.Test.YtljlahifmblbbaaT14
set_option linter.unusedVariables false
set_option linter.unusedSimpArgs false
set_option maxRecDepth 100000
namespace Go.Proofs.Ytljlahifmblbbaa.Q
open Go.EM Go.TY Go.Proofs Go.Proofs.Ytljlahifmblbbaa.Y
abbrev Bs:=List UInt8
abbrev Fl:=Bs×Bs×Unit
abbrev En:=Bs×Fl
def zF:Fl:=([],[],())
def gF (k:Bs) (xs:List En):Fl:=(getK .str (zF:Fl) k xs).1
def Keeps (k:Bs) (xs ys:List En):Prop:=(gF k xs).1 <+: (gF k ys).1++(gF k ys).2.1
theorem Keeps.same {k:Bs}{xs ys:List En} (h:gF k ys=gF k xs):Keeps k xs ys:=by unfold Keeps; rw[h]; exact List.prefix_append _ _
theorem Keeps.refl (k:Bs) (xs:List En):Keeps k xs xs:=.same rfl
theorem awake_t:law35_awake=some true:=by
  have h1:dir_New=some (((),-1,false,()),[],()):=rfl
  have h2:dir_Dir_Fuse 1 ((),-1,false,()) []=some ((),((),1,false,()),[],()):=by kernel_rfl
  have h3:dir_Dir_Append [97] [120,121] ((),1,false,()) []=some (0,((),0,false,()),[([97],[],[120,121],())],()):=by kernel_rfl
  have h4:dir_Dir_Append [97] [122] ((),0,false,()) [([97],[],[120,121],())]=some (15,((),0,true,()),[([97],[],[120,121],())],()):=by kernel_rfl
  have h5:dir_Dir_Restart 1 ((),0,true,()) [([97],[],[120,121],())]=some ((),((),-1,false,()),[([97],[120],[],())],()):=by kernel_rfl
  have h6:dir_Dir_Read [97] ((),-1,false,()) [([97],[120],[],())]=some (([120],true,()),((),-1,false,()),[([97],[120],[],())],()):=by kernel_rfl
  have h7:dir_Dir_Names ((),-1,false,()) [([97],[120],[],())]=some ([[97]],((),-1,false,()),[([97],[120],[],())],()):=by kernel_rfl
  have h8:ref03_Same [[97]] [[97]]=some true:=by
    have e:ref03_Same [[97]] [[97]]=loopT (ref03_Same_l4 [[97]] [[97]]) (0,()):=by kernel_rfl
    rw[e,loopT_inl (b:=(1,())) (by kernel_rfl)]
    exact loopT_inr (by kernel_rfl)
  unfold law35_awake
  rw[h1]; simp only[Option.bind_some]
  rw[h2]; simp only[Option.bind_some]
  rw[h3]; simp only[Option.bind_some]
  rw[h4]; simp only[Option.bind_some]
  rw[h5]; simp only[Option.bind_some]
  rw[h6]
  have h9:dir_Dir_Down ((),-1,false,()) [([97],[120],[],())]=some (false,((),-1,false,()),[([97],[120],[],())],()):=rfl
  simp only[Option.bind_some,cond_dec,if_true,cond_true,decide_true]
  rw[h9]
  simp only[Option.bind_some,Bool.not_false,cond_true]
  rw[h7]
  simp only[Option.bind_some]
  rw[h8]; rfl
end Go.Proofs.Ytljlahifmblbbaa.Q
