import Derived.Test.YtljlahifmblbbaaT14
import Derived.Test.YtljlahifmblbbaaE34
set_option linter.unusedVariables false
namespace Go.TY
open Go.EM
end Go.TY
set_option linter.unusedVariables false
namespace Go.TY
open Go.EM
end Go.TY
set_option linter.unusedVariables false
namespace Go.TY
open Go.EM
end Go.TY
set_option linter.unusedVariables false
namespace Go.TY
open Go.EM
end Go.TY
set_option linter.unusedVariables false
namespace Go.TY
open Go.EM
section
variable {A R X S:Type}
def all2 {Y:Type} (q:X→Y→Bool):List X→List Y→Bool
  | [],[]=>true
  | x::l,y::m=>q x y&&all2 q l m
  | _,_=>false
end
end Go.TY
set_option linter.unusedVariables false
set_option linter.unusedSectionVars false
namespace Go.TY
structure Cmp {K:Type} (c:K→K→Int):Prop where
  one:∀ a b,-1≤c a b∧c a b≤1
  neg:∀ a b,c b a = - c a b
  zero:∀ a b,c a b=0↔a=b
  trans:∀ a b d,c a b<0→c b d<0→c a d<0
def cmpL {K:Type} (c:K→K→Int):List K→List K→Int
  | [],[]=>0
  | [],_::_ => -1
  | _::_,[]=>1
  | x::a,y::b=>if c x y=0 then cmpL c a b else c x y
section
variable {K:Type}{c:K→K→Int}
theorem Cmp.list (h:Cmp c):Cmp (cmpL c) where
  one:=by
    intro a
    induction a with
    | nil=>intro b; cases b<;>simp[cmpL]
    | cons x a ih =>
      intro b
      cases b with
      | nil=>simp[cmpL]
      | cons y b =>
        simp only[cmpL]
        split
        · exact ih b
        · exact h.one x y
  neg:=by
    intro a
    induction a with
    | nil=>intro b; cases b<;>simp[cmpL]
    | cons x a ih =>
      intro b
      cases b with
      | nil=>simp[cmpL]
      | cons y b =>
        simp only[cmpL]
        have:=h.neg x y
        by_cases h0:c x y=0
        · rw[if_pos h0,if_pos (by omega)]; exact ih b
        · rw[if_neg h0,if_neg (by omega)]; exact this
  zero:=by
    intro a
    induction a with
    | nil=>intro b; cases b<;>simp[cmpL]
    | cons x a ih =>
      intro b
      cases b with
      | nil=>simp[cmpL]
      | cons y b =>
        simp only[cmpL]
        by_cases h0:c x y=0
        · rw[if_pos h0,ih b,(h.zero x y).1 h0]; simp
        · rw[if_neg h0]
          constructor
          · intro k; exact absurd k h0
          · intro k; cases k; exact absurd ((h.zero x x).2 rfl) h0
  trans:=by
    intro a
    induction a with
    | nil =>
      intro b d h1 h2
      cases b with
      | nil=>simp[cmpL] at h1
      | cons y b =>
        cases d with
        | nil=>simp[cmpL] at h2
        | cons z d=>simp[cmpL]
    | cons x a ih =>
      intro b d h1 h2
      cases b with
      | nil=>simp[cmpL] at h1
      | cons y b =>
        cases d with
        | nil=>simp[cmpL] at h2
        | cons z d =>
          simp only[cmpL] at h1 h2 ⊢
          by_cases h0:c x y=0
          · rw[if_pos h0] at h1
            have e:=(h.zero x y).1 h0
            subst e
            by_cases h3:c x z=0
            · rw[if_pos h3] at h2 ⊢; exact ih b d h1 h2
            · rw[if_neg h3] at h2 ⊢; exact h2
          · rw[if_neg h0] at h1
            by_cases h3:c y z=0
            · have e:=(h.zero y z).1 h3
              subst e
              rw[if_neg h0]; exact h1
            · rw[if_neg h3] at h2
              have:=h.trans x y z h1 h2
              rw[if_neg (by omega)]; exact this
def cmpB {L:Type} (c:K→K→Int) (d:L→L→Int) (a b:K×L):Int:=if c a.1 b.1=0 then d a.2 b.2 else c a.1 b.1
theorem Cmp.pair {L:Type}{d:L→L→Int} (h:Cmp c) (k:Cmp d):Cmp (cmpB c d) where
  one a b:=by
    unfold cmpB
    split
    · exact k.one _ _
    · exact h.one _ _
  neg a b:=by
    unfold cmpB
    have:=h.neg a.1 b.1
    by_cases h0:c a.1 b.1=0
    · rw[if_pos h0,if_pos (by omega)]; exact k.neg _ _
    · rw[if_neg h0,if_neg (by omega)]; exact this
  zero a b:=by
    unfold cmpB
    obtain ⟨a1,a2⟩:=a
    obtain ⟨b1,b2⟩:=b
    simp only
    by_cases h0:c a1 b1=0
    · rw[if_pos h0,k.zero,(h.zero _ _).1 h0]; simp
    · rw[if_neg h0]
      constructor
      · intro e; exact absurd e h0
      · intro e; cases e; exact absurd ((h.zero _ _).2 rfl) h0
  trans a b e h1 h2:=by
    unfold cmpB at h1 h2 ⊢
    obtain ⟨a1,a2⟩:=a
    obtain ⟨b1,b2⟩:=b
    obtain ⟨e1,e2⟩:=e
    simp only at h1 h2 ⊢
    by_cases h0:c a1 b1=0
    · rw[if_pos h0] at h1
      have q:=(h.zero _ _).1 h0
      subst q
      by_cases h3:c a1 e1=0
      · rw[if_pos h3] at h2 ⊢; exact k.trans _ _ _ h1 h2
      · rw[if_neg h3] at h2 ⊢; exact h2
    · rw[if_neg h0] at h1
      by_cases h3:c b1 e1=0
      · have q:=(h.zero _ _).1 h3
        subst q
        rw[if_neg h0]; exact h1
      · rw[if_neg h3] at h2
        have:=h.trans _ _ _ h1 h2
        rw[if_neg (by omega)]; exact this
end
section
variable {X K C:Type} (c:K→K→Int) (key:X→K) (same:X→X→Bool) (G M:X→C) (T:X→X→C) (leaf:C→K)
def ins (v:C):List C→List C
  | []=>[v]
  | e::l=>if c (leaf v) (leaf e)<0 then v::e::l else e::ins v l
def insB (a:List X) (o:List C) (y:X):List C:=if (a.find? (fun x=>decide (c (key x) (key y)=0))).isNone then ins c leaf (M y) o else o
variable {c key same G M T leaf}
variable (hc:Cmp c) (hG:∀ x,leaf (G x)=key x) (hM:∀ x,leaf (M x)=key x) (hT:∀ x y,leaf (T x y)=key x)
include hc hG hT
include hM
end
end Go.TY
set_option linter.unusedVariables false
set_option linter.unusedSimpArgs false
namespace Go.TY
open Go.EM
end Go.TY
set_option linter.unusedVariables false
set_option linter.unusedSectionVars false
namespace Go.TY
section
variable {X K:Type} (c:K→K→Int) (key:X→K)
def lo (k:K) (l:List X):List X:=l.takeWhile fun x=>decide (c (key x) k<0)
def hi (k:K) (l:List X):List X:=l.dropWhile fun x=>decide (c (key x) k<0)
variable {c key}
variable [DecidableEq X] (c key)
variable {c key}
end
end Go.TY
set_option linter.unusedVariables false
set_option linter.unusedSimpArgs false
namespace Go.TY
open Go.EM Go.Proofs Go.Sort
end Go.TY
set_option linter.unusedVariables false
set_option linter.unusedSimpArgs false
namespace Go.TY
open Go.EM Go.Proofs Go.Sort
section
variable {A K:Type}{c:K→K→Int}{key:A→K}
end
end Go.TY
set_option linter.unusedVariables false
set_option linter.unusedSimpArgs false
namespace Go.TY
open Go.EM
section
variable (P:Program) (E:Env) (h:Hints) (ET:TEnv) (H:TH)
end
section
variable {P:Program}{E:Env}{ET:TEnv}{h:Hints}{H:TH}
end
end Go.TY
set_option linter.unusedVariables false
set_option linter.unusedSimpArgs false
namespace Go.TY
open Go.EM Go.Proofs Go.Sort
end Go.TY
set_option linter.unusedVariables false
set_option linter.unusedSimpArgs false
set_option linter.unusedSectionVars false
namespace Go.TY
open Go.EM
section
variable {A:Type} [DecidableEq A]
variable {K:Type}{c:K→K→Int}{key:A→K}
end
section
variable {A:Type}{c:A→A→Int}
end
section
variable {A B:Type}
end
end Go.TY
set_option linter.unusedVariables false
set_option linter.unusedSimpArgs false
namespace Go.TY
open Go.EM
end Go.TY
set_option linter.unusedVariables false
set_option linter.unusedSimpArgs false
namespace Go.TY
open Go.EM
end Go.TY
set_option linter.unusedVariables false
set_option linter.unusedSimpArgs false
namespace Go.TY
open Go.EM
section
variable (P:Program) (E:Env) (h:Hints) (ET:TEnv) (H:TH)
end
section
variable {P:Program}{E:Env}{ET:TEnv}{h:Hints}{H:TH}
end
end Go.TY
set_option linter.unusedVariables false
namespace Go.TY
open Go.EM
section
variable {P:Program}{E:Env}{ET:TEnv}{h:Hints}{H:TH}{Φ:Frame}{Γ:Ctx}{σ:TS}{m:Mem}{σA:Slots}{st:Store}{N:Nat}
theorem DT_runs [Drawn] (hE : EnvOk P E) (hT : EnvT E ET) {c : Code} (hd : dstsIn N c = true) {X : Type} {K : AExit → TS → Mem → Option X} {x : X} (hs : SlotR Γ σ σA) (hm : MemR Φ Γ m st) (hx : DT P E h ET H c X σ m K = some x) :
    ∃ e σ' m' σA' st' Γ',K e σ' m'=some x∧SlotR Γ' σ' σA'∧MemR Φ Γ' m' st'∧(∀ k,stays h c k=true→getS σA' k=getS σA k)∧Runs P E N c σA st e σA' st':=by
  obtain ⟨e,σ1,m1,σA1,st1,Γ1,g1,g2,g3,g4,g5,g6⟩:=DT_ok hT c hs hm hx
  have hD:=g6 (AExit×Slots×Store) (fun e σ st=>some (e,σ,st))
  obtain ⟨e',σ',st',hk,hr⟩:=D_sound (N:=N) hE c _ _ _ _ _ hd hD
  cases hk
  exact ⟨e,σ1,m1,σA1,st1,Γ1,g1,g2,g3,g5,hr⟩
theorem frag_eval (hT : EnvT E ET) {ops pre : List Oper} {rest : Code} {X : Type} {K : AExit → TS → Mem → Option X} {x : X} (hs : SlotR Γ σ σA) (hm : MemR Φ Γ m st)
    (hx:opsT P E h ET H ops pre σ m (fun σ m=>DT P E h ET H rest X σ m K)=some x) :
    ∃ e σ' m' σA' st' Γ',K e σ' m'=some x∧SlotR Γ' σ' σA'∧MemR Φ Γ' m' st'∧(∀ k,notDst pre k=true→stays h rest k=true→getS σA' k=getS σA k) ∧
      ∀ (R:Type) (KA:AExit→Slots→Store→Option R),evalOps P E h ops pre σA st (fun σ st=>D P E h rest R σ st KA)=KA e σA' st':=by
  obtain ⟨σ1,m1,σA1,st1,Γ1,g1,g2,g3,g4,g5,g6⟩:=opsT_ok hT hs hm hx
  obtain ⟨e,σ2,m2,σA2,st2,Γ2,k1,k2,k3,k4,k5,k6⟩:=DT_ok hT rest g2 g3 g1
  exact ⟨e,σ2,m2,σA2,st2,Γ2,k1,k2,k3,fun k h1 h2=>by rw[k5 k h2,g5 k h1],fun R KA=>by rw[g6]; exact k6 R KA⟩
end
def cL:Code→Code
  | .seq a _=>a
  | c=>c
def cR:Code→Code
  | .seq _ b=>b
  | c=>c
def cB:Code→Code
  | .block _ b=>b
  | .loop b=>b
  | c=>c
def cOps:Code→List Oper
  | .region _ ops _=>ops.toList
  | _=>[]
def noOp:Oper:={ dst:=none,op:=.move (.tmp 0),type:=0,pos := "",after := #[],guard:=none }
def opN:List Oper→Nat→Oper
  | [],_=>noOp
  | o::_,0=>o
  | _::l,n+1=>opN l n
end Go.TY
