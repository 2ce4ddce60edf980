/-
  What functions and loops compute over data, by quick runs.
-/
import Derived.Test.YtfdedgmlafelaaaGreatDoorAmZ2
import Derived.Test.YtfdedgmlafelaaaGreatDoorAmT
set_option linter.unusedSimpArgs false
set_option linter.unusedVariables false
namespace Go.AM
noncomputable section
def kRun {R:Type} (x:Option (AV×Hp)) (k:AV->Hp->Option R) (y:Option R):Option R:=
 match x with
 |some p=>k p.1 p.2
 |none=>y
def Ri (e:Env) (tb:Tb) (K:Nat) (r:RQ):RQ where
 d:=fun f args H=>tR (tb.T f args H) ((fnC {gx e tb f with n0:=H.n} K f).a r args H fun v H=>some (v,H))
 k:=fun f args H k=>kRun (tb.T f args H) k ((fnC {gx e tb f with n0:=H.n} K f).a r args H k)
 law:=fun f args H k=>by
  cases tb.T f args H with
  |some p=>rfl
  |none=>exact Rh _ K f r args H k
def Rj (e:Env) (tb:Tb) (K:Nat):Nat->RQ
 |0=>RQ.of tb.T
 |n+1=>Ri e tb K (Rj e tb K n)
theorem A8 (e:Env) (tb:Tb) (K:Nat):∀n,(Rj e tb K n).d=fM e tb K n
 |0=>rfl
 |n+1=>by
  funext f args H
  simp only[Rj,Ri,fM, <- A8 e tb K n]
  congr 1
  rw[Rg _ _ _ _ _ _ _ rfl];unfold jS jl;cases h:(gx e tb f).fn f with
  |none=>rfl
  |some fn=>
   simp only[h,Option.bind_some]
   congr 1<;>(funext fr H;cases retA (gx e tb f).P fn.results fr H<;>rfl)
def aS (e:Env) (tb:Tb) (K n:Nat) (f:FuncId) (S:FunS) (ds:List D):Option (List D):=
 (fnC {gx e tb f with n0:=S.hs.length} K f).a (Rj e tb K n) (qM S (ds.take S.np) (ds.drop S.np)) (dF S (ds.take S.np) (ds.drop S.np)) (qN S (ds.take S.np))
theorem Rk (e:Env) (tb:Tb) (K n:Nat) (f:FuncId) (S:FunS):aS e tb K n f S=Lk e tb K n f S:=by
 funext ds
 unfold aS Lk;rw[Rg _ _ _ _ _ _ _ rfl,A8]
 rfl
theorem dG {e:Env} {tb:Tb} (hok:cP e) (h:TbOk e tb) (K n:Nat) {f:FuncId} {S:FunS}:aY e.P f S (aS e tb K n f S):=by
 rw[Rk];exact EQ hok h K n
def aR (e:Env) (tb:Tb) (K n:Nat) (f:FuncId) (c:Code) (S:LoopS) (p s:List D):Option (Sum (List D) (List D)):=
 (comp {gx e tb f with n0:=S.n0} K c).a (Rj e tb K n) (TF.of (kC (bdL p) (bdL s) S.fs S.hs 0)) (oY (bdL p) (bdL s) S.fs S.hs 0)
  (fun x H=>yK S.n0 S.n0 S.fs S.hs p (fun s=>some (.inl s)) x.fr H) (fun i x H=>uc S p 0 i x.fr H) (fun x H=>uc S p 1 0 x.fr H) (fun l x H=>uc S p 2 l x.fr H)
theorem NY (e:Env) (tb:Tb) (K n:Nat) (f:FuncId) (c:Code) (S:LoopS) (p s:List D):aR e tb K n f c S p s=yL e tb K n f c S p s:=by
 unfold aR yL;rw[nJ _ K c _ _ _ _ _ _ _ (yK S.n0 S.n0 S.fs S.hs p (fun s=>some (.inl s))) (uc S p 0) (uc S p 1 0) (uc S p 2) (fun _ _=>rfl) (fun _ _ _=>rfl) (fun _ _=>rfl) (fun _ _ _=>rfl),qm,A8]
end
end Go.AM
