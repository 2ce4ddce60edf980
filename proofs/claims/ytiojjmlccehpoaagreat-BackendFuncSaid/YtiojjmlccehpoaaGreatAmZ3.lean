/-
  What functions and loops compute over data, by quick runs.
-/
import Derived.Test.YtiojjmlccehpoaaGreatAmZ2
import Derived.Test.YtiojjmlccehpoaaGreatAmT
set_option linter.unusedSimpArgs false
set_option linter.unusedVariables false
namespace Go.AM
noncomputable section
def kRun {R:Type} (x:Option (AV×Hp)) (k:AV->Hp->Option R) (y:Option R):Option R:=
 match x with
 |some p=>k p.1 p.2
 |none=>y
def WU (e:Env) (tb:Tb) (K:Nat) (r:RQ):RQ where
 d:=fun f args H=>tx (tb.T f args H) ((fnC {gT e tb f with n0:=H.n} K f).a r args H fun v H=>some (v,H))
 k:=fun f args H k=>kRun (tb.T f args H) k ((fnC {gT e tb f with n0:=H.n} K f).a r args H k)
 law:=fun f args H k=>by
  cases tb.T f args H with
  |some p=>rfl
  |none=>exact WT _ K f r args H k
def Tc (e:Env) (tb:Tb) (K:Nat):Nat->RQ
 |0=>RQ.of tb.T
 |n+1=>WU e tb K (Tc e tb K n)
theorem vc (e:Env) (tb:Tb) (K:Nat):∀n,(Tc e tb K n).d=f6 e tb K n
 |0=>rfl
 |n+1=>by
  funext f args H
  simp only[Tc,WU,f6, <- vc e tb K n]
  congr 1
  rw[MD _ _ _ _ _ _ _ rfl];unfold jn lf;cases h:(gT e tb f).fn f with
  |none=>rfl
  |some fn=>
   simp only[h,bo]
   congr 1<;>(funext fr H;cases retA (gT e tb f).P fn.results fr H<;>rfl)
def aN (e:Env) (tb:Tb) (K n:Nat) (f:FuncId) (S:FunS) (ds:List D):Option (List D):=
 (fnC {gT e tb f with n0:=S.hs.length} K f).a (Tc e tb K n) (uE S (ds.take S.np) (ds.drop S.np)) (eD S (ds.take S.np) (ds.drop S.np)) (oz S (ds.take S.np))
theorem WV (e:Env) (tb:Tb) (K n:Nat) (f:FuncId) (S:FunS):aN e tb K n f S=PP e tb K n f S:=by
 funext ds
 unfold aN PP;rw[MD _ _ _ _ _ _ _ rfl,vc]
 rfl
theorem eE {e:Env} {tb:Tb} (hok:eh e) (h:TbOk e tb) (K n:Nat) {f:FuncId} {S:FunS}:aH e.P f S (aN e tb K n f S):=by
 rw[WV];exact Ia hok h K n
def aO (e:Env) (tb:Tb) (K n:Nat) (f:FuncId) (c:Code) (S:LoopS) (p s:List D):Option (Sum (List D) (List D)):=
 (comp {gT e tb f with n0:=S.n0} K c).a (Tc e tb K n) (TF.of (mK (bdL p) (bdL s) S.fs S.hs 0)) (rF (bdL p) (bdL s) S.fs S.hs 0)
  (fun x H=>CA S.n0 S.n0 S.fs S.hs p (fun s=>some (.inl s)) x.fr H) (fun i x H=>xS S p 0 i x.fr H) (fun x H=>xS S p 1 0 x.fr H) (fun l x H=>xS S p 2 l x.fr H)
theorem Td (e:Env) (tb:Tb) (K n:Nat) (f:FuncId) (c:Code) (S:LoopS) (p s:List D):aO e tb K n f c S p s=CB e tb K n f c S p s:=by
 unfold aO CB;rw[pN _ K c _ _ _ _ _ _ _ (CA S.n0 S.n0 S.fs S.hs p (fun s=>some (.inl s))) (xS S p 0) (xS S p 1 0) (xS S p 2) (fun _ _=>rfl) (fun _ _ _=>rfl) (fun _ _=>rfl) (fun _ _ _=>rfl),tG,vc]
end
end Go.AM
