/-
  What functions and loops compute over data, by quick runs.
-/
import Derived.Test.YtiojjmlccehpoaaGreatAmZ2
import Derived.Test.YtiojjmlccehpoaaGreatAmT
set_option linter.unusedSimpArgs false
set_option linter.unusedVariables false
namespace Go.AM
noncomputable section
def kRun {R:Type} (x:Option (AV×Hp)) (k:AV->Hp->Option R) (y:Option R):Option R:=
 match x with
 |some p=>k p.1 p.2
 |none=>y
def UH (e:Env) (tb:Tb) (K:Nat) (r:RQ):RQ where
 d:=fun f args H=>sL (tb.T f args H) ((fnC {it e tb f with n0:=H.n} K f).a r args H fun v H=>some (v,H))
 k:=fun f args H k=>kRun (tb.T f args H) k ((fnC {it e tb f with n0:=H.n} K f).a r args H k)
 law:=fun f args H k=>by
  cases tb.T f args H with
  |some p=>rfl
  |none=>exact UG _ K f r args H k
def UI (e:Env) (tb:Tb) (K:Nat):Nat->RQ
 |0=>RQ.of tb.T
 |n+1=>UH e tb K (UI e tb K n)
theorem DN (e:Env) (tb:Tb) (K:Nat):∀n,(UI e tb K n).d=gy e tb K n
 |0=>rfl
 |n+1=>by
  funext f args H
  simp only[UI,UH,gy, <- DN e tb K n]
  congr 1
  rw[UF _ _ _ _ _ _ _ rfl];unfold jZ kJ;cases h:(it e tb f).fn f with
  |none=>rfl
  |some fn=>
   simp only[h,bc]
   congr 1<;>(funext fr H;cases retA (it e tb f).P fn.results fr H<;>rfl)
def aO (e:Env) (tb:Tb) (K n:Nat) (f:FuncId) (S:FunS) (ds:List D):Option (List D):=
 (fnC {it e tb f with n0:=S.hs.length} K f).a (UI e tb K n) (DD S (ds.take S.np) (ds.drop S.np)) (eV S (ds.take S.np) (ds.drop S.np)) (qV S (ds.take S.np))
theorem UJ (e:Env) (tb:Tb) (K n:Nat) (f:FuncId) (S:FunS):aO e tb K n f S=N6 e tb K n f S:=by
 funext ds
 unfold aO N6;rw[UF _ _ _ _ _ _ _ rfl,DN]
 rfl
theorem ey {e:Env} {tb:Tb} (hok:ed e) (h:TbOk e tb) (K n:Nat) {f:FuncId} {S:FunS}:aH e.P f S (aO e tb K n f S):=by
 rw[UJ];exact GX hok h K n
def aP (e:Env) (tb:Tb) (K n:Nat) (f:FuncId) (c:Code) (S:LoopS) (p s:List D):Option (Sum (List D) (List D)):=
 (comp {it e tb f with n0:=S.n0} K c).a (UI e tb K n) (TF.of (mo (bdL p) (bdL s) S.fs S.hs 0)) (qU (bdL p) (bdL s) S.fs S.hs 0)
  (fun x H=>BL S.n0 S.n0 S.fs S.hs p (fun s=>some (.inl s)) x.fr H) (fun i x H=>w6 S p 0 i x.fr H) (fun x H=>w6 S p 1 0 x.fr H) (fun l x H=>w6 S p 2 l x.fr H)
theorem Q4 (e:Env) (tb:Tb) (K n:Nat) (f:FuncId) (c:Code) (S:LoopS) (p s:List D):aP e tb K n f c S p s=BM e tb K n f c S p s:=by
 unfold aP BM;rw[pq _ K c _ _ _ _ _ _ _ (BL S.n0 S.n0 S.fs S.hs p (fun s=>some (.inl s))) (w6 S p 0) (w6 S p 1 0) (w6 S p 2) (fun _ _=>rfl) (fun _ _ _=>rfl) (fun _ _=>rfl) (fun _ _ _=>rfl),sS,DN]
end
end Go.AM
