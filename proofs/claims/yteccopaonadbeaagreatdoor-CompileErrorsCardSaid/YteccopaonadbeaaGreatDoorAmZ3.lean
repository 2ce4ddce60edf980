/-
  What functions and loops compute over data, by quick runs.
-/
import Derived.Test.YteccopaonadbeaaGreatDoorAmZ2
import Derived.Test.YteccopaonadbeaaGreatDoorAmT
set_option linter.unusedVariables false
set_option linter.unusedSimpArgs false
namespace Go.AM
noncomputable section
def kRun {R:Type} (x:Option (AV×Hp)) (k:AV→Hp→Option R) (y:Option R):Option R:=
 match x with
 |some p=>k p.1 p.2
 |none=>y
def stepRQ (e:Env) (tb:Tb) (K:Nat) (r:RQ):RQ where
 d:=fun f args H=>orRun (tb.T f args H) ((fnC {envF e tb f with n0:=H.n} K f).a r args H fun v H=>some (v,H))
 k:=fun f args H k=>kRun (tb.T f args H) k ((fnC {envF e tb f with n0:=H.n} K f).a r args H k)
 law:=fun f args H k=>by
  cases tb.T f args H with
  |some p=>rfl
  |none=>exact fnC_bind _ K f r args H k
def runX (e:Env) (tb:Tb) (K:Nat):Nat→RQ
 |0=>RQ.of tb.T
 |n+1=>stepRQ e tb K (runX e tb K n)
theorem runX_eq (e:Env) (tb:Tb) (K:Nat):∀n,(runX e tb K n).d=runTb e tb K n
 |0=>rfl
 |n+1=>by
  funext f args H
  simp only[runX,stepRQ,runTb, ← runX_eq e tb K n]
  congr 1
  rw[fnC_eq _ _ _ _ _ _ _ rfl]
  unfold bodyK bodyRun
  cases h:(envF e tb f).fn f with
  |none=>rfl
  |some fn=>
   simp only[h,Option.bind_some]
   congr 1<;>(funext fr H;cases retA (envF e tb f).P fn.results fr H<;>rfl)
def liftX (e:Env) (tb:Tb) (K n:Nat) (f:FuncId) (S:FunS) (ds:List D):Option (List D):=
 (fnC {envF e tb f with n0:=S.hs.length} K f).a (runX e tb K n) (argF S (ds.take S.np) (ds.drop S.np)) (heapF S (ds.take S.np) (ds.drop S.np)) (retF S (ds.take S.np))
theorem liftX_eq (e:Env) (tb:Tb) (K n:Nat) (f:FuncId) (S:FunS):liftX e tb K n f S=liftF e tb K n f S:=by
 funext ds
 unfold liftX liftF
 rw[fnC_eq _ _ _ _ _ _ _ rfl,runX_eq]
 rfl
theorem liftX_sound {e:Env} {tb:Tb} (hok:EnvOk e) (h:TbOk e tb) (K n:Nat) {f:FuncId} {S:FunS}:SoundF e.P f S (liftX e tb K n f S):=by
 rw[liftX_eq];exact liftF_sound hok h K n
def stepQX (e:Env) (tb:Tb) (K n:Nat) (f:FuncId) (c:Code) (S:LoopS) (p s:List D):Option (Sum (List D) (List D)):=
 (comp {envF e tb f with n0:=S.n0} K c).a (runX e tb K n) (TF.of (mkFr (bdL p) (bdL s) S.fs S.hs 0)) (mkHp (bdL p) (bdL s) S.fs S.hs 0)
  (fun x H=>readS S.n0 S.n0 S.fs S.hs p (fun s=>some (.inl s)) x.fr H) (fun i x H=>outK S p 0 i x.fr H) (fun x H=>outK S p 1 0 x.fr H) (fun l x H=>outK S p 2 l x.fr H)
theorem stepQX_eq (e:Env) (tb:Tb) (K n:Nat) (f:FuncId) (c:Code) (S:LoopS) (p s:List D):stepQX e tb K n f c S p s=stepQ e tb K n f c S p s:=by
 unfold stepQX stepQ
 rw[comp_eq _ K c _ _ _ _ _ _ _ (readS S.n0 S.n0 S.fs S.hs p (fun s=>some (.inl s))) (outK S p 0) (outK S p 1 0) (outK S p 2) (fun _ _=>rfl) (fun _ _ _=>rfl) (fun _ _=>rfl) (fun _ _ _=>rfl),fr_of,runX_eq]
end
end Go.AM
