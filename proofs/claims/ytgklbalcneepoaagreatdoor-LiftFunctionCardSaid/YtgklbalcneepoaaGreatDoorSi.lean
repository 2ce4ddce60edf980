/-
  A function by cases on one of its numbers: for each of its first values a run of its own.
-/
import Derived.Test.YtgklbalcneepoaaGreatDoorSp
namespace Go.Proofs.YtgklbalcneepoaaGreatDoor
set_option linter.unusedVariables false
set_option linter.unusedSimpArgs false
open Go Go.AM
set_option maxRecDepth 100000
noncomputable def runI (tb:Tb) (f:FuncId) (S:FunS) (j:Nat) (k:Int) (p s:List D):Option (List D):=
 (fnC {envF env tb f with n0:=S.hs.length} 60 f).a (runX env tb 60 12) ((argF S p s).set j (.sc (.int .i64 k))) (heapF S p s) (retF S p)
noncomputable def splitI (tb:Tb) (f:FuncId) (S:FunS) (j i m:Nat) (ds:List D):Option (List D):=
 if 0≤((ds.drop S.np).getD i .other).toInt∧((ds.drop S.np).getD i .other).toInt<m then runI tb f S j ((ds.drop S.np).getD i .other).toInt (ds.take S.np) (ds.drop S.np)else none
theorem splitI_sound {tb:Tb} (h:TbOk env tb) {f:FuncId} {S:FunS} {j i m:Nat} (hc:∀p s,(argF S p s)[j]? = some (.ui .i64 (s.getD i .other).toInt)):SoundF env.P f S (splitI tb f S j i m):=by
 intro p s r hp hq
 unfold splitI at hq
 rw[← hp,List.take_left,List.drop_left]at hq
 split at hq
 ·unfold runI at hq
  have hq':bodyK (envF env tb f) (runTb env tb 60 12) 60 f ((argF S p s).set j (.sc (.int .i64 (s.getD i .other).toInt))) (heapF S p s) (retF S p)=some r:=by
   rw[← hq,fnC_eq _ _ _ _ _ _ _ rfl,runX_eq];rfl
  refine ok_args (lift_ok envOk h 60 12 hq' rfl) ?_
  intro ρ E w l hr
  exact repL_set (hc p s) (fun v hv=>by simp only[Rep]at hv ⊢;exact hv) hr
 ·cases hq
theorem splitI_at {tb:Tb} {f:FuncId} {S:FunS} {j i m:Nat} {ds:List D} (k:Nat) (hk:((ds.drop S.np).getD i .other).toInt=k) (hm:k<m):splitI tb f S j i m ds=runI tb f S j k (ds.take S.np) (ds.drop S.np):=by
 unfold splitI
 rw[hk]
 exact if_pos ⟨by omega,by omega⟩
end Go.Proofs.YtgklbalcneepoaaGreatDoor
