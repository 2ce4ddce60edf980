/-
  Common: codes, loops; how the table grows.
-/
import Derived.Test.YtfdedgmlafelaaaGreatDoorTab
import Derived.Test.YtfdedgmlafelaaaGreatDoorAmZ3
set_option linter.unusedSimpArgs false
set_option linter.unusedVariables false
set_option maxRecDepth 100000
namespace Go.Proofs.YtfdedgmlafelaaaGreatDoor
open Go Go.AM
noncomputable def codeOf (f:Nat):Code:=match env.fn f with|some F=>F.code|none=> .skip
noncomputable def aW (f id:Nat):Code:=match(bq (codeOf f)).find? (fun c=>Nat.beq (ct c) id)with|some c=>c|none=> .skip
theorem Rl {f id:Nat} {F:FnA} (hF:env.fn f=some F) {x:Code} (hx:x∈bq F.code) (hid:ct x=id) (hu:((bq (codeOf f)).filter fun c=>Nat.beq (ct c) id).length=1):x=aW f id:=by
 have hc:codeOf f=F.code:=by unfold codeOf;rw[hF]
 rw[hc]at hu;unfold aW;rw[hc];have hx':x∈(bq F.code).filter fun c=>Nat.beq (ct c) id:=by
  rw[List.mem_filter];refine⟨hx,?_⟩;rw[hid];exact Nat.beq_refl id
 cases hf:(bq F.code).find? (fun c=>Nat.beq (ct c) id)with
 |none=>rw[List.find?_eq_none]at hf;exact absurd (by rw[hid];exact Nat.beq_refl id) (hf x hx)
 |some y=>
  have hy:y∈(bq F.code).filter fun c=>Nat.beq (ct c) id:=by
   rw[List.mem_filter];exact⟨List.mem_of_find?_eq_some hf,by have:=List.find?_some (p:=fun c=>Nat.beq (ct c) id) hf;exact this⟩
  match hl:(bq F.code).filter fun c=>Nat.beq (ct c) id with
  | []=>rw[hl]at hx';cases hx'
  | [z]=>rw[hl]at hx' hy;simp at hx' hy;rw[hx',hy]
  |_::_::_=>rw[hl]at hu;simp at hu
theorem aF {tb:Tb} (h:TbOk env tb) (f id:Nat) (hu:((bq (codeOf f)).filter fun c=>Nat.beq (ct c) id).length=1) (S:LoopS) {q:List D->uAC}
 (hq:q=fun p s=>loW (aR env tb 60 12 f (aW f id) S p) s):TbOk env (tb.addL f id S.n0 (bu S q)):=by
 refine h.addL fun F x hF' hx hid=> ?_
 obtain rfl:=Rl hF' hx hid hu
 exact EP iP h 60 12 hF' hx S fun p s r hr=>by
  rw[hq]at hr;have he:aR env tb 60 12 f (aW f id) S p=yL env tb 60 12 f (aW f id) S p:=by funext s;exact NY env tb 60 12 f (aW f id) S p s
  rw[<- he];exact hr
theorem aG {tb:Tb} (h:TbOk env tb) (f:Nat) (hF:(env.fn f).isSome=true) (S:FunS) {q:uAC} (hq:q=aS env tb 60 12 f S):TbOk env (tb.addF f S q):=
 h.addF hF (by rw[hq];exact dG iP h 60 12)
theorem addFunK {tb:Tb} (K:Nat) (h:TbOk env tb) (f:Nat) (hF:(env.fn f).isSome=true) (S:FunS) {q:uAC} (hq:q=aS env tb K 12 f S):TbOk env (tb.addF f S q):=
 h.addF hF (by rw[hq];exact dG iP h K 12)
theorem nK {f:Nat} {S:FunS} (T:(uAC)->Tb) (hT:∀q,aY env.P f S q->TbOk env (T q)) {q:uAC}
 (hq:q=fun ds=>levels (fun q=>aS env (T q) 60 12 f S) (bE ds) ds):aY env.P f S q:=by
 rw[hq];exact xH (nE fun q h=>dG iP (hT q h) 60 12)
theorem az (xs:List D):ae .eql (xs.length:Int) (ai (.list xs))=true:=by rw[qeqI_iff,dw];rfl
theorem aM:ae .eql 0 (ai (.list []))=true∧(∀a,ae .eql 1 (ai (.list [a]))=true)∧(∀a b,ae .eql 2 (ai (.list [a,b]))=true)∧(∀a b c,ae .eql 3 (ai (.list [a,b,c]))=true)∧(∀a b c d,ae .eql 4 (ai (.list [a,b,c,d]))=true):=
 ⟨az [],fun a=>az [a],fun a b=>az [a,b],fun a b c=>az [a,b,c],fun a b c d=>az [a,b,c,d]⟩
def gd {α:Type} (c:Bool) (x:Option α):Option α:=bif c then x else none
noncomputable def ge {α:Type} (d:D) (x:Option α):Option α:=bif jY d d then x else none
theorem aN {α:Type} (d:D) (x:Option α):ge d x=x:=by unfold ge;rw[aq];rfl
theorem ok_nil:TbOk env Tb.nil:=TbOk.nil
end Go.Proofs.YtfdedgmlafelaaaGreatDoor
