/-
  Common: codes, loops; how the table grows.
-/
import Derived.Test.YtiojjmlccehpoaaGreatTab
import Derived.Test.YtiojjmlccehpoaaGreatAmZ3
set_option linter.unusedSimpArgs false
set_option linter.unusedVariables false
set_option maxRecDepth 100000
namespace Go.Proofs.YtiojjmlccehpoaaGreat
open Go Go.AM
noncomputable def codeOf (f:Nat):Code:=match env.fn f with|some F=>F.code|none=> .skip
noncomputable def bc (f id:Nat):Code:=match(bH (codeOf f)).find? (fun c=>Nat.beq (c7 c) id)with|some c=>c|none=> .skip
theorem WW {f id:Nat} {F:FnA} (hF:env.fn f=some F) {x:Code} (hx:x∈bH F.code) (hid:c7 x=id) (hu:((bH (codeOf f)).filter fun c=>Nat.beq (c7 c) id).length=1):x=bc f id:=by
 have hc:codeOf f=F.code:=by unfold codeOf;rw[hF]
 rw[hc]at hu;unfold bc;rw[hc];have hx':x∈(bH F.code).filter fun c=>Nat.beq (c7 c) id:=by
  rw[List.mem_filter];refine⟨hx,?_⟩;rw[hid];exact Nat.beq_refl id
 cases hf:(bH F.code).find? (fun c=>Nat.beq (c7 c) id)with
 |none=>rw[List.find?_eq_none]at hf;exact absurd (by rw[hid];exact Nat.beq_refl id) (hf x hx)
 |some y=>
  have hy:y∈(bH F.code).filter fun c=>Nat.beq (c7 c) id:=by
   rw[List.mem_filter];exact⟨List.mem_of_find?_eq_some hf,by have:=List.find?_some (p:=fun c=>Nat.beq (c7 c) id) hf;exact this⟩
  match hl:(bH F.code).filter fun c=>Nat.beq (c7 c) id with
  | []=>rw[hl]at hx';cases hx'
  | [z]=>rw[hl]at hx' hy;simp at hx' hy;rw[hx',hy]
  |_::_::_=>rw[hl]at hu;simp at hu
theorem aG {tb:Tb} (h:TbOk env tb) (f id:Nat) (hu:((bH (codeOf f)).filter fun c=>Nat.beq (c7 c) id).length=1) (S:LoopS) {q:List D->uAC}
 (hq:q=fun p s=>loW (aO env tb 60 12 f (bc f id) S p) s):TbOk env (tb.addL f id S.n0 (bL S q)):=by
 refine h.addL fun F x hF' hx hid=> ?_
 obtain rfl:=WW hF' hx hid hu
 exact H8 jt h 60 12 hF' hx S fun p s r hr=>by
  rw[hq]at hr;have he:aO env tb 60 12 f (bc f id) S p=CB env tb 60 12 f (bc f id) S p:=by funext s;exact Td env tb 60 12 f (bc f id) S p s
  rw[<- he];exact hr
theorem aI {tb:Tb} (h:TbOk env tb) (f:Nat) (hF:(env.fn f).isSome=true) (S:FunS) {q:uAC} (hq:q=aN env tb 60 12 f S):TbOk env (tb.addF f S q):=
 h.addF hF (by rw[hq];exact eE jt h 60 12)
theorem gj {f:Nat} {S:FunS} (T:(uAC)->Tb) (hT:∀q,aH env.P f S q->TbOk env (T q)) {q:uAC}
 (hq:q=fun ds=>levels (fun q=>aN env (T q) 60 12 f S) (aW ds) ds):aH env.P f S q:=by
 rw[hq];exact BL (pI fun q h=>eE jt (hT q h) 60 12)
theorem ar (xs:List D):ae .eql (xs.length:Int) (ac (.list xs))=true:=by rw[qeqI_iff,eN];rfl
theorem aD:ae .eql 0 (ac (.list []))=true∧(∀a,ae .eql 1 (ac (.list [a]))=true)∧(∀a b,ae .eql 2 (ac (.list [a,b]))=true)∧(∀a b c,ae .eql 3 (ac (.list [a,b,c]))=true)∧(∀a b c d,ae .eql 4 (ac (.list [a,b,c,d]))=true):=
 ⟨ar [],fun a=>ar [a],fun a b=>ar [a,b],fun a b c=>ar [a,b,c],fun a b c d=>ar [a,b,c,d]⟩
def gd {α:Type} (c:Bool) (x:Option α):Option α:=bif c then x else none
noncomputable def ge {α:Type} (d:D) (x:Option α):Option α:=bif f8 d d then x else none
theorem aE {α:Type} (d:D) (x:Option α):ge d x=x:=by unfold ge;rw[aj];rfl
end Go.Proofs.YtiojjmlccehpoaaGreat
