/-
  Common: codes, loops; how the table grows.
-/
import Derived.Test.YtiojjmlccehpoaaGreatTab
import Derived.Test.YtiojjmlccehpoaaGreatAmZ3
set_option linter.unusedSimpArgs false
set_option linter.unusedVariables false
set_option maxRecDepth 100000
namespace Go.Proofs.YtiojjmlccehpoaaGreat
open Go Go.AM
noncomputable def codeOf (f:Nat):Code:=match env.fn f with|some F=>F.code|none=> .skip
noncomputable def bb (f id:Nat):Code:=match(bF (codeOf f)).find? (fun c=>Nat.beq (cX c) id)with|some c=>c|none=> .skip
theorem UK {f id:Nat} {F:FnA} (hF:env.fn f=some F) {x:Code} (hx:x∈bF F.code) (hid:cX x=id) (hu:((bF (codeOf f)).filter fun c=>Nat.beq (cX c) id).length=1):x=bb f id:=by
 have hc:codeOf f=F.code:=by unfold codeOf;rw[hF]
 rw[hc]at hu;unfold bb;rw[hc];have hx':x∈(bF F.code).filter fun c=>Nat.beq (cX c) id:=by
  rw[List.mem_filter];refine⟨hx,?_⟩;rw[hid];exact Nat.beq_refl id
 cases hf:(bF F.code).find? (fun c=>Nat.beq (cX c) id)with
 |none=>rw[List.find?_eq_none]at hf;exact absurd (by rw[hid];exact Nat.beq_refl id) (hf x hx)
 |some y=>
  have hy:y∈(bF F.code).filter fun c=>Nat.beq (cX c) id:=by
   rw[List.mem_filter];exact⟨List.mem_of_find?_eq_some hf,by have:=List.find?_some (p:=fun c=>Nat.beq (cX c) id) hf;exact this⟩
  match hl:(bF F.code).filter fun c=>Nat.beq (cX c) id with
  | []=>rw[hl]at hx';cases hx'
  | [z]=>rw[hl]at hx' hy;simp at hx' hy;rw[hx',hy]
  |_::_::_=>rw[hl]at hu;simp at hu
theorem aG {tb:Tb} (h:TbOk env tb) (f id:Nat) (hu:((bF (codeOf f)).filter fun c=>Nat.beq (cX c) id).length=1) (S:LoopS) {q:List D->uAC}
 (hq:q=fun p s=>loW (aP env tb 60 12 f (bb f id) S p) s):TbOk env (tb.addL f id S.n0 (bQ S q)):=by
 refine h.addL fun F x hF' hx hid=> ?_
 obtain rfl:=UK hF' hx hid hu
 exact GV j8 h 60 12 hF' hx S fun p s r hr=>by
  rw[hq]at hr;have he:aP env tb 60 12 f (bb f id) S p=BM env tb 60 12 f (bb f id) S p:=by funext s;exact Q4 env tb 60 12 f (bb f id) S p s
  rw[<- he];exact hr
theorem aJ {tb:Tb} (h:TbOk env tb) (f:Nat) (hF:(env.fn f).isSome=true) (S:FunS) {q:uAC} (hq:q=aO env tb 60 12 f S):TbOk env (tb.addF f S q):=
 h.addF hF (by rw[hq];exact ey j8 h 60 12)
theorem gM {f:Nat} {S:FunS} (T:(uAC)->Tb) (hT:∀q,aH env.P f S q->TbOk env (T q)) {q:uAC}
 (hq:q=fun ds=>levels (fun q=>aO env (T q) 60 12 f S) (aY ds) ds):aH env.P f S q:=by
 rw[hq];exact AT (pj fun q h=>ey j8 (hT q h) 60 12)
theorem ar (xs:List D):ab .eql (xs.length:Int) (ae (.list xs))=true:=by rw[qeqI_iff,eH];rfl
theorem aE:ab .eql 0 (ae (.list []))=true∧(∀a,ab .eql 1 (ae (.list [a]))=true)∧(∀a b,ab .eql 2 (ae (.list [a,b]))=true)∧(∀a b c,ab .eql 3 (ae (.list [a,b,c]))=true)∧(∀a b c d,ab .eql 4 (ae (.list [a,b,c,d]))=true):=
 ⟨ar [],fun a=>ar [a],fun a b=>ar [a,b],fun a b c=>ar [a,b,c],fun a b c d=>ar [a,b,c,d]⟩
def gd {α:Type} (c:Bool) (x:Option α):Option α:=bif c then x else none
noncomputable def ge {α:Type} (d:D) (x:Option α):Option α:=bif fV d d then x else none
theorem aF {α:Type} (d:D) (x:Option α):ge d x=x:=by unfold ge;rw[am];rfl
end Go.Proofs.YtiojjmlccehpoaaGreat
