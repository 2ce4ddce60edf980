/-
  Common: codes, loops; how the table grows.
-/
import Derived.Test.YteccopaonadbeaaGreatDoorTab
import Derived.Test.YteccopaonadbeaaGreatDoorAmZ3
set_option linter.unusedVariables false
set_option linter.unusedSimpArgs false
namespace Go.Proofs.YteccopaonadbeaaGreatDoor
open Go Go.AM
set_option maxRecDepth 100000
noncomputable def codeOf (f:Nat):Code:=match env.fn f with|some F=>F.code|none=> .skip
noncomputable def loopC (f id:Nat):Code:=match(loopsOf (codeOf f)).find? (fun c=>Nat.beq (firstId c) id)with|some c=>c|none=> .skip
theorem mem_loop {f id:Nat} {F:FnA} (hF:env.fn f=some F) {x:Code} (hx:x∈loopsOf F.code) (hid:firstId x=id) (hu:((loopsOf (codeOf f)).filter fun c=>Nat.beq (firstId c) id).length=1):x=loopC f id:=by
 have hc:codeOf f=F.code:=by unfold codeOf;rw[hF]
 rw[hc]at hu
 unfold loopC
 rw[hc]
 have hx':x∈(loopsOf F.code).filter fun c=>Nat.beq (firstId c) id:=by
  rw[List.mem_filter];refine⟨hx,?_⟩;rw[hid];exact Nat.beq_refl id
 cases hf:(loopsOf F.code).find? (fun c=>Nat.beq (firstId c) id)with
 |none=>rw[List.find?_eq_none]at hf;exact absurd (by rw[hid];exact Nat.beq_refl id) (hf x hx)
 |some y=>
  have hy:y∈(loopsOf F.code).filter fun c=>Nat.beq (firstId c) id:=by
   rw[List.mem_filter];exact⟨List.mem_of_find?_eq_some hf,by have:=List.find?_some (p:=fun c=>Nat.beq (firstId c) id) hf;exact this⟩
  match hl:(loopsOf F.code).filter fun c=>Nat.beq (firstId c) id with
  | []=>rw[hl]at hx';cases hx'
  | [z]=>rw[hl]at hx' hy;simp at hx' hy;rw[hx',hy]
  |_::_::_=>rw[hl]at hu;simp at hu
theorem addLoopQ {tb:Tb} (h:TbOk env tb) (f id:Nat) (hu:((loopsOf (codeOf f)).filter fun c=>Nat.beq (firstId c) id).length=1) (S:LoopS) {q:List D→List D→Option (List D)}
 (hq:q=fun p s=>loW (stepQX env tb 60 12 f (loopC f id) S p) s):TbOk env (tb.addL f id S.n0 (mkLp S q)):=by
 refine h.addL fun F x hF' hx hid=> ?_
 obtain rfl:=mem_loop hF' hx hid hu
 exact loopQ_sound envOk h 60 12 hF' hx S fun p s r hr=>by
  rw[hq]at hr
  have he:stepQX env tb 60 12 f (loopC f id) S p=stepQ env tb 60 12 f (loopC f id) S p:=by funext s;exact stepQX_eq env tb 60 12 f (loopC f id) S p s
  rw[← he];exact hr
theorem addFunF {tb:Tb} (h:TbOk env tb) (f:Nat) (hF:(env.fn f).isSome=true) (S:FunS) {q:List D→Option (List D)} (hq:q=liftX env tb 60 12 f S):TbOk env (tb.addF f S q):=
 h.addF hF (by rw[hq];exact liftX_sound envOk h 60 12)
theorem recF {f:Nat} {S:FunS} (T:(List D→Option (List D))→Tb) (hT:∀q,SoundF env.P f S q→TbOk env (T q)) {q:List D→Option (List D)}
 (hq:q=fun ds=>levels (fun q=>liftX env (T q) 60 12 f S) (fuelL ds) ds):SoundF env.P f S q:=by
 rw[hq]
 exact fuelled_sound (levels_sound fun q h=>liftX_sound envOk (hT q h) 60 12)
theorem qeq_len (xs:List D):qcmp .eql (xs.length:Int) (qlen (.list xs))=true:=by rw[qeqI_iff,qlen_eq];rfl
theorem qeq_l:qcmp .eql 0 (qlen (.list []))=true∧(∀a,qcmp .eql 1 (qlen (.list [a]))=true)∧(∀a b,qcmp .eql 2 (qlen (.list [a,b]))=true)∧(∀a b c,qcmp .eql 3 (qlen (.list [a,b,c]))=true)∧(∀a b c d,qcmp .eql 4 (qlen (.list [a,b,c,d]))=true):=
 ⟨qeq_len [],fun a=>qeq_len [a],fun a b=>qeq_len [a,b],fun a b c=>qeq_len [a,b,c],fun a b c d=>qeq_len [a,b,c,d]⟩
def gd {α:Type} (c:Bool) (x:Option α):Option α:=bif c then x else none
noncomputable def ge {α:Type} (d:D) (x:Option α):Option α:=bif qeqD d d then x else none
theorem ge_id {α:Type} (d:D) (x:Option α):ge d x=x:=by unfold ge;rw[qeqD_self];rfl
end Go.Proofs.YteccopaonadbeaaGreatDoor
