/-
  What is done with a result may be done by the code's continuations.
-/
import Derived.Test.YteccopaonadbeaaGreatDoorAmR
set_option linter.unusedVariables false
set_option linter.unusedSimpArgs false
namespace Go.AM
set_option linter.unusedSimpArgs false
section
variable {R S:Type} {env:Env} {r:Rec}
theorem bif_bind (b:Bool) (x y:Option R) (g:R→Option S):(bif b then x else y).bind g=bif b then x.bind g else y.bind g:=by cases b<;>rfl
theorem guardAll_bind (x:Option R) (g:R→Option S):∀bs,(guardAll x bs).bind g=guardAll (x.bind g) bs
 | []=>rfl
 |b::bs=>by simp only[guardAll,bif_bind,guardAll_bind x g bs];rfl
theorem opK_bind (fr:Fr) (H:Hp) (ty:TypeId) (op:Op) (k:AV×Hp→Option R) (g:R→Option S):(opK env r fr H ty op k).bind g=opK env r fr H ty op (fun p=>(k p).bind g):=by
 unfold opK
 rw[guardAll_bind]
 congr 1
 cases evOp0 env r fr H ty op<;>rfl
theorem refA_bind (fl:Bool) (x:AV) (k:AV→Option R) (g:R→Option S):(refA fl x k).bind g=refA fl x (fun v=>(k v).bind g):=by
 cases fl with
 |false=>rfl
 |true=>cases x<;>first|rfl|(simp only[refA,cond_true];rw[bif_bind])
theorem guardK_bind (u:Bool) (fr:Fr) (s:Nat) (want:Bool) (run skip:Fr→Option R) (x:AV) (g:R→Option S):(guardK u fr s want run skip x).bind g=guardK u fr s want (fun fr=>(run fr).bind g) (fun fr=>(skip fr).bind g) x:=by
 cases x with
 |ub b=>simp only[guardK,bif_bind];rfl
 |sc v=>cases v<;>first|rfl|(simp only[guardK,bif_bind];try rfl)
 |_=>rfl
theorem evOps_bind (u:Bool) (ops:Array Oper) (k:Fr→Hp→Option R) (g:R→Option S):∀(os:List Oper) (fr:Fr) (H:Hp),(evOps u env r ops k os fr H).bind g=evOps u env r ops (fun fr H=>(k fr H).bind g) os fr H
 | [],fr,H=>rfl
 |o::os,fr,H=>by
  have ih:=evOps_bind u ops k g os
  have h1:∀fr:Fr,(opK env r fr H o.type o.op fun p=>refA (!u&&isGuard ops o.dst) p.1 fun v=>putK env.clr fr o.dst v p.2 (evOps u env r ops k os)).bind g =
   opK env r fr H o.type o.op fun p=>refA (!u&&isGuard ops o.dst) p.1 fun v=>putK env.clr fr o.dst v p.2 (evOps u env r ops (fun fr H=>(k fr H).bind g) os):=by
   intro fr
   rw[opK_bind]
   congr 1
   funext p
   rw[refA_bind]
   congr 1
   funext v
   rw[putK_eq,putK_eq,ih]
  simp only[evOps]
  split
  ·exact h1 fr
  ·split
   ·rfl
   ·rw[guardK_bind]
    congr 1
    ·funext fr;exact h1 fr
    ·funext fr;rw[putK_eq,putK_eq,ih]
theorem evOpsT_bind (ops:Array Oper) (k:List (Fr×Hp)→Fr→Hp→Option R) (g:R→Option S):∀(os:List Oper) (log:List (Fr×Hp)) (fr:Fr) (H:Hp),(evOpsT env r ops k os log fr H).bind g=evOpsT env r ops (fun log fr H=>(k log fr H).bind g) os log fr H
 | [],log,fr,H=>rfl
 |o::os,log,fr,H=>by
  simp only[evOpsT]
  rw[evOps_bind]
  congr 1
  funext fr' H'
  exact evOpsT_bind ops k g os _ fr' H'
theorem loopN_bind (clr:Bool) (ts:List Nat) (L:Nat) (g:R→Option S) {step:Fr→Hp→(Fr→Hp→Option R)→Option R} {step':Fr→Hp→(Fr→Hp→Option S)→Option S}
 (h:∀fr H kn,(step fr H kn).bind g=step' fr H (fun fr H=>(kn fr H).bind g)):∀(n:Nat) (fr:Fr) (H:Hp),(loopN clr ts L step n fr H).bind g=loopN clr ts L step' n fr H
 |0,_,_=>rfl
 |n+1,fr,H=>by
  simp only[loopN,bif_bind,h]
  have ih:(fun fr H=>(loopN clr ts L step n fr H).bind g)=loopN clr ts L step' n:=by funext fr H;exact loopN_bind clr ts L g h n fr H
  rw[ih]
theorem jumpN_bind (clr:Bool) (ts:List Nat) (L:Nat) (c:Code) (kg:Nat→Fr→Hp→Option R) (g:R→Option S) {step:Nat→Fr→Hp→(Nat→Fr→Hp→Option R)→Option R} {step':Nat→Fr→Hp→(Nat→Fr→Hp→Option S)→Option S}
 (h:∀l fr H kn,(step l fr H kn).bind g=step' l fr H (fun l fr H=>(kn l fr H).bind g)):∀(n:Nat) (l:Nat) (fr:Fr) (H:Hp),(jumpN clr ts L c kg step n l fr H).bind g=jumpN clr ts L c (fun l fr H=>(kg l fr H).bind g) step' n l fr H
 |0,_,_,_=>rfl
 |n+1,l,fr,H=>by
  simp only[jumpN,bif_bind,h]
  have ih:(fun l fr H=>(jumpN clr ts L c kg step n l fr H).bind g)=jumpN clr ts L c (fun l fr H=>(kg l fr H).bind g) step' n:=by funext l fr H;exact jumpN_bind clr ts L c kg g h n l fr H
  rw[ih]
theorem Out.go_bind (g:R→Option S) (kn:Fr→Hp→Option R) (kx:Nat→Fr→Hp→Option R) (kr:Fr→Hp→Option R) (kg:Nat→Fr→Hp→Option R) (o:Out):
 (o.go kn kx kr kg).bind g=o.go (fun fr H=>(kn fr H).bind g) (fun i fr H=>(kx i fr H).bind g) (fun fr H=>(kr fr H).bind g) (fun l fr H=>(kg l fr H).bind g):=by cases o<;>rfl
theorem Ot.go_bind (g:R→Option S) (kn:Fr→Hp→Option R) (kx:Nat→Fr→Hp→Option R) (kr:Fr→Hp→Option R) (kg:Nat→Fr→Hp→Option R):∀o:Ot,
 (o.go kn kx kr kg).bind g=o.go (fun fr H=>(kn fr H).bind g) (fun i fr H=>(kx i fr H).bind g) (fun fr H=>(kr fr H).bind g) (fun l fr H=>(kg l fr H).bind g)
 | .fail=>rfl
 | .leaf o=>Out.go_bind g kn kx kr kg o
 | .br b x y=>by simp only[Ot.go,bif_bind,Ot.go_bind g kn kx kr kg x,Ot.go_bind g kn kx kr kg y]
theorem ev_bind (g:R→Option S) (fuel:Nat):∀(c:Code) (s:Option Nat) (fr:Fr) (H:Hp) (kn:Fr→Hp→Option R) (kx:Nat→Fr→Hp→Option R) (kr:Fr→Hp→Option R) (kg:Nat→Fr→Hp→Option R),
 (ev env r fuel s c fr H kn kx kr kg).bind g=ev env r fuel s c fr H (fun fr H=>(kn fr H).bind g) (fun i fr H=>(kx i fr H).bind g) (fun fr H=>(kr fr H).bind g) (fun l fr H=>(kg l fr H).bind g):=by
 intro c
 induction c with
 |seq a b iha ihb=>
  intro s fr H kn kx kr kg
  cases s with
  |none=>
   simp only[ev,bif_bind,iha,ihb]
   congr 1
   split
   ·rw[guardAll_bind,ihb]
   ·rw[iha];simp only[ihb]
  |some l=>simp only[ev,bif_bind,iha,ihb]
 |cond c a b iha ihb=>
  intro s fr H kn kx kr kg
  cases s with
  |none=>
   simp only[ev]
   split
   ·rw[bif_bind,iha,ihb]
   ·rw[bif_bind,iha,ihb]
   ·rfl
  |some l=>rfl
 |block id c ih=>
  intro s fr H kn kx kr kg
  cases s with
  |none=>
   simp only[ev,ih]
   congr 1
   funext i fr H
   rw[bif_bind]
  |some l=>rfl
 |loop c ih=>
  intro s fr H kn kx kr kg
  cases s with
  |none=>
   simp only[ev]
   split
   ·rw[Ot.go_bind];rfl
   ·exact loopN_bind _ _ _ g (fun fr H kn=>ih none fr H kn kx kr kg) fuel fr H
  |some l=>rfl
 |scope c ih=>
  intro s fr H kn kx kr kg
  cases s with
  |none=>
   simp only[ev,ih]
   congr 1
   funext l fr H
   exact jumpN_bind _ _ _ c kg g (fun l fr H kg=>ih (some l) fr H kn kx kr kg) fuel l fr H
  |some l=>rfl
 |region id ops draw=>
  intro s fr H kn kx kr kg
  cases s with
  |none=>
   simp only[ev,bif_bind,evOps_bind,evOpsT_bind]
   rfl
  |some l=>rfl
 |label l'=>
  intro s fr H kn kx kr kg
  cases s with
  |none=>rfl
  |some l=>simp only[ev,bif_bind];rfl
 |_=>
  intro s fr H kn kx kr kg
  cases s<;>rfl
end
end Go.AM
