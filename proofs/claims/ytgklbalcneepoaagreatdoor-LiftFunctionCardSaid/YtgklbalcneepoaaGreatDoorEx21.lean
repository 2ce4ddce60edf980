/-
  The fixed example 'exampleHolds' of law21, run in the kernel over the library's contract of strings.Join.
-/
import Derived.Test.YtgklbalcneepoaaGreatDoorShJ
import Derived.Test.YtgklbalcneepoaaGreatDoorJn
import Derived.Test.YtgklbalcneepoaaGreatDoorAmZ2
namespace Go.Proofs.YtgklbalcneepoaaGreatDoor
set_option linter.unusedVariables false
set_option linter.unusedSimpArgs false
open Go Go.AM
set_option maxRecDepth 100000
theorem joinSaid128:JoinSaid Tryz.prog 128:=fun bk o c xs sep w h h1 h2 h3 h4=>Tryz.strings_Join bk o c xs sep w h h1 h2 h3 h4
noncomputable def tbX:Tb:=Tb.nil.add 128 joinC (fun _ _=>[])
noncomputable def envX:Env:={P:=Tryz.prog,fn:=fun f=>(Tryz.prog.funcs[f]?).bind fun fn=>fn.body.map fun c=>⟨c,fn.ntmps,fn.results.toList⟩,isPure:=fun f=> !([113,56,21].elem f),isFrz:=fun f=>[56,21].elem f,clr:=false,pre:=tbX.O,lp:=fun _ _=>none,n0:=0}
theorem envXOk:EnvOk envX:=by
 intro f F h
 refine envOk f F ?_
 rw[envFn]
 exact h
theorem tbXOk:TbOk envX tbX:=TbOk.nil.add (by kernel_rfl) fun args H v H' h _=>joinC_ok joinSaid128 args H v H' h
def S10:FunS:=⟨[],[],[⟨true, .bool⟩],[]⟩
theorem ex10:liftC envX tbX (runF envX tbX 5000 5000).d 10 S10 []=some [.bool true]:=by kernel_rfl
noncomputable def q10:List D→Option (List D):=veil fun ds=>liftC envX tbX (runF envX tbX 5000 5000).d 10 S10 ds
theorem q10_eq:q10 []=some [.bool true]:=by unfold q10;rw[veil_eq];exact ex10
theorem sound10:SoundF env.P 10 S10 q10:=by
 unfold q10;rw[veil_eq]
 exact liftC_sound envX tbX (runF_sound envXOk (fun _ _=>rfl) rfl tbXOk 5000 5000)
end Go.Proofs.YtgklbalcneepoaaGreatDoor
