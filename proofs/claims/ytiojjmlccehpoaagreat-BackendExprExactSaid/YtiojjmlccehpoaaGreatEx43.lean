/-
  The fixed example 'exampleHolds' of law43, run in the kernel over the library's contract of strings.Contains.
-/
import Derived.Test.YtiojjmlccehpoaaGreatSh43
import Derived.Test.YtiojjmlccehpoaaGreatCt
namespace Go.Proofs.YtiojjmlccehpoaaGreat
open Go Go.AM
set_option maxRecDepth 100000

theorem contSaid202 : ContSaid Tryz.prog 202 := fun s sub m w hs hm => Tryz.strings_Contains s sub m w hs hm

noncomputable def tbX : Tb := Tb.nil.add 202 contC (fun _ _ => [])
noncomputable def envX : Env := { P := Tryz.prog, fn := fun f => (Tryz.prog.funcs[f]?).bind fun fn => fn.body.map fun c => ⟨c, fn.ntmps, fn.results.toList⟩, isPure := fun f => [40].elem f, isFrz := fun _ => false, clr := false, pre := tbX.O, lp := fun _ _ => none, n0 := 0 }

theorem envXOk : EnvOk envX := by
  intro f F h
  refine envOk f F ?_
  rw [envFn]
  exact h

theorem tbXOk : TbOk envX tbX := TbOk.nil.add (by kernel_rfl) fun args H v H' h _ => contC_ok contSaid202 args H v H' h

def S12 : FunS := ⟨[], [], [⟨true, .bool⟩], []⟩
theorem ex12 : liftC envX tbX (runF envX tbX 5000 5000).d 12 S12 [] = some [.bool true] := by kernel_rfl

noncomputable def q12 : List D → Option (List D) := veil fun ds => liftC envX tbX (runF envX tbX 5000 5000).d 12 S12 ds
theorem q12_eq : q12 [] = some [.bool true] := by unfold q12; rw [veil_eq]; exact ex12
theorem sound12 : SoundF env.P 12 S12 q12 := by
  unfold q12; rw [veil_eq]
  exact liftC_sound envX tbX (runF_sound envXOk (fun _ _ => rfl) rfl tbXOk 5000 5000)

end Go.Proofs.YtiojjmlccehpoaaGreat
