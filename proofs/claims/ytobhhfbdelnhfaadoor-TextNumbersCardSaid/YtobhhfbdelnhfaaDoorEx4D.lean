/-
  The fixed example 'exampleHolds' of law04, run in the kernel over the library's contracts of Index and Count.
-/
import Derived.Test.YtobhhfbdelnhfaaDoorSh4D
import Derived.Test.YtobhhfbdelnhfaaDoorCi
set_option linter.unusedVariables false
set_option linter.unusedSimpArgs false
namespace Go.Proofs.YtobhhfbdelnhfaaDoor
open Go Go.AM
set_option maxRecDepth 100000

theorem indexSaid78 : IndexSaid Tryd.prog 78 1 := fun s sub m w hs hm => Tryd.stringslite_Index s sub m w hs hm
theorem countSaid72 : CountSaid Tryd.prog 72 := fun s c w => Tryd.strings_Count_one s c w

noncomputable def tbX : Tb := (Tb.nil.add 78 (idxC 1) (fun _ _ => [])).add 72 cntC (fun _ _ => [])
noncomputable def envX : Env := { P := Tryd.prog, fn := fun f => (Tryd.prog.funcs[f]?).bind fun fn => fn.body.map fun c => ⟨c, fn.ntmps, fn.results.toList⟩, isPure := fun f => !([24, 40, 45, 46, 47, 48, 57, 60, 61, 62, 64, 65, 69, 73, 74, 75, 76, 77, 80, 90, 98, 102].elem f), isFrz := fun _ => false, clr := false, pre := tbX.O, lp := fun _ _ => none, n0 := 0 }

theorem envXOk : EnvOk envX := by
  intro f F h
  refine envOk f F ?_
  rw [envFn]
  exact h

theorem tbXOk : TbOk envX tbX := (TbOk.nil.add (by kernel_rfl) fun args H v H' h _ => idxC_ok indexSaid78 args H v H' h).add (by kernel_rfl) fun args H v H' h _ => cntC_ok countSaid72 args H v H' h

def S8 : FunS := ⟨[], [], [⟨true, .bool⟩], []⟩
theorem ex8 : liftC envX tbX (runF envX tbX 5000 5000).d 8 S8 [] = some [.bool true] := by kernel_rfl

noncomputable def q8 : List D → Option (List D) := veil fun ds => liftC envX tbX (runF envX tbX 5000 5000).d 8 S8 ds
theorem q8_eq : q8 [] = some [.bool true] := by unfold q8; rw [veil_eq]; exact ex8
theorem sound8 : SoundF env.P 8 S8 q8 := by
  unfold q8; rw [veil_eq]
  exact liftC_sound envX tbX (runF_sound envXOk (fun _ _ => rfl) rfl tbXOk 5000 5000)

end Go.Proofs.YtobhhfbdelnhfaaDoor
