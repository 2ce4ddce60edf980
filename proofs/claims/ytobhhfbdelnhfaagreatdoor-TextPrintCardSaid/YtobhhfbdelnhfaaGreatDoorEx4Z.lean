/-
  The fixed example 'exampleHolds' of law04, run in the kernel over the library's contracts of Index and Count.
-/
import Derived.Test.YtobhhfbdelnhfaaGreatDoorSh4Z
import Derived.Test.YtobhhfbdelnhfaaGreatDoorCi
namespace Go.Proofs.YtobhhfbdelnhfaaGreatDoor
open Go Go.AM
set_option maxRecDepth 100000

theorem indexSaid137 : IndexSaid Tryz.prog 137 1 := fun s sub m w hs hm => Tryz.stringslite_Index s sub m w hs hm
theorem countSaid121 : CountSaid Tryz.prog 121 := fun s c w => Tryz.strings_Count_one s c w

noncomputable def tbX : Tb := (Tb.nil.add 137 (idxC 1) (fun _ _ => [])).add 121 cntC (fun _ _ => [])
noncomputable def envX : Env := { P := Tryz.prog, fn := fun f => (Tryz.prog.funcs[f]?).bind fun fn => fn.body.map fun c => ⟨c, fn.ntmps, fn.results.toList⟩, isPure := fun f => !([37,41,65,66,67,68,76,105,106,107,110,111,134,122,123,124,125,17,139,49,96,130].elem f), isFrz := fun _ => false, clr := false, pre := tbX.O, lp := fun _ _ => none, n0 := 0 }

theorem envXOk : EnvOk envX := by
  intro f F h
  refine envOk f F ?_
  rw [envFn]
  exact h

theorem tbXOk : TbOk envX tbX := (TbOk.nil.add (by kernel_rfl) fun args H v H' h _ => idxC_ok indexSaid137 args H v H' h).add (by kernel_rfl) fun args H v H' h _ => cntC_ok countSaid121 args H v H' h

def S10 : FunS := ⟨[], [], [⟨true, .bool⟩], []⟩
theorem ex10 : liftC envX tbX (runF envX tbX 5000 5000).d 10 S10 [] = some [.bool true] := by kernel_rfl

noncomputable def q10 : List D → Option (List D) := veil fun ds => liftC envX tbX (runF envX tbX 5000 5000).d 10 S10 ds
theorem q10_eq : q10 [] = some [.bool true] := by unfold q10; rw [veil_eq]; exact ex10
theorem sound10 : SoundF env.P 10 S10 q10 := by
  unfold q10; rw [veil_eq]
  exact liftC_sound envX tbX (runF_sound envXOk (fun _ _ => rfl) rfl tbXOk 5000 5000)

end Go.Proofs.YtobhhfbdelnhfaaGreatDoor
