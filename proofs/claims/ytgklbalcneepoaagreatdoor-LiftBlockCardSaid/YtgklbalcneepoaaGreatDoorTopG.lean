/-
  'LiftBlock': a call from outside: true.
-/
import Derived.Test.YtgklbalcneepoaaGreatDoorM3
import Derived.Test.YtgklbalcneepoaaGreatDoorM3
namespace Go.Proofs.YtgklbalcneepoaaGreatDoor
set_option linter.unusedVariables false
set_option linter.unusedSimpArgs false
open Go Go.AM

theorem sound5 : SoundF env.P 5 S5 q5 := by rw [q5_eq]; exact liftX_sound envOk ok_tb23 60 12

theorem rep45 {w : World} {E : Nat → Prop} {d : D} {v : Value} (h : RepD PG E w 45 d [v]) : Rep nowhere E w (.rows 22 d) v := by
  have hc : cellsT 8 45 d = [.rows 22 d] := by kernel_rfl
  have := cellsT_rep (ρ := nowhere) 8 45 d [v] (by kernel_rfl) h
  rw [hc] at this
  simpa [RepL] using this

theorem top5 {d0 d1 : D} {n : Int} (w : World) (hL : laidMetH Tryz.prog Rows.liftBlockRow.laid w) {v0 v1 : Value} (r0 : Rep nowhere (fun b => b < w.heap.size) w (.dat 58 d0) v0) (r1 : RepD PG (fun b => b < w.heap.size) w 45 d1 [v1]) :
    Calls Tryz.prog 5 #[v0, v1, .int .i64 n] w fun e w' => e = .returned (.bool true) ∧ RowKit.Below w.heap.size w w' := by
  refine (sound5 [] [d0, d1, .int n] [.bool true] rfl (law5 d0 d1 n) (fun b => b < w.heap.size) w nowhere _ w #[v0, v1, .int .i64 n] (Inv.empty w _ (fun _ h => h) rfl rfl (fun g cs h => tabs rfl hL g cs h))
    (RepL.cons r0 (RepL.cons (rep45 r1) (RepL.cons (show Rep nowhere _ w (.ui .i64 n) (.int .i64 n) by simp only [Rep]) RepL.nil)))).mono ?_
  rintro e w' ⟨u, ρ', E', rfl, inv, reach, rep⟩
  have hr : resF S5 [] (bdL [.bool true]) = .ub true := rfl
  rw [hr] at rep
  simp only [Rep] at rep
  subst rep
  exact ⟨rfl, ⟨inv.io.1, inv.io.2.1, inv.io.2.2, reach.size, inv.old⟩⟩

end Go.Proofs.YtgklbalcneepoaaGreatDoor
