/-
  'LiftIns': a call from outside: true.
-/
import Derived.Test.YtgklbalcneepoaaGreatDoorM2
import Derived.Test.YtgklbalcneepoaaGreatDoorM2
namespace Go.Proofs.YtgklbalcneepoaaGreatDoor
open Go Go.AM

theorem sound3 : SoundF env.P 3 S3 q3 := by rw [q3_eq]; exact liftX_sound envOk ok_tb10 60 12

theorem top3 {d0 : D} {n : Int} (w : World) (hL : laidMetH Tryz.prog Rows.liftInsRow.laid w) {v0 : Value} (r0 : Rep nowhere (fun b => b < w.heap.size) w (.dat 24 d0) v0) :
    Calls Tryz.prog 3 #[v0, .int .i64 n] w fun e w' => e = .returned (.bool true) ∧ RowKit.Below w.heap.size w w' := by
  refine (sound3 [] [d0, .int n] [.bool true] rfl (law3 d0 n) (fun b => b < w.heap.size) w nowhere _ w #[v0, .int .i64 n] (Inv.empty w _ (fun _ h => h) rfl rfl (fun g cs h => tabs rfl hL g cs h))
    (RepL.cons r0 (RepL.cons (show Rep nowhere _ w (.ui .i64 n) (.int .i64 n) by simp only [Rep]) RepL.nil))).mono ?_
  rintro e w' ⟨u, ρ', E', rfl, inv, reach, rep⟩
  have hr : resF S3 [] (bdL [.bool true]) = .ub true := rfl
  rw [hr] at rep
  simp only [Rep] at rep
  subst rep
  exact ⟨rfl, ⟨inv.io.1, inv.io.2.1, inv.io.2.2, reach.size, inv.old⟩⟩

end Go.Proofs.YtgklbalcneepoaaGreatDoor
