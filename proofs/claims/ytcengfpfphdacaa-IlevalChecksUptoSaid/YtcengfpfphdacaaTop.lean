/-
  'IlevalChecks': a call from outside, for every program that is not too large: true.
-/
import Derived.Test.YtcengfpfphdacaaM3
namespace Go.Proofs.Ytcengfpfphdacaa
open Go Go.AM

theorem sound3 : SoundF env.P 3 S3 q3 := by rw [q3_eq]; exact liftF_sound envOk ok_tb8 60 6

theorem glob3 (d : D) (g : Nat) : (heapF S3 [] [d]).glob g = none := by
  unfold Hp.glob
  cases (heapF S3 [] [d]).gl <;> rfl

theorem top3 {d : D} (hd : Conf PG 26 d) (hz : d.size ≤ lim) (w : World) {v : Value} (hv : Rep nowhere (fun b => b < w.heap.size) w (.dat 26 d) v) :
    Calls Try.prog 3 #[v] w fun e w' => e = .returned (.bool true) ∧ RowKit.Below w.heap.size w w' := by
  refine (sound3 [] [d] [.bool true] rfl (law3 hd hz) (fun b => b < w.heap.size) w nowhere _ w #[v] (Inv.empty w _ (fun _ h => h) rfl rfl (fun g cs h => by rw [glob3] at h; cases h)) (RepL.cons hv RepL.nil)).mono ?_
  rintro e w' ⟨u, ρ', E', rfl, inv, reach, rep⟩
  have hr : resF S3 [] (bdL [.bool true]) = .ub true := rfl
  rw [hr] at rep
  simp only [Rep] at rep
  subst rep
  exact ⟨rfl, ⟨inv.io.1, inv.io.2.1, inv.io.2.2, reach.size, inv.old⟩⟩

end Go.Proofs.Ytcengfpfphdacaa
