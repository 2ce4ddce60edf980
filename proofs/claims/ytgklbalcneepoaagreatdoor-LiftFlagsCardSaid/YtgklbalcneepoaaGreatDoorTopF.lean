/-
  'LiftFlags': a call from outside: true.
-/
import Derived.Test.YtgklbalcneepoaaGreatDoorM2
import Derived.Test.YtgklbalcneepoaaGreatDoorM2
namespace Go.Proofs.YtgklbalcneepoaaGreatDoor
open Go Go.AM

theorem sound4 : SoundF env.P 4 S4 q4 := by rw [q4_eq]; exact liftX_sound envOk ok_tbl4_8 60 12

theorem und22 : PG.underlying 22 = some (.int .u32) := by kernel_rfl
theorem und34 : PG.underlying 34 = some (.array 2 22) := by kernel_rfl

theorem conf_u32 {d : D} (h : Conf PG 22 d) : U32 (qint d) := by
  have hu := und22
  cases h with
  | int h1 a b =>
    rw [h1] at hu
    cases hu
    rw [qint_i]
    simp [IntKind.min, IntKind.max, IntKind.bits, IntKind.signed] at a b
    omega
  | str h1 hl => rw [h1] at hu; cases hu
  | slice h1 hl hd => rw [h1] at hu; cases hu
  | struct h1 => rw [h1] at hu; cases hu
  | bool h1 => rw [h1] at hu; cases hu
  | array h1 => rw [h1] at hu; cases hu
  | other h1 => unfold isOther at h1; rw [hu] at h1; cases h1

theorem conf_pair {d : D} (h : Conf PG 34 d) : U32 (qint (qfld d 0)) ∧ U32 (qint (qfld d 1)) := by
  have hu := und34
  cases h with
  | array h1 hl hd =>
    rw [h1] at hu
    cases hu
    rw [qfld_agg, qfld_agg]
    exact ⟨conf_u32 (hd 0 (by omega)), conf_u32 (hd 1 (by omega))⟩
  | int h1 => rw [h1] at hu; cases hu
  | str h1 hl => rw [h1] at hu; cases hu
  | slice h1 hl hd => rw [h1] at hu; cases hu
  | struct h1 => rw [h1] at hu; cases hu
  | bool h1 => rw [h1] at hu; cases hu
  | other h1 => unfold isOther at h1; rw [hu] at h1; cases h1

theorem top4 {d0 d1 : D} {n : Int} (c0 : Conf PG 33 d0) (c1 : Conf PG 34 d1) (w : World) (hL : laidMetH Tryz.prog Rows.liftFlagsRow.laid w) {v0 v1 : Value} (r0 : Rep nowhere (fun b => b < w.heap.size) w (.dat 33 d0) v0) (r1 : Rep nowhere (fun b => b < w.heap.size) w (.dat 34 d1) v1) :
    Calls Tryz.prog 4 #[.int .i64 n, v0, v1] w fun e w' => e = .returned (.bool true) ∧ RowKit.Below w.heap.size w w' := by
  refine (sound4 [] [.int n, d0, d1] [.bool true] rfl (law4 c0 (conf_pair c1).1 (conf_pair c1).2) (fun b => b < w.heap.size) w nowhere _ w #[.int .i64 n, v0, v1] (Inv.empty w _ (fun _ h => h) rfl rfl (fun g cs h => tabs rfl hL g cs h))
    (RepL.cons (show Rep nowhere _ w (.ui .i64 n) (.int .i64 n) by simp only [Rep]) (RepL.cons r0 (RepL.cons r1 RepL.nil)))).mono ?_
  rintro e w' ⟨u, ρ', E', rfl, inv, reach, rep⟩
  have hr : resF S4 [] (bdL [.bool true]) = .ub true := rfl
  rw [hr] at rep
  simp only [Rep] at rep
  subst rep
  exact ⟨rfl, ⟨inv.io.1, inv.io.2.1, inv.io.2.2, reach.size, inv.old⟩⟩

end Go.Proofs.YtgklbalcneepoaaGreatDoor
