/-
  'BackendExprExact': a call from outside: true.
-/
import Derived.Test.YtiojjmlccehpoaaGreatM3
namespace Go.Proofs.YtiojjmlccehpoaaGreat
open Go Go.AM

theorem sound3 : SoundF env.P 3 S3 q3 := by rw [q3_eq]; exact liftX_sound envOk ok_tb12 60 6

theorem conf_isList {T e : TypeId} {d : D} (hT : isSl T e = true) (h : Conf PG T d) : ∃ xs, d = .list xs := (qconfL_iff.1 (conf_list hT (qconf_iff.2 h))).2.1
theorem sl26 : isSl 26 9 = true := by kernel_rfl

/-- The library's variable that is read: it holds some number. -/
theorem globM {S : FunS} {p s : List D} {w : World} (hm : ∃ m, w.cell? ⟨0, 0, none⟩ = some (.int .i64 m)) (g : Nat) (cs : List AV) (h : (heapF S p s).glob g = some cs) : g < w.heap.size ∧ RepAt nowhere (fun b => b < w.heap.size) w g 0 cs := by
  obtain ⟨m, hm⟩ := hm
  have hg : (heapF S p s).glob g = findG g GLT := rfl
  rw [hg] at h
  cases g with
  | zero =>
    have : findG 0 GLT = some [.anyI .i64] := rfl
    rw [this] at h
    cases h
    refine ⟨?_, ?_⟩
    · by_cases h0 : 0 < w.heap.size
      · exact h0
      · exfalso
        have : w.heap[0]? = none := Array.getElem?_eq_none (by omega)
        simp [World.cell?, this] at hm
    · simp only [RepAt]
      exact ⟨⟨_, hm, by simp only [Rep]; exact ⟨m, rfl⟩⟩, trivial⟩
  | succ g => exact absurd h (by have : findG (g + 1) GLT = none := rfl
                                 rw [this]; simp)

theorem rep26 {w : World} {E : Nat → Prop} {d : D} {v : Value} (h : RepD PG E w 26 d [v]) : Rep nowhere E w (.rows 9 d) v := by
  have hc : cellsT 8 26 d = [.rows 9 d] := by kernel_rfl
  have := cellsT_rep (ρ := nowhere) 8 26 d [v] (by kernel_rfl) h
  rw [hc] at this
  simpa [RepL] using this

theorem rep22 {w : World} {E : Nat → Prop} (n : Int) : Rep nowhere E w (.ui .u32 n) (.int .u32 n) := by simp only [Rep]

theorem top3 {d0 d1 : D} {n : Int} (h0 : Conf PG 25 d0) (h1 : Conf PG 26 d1) (w : World) (hm : ∃ m, w.cell? ⟨0, 0, none⟩ = some (.int .i64 m)) {v0 v1 : Value}
    (r0 : Rep nowhere (fun b => b < w.heap.size) w (.dat 25 d0) v0) (r1 : RepD PG (fun b => b < w.heap.size) w 26 d1 [v1]) :
    Calls Tryz.prog 3 #[v0, v1, .int .u32 n] w fun e w' => e = .returned (.bool true) ∧ RowKit.Below w.heap.size w w' := by
  refine (sound3 [] [d0, d1, .int n] [.bool true] rfl (law3 h0 (conf_isList sl26 h1)) (fun b => b < w.heap.size) w nowhere _ w #[v0, v1, .int .u32 n] (Inv.empty w _ (fun _ h => h) rfl rfl (globM hm))
    (RepL.cons r0 (RepL.cons (rep26 r1) (RepL.cons (rep22 n) RepL.nil)))).mono ?_
  rintro e w' ⟨u, ρ', E', rfl, inv, reach, rep⟩
  have hr : resF S3 [] (bdL [.bool true]) = .ub true := rfl
  rw [hr] at rep
  simp only [Rep] at rep
  subst rep
  exact ⟨rfl, ⟨inv.io.1, inv.io.2.1, inv.io.2.2, reach.size, inv.old⟩⟩

end Go.Proofs.YtiojjmlccehpoaaGreat
