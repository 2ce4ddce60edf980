/-
  'IlevalChecksUptoSaid': the row's step, with the walk taken from the lifted functions.
-/
import Derived.Test.YtcengfpfphdacaaRows
import Derived.Test.YtcengfpfphdacaaTop
import Derived.WalkKit
import Derived.ProofKit
import Derived.OpenShut
import Derived.JoinedCond
import Derived.Below
import Derived.ChangeSame
import Derived.Carry
namespace Go.Proofs.Ytcengfpfphdacaa.ilevalChecks
open Go.ChangeShapes Go.WideShapes Go.ChangeAt Go.RowKit
open Go.AM (toD toDs D trod_rep nowhere)
set_option linter.unusedVariables false

theorem own : ownKnob Try.prog.godebug = none := by kernel_rfl

/- How large data is, by its bulk. -/
mutual
theorem size_bulk {H : Type} : ∀ d : DataW H, (toD d).size ≤ Rows.uptoBulk d
  | .lit l => by cases l <;> simp [toD, D.size, Rows.uptoBulk]
  | .nil => by simp [toD, D.size, D.sizes, Rows.uptoBulk]
  | .ptr d => by simp [toD, D.size, Rows.uptoBulk]
  | .slice xs ys => by
    have := sizes_bulk xs
    simp only [toD, D.size, Rows.uptoBulk]; omega
  | .agg xs => by
    have := sizes_bulk xs
    simp only [toD, D.size, Rows.uptoBulk]; omega
  | .iface _ d => by simp [toD, D.size, Rows.uptoBulk]
  | .map es => by simp [toD, D.size, Rows.uptoBulk]
  | .held _ => by simp [toD, D.size, Rows.uptoBulk]
theorem sizes_bulk {H : Type} : ∀ ds : List (DataW H), D.sizes (toDs ds) ≤ Rows.uptoBulkAll ds
  | [] => by simp [toDs, D.sizes, Rows.uptoBulkAll]
  | d :: ds => by
    have h1 := size_bulk d
    have h2 := sizes_bulk ds
    simp only [toDs, D.sizes, Rows.uptoBulkAll]; omega
end

noncomputable def isStructT (T : TypeId) : Bool := match Try.prog.underlying T with | some (.struct _) => true | _ => false
theorem str26 : isStructT 26 = true := by kernel_rfl
theorem und26 : ∃ fs, Try.prog.underlying 26 = some (.struct fs) := by
  have h := str26
  unfold isStructT at h
  split at h
  · rename_i fs h1; exact ⟨fs, h1⟩
  · cases h
theorem laidOut : laidOutB Try.prog = true := by kernel_rfl
theorem okT : Go.AM.okTypes Go.AM.PG = true := by kernel_rfl
theorem layT : Go.AM.layOk Go.AM.PG Go.AM.rowDepth 26 = true := by kernel_rfl
theorem pg : Go.AM.PG = Try.prog := by unfold Go.AM.PG; rfl

set_option maxRecDepth 100000 in
theorem contract (H : Type) (enc : TypeId × Value → H) (W : World) (base : Nat) (args : Array Value) (ds gs : List (DataW H)) (before : List MemPlace)
    (hval : ∀ (j : Nat) t v, Try.f3.params[j]? = some t → args[j]? = some v → Value.okWide Try.prog W .any base t v)
    (hW : DataW.Whole enc Try.prog Try.f3.params.toList Rows.ilevalChecksSpec.vars false W args.toList ds gs before) (hk : Rows.uptoSmall H (ds ++ gs) = true) :
    Calls Try.prog 3 args W fun e W' => ∃ v, e = .returned v ∧ Rows.ilevalChecksSpec.post enc Try.prog Try.f3 false true false false W args v W' := by
  have hW' := hW
  obtain ⟨p, q, hA0, hV, rfl, hfz, hnd⟩ := hW
  have hA : DataW.TrodAll enc Try.prog W 0 (fun _ => true) true Try.f3.params.toList args.toList ds p := hA0
  rw [Try.params3] at hA hval
  obtain ⟨v0, vs0, d0, ds0, p0, q0, hargs, rfl, rfl, h0, r0⟩ := trodAll_cons hA
  obtain ⟨rfl, rfl, rfl⟩ := trodAll_nil r0
  obtain rfl : args = #[v0] := by cases args; simp_all
  obtain ⟨rfl, rfl⟩ := trodVars_none hV
  obtain ⟨fs, hfs⟩ := und26
  obtain ⟨cs, rfl, hcs⟩ := okWide_struct hfs (hval 0 26 v0 rfl rfl)
  clear hA0
  simp only [List.append_nil] at hW' hk hfz hnd
  have h0' := h0
  obtain ⟨fuel, hf⟩ := h0'
  have hsz : (toD d0).size ≤ lim := by
    have h1 := size_bulk d0
    unfold Rows.uptoSmall at hk
    have h2 := of_decide_eq_true hk
    simp only [Rows.uptoBulkAll] at h2
    have h3 : lim = 1048576 := by unfold lim; rfl
    rw [h3]; omega
  have hf' : DataW.trod enc Go.AM.PG W 0 (fun _ => true) true fuel 26 cs.toList = some (d0, p0) := by rw [pg]; exact hf
  obtain ⟨hrep, hconf⟩ := trod_rep (P := Go.AM.PG) okT fuel 26 cs.toList d0 p0 hf' (by rw [Array.length_toList, hcs, pg]) (of_decide_eq_true (by kernel_rfl))
  refine (top3 hconf hsz W (v := .agg cs) (by simp only [Go.AM.Rep]; exact ⟨cs, rfl, layT, hrep⟩)).mono fun e W' ⟨he, hb⟩ => ?_
  subst he
  have hlt : ∀ x ∈ p0, x.block < W.heap.size := fun x hx => hW'.lt x hx
  have hres : ∀ (b : Nat) (sp : Nat → Bool) (hd : Bool), DataW.TrodAll enc Try.prog W' b sp hd Try.f3.resultTypes.toList ((Value.bool true).resultList Try.f3.resultTypes.size) (Rows.ilevalChecksSpec.fn H ([d0] ++ [])).results [] :=
    fun _ _ _ => trodAll_cons_mk (shut_bool Try.underlying4 _) trodAll_mk0
  have hargs' : ∀ sp : Nat → Bool, (∀ x ∈ p0, sp x.block = true) → DataW.TrodAll enc Try.prog W' 0 sp true Try.f3.params.toList (#[Value.agg cs] : Array Value).toList (Rows.ilevalChecksSpec.fn H ([d0] ++ [])).args (p0 ++ []) :=
    fun sp hsp => trodAll_cons_mk (WideElems.Trod_stays laidOut (by kernel_rfl) (of_decide_eq_true (by kernel_rfl)) h0 (fun x hx => hb.same (hlt x hx)) (fun x hx => hsp x hx)) trodAll_mk0
  have hold : ∀ x ∈ p0, (fun b => decide (b < W.heap.size)) x.block = true := fun x hx => by simpa using hlt x hx
  refine ⟨_, rfl, [d0], [], p0, [], p0 ++ [], [], hW', hres _ _ _, hargs' _ hold, rfl, World.keptBut_mono (fun x hx => ⟨hx, .inr (by simpa using hx)⟩) (hb.frame (· ∈ p0)), fun h => by cases h⟩

set_option maxRecDepth 100000 in
theorem lifted (os : Os) (started : os.Started) (H : Type) (enc : TypeId × Value → H) (F : Stop.Interp) :
    ReturnsInHanded {} Try.checked os 3 .any ((Rows.OpenSpec.upto Rows.ilevalChecksSpec).pre6 enc Try.prog Try.f3 Rows.ilevalChecksUptoRow.domain false) (((Rows.OpenSpec.upto Rows.ilevalChecksSpec).at F).post enc Try.prog Try.f3 false true false false) := by
  refine returnsInHanded_of_cond (C := Try.checked) (s := Rows.OpenSpec.upto Rows.ilevalChecksSpec) (k := Rows.uptoSmall) rfl own started (by kernel_rfl) Try.func3
    (OpenSpec.witness (enc := enc) (C := Try.checked) (s := Rows.OpenSpec.upto Rows.ilevalChecksSpec) (k := Rows.uptoSmall) rfl false ⟨#[], #[.agg #[.slice none 0 0, .slice none 0 0, .int .u32 0]], []⟩ 8 (by kernel_rfl) (by kernel_rfl) (by kernel_rfl)
      (x := ([.agg [.nil, .nil, .lit (.int .u32 0)]], [], [])) (by kernel_rfl) rfl (by kernel_rfl)) ?_
  intro W base args ds gs before hval hW _ hk _
  exact contract H enc W base args ds gs before hval hW hk

theorem over : Rows.ilevalChecksUptoRow.holds Try.pinned (Rows.OpenSpec.upto Rows.ilevalChecksSpec) :=
  OpenClaim.holds_of_cond 3 Try.f3 rfl rfl rfl rfl rfl rfl rfl ⟨rfl, rfl, rfl, rfl, rfl⟩ rfl rfl rfl rfl rfl (by kernel_rfl) Try.func3 (by kernel_rfl)
    (of_decide_eq_true (by kernel_rfl)) (by unfold Func.isWrapper; first | (rw [if_pos (by decide +kernel)]; kernel_rfl) | (rw [if_neg (by decide +kernel)]; exact ⟨rfl, rfl⟩))
    (fun os started H enc _ F => lifted os started H enc F)

theorem proved : Rows.IlevalChecksUptoSaid := over

end Go.Proofs.Ytcengfpfphdacaa.ilevalChecks
