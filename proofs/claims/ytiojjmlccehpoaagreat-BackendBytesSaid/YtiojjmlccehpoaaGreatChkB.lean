/-
  'BackendBytesSaid': the row's step, with the walk taken from the lifted functions.
-/
import Derived.Test.YtiojjmlccehpoaaGreatRows
import Derived.Test.YtiojjmlccehpoaaGreatTopB
import Derived.WalkKit
import Derived.ProofKit
import Derived.OpenShut
import Derived.HandedShaped
import Derived.Below
import Derived.ChangeSame
import Derived.Carry
import Derived.Shelf.Vars
namespace Go.Proofs.YtiojjmlccehpoaaGreat
open Go.ChangeShapes Go.WideShapes Go.ChangeAt Go.RowKit
open Go.AM (toD toDs D trod_rep nowhere RepD Conf)
set_option linter.unusedVariables false

theorem own : ownKnob Tryz.prog.godebug = none := by kernel_rfl
theorem laidOut : laidOutB Tryz.prog = true := by kernel_rfl
theorem okT : Go.AM.okTypes Go.AM.PG = true := by kernel_rfl
theorem pg : Go.AM.PG = Tryz.prog := by unfold Go.AM.PG; rfl

/-- The library's variable holds some number, in every world of the program's shape. -/
theorem maxLen (W : World) (h : W.ShapedOpen Tryz.prog) : ∃ m, W.cell? ⟨0, 0, none⟩ = some (.int .i64 m) :=
  cell_of_shapedOpen_int (P := Tryz.prog) (t := 3) (zero := #[.int .i64 0]) h (of_decide_eq_true (by kernel_rfl)) (by kernel_rfl) (by kernel_rfl) (by kernel_rfl) (by kernel_rfl) Tryz.underlying3

set_option maxRecDepth 100000 in
theorem slice_rep {H : Type} {enc : TypeId × Value → H} {W : World} {base : Nat} {t e : TypeId} {v : Value} {d : DataW H} {ps : List MemPlace} (ht : Tryz.prog.underlying t = some (.slice e)) (hc : 1 = Tryz.prog.cellsOf t) (hs : t < Tryz.prog.types.size)
    (hval : Value.okWide Tryz.prog W .any base t v) (h : DataW.Trod enc Tryz.prog W 0 (fun _ => true) true t v d ps) : RepD Go.AM.PG (fun b => b < W.heap.size) W t (toD d) [v] ∧ Conf Go.AM.PG t (toD d) := by
  obtain ⟨fuel, hf⟩ := h
  obtain ⟨a, l, cap, rfl⟩ := okWide_slice ht hval
  have hcs : (Value.slice a l cap).cells.toList = [.slice a l cap] := rfl
  rw [hcs, ← pg] at hf
  have hf' := hf
  exact trod_rep (P := Go.AM.PG) okT fuel t [.slice a l cap] d ps hf' (by rw [pg]; exact hc) (by rw [pg]; exact hs)

theorem u32_range {n : Int} (h : (Lit.int .u32 n).wf = true) : 0 ≤ n ∧ n < 4294967296 := by
  simp only [Lit.wf, Bool.and_eq_true, decide_eq_true_eq] at h
  simp [IntKind.min, IntKind.max, IntKind.bits, IntKind.signed] at h
  omega

theorem cells29 : 1 = Tryz.prog.cellsOf 29 := by kernel_rfl
theorem cells40 : 1 = Tryz.prog.cellsOf 40 := by kernel_rfl
theorem size29 : 29 < Tryz.prog.types.size := of_decide_eq_true (by kernel_rfl)
theorem size40 : 40 < Tryz.prog.types.size := of_decide_eq_true (by kernel_rfl)
theorem read29 : Tryz.prog.readableRec 29 = true := by kernel_rfl
theorem read40 : Tryz.prog.readableRec 40 = true := by kernel_rfl

end Go.Proofs.YtiojjmlccehpoaaGreat

namespace Go.Proofs.YtiojjmlccehpoaaGreat.backendBytes
open Go.ChangeShapes Go.WideShapes Go.ChangeAt Go.RowKit
open Go.AM (toD toDs D trod_rep nowhere RepD Conf)
set_option linter.unusedVariables false

set_option maxRecDepth 100000 in
theorem lifted (os : Os) (started : os.Started) (H : Type) (enc : TypeId × Value → H) :
    ReturnsInHanded {} Tryz.checked os 9 .any (Rows.backendBytesSpec.pre6 enc Tryz.prog Tryz.f9 Rows.backendBytesRow.domain false) (Rows.backendBytesSpec.post enc Tryz.prog Tryz.f9 false true false false) := by
  refine returnsInHanded_of_change_shaped (C := Tryz.checked) own started (by kernel_rfl) Tryz.func9
    (ChangeSpec.witness6 (enc := enc) (C := Tryz.checked) false ⟨#[], #[.slice none 0 0, .int .u32 0], []⟩ 8 (by kernel_rfl) (by kernel_rfl) (by kernel_rfl) (by kernel_rfl)) ?_
  intro W base args ds gs before hval0 hW hcnd0 _ hsh _
  clear hcnd0
  have hval : ∀ (j : Nat) t v, Tryz.f9.params[j]? = some t → args[j]? = some v → Value.okWide Tryz.prog W .any base t v := hval0
  have hW' := hW
  obtain ⟨p, q, hA0, hV, rfl, hfz, hnd⟩ := hW
  have hA : DataW.TrodAll enc Tryz.prog W 0 (fun _ => true) true Tryz.f9.params.toList args.toList ds p := hA0
  rw [Tryz.params9] at hA hval
  obtain ⟨v0, v2, d0, d2, p0, p2, rfl, rfl, rfl, h0, h2⟩ := trodAll_two hA
  obtain ⟨rfl, rfl⟩ := trodVars_none hV
  obtain ⟨n, rfl, rfl, rfl, w2⟩ := open_int Tryz.underlying22 (hval 1 22 v2 rfl rfl) h2
  obtain ⟨r0, c0⟩ := slice_rep Tryz.underlying29 cells29 size29 (hval 0 29 v0 rfl rfl) h0
  clear hA0 hval0
  simp only [List.append_nil] at hW' hfz hnd
  refine (top9 c0 (u32_range w2) W (maxLen W hsh) r0).mono fun e W' ⟨he, hb⟩ => ?_
  subst he
  have hlt : ∀ x ∈ p0, x.block < W.heap.size := fun x hx => hW'.lt x hx
  have hres : ∀ (b : Nat) (sp : Nat → Bool) (hd : Bool), DataW.TrodAll enc Tryz.prog W' b sp hd Tryz.f9.resultTypes.toList ((Value.bool true).resultList Tryz.f9.resultTypes.size) (Rows.backendBytesSpec.fn H ([d0, .lit (.int .u32 n)] ++ [])).results [] :=
    fun _ _ _ => trodAll_cons_mk (shut_bool Tryz.underlying4 _) trodAll_mk0
  have hargs' : ∀ sp : Nat → Bool, (∀ x ∈ p0, sp x.block = true) → DataW.TrodAll enc Tryz.prog W' 0 sp true Tryz.f9.params.toList (#[v0, .int .u32 n] : Array Value).toList (Rows.backendBytesSpec.fn H ([d0, .lit (.int .u32 n)] ++ [])).args (p0 ++ []) :=
    fun sp hsp => trodAll_mk2 (WideElems.Trod_stays laidOut read29 size29 h0 (fun x hx => hb.same (hlt x hx)) (fun x hx => hsp x hx)) (shut_int Tryz.underlying22 w2)
  have hold : ∀ x ∈ p0, (fun b => decide (b < W.heap.size)) x.block = true := fun x hx => by simpa using hlt x hx
  refine ⟨_, rfl, [d0, .lit (.int .u32 n)], [], p0, [], p0 ++ [], [], hW', hres _ _ _, hargs' _ hold, rfl, World.keptBut_mono (fun x hx => ⟨hx, .inr (by simpa using hx)⟩) (hb.frame (· ∈ p0)), fun h => by cases h⟩

theorem over : Rows.backendBytesRow.holds Tryz.pinned (OpenSpec.ofChange Rows.backendBytesSpec) :=
  OpenClaim.holds_of_wide 9 Tryz.f9 rfl rfl rfl rfl rfl rfl rfl ⟨rfl, rfl, rfl, rfl, rfl⟩ rfl rfl rfl rfl rfl (by kernel_rfl) Tryz.func9 (by kernel_rfl)
    (of_decide_eq_true (by kernel_rfl)) (by unfold Func.isWrapper; first | (rw [if_pos (by decide +kernel)]; kernel_rfl) | (rw [if_neg (by decide +kernel)]; exact ⟨rfl, rfl⟩))
    (fun os started H enc _ => lifted os started H enc)

theorem proved : Rows.BackendBytesSaid := over

end Go.Proofs.YtiojjmlccehpoaaGreat.backendBytes
