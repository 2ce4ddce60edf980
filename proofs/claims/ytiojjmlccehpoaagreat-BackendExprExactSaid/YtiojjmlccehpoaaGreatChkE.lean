/-
  'BackendExprExactSaid': the row's step, with the walk taken from the lifted functions.
-/
import Derived.Test.YtiojjmlccehpoaaGreatRows
import Derived.Test.YtiojjmlccehpoaaGreatTopE
import Derived.WalkKit
import Derived.ProofKit
import Derived.OpenShut
import Derived.HandedShaped
import Derived.Below
import Derived.ChangeSame
import Derived.Carry
import Derived.Shelf.Vars
namespace Go.Proofs.YtiojjmlccehpoaaGreat
open Go.ChangeShapes Go.WideShapes Go.ChangeAt Go.RowKit
open Go.AM (toD toDs D trod_rep nowhere RepD Conf)
set_option linter.unusedVariables false

theorem own : ownKnob Tryz.prog.godebug = none := by kernel_rfl
theorem laidOut : laidOutB Tryz.prog = true := by kernel_rfl
theorem okT : Go.AM.okTypes Go.AM.PG = true := by kernel_rfl
theorem pg : Go.AM.PG = Tryz.prog := by unfold Go.AM.PG; rfl

/-- The library's variable holds some number, in every world of the program's shape. -/
theorem maxLen (W : World) (h : W.ShapedOpen Tryz.prog) : ∃ m, W.cell? ⟨0, 0, none⟩ = some (.int .i64 m) :=
  cell_of_shapedOpen_int (P := Tryz.prog) (t := 3) (zero := #[.int .i64 0]) h (of_decide_eq_true (by kernel_rfl)) (by kernel_rfl) (by kernel_rfl) (by kernel_rfl) (by kernel_rfl) Tryz.underlying3

set_option maxRecDepth 100000 in
theorem slice_rep {H : Type} {enc : TypeId × Value → H} {W : World} {base : Nat} {t e : TypeId} {v : Value} {d : DataW H} {ps : List MemPlace} (ht : Tryz.prog.underlying t = some (.slice e)) (hc : 1 = Tryz.prog.cellsOf t) (hs : t < Tryz.prog.types.size)
    (hval : Value.okWide Tryz.prog W .any base t v) (h : DataW.Trod enc Tryz.prog W 0 (fun _ => true) true t v d ps) : RepD Go.AM.PG (fun b => b < W.heap.size) W t (toD d) [v] ∧ Conf Go.AM.PG t (toD d) := by
  obtain ⟨fuel, hf⟩ := h
  obtain ⟨a, l, cap, rfl⟩ := okWide_slice ht hval
  have hcs : (Value.slice a l cap).cells.toList = [.slice a l cap] := rfl
  rw [hcs, ← pg] at hf
  have hf' := hf
  exact trod_rep (P := Go.AM.PG) okT fuel t [.slice a l cap] d ps hf' (by rw [pg]; exact hc) (by rw [pg]; exact hs)

theorem u32_range {n : Int} (h : (Lit.int .u32 n).wf = true) : 0 ≤ n ∧ n < 4294967296 := by
  simp only [Lit.wf, Bool.and_eq_true, decide_eq_true_eq] at h
  simp [IntKind.min, IntKind.max, IntKind.bits, IntKind.signed] at h
  omega

theorem cells26 : 1 = Tryz.prog.cellsOf 26 := by kernel_rfl
theorem size26 : 26 < Tryz.prog.types.size := of_decide_eq_true (by kernel_rfl)
theorem read26 : Tryz.prog.readableRec 26 = true := by kernel_rfl
theorem size25 : 25 < Tryz.prog.types.size := of_decide_eq_true (by kernel_rfl)
theorem read25 : Tryz.prog.readableRec 25 = true := by kernel_rfl
theorem layT : Go.AM.layOk Go.AM.PG Go.AM.rowDepth 25 = true := by kernel_rfl

set_option maxRecDepth 100000 in
theorem struct_rep {H : Type} {enc : TypeId × Value → H} {W : World} {base : Nat} {v : Value} {d : DataW H} {ps : List MemPlace} (hval : Value.okWide Tryz.prog W .any base 25 v) (h : DataW.Trod enc Tryz.prog W 0 (fun _ => true) true 25 v d ps) :
    Go.AM.Rep nowhere (fun b => b < W.heap.size) W (.dat 25 (toD d)) v ∧ Conf Go.AM.PG 25 (toD d) := by
  obtain ⟨fuel, hf⟩ := h
  obtain ⟨cs, rfl, hcs⟩ := okWide_struct Tryz.underlying25 hval
  have hf' : DataW.trod enc Go.AM.PG W 0 (fun _ => true) true fuel 25 cs.toList = some (d, ps) := by rw [pg]; exact hf
  obtain ⟨hrep, hconf⟩ := trod_rep (P := Go.AM.PG) okT fuel 25 cs.toList d ps hf' (by rw [Array.length_toList, hcs, pg]) (by rw [pg]; exact size25)
  exact ⟨by simp only [Go.AM.Rep]; exact ⟨cs, rfl, layT, hrep⟩, hconf⟩

end Go.Proofs.YtiojjmlccehpoaaGreat

namespace Go.Proofs.YtiojjmlccehpoaaGreat.backendExprExact
open Go.ChangeShapes Go.WideShapes Go.ChangeAt Go.RowKit
open Go.AM (toD toDs D trod_rep nowhere RepD Conf)
set_option linter.unusedVariables false

set_option maxRecDepth 100000 in
theorem lifted (os : Os) (started : os.Started) (H : Type) (enc : TypeId × Value → H) :
    ReturnsInHanded {} Tryz.checked os 3 .any (Rows.backendExprExactSpec.pre6 enc Tryz.prog Tryz.f3 Rows.backendExprExactRow.domain false) (Rows.backendExprExactSpec.post enc Tryz.prog Tryz.f3 false true false false) := by
  refine returnsInHanded_of_change_shaped (C := Tryz.checked) own started (by kernel_rfl) Tryz.func3
    (ChangeSpec.witness6 (enc := enc) (C := Tryz.checked) false ⟨#[], #[.agg #[.int .i64 0, .int .u32 0, .string ⟨#[]⟩, .int .i64 0, .slice none 0 0], .slice none 0 0, .int .u32 0], []⟩ 8 (by kernel_rfl) (by kernel_rfl) (by kernel_rfl) (by kernel_rfl)) ?_
  intro W base args ds gs before hval0 hW hcnd0 _ hsh _
  clear hcnd0
  have hval : ∀ (j : Nat) t v, Tryz.f3.params[j]? = some t → args[j]? = some v → Value.okWide Tryz.prog W .any base t v := hval0
  have hW' := hW
  obtain ⟨p, q, hA0, hV, rfl, hfz, hnd⟩ := hW
  have hA : DataW.TrodAll enc Tryz.prog W 0 (fun _ => true) true Tryz.f3.params.toList args.toList ds p := hA0
  rw [Tryz.params3] at hA hval
  obtain ⟨v0, v1, v2, d0, d1, d2, p0, p1, p2, rfl, rfl, rfl, h0, h1, h2⟩ := trodAll_three hA
  obtain ⟨rfl, rfl⟩ := trodVars_none hV
  obtain ⟨n, rfl, rfl, rfl, w2⟩ := open_int Tryz.underlying22 (hval 2 22 v2 rfl rfl) h2
  obtain ⟨r0, c0⟩ := struct_rep (hval 0 25 v0 rfl rfl) h0
  obtain ⟨r1, c1⟩ := slice_rep Tryz.underlying26 cells26 size26 (hval 1 26 v1 rfl rfl) h1
  clear hA0 hval0
  simp only [List.append_nil] at hW' hfz hnd
  refine (top3 c0 c1 W (maxLen W hsh) r0 r1).mono fun e W' ⟨he, hb⟩ => ?_
  subst he
  have hlt : ∀ x ∈ p0 ++ p1, x.block < W.heap.size := fun x hx => hW'.lt x hx
  have hres : ∀ (b : Nat) (sp : Nat → Bool) (hd : Bool), DataW.TrodAll enc Tryz.prog W' b sp hd Tryz.f3.resultTypes.toList ((Value.bool true).resultList Tryz.f3.resultTypes.size) (Rows.backendExprExactSpec.fn H ([d0, d1, .lit (.int .u32 n)] ++ [])).results [] :=
    fun _ _ _ => trodAll_cons_mk (shut_bool Tryz.underlying4 _) trodAll_mk0
  have hargs' : ∀ sp : Nat → Bool, (∀ x ∈ p0 ++ p1, sp x.block = true) → DataW.TrodAll enc Tryz.prog W' 0 sp true Tryz.f3.params.toList (#[v0, v1, .int .u32 n] : Array Value).toList (Rows.backendExprExactSpec.fn H ([d0, d1, .lit (.int .u32 n)] ++ [])).args (p0 ++ (p1 ++ [])) :=
    fun sp hsp => trodAll_mk3 (WideElems.Trod_stays laidOut read25 size25 h0 (fun x hx => hb.same (hlt x (List.mem_append_left _ hx))) (fun x hx => hsp x (List.mem_append_left _ hx)))
      (WideElems.Trod_stays laidOut read26 size26 h1 (fun x hx => hb.same (hlt x (List.mem_append_right _ hx))) (fun x hx => hsp x (List.mem_append_right _ hx))) (shut_int Tryz.underlying22 w2)
  have hold : ∀ x ∈ p0 ++ p1, (fun b => decide (b < W.heap.size)) x.block = true := fun x hx => by simpa using hlt x hx
  refine ⟨_, rfl, [d0, d1, .lit (.int .u32 n)], [], p0 ++ p1, [], p0 ++ (p1 ++ []), [], hW', hres _ _ _, hargs' _ hold, rfl, World.keptBut_mono (fun x hx => ⟨hx, .inr (by simpa using hx)⟩) (hb.frame (· ∈ p0 ++ p1)), fun h => by cases h⟩

theorem over : Rows.backendExprExactRow.holds Tryz.pinned (OpenSpec.ofChange Rows.backendExprExactSpec) :=
  OpenClaim.holds_of_wide 3 Tryz.f3 rfl rfl rfl rfl rfl rfl rfl ⟨rfl, rfl, rfl, rfl, rfl⟩ rfl rfl rfl rfl rfl (by kernel_rfl) Tryz.func3 (by kernel_rfl)
    (of_decide_eq_true (by kernel_rfl)) (by unfold Func.isWrapper; first | (rw [if_pos (by decide +kernel)]; kernel_rfl) | (rw [if_neg (by decide +kernel)]; exact ⟨rfl, rfl⟩))
    (fun os started H enc _ => lifted os started H enc)

theorem proved : Rows.BackendExprExactSaid := over

end Go.Proofs.YtiojjmlccehpoaaGreat.backendExprExact

