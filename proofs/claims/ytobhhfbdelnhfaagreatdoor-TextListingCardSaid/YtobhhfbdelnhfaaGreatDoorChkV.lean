/-
  'TextListingCardSaid': the row's step and its card, with the walk taken from the lifted functions.
-/
import Derived.Test.YtobhhfbdelnhfaaGreatDoorCards
import Derived.Test.YtobhhfbdelnhfaaGreatDoorTie
import Derived.Test.YtobhhfbdelnhfaaGreatDoorM3
import Derived.WalkKit
import Derived.ProofKit
import Derived.OpenShut
import Derived.Below
import Derived.ChangeSame
import Derived.ChangeMaps5
import Derived.Carry
import Derived.Lay
set_option linter.unusedVariables false
set_option linter.unusedSimpArgs false
namespace Go.Proofs.YtobhhfbdelnhfaaGreatDoor.textListing
open Go.ChangeShapes Go.WideShapes Go.ChangeAt Go.RowKit
open Go.AM (toD toDs D trod_rep nowhere RepD Conf)
set_option linter.unusedVariables false
theorem own : ownKnob Tryz.prog.godebug = none := by kernel_rfl
theorem laidOut : laidOutB Tryz.prog = true := by kernel_rfl
theorem size36 : 36 < Tryz.prog.types.size := of_decide_eq_true (by kernel_rfl)
theorem cells36 : 1 = Tryz.prog.cellsOf 36 := by kernel_rfl
theorem read36 : Tryz.prog.readableRec 36 = true := by kernel_rfl
set_option maxRecDepth 100000 in
theorem slice_rep {H : Type} {enc : TypeId × Value → H} {W : World} {base : Nat} {t e : TypeId} {v : Value} {d : DataW H} {ps : List MemPlace} (ht : Tryz.prog.underlying t = some (.slice e)) (hc : 1 = Tryz.prog.cellsOf t) (hs : t < Tryz.prog.types.size)
    (hval : Value.okWide Tryz.prog W .any base t v) (h : DataW.Trod enc Tryz.prog W 0 (fun _ => true) true t v d ps) : RepD Go.AM.PG (fun b => b < W.heap.size) W t (toD d) [v] ∧ Conf Go.AM.PG t (toD d) := by
  obtain ⟨fuel, hf⟩ := h
  obtain ⟨a, l, cap, rfl⟩ := okWide_slice ht hval
  have hcs : (Value.slice a l cap).cells.toList = [.slice a l cap] := rfl
  rw [hcs, ← pg] at hf
  have hf' := hf
  exact trod_rep (P := Go.AM.PG) okT fuel t [.slice a l cap] d ps hf' (by rw [pg]; exact hc) (by rw [pg]; exact hs)
set_option maxRecDepth 100000 in
theorem contract (H : Type) (enc : TypeId × Value → H) (W : World) (base : Nat) (args : Array Value) (ds gs : List (DataW H)) (before : List MemPlace)
    (hval : ∀ (j : Nat) t v, Tryz.f7.params[j]? = some t → args[j]? = some v → Value.okWide Tryz.prog W .any base t v)
    (hW : DataW.Whole enc Tryz.prog Tryz.f7.params.toList Rows.textListingSpec.vars false W args.toList ds gs before) (hL : laidMetH Tryz.prog Rows.textListingRow.laid W) (hsh : W.ShapedOpen Tryz.prog) :
    Calls Tryz.prog 7 args W fun e W' => ∃ v, e = .returned v ∧ Rows.textListingSpec.post enc Tryz.prog Tryz.f7 false true false false W args v W' := by
  have hW' := hW
  obtain ⟨p, q, hA0, hV, rfl, hfz, hnd⟩ := hW
  have hA : DataW.TrodAll enc Tryz.prog W 0 (fun _ => true) true Tryz.f7.params.toList args.toList ds p := hA0
  rw [Tryz.params7] at hA hval
  obtain ⟨v0, d0, rfl, rfl, h0⟩ := trodAll_one hA
  obtain ⟨rfl, rfl⟩ := trodVars_none hV
  obtain ⟨r0, c0⟩ := slice_rep Tryz.underlying36 cells36 size36 (hval 0 36 v0 rfl rfl) h0
  clear hA0
  simp only [List.append_nil] at hW' hfz hnd
  refine (top7 c0 W hL hsh r0).mono fun e W' ⟨he, hb⟩ => ?_
  subst he
  have hlt : ∀ x ∈ p, x.block < W.heap.size := fun x hx => hW'.lt x hx
  have hres : ∀ (b : Nat) (sp : Nat → Bool) (hd : Bool), DataW.TrodAll enc Tryz.prog W' b sp hd Tryz.f7.resultTypes.toList ((Value.bool true).resultList Tryz.f7.resultTypes.size) (Rows.textListingSpec.fn H ([d0] ++ [])).results [] :=
    fun _ _ _ => trodAll_cons_mk (shut_bool Tryz.underlying4 _) trodAll_mk0
  have hargs' : ∀ sp : Nat → Bool, (∀ x ∈ p, sp x.block = true) → DataW.TrodAll enc Tryz.prog W' 0 sp true Tryz.f7.params.toList (#[v0] : Array Value).toList (Rows.textListingSpec.fn H ([d0] ++ [])).args p :=
    fun sp hsp => trodAll_mk1 (WideElems.Trod_stays laidOut read36 size36 h0 (fun x hx => hb.same (hlt x hx)) (fun x hx => hsp x hx))
  have hold : ∀ x ∈ p, (fun b => decide (b < W.heap.size)) x.block = true := fun x hx => by simpa using hlt x hx
  refine ⟨_, rfl, [d0], [], p, [], p, [], hW', hres _ _ _, hargs' _ hold, rfl, World.keptBut_mono (fun x hx => ⟨hx, .inr (by simpa using hx)⟩) (hb.frame (· ∈ p)), fun h => by cases h⟩
noncomputable def arg0 : Array Value := #[.slice none 0 0]
theorem laid_met (os : Os) : laidMet Tryz.prog Rows.textListingRow.laid ((World.laidAll Tryz.prog os Rows.textListingRow.laid).forCall (fun _ _ => 0) ⟨#[], arg0, []⟩).memory :=
  laidMet_laidAll _ (by kernel_rfl) (by kernel_rfl)
theorem reads (os : Os) {H : Type} (enc : TypeId × Value → H) : ∃ ds places, DataW.whole enc Tryz.prog ((World.laidAll Tryz.prog os Rows.textListingRow.laid).forCall (fun _ _ => 0) ⟨#[], arg0, []⟩).memory Tryz.f7.params.toList Rows.textListingSpec.vars false arg0.toList 8 = some (ds, [], places) :=
  ⟨[.nil], [], by kernel_rfl⟩
set_option maxRecDepth 100000 in
theorem lifted (os : Os) (started : os.Started) (H : Type) (enc : TypeId × Value → H) (F : Stop.Interp) :
    ReturnsInHanded {} Tryz.checked os 7 .any ((OpenSpec.ofChange Rows.textListingSpec).preRow enc Tryz.prog Tryz.f7 Rows.textListingRow.domain false Rows.textListingRow.laid) (((OpenSpec.ofChange Rows.textListingSpec).at F).post enc Tryz.prog Tryz.f7 false true false false) := by
  obtain ⟨ds, places, hx⟩ := reads os enc
  refine returnsInHanded_of_row (C := Tryz.checked) (s := OpenSpec.ofChange Rows.textListingSpec) own started (by kernel_rfl) Tryz.func7
    (witness_row_at (enc := enc) (C := Tryz.checked) false (World.laidAll Tryz.prog os Rows.textListingRow.laid) arg0 (World.laidAll_os _ _ _) (by kernel_rfl) (by kernel_rfl) (by kernel_rfl)
      (OpenSpec.preRow_of_cond 8 hx (by kernel_rfl) (fun k hk => by cases hk) (by kernel_rfl) (laid_met os))) ?_
  intro W base args ds gs before hval hW _ _ _ hL hsh _
  exact contract H enc W base args ds gs before hval hW hL hsh
theorem said : Rows.TextListingSaid :=
  OpenClaim.holds_of_cond 7 Tryz.f7 rfl rfl rfl rfl rfl rfl rfl ⟨rfl, rfl, rfl, rfl, rfl⟩ rfl rfl rfl rfl rfl (by kernel_rfl) Tryz.func7 (by kernel_rfl)
    (of_decide_eq_true (by kernel_rfl)) (by unfold Func.isWrapper; first | (rw [if_pos (by decide +kernel)]; kernel_rfl) | (rw [if_neg (by decide +kernel)]; exact ⟨rfl, rfl⟩))
    (fun os started H enc _ F => by rw [OpenClaim.pre_eq_preRow]; exact lifted os started H enc F)
theorem plain (f : FuncId) (fn : Func) (hf : Tryz.pinned.checked.prog.funcNamed "decompiler/decompilerlaw04.TextListing" = some f) (hfn : Tryz.pinned.checked.prog.funcs[f]? = some fn) :
    false = Tryz.pinned.checked.prog.looks [] ∧ ∀ (j : Nat) t, fn.params[j]? = some t → Tryz.pinned.checked.prog.wantsStandIn t = false := by
  obtain rfl : f = 7 := Option.some.inj ((show Tryz.prog.funcNamed "decompiler/decompilerlaw04.TextListing" = some 7 by kernel_rfl).symm.trans hf) |>.symm
  obtain rfl : fn = Tryz.f7 := (Option.some.inj (Tryz.func7.symm.trans hfn)).symm
  refine ⟨by kernel_rfl, fun j t ht => ?_⟩
  rw [Tryz.params7] at ht
  have hm : t ∈ (#[36] : Array TypeId) := Array.mem_of_getElem? ht
  have h2 : t = 36 := by simpa using hm
  subst h2
  exact (show Tryz.prog.wantsStandIn 36 = false by kernel_rfl)
theorem card : Rows.TextListingCardSaid :=
  Claim7.holds_tied_plain_at .later [] _ _ _ _ said (fun _ h => by cases h) (by kernel_rfl) (fun _ h => by cases h) textListing_row_tie rfl ⟨rfl, rfl⟩ (by kernel_rfl) rfl plain (by kernel_rfl)
end Go.Proofs.YtobhhfbdelnhfaaGreatDoor.textListing
