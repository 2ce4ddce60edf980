/-
  'CompileErrorsCardSaid': the row's step and its card, with the walk taken from the lifted functions.
-/
import Derived.Test.YteccopaonadbeaaGreatDoorCards
import Derived.Test.YteccopaonadbeaaGreatDoorTie
import Derived.Test.YteccopaonadbeaaGreatDoorM5
import Derived.WalkKit
import Derived.ProofKit
import Derived.OpenShut
import Derived.Below
import Derived.ChangeSame
import Derived.Carry
import Derived.ChangeMaps5
import Derived.Deep.DeepWitnessRowRef
import Derived.Lay
namespace Go.Proofs.YteccopaonadbeaaGreatDoor.compileErrors
open Go.ChangeShapes Go.WideShapes Go.ChangeAt Go.RowKit
open Go.AM (toD toDs D trod_rep nowhere RepD Conf)
set_option linter.unusedVariables false

theorem own : ownKnob Tryz.prog.godebug = none := by kernel_rfl
theorem laidOut : laidOutB Tryz.prog = true := by kernel_rfl
theorem size33 : 33 < Tryz.prog.types.size := of_decide_eq_true (by kernel_rfl)
theorem read33 : Tryz.prog.readableRec 33 = true := by kernel_rfl
theorem layT : Go.AM.layOk Go.AM.PG Go.AM.rowDepth 33 = true := by kernel_rfl

set_option maxRecDepth 100000 in
theorem struct_rep {H : Type} {enc : TypeId × Value → H} {W : World} {base : Nat} {v : Value} {d : DataW H} {ps : List MemPlace} (hval : Value.okWide Tryz.prog W .any base 33 v) (h : DataW.Trod enc Tryz.prog W 0 (fun _ => true) true 33 v d ps) :
    Go.AM.Rep nowhere (fun b => b < W.heap.size) W (.dat 33 (toD d)) v ∧ Conf Go.AM.PG 33 (toD d) := by
  obtain ⟨fuel, hf⟩ := h
  obtain ⟨cs, rfl, hcs⟩ := okWide_struct Tryz.underlying33 hval
  have hf' : DataW.trod enc Go.AM.PG W 0 (fun _ => true) true fuel 33 cs.toList = some (d, ps) := by rw [pg]; exact hf
  obtain ⟨hrep, hconf⟩ := trod_rep (P := Go.AM.PG) okT fuel 33 cs.toList d ps hf' (by rw [Array.length_toList, hcs, pg]) (by rw [pg]; exact size33)
  exact ⟨by simp only [Go.AM.Rep]; exact ⟨cs, rfl, layT, hrep⟩, hconf⟩

set_option maxRecDepth 100000 in
theorem contract (H : Type) (enc : TypeId × Value → H) (W : World) (base : Nat) (args : Array Value) (ds gs : List (DataW H)) (before : List MemPlace)
    (hval : ∀ (j : Nat) t v, Tryz.f7.params[j]? = some t → args[j]? = some v → Value.okWide Tryz.prog W .any base t v)
    (hW : DataW.Whole enc Tryz.prog Tryz.f7.params.toList Rows.compileErrorsSpec.vars false W args.toList ds gs before) (hL : laidMetH Tryz.prog Rows.compileErrorsRow.laid W) (hsh : W.ShapedOpen Tryz.prog) :
    Calls Tryz.prog 7 args W fun e W' => ∃ v, e = .returned v ∧ Rows.compileErrorsSpec.post enc Tryz.prog Tryz.f7 false true false false W args v W' := by
  have hW' := hW
  obtain ⟨p, q, hA0, hV, rfl, hfz, hnd⟩ := hW
  have hA : DataW.TrodAll enc Tryz.prog W 0 (fun _ => true) true Tryz.f7.params.toList args.toList ds p := hA0
  rw [Tryz.params7] at hA hval
  obtain ⟨v0, d0, rfl, rfl, h0⟩ := trodAll_one hA
  obtain ⟨rfl, rfl⟩ := trodVars_none hV
  obtain ⟨r0, c0⟩ := struct_rep (hval 0 33 v0 rfl rfl) h0
  clear hA0
  simp only [List.append_nil] at hW' hfz hnd
  refine (top7 c0 W r0 hL hsh).mono fun e W' ⟨he, hb⟩ => ?_
  subst he
  have hlt : ∀ x ∈ p, x.block < W.heap.size := fun x hx => hW'.lt x hx
  have hres : ∀ (b : Nat) (sp : Nat → Bool) (hd : Bool), DataW.TrodAll enc Tryz.prog W' b sp hd Tryz.f7.resultTypes.toList ((Value.bool true).resultList Tryz.f7.resultTypes.size) (Rows.compileErrorsSpec.fn H ([d0] ++ [])).results [] :=
    fun _ _ _ => trodAll_cons_mk (shut_bool Tryz.underlying4 _) trodAll_mk0
  have hargs' : ∀ sp : Nat → Bool, (∀ x ∈ p, sp x.block = true) → DataW.TrodAll enc Tryz.prog W' 0 sp true Tryz.f7.params.toList (#[v0] : Array Value).toList (Rows.compileErrorsSpec.fn H ([d0] ++ [])).args p :=
    fun sp hsp => trodAll_mk1 (WideElems.Trod_stays laidOut read33 size33 h0 (fun x hx => hb.same (hlt x hx)) (fun x hx => hsp x hx))
  have hold : ∀ x ∈ p, (fun b => decide (b < W.heap.size)) x.block = true := fun x hx => by simpa using hlt x hx
  refine ⟨_, rfl, [d0], [], p, [], p, [], hW', hres _ _ _, hargs' _ hold, rfl, World.keptBut_mono (fun x hx => ⟨hx, .inr (by simpa using hx)⟩) (hb.frame (· ∈ p)), fun h => by cases h⟩

/-- The witness's argument. -/
noncomputable def arg0 : Array Value := #[.agg #[.slice none 0 0, .slice none 0 0, .slice none 0 0]]
theorem laid_met (os : Os) : laidMet Tryz.prog Rows.compileErrorsRow.laid ((World.laidAll Tryz.prog os Rows.compileErrorsRow.laid).forCall (fun _ _ => 0) ⟨#[], arg0, []⟩).memory :=
  laidMet_laidAll _ (by kernel_rfl) (by kernel_rfl)
theorem reads (os : Os) {H : Type} (enc : TypeId × Value → H) : ∃ ds places, DataW.whole enc Tryz.prog ((World.laidAll Tryz.prog os Rows.compileErrorsRow.laid).forCall (fun _ _ => 0) ⟨#[], arg0, []⟩).memory Tryz.f7.params.toList Rows.compileErrorsSpec.vars false arg0.toList 8 = some (ds, [], places) :=
  ⟨[.agg [.nil, .nil, .nil]], [], by kernel_rfl⟩

set_option maxRecDepth 100000 in
theorem lifted (os : Os) (started : os.Started) (H : Type) (enc : TypeId × Value → H) (F : Stop.Interp) :
    ReturnsInHanded {} Tryz.checked os 7 .any ((OpenSpec.ofChange Rows.compileErrorsSpec).preRow enc Tryz.prog Tryz.f7 Rows.compileErrorsRow.domain false Rows.compileErrorsRow.laid) (((OpenSpec.ofChange Rows.compileErrorsSpec).at F).post enc Tryz.prog Tryz.f7 false true false false) := by
  obtain ⟨ds, places, hx⟩ := reads os enc
  refine returnsInHanded_of_row (C := Tryz.checked) (s := OpenSpec.ofChange Rows.compileErrorsSpec) own started (by kernel_rfl) Tryz.func7
    (witness_row_atRef (enc := enc) (C := Tryz.checked) false (World.laidAll Tryz.prog os Rows.compileErrorsRow.laid) arg0 (World.laidAll_os _ _ _) (by kernel_rfl) (by kernel_rfl) (by kernel_rfl)
      (OpenSpec.preRow_of_cond 8 hx (by kernel_rfl) (fun k hk => by cases hk) (by kernel_rfl) (laid_met os))) ?_
  intro W base args ds gs before hval hW _ _ _ hL hsh _
  exact contract H enc W base args ds gs before hval hW hL hsh

theorem k_wf : Rows.compileErrorsRow.wf (OpenSpec.ofChange Rows.compileErrorsSpec) = true := by kernel_rfl
theorem k_read : Tryz.f7.params.all (Tryz.prog.readableRec ·) = true := by kernel_rfl
theorem k_inPlace : (Rows.compileErrorsRow.inPlace == Tryz.prog.inPlace 7) = true := by kernel_rfl
theorem k_unf : (Rows.compileErrorsRow.unfollowed == Tryz.prog.unfollowed 7) = true := by kernel_rfl
theorem k_rec : (Rows.compileErrorsRow.recurses == Tryz.prog.recurses 7) = true := by kernel_rfl
theorem k_named : (Rows.compileErrorsRow.named == Tryz.prog.varsNamed 7) = true := by kernel_rfl
theorem closed : joinedFacts Tryz.prog 7 Tryz.f7 Rows.compileErrorsSpec Rows.compileErrorsRow = true := by
  unfold joinedFacts
  simp only [Bool.and_eq_true]
  repeat' apply And.intro
  · exact k_wf
  · exact laidOut
  · kernel_rfl
  · exact k_read
  · kernel_rfl
  · kernel_rfl
  · kernel_rfl
  · kernel_rfl
  · kernel_rfl
  · exact k_inPlace
  · exact k_unf
  · exact k_rec
  · exact k_named
  · kernel_rfl
  · kernel_rfl
  · kernel_rfl
  · kernel_rfl
  · kernel_rfl
  · kernel_rfl
  · kernel_rfl
  · kernel_rfl
  · kernel_rfl
  · kernel_rfl
  · kernel_rfl
  · kernel_rfl
  · kernel_rfl
  · kernel_rfl
  · kernel_rfl
  · kernel_rfl
  · kernel_rfl
  · kernel_rfl
  · kernel_rfl

set_option maxRecDepth 100000 in
theorem closed' : joinedFacts Tryz.prog 7 Tryz.f7 (OpenSpec.ofChange Rows.compileErrorsSpec).bare Rows.compileErrorsRow = true := closed

set_option maxRecDepth 100000 in
theorem said : Rows.CompileErrorsSaid :=
  OpenClaim.holds_of_cond 7 Tryz.f7 rfl rfl rfl rfl rfl rfl rfl ⟨rfl, rfl, rfl, rfl, rfl⟩ rfl rfl rfl rfl rfl (by kernel_rfl) Tryz.func7 closed'
    (of_decide_eq_true (by kernel_rfl)) (by unfold Func.isWrapper; first | (rw [if_pos (by decide +kernel)]; kernel_rfl) | (rw [if_neg (by decide +kernel)]; exact ⟨rfl, rfl⟩))
    (fun os started H enc _ F => by rw [OpenClaim.pre_eq_preRow]; exact lifted os started H enc F)

/-- No parameter wants a stand-in; the program's own looks are off. -/
theorem plain (f : FuncId) (fn : Func) (hf : Tryz.pinned.checked.prog.funcNamed "decompiler/decompilerlaw44.CompileErrors" = some f) (hfn : Tryz.pinned.checked.prog.funcs[f]? = some fn) :
    false = Tryz.pinned.checked.prog.looks [] ∧ ∀ (j : Nat) t, fn.params[j]? = some t → Tryz.pinned.checked.prog.wantsStandIn t = false := by
  obtain rfl : f = 7 := Option.some.inj ((show Tryz.prog.funcNamed "decompiler/decompilerlaw44.CompileErrors" = some 7 by kernel_rfl).symm.trans hf) |>.symm
  obtain rfl : fn = Tryz.f7 := (Option.some.inj (Tryz.func7.symm.trans hfn)).symm
  refine ⟨by kernel_rfl, fun j t ht => ?_⟩
  rw [Tryz.params7] at ht
  have hm : t ∈ (#[33] : Array TypeId) := Array.mem_of_getElem? ht
  have h2 : t = 33 := by simpa using hm
  subst h2
  exact (show Tryz.prog.wantsStandIn 33 = false by kernel_rfl)

theorem card : Rows.CompileErrorsCardSaid :=
  Claim7.holds_tied_plain_at .later [] _ _ _ _ said (fun _ h => by cases h) (by kernel_rfl) (fun _ h => by cases h) compileErrors_row_tie rfl ⟨rfl, rfl⟩ (by kernel_rfl) rfl plain (by kernel_rfl)

end Go.Proofs.YteccopaonadbeaaGreatDoor.compileErrors
