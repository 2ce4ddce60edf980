/-
  'TextAssembleCardSaid': the row's step and its card, with the walk taken from the lifted functions.
-/
import Derived.Test.YtobhhfbdelnhfaaGreatDoorCards
import Derived.Test.YtobhhfbdelnhfaaGreatDoorTie
import Derived.Test.YtobhhfbdelnhfaaGreatDoorM4
import Derived.WalkKit
import Derived.ProofKit
import Derived.OpenShut
import Derived.Below
import Derived.ChangeSame
import Derived.ChangeMaps5
import Derived.Carry
import Derived.Lay
set_option linter.unusedVariables false
set_option linter.unusedSimpArgs false
namespace Go.Proofs.YtobhhfbdelnhfaaGreatDoor.textAssemble
open Go.ChangeShapes Go.WideShapes Go.ChangeAt Go.RowKit Go.ChangeMaps
open Go.AM (toD toDs D trod_rep nowhere RepD Conf)
set_option linter.unusedVariables false
set_option maxRecDepth 100000
theorem own:ownKnob Tryz.prog.godebug=none:=by kernel_rfl
set_option maxRecDepth 100000 in
theorem contract (H:Type) (enc:TypeId×Value→H) (W:World) (base:Nat) (args:Array Value) (ds gs:List (DataW H)) (before:List MemPlace)
 (hval:∀(j:Nat) t v,Tryz.f5.params[j]? = some t→args[j]? = some v→Value.okWide Tryz.prog W .any base t v)
 (hW:DataW.Whole enc Tryz.prog Tryz.f5.params.toList Rows.textAssembleSpec.vars false W args.toList ds gs before) (hL:laidMetH Tryz.prog Rows.textAssembleRow.laid W) (hsh:W.ShapedOpen Tryz.prog):
 Calls Tryz.prog 5 args W fun e W'=>∃v,e = .returned v∧Rows.textAssembleSpec.post enc Tryz.prog Tryz.f5 false true false false W args v W':=by
 have hW':=hW
 obtain⟨p,q,hA0,hV,rfl,hfz,hnd⟩:=hW
 have hA:DataW.TrodAll enc Tryz.prog W 0 (fun _=>true) true Tryz.f5.params.toList args.toList ds p:=hA0
 rw[Tryz.params5]at hA hval
 obtain⟨v0,v2,d0,d2,p0,p2,rfl,rfl,rfl,h0,h2⟩:=trodAll_two hA
 obtain⟨rfl,rfl⟩:=trodVars_none hV
 obtain⟨b,rfl,rfl,rfl,hb0⟩:=open_string Tryz.underlying9 (hval 0 9 v0 rfl rfl) h0
 obtain⟨n,rfl,rfl,rfl,w2⟩:=open_int Tryz.underlying22 (hval 1 22 v2 rfl rfl) h2
 clear hA0
 simp only[List.append_nil]at hW' hfz hnd
 refine(top5 W hL hsh).mono fun e W' ⟨he,hb⟩=> ?_
 subst he
 have hres:∀(b':Nat) (sp:Nat→Bool) (hd:Bool),DataW.TrodAll enc Tryz.prog W' b' sp hd Tryz.f5.resultTypes.toList ((Value.bool true).resultList Tryz.f5.resultTypes.size) (Rows.textAssembleSpec.fn H ([.lit (.string b.data.toList), .lit (.int .u32 n)] ++ [])).results []:=
  fun _ _ _=>trodAll_cons_mk (shut_bool Tryz.underlying4 _) trodAll_mk0
 have hargs':∀sp:Nat→Bool,DataW.TrodAll enc Tryz.prog W' 0 sp true Tryz.f5.params.toList (#[.string b, .int .u32 n]:Array Value).toList (Rows.textAssembleSpec.fn H ([.lit (.string b.data.toList), .lit (.int .u32 n)] ++ [])).args []:=
  fun sp=>trodAll_mk2 (shut_string Tryz.underlying9 hb0) (shut_int Tryz.underlying22 w2)
 refine⟨_,rfl,[.lit (.string b.data.toList), .lit (.int .u32 n)],[],[],[],[],[],hW',hres _ _ _,hargs' _,rfl,World.keptBut_mono (fun x hx=>⟨hx, .inr (by simp at hx)⟩) (hb.frame (· ∈ [])),fun h=>by cases h⟩
noncomputable def arg0:Array Value:= #[.string ⟨#[]⟩, .int .u32 0]
theorem laid_met (os:Os):laidMet Tryz.prog Rows.textAssembleRow.laid ((World.laidAll Tryz.prog os Rows.textAssembleRow.laid).forCall (fun _ _=>0) ⟨#[],arg0,[]⟩).memory:=
 laidMet_laidAll _ (by kernel_rfl) (by kernel_rfl)
theorem reads (os:Os) {H:Type} (enc:TypeId×Value→H):∃ds places,DataW.whole enc Tryz.prog ((World.laidAll Tryz.prog os Rows.textAssembleRow.laid).forCall (fun _ _=>0) ⟨#[],arg0,[]⟩).memory Tryz.f5.params.toList Rows.textAssembleSpec.vars false arg0.toList 8=some (ds,[],places):=
 ⟨[.lit (.string []), .lit (.int .u32 0)],[],by kernel_rfl⟩
set_option maxRecDepth 100000 in
theorem lifted (os:Os) (started:os.Started) (H:Type) (enc:TypeId×Value→H) (F:Stop.Interp):
 ReturnsInHanded {} Tryz.checked os 5 .any ((OpenSpec.ofChange Rows.textAssembleSpec).preRow enc Tryz.prog Tryz.f5 Rows.textAssembleRow.domain false Rows.textAssembleRow.laid) (((OpenSpec.ofChange Rows.textAssembleSpec).at F).post enc Tryz.prog Tryz.f5 false true false false):=by
 obtain⟨ds,places,hx⟩:=reads os enc
 refine returnsInHanded_of_row (C:=Tryz.checked) (s:=OpenSpec.ofChange Rows.textAssembleSpec) own started (by kernel_rfl) Tryz.func5
  (witness_row_at (enc:=enc) (C:=Tryz.checked) false (World.laidAll Tryz.prog os Rows.textAssembleRow.laid) arg0 (World.laidAll_os _ _ _) (by kernel_rfl) (by kernel_rfl) (by kernel_rfl)
   (OpenSpec.preRow_of_cond 8 hx (by kernel_rfl) (fun k hk=>by cases hk) (by kernel_rfl) (laid_met os))) ?_
 intro W base args ds gs before hval hW _ _ _ hL hsh _
 exact contract H enc W base args ds gs before hval hW hL hsh
theorem said:Rows.TextAssembleSaid:=
 OpenClaim.holds_of_cond 5 Tryz.f5 rfl rfl rfl rfl rfl rfl rfl ⟨rfl,rfl,rfl,rfl,rfl⟩ rfl rfl rfl rfl rfl (by kernel_rfl) Tryz.func5 (by kernel_rfl)
  (of_decide_eq_true (by kernel_rfl)) (by unfold Func.isWrapper;first|(rw[if_pos (by decide +kernel)];kernel_rfl)|(rw[if_neg (by decide +kernel)];exact⟨rfl,rfl⟩))
  (fun os started H enc _ F=>by rw[OpenClaim.pre_eq_preRow];exact lifted os started H enc F)
theorem plain (f:FuncId) (fn:Func) (hf:Tryz.pinned.checked.prog.funcNamed "decompiler/decompilerlaw04.TextAssemble" = some f) (hfn:Tryz.pinned.checked.prog.funcs[f]? = some fn):
 false=Tryz.pinned.checked.prog.looks []∧∀(j:Nat) t,fn.params[j]? = some t→Tryz.pinned.checked.prog.wantsStandIn t=false:=by
 obtain rfl:f=5:=Option.some.inj ((show Tryz.prog.funcNamed "decompiler/decompilerlaw04.TextAssemble" = some 5 by kernel_rfl).symm.trans hf) |>.symm
 obtain rfl:fn=Tryz.f5:=(Option.some.inj (Tryz.func5.symm.trans hfn)).symm
 refine⟨by kernel_rfl,fun j t ht=> ?_⟩
 rw[Tryz.params5]at ht
 have hm:t∈(#[9,22]:Array TypeId):=Array.mem_of_getElem? ht
 have h2:t=9∨t=22:=by simpa using hm
 rcases h2 with rfl|rfl
 ·exact(show Tryz.prog.wantsStandIn 9=false by kernel_rfl)
 ·exact(show Tryz.prog.wantsStandIn 22=false by kernel_rfl)
theorem card:Rows.TextAssembleCardSaid:=
 Claim7.holds_tied_plain_at .later [] _ _ _ _ said (fun _ h=>by cases h) (by kernel_rfl) (fun _ h=>by cases h) textAssemble_row_tie rfl ⟨rfl,rfl⟩ (by kernel_rfl) rfl plain (by kernel_rfl)
end Go.Proofs.YtobhhfbdelnhfaaGreatDoor.textAssemble
