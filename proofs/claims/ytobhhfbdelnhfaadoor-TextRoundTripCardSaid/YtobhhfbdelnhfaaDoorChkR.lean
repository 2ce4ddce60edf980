/-
  'TextRoundTripCardSaid': the row's step and its card, with the walk taken from the lifted functions.
-/
import Derived.Test.YtobhhfbdelnhfaaDoorCards
import Derived.Test.YtobhhfbdelnhfaaDoorTie
import Derived.Test.YtobhhfbdelnhfaaDoorM4
import Derived.WalkKit
import Derived.ProofKit
import Derived.OpenShut
import Derived.Below
import Derived.ChangeSame
import Derived.ChangeMaps5
import Derived.Carry
import Derived.Lay
namespace Go.Proofs.YtobhhfbdelnhfaaDoor.textRoundTrip
open Go.ChangeShapes Go.WideShapes Go.ChangeAt Go.RowKit
open Go.AM (toD toDs D trod_rep nowhere RepD Conf)
set_option linter.unusedVariables false
theorem own:ownKnob Tryd.prog.godebug=none:=by kernel_rfl
theorem laidOut:laidOutB Tryd.prog=true:=by kernel_rfl
theorem size24:24<Tryd.prog.types.size:=of_decide_eq_true (by kernel_rfl)
theorem read24:Tryd.prog.readableRec 24=true:=by kernel_rfl
theorem layT:Go.AM.layOk Go.AM.PG Go.AM.rowDepth 24=true:=by kernel_rfl
set_option maxRecDepth 100000 in
theorem struct_rep {H:Type} {enc:TypeId×Value→H} {W:World} {base:Nat} {v:Value} {d:DataW H} {ps:List MemPlace} (hval:Value.okWide Tryd.prog W .any base 24 v) (h:DataW.Trod enc Tryd.prog W 0 (fun _=>true) true 24 v d ps):
 Go.AM.Rep nowhere (fun b=>b<W.heap.size) W (.dat 24 (toD d)) v∧Conf Go.AM.PG 24 (toD d):=by
 obtain⟨fuel,hf⟩:=h
 obtain⟨cs,rfl,hcs⟩:=okWide_struct Tryd.underlying24 hval
 have hf':DataW.trod enc Go.AM.PG W 0 (fun _=>true) true fuel 24 cs.toList=some (d,ps):=by rw[pg];exact hf
 obtain⟨hrep,hconf⟩:=trod_rep (P:=Go.AM.PG) okT fuel 24 cs.toList d ps hf' (by rw[Array.length_toList,hcs,pg]) (by rw[pg];exact size24)
 exact⟨by simp only[Go.AM.Rep];exact⟨cs,rfl,layT,hrep⟩,hconf⟩
set_option maxRecDepth 100000 in
theorem contract (H:Type) (enc:TypeId×Value→H) (W:World) (base:Nat) (args:Array Value) (ds gs:List (DataW H)) (before:List MemPlace)
 (hval:∀(j:Nat) t v,Tryd.f3.params[j]? = some t→args[j]? = some v→Value.okWide Tryd.prog W .any base t v)
 (hW:DataW.Whole enc Tryd.prog Tryd.f3.params.toList Rows.textRoundTripSpec.vars false W args.toList ds gs before) (hL:laidMetH Tryd.prog Rows.textRoundTripRow.laid W) (hsh:W.ShapedOpen Tryd.prog):
 Calls Tryd.prog 3 args W fun e W'=>∃v,e = .returned v∧Rows.textRoundTripSpec.post enc Tryd.prog Tryd.f3 false true false false W args v W':=by
 have hW':=hW
 obtain⟨p,q,hA0,hV,rfl,hfz,hnd⟩:=hW
 have hA:DataW.TrodAll enc Tryd.prog W 0 (fun _=>true) true Tryd.f3.params.toList args.toList ds p:=hA0
 rw[Tryd.params3]at hA hval
 obtain⟨v0,d0,rfl,rfl,h0⟩:=trodAll_one hA
 obtain⟨rfl,rfl⟩:=trodVars_none hV
 obtain⟨r0,c0⟩:=struct_rep (hval 0 24 v0 rfl rfl) h0
 clear hA0
 simp only[List.append_nil]at hW' hfz hnd
 refine(top3 c0 W hL hsh r0).mono fun e W' ⟨he,hb⟩=> ?_
 subst he
 have hlt:∀x∈p,x.block<W.heap.size:=fun x hx=>hW'.lt x hx
 have hres:∀(b:Nat) (sp:Nat→Bool) (hd:Bool),DataW.TrodAll enc Tryd.prog W' b sp hd Tryd.f3.resultTypes.toList ((Value.bool true).resultList Tryd.f3.resultTypes.size) (Rows.textRoundTripSpec.fn H ([d0] ++ [])).results []:=
  fun _ _ _=>trodAll_cons_mk (shut_bool Tryd.underlying4 _) trodAll_mk0
 have hargs':∀sp:Nat→Bool,(∀x∈p,sp x.block=true)→DataW.TrodAll enc Tryd.prog W' 0 sp true Tryd.f3.params.toList (#[v0]:Array Value).toList (Rows.textRoundTripSpec.fn H ([d0] ++ [])).args p:=
  fun sp hsp=>trodAll_mk1 (WideElems.Trod_stays laidOut read24 size24 h0 (fun x hx=>hb.same (hlt x hx)) (fun x hx=>hsp x hx))
 have hold:∀x∈p,(fun b=>decide (b<W.heap.size)) x.block=true:=fun x hx=>by simpa using hlt x hx
 refine⟨_,rfl,[d0],[],p,[],p,[],hW',hres _ _ _,hargs' _ hold,rfl,World.keptBut_mono (fun x hx=>⟨hx, .inr (by simpa using hx)⟩) (hb.frame (· ∈ p)),fun h=>by cases h⟩
noncomputable def arg0:Array Value:= #[.agg #[.int .u32 0, .int .u32 0, .int .i64 0, .int .i64 0, .int .i64 0, .int .i64 0, .int .i64 0, .int .i64 0, .int .i64 0]]
theorem laid_met (os:Os):laidMet Tryd.prog Rows.textRoundTripRow.laid ((World.laidAll Tryd.prog os Rows.textRoundTripRow.laid).forCall (fun _ _=>0) ⟨#[],arg0,[]⟩).memory:=
 laidMet_laidAll _ (by kernel_rfl) (by kernel_rfl)
theorem reads (os:Os) {H:Type} (enc:TypeId×Value→H):∃ds places,DataW.whole enc Tryd.prog ((World.laidAll Tryd.prog os Rows.textRoundTripRow.laid).forCall (fun _ _=>0) ⟨#[],arg0,[]⟩).memory Tryd.f3.params.toList Rows.textRoundTripSpec.vars false arg0.toList 8=some (ds,[],places):=
 ⟨[.agg [.lit (.int .u32 0), .lit (.int .u32 0), .lit (.int .i64 0), .lit (.int .i64 0), .lit (.int .i64 0), .lit (.int .i64 0), .lit (.int .i64 0), .lit (.int .i64 0), .lit (.int .i64 0)]],[],by kernel_rfl⟩
set_option maxRecDepth 100000 in
theorem lifted (os:Os) (started:os.Started) (H:Type) (enc:TypeId×Value→H) (F:Stop.Interp):
 ReturnsInHanded {} Tryd.checked os 3 .any ((OpenSpec.ofChange Rows.textRoundTripSpec).preRow enc Tryd.prog Tryd.f3 Rows.textRoundTripRow.domain false Rows.textRoundTripRow.laid) (((OpenSpec.ofChange Rows.textRoundTripSpec).at F).post enc Tryd.prog Tryd.f3 false true false false):=by
 obtain⟨ds,places,hx⟩:=reads os enc
 refine returnsInHanded_of_row (C:=Tryd.checked) (s:=OpenSpec.ofChange Rows.textRoundTripSpec) own started (by kernel_rfl) Tryd.func3
  (witness_row_at (enc:=enc) (C:=Tryd.checked) false (World.laidAll Tryd.prog os Rows.textRoundTripRow.laid) arg0 (World.laidAll_os _ _ _) (by kernel_rfl) (by kernel_rfl) (by kernel_rfl)
   (OpenSpec.preRow_of_cond 8 hx (by kernel_rfl) (fun k hk=>by cases hk) (by kernel_rfl) (laid_met os))) ?_
 intro W base args ds gs before hval hW _ _ _ hL hsh _
 exact contract H enc W base args ds gs before hval hW hL hsh
theorem said:Rows.TextRoundTripSaid:=
 OpenClaim.holds_of_cond 3 Tryd.f3 rfl rfl rfl rfl rfl rfl rfl ⟨rfl,rfl,rfl,rfl,rfl⟩ rfl rfl rfl rfl rfl (by kernel_rfl) Tryd.func3 (by kernel_rfl)
  (of_decide_eq_true (by kernel_rfl)) (by unfold Func.isWrapper;first|(rw[if_pos (by decide +kernel)];kernel_rfl)|(rw[if_neg (by decide +kernel)];exact⟨rfl,rfl⟩))
  (fun os started H enc _ F=>by rw[OpenClaim.pre_eq_preRow];exact lifted os started H enc F)
theorem plain (f:FuncId) (fn:Func) (hf:Tryd.pinned.checked.prog.funcNamed "decompiler/decompilerlaw04.TextRoundTrip" = some f) (hfn:Tryd.pinned.checked.prog.funcs[f]? = some fn):
 false=Tryd.pinned.checked.prog.looks []∧∀(j:Nat) t,fn.params[j]? = some t→Tryd.pinned.checked.prog.wantsStandIn t=false:=by
 obtain rfl:f=3:=Option.some.inj ((show Tryd.prog.funcNamed "decompiler/decompilerlaw04.TextRoundTrip" = some 3 by kernel_rfl).symm.trans hf) |>.symm
 obtain rfl:fn=Tryd.f3:=(Option.some.inj (Tryd.func3.symm.trans hfn)).symm
 refine⟨by kernel_rfl,fun j t ht=> ?_⟩
 rw[Tryd.params3]at ht
 have hm:t∈(#[24]:Array TypeId):=Array.mem_of_getElem? ht
 have h2:t=24:=by simpa using hm
 subst h2
 exact(show Tryd.prog.wantsStandIn 24=false by kernel_rfl)
theorem card:Rows.TextRoundTripCardSaid:=
 Claim7.holds_tied_plain_at .later [] _ _ _ _ said (fun _ h=>by cases h) (by kernel_rfl) (fun _ h=>by cases h) textRoundTrip_row_tie rfl ⟨rfl,rfl⟩ (by kernel_rfl) rfl plain (by kernel_rfl)
end Go.Proofs.YtobhhfbdelnhfaaDoor.textRoundTrip
