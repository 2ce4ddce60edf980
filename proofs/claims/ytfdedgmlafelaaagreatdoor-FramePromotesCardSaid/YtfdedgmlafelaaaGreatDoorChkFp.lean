/-
  'FramePromotesCardSaid': the row's step and its card, with the walk taken from the lifted functions.
-/
import Derived.Test.YtfdedgmlafelaaaGreatDoorCards
import Derived.Test.YtfdedgmlafelaaaGreatDoorTie
import Derived.Test.YtfdedgmlafelaaaGreatDoorM7
import Derived.WalkKit
import Derived.ProofKit
import Derived.OpenShut
import Derived.Below
import Derived.ChangeSame
import Derived.Carry
import Derived.Lay
set_option linter.unusedSimpArgs false
set_option linter.unusedVariables false
namespace Go.Proofs.YtfdedgmlafelaaaGreatDoor.framePromotes
open Go.ChangeShapes Go.WideShapes Go.ChangeAt Go.RowKit
open Go.AM (toD toDs D nz bj RepD Conf)
theorem own:ownKnob Tryz.prog.godebug=none:=by kernel_rfl
theorem laidOut:laidOutB Tryz.prog=true:=by kernel_rfl
theorem size25:25<Tryz.prog.types.size:=of_decide_eq_true (by kernel_rfl)
theorem read25:Tryz.prog.readableRec 25=true:=by kernel_rfl
theorem layT25:Go.AM.layOk Go.AM.PG Go.AM.rowDepth 25=true:=by kernel_rfl
set_option maxRecDepth 100000 in
theorem DJ {H:Type} {enc:TypeId×Value->H} {W:World} {base:Nat} {v:Value} {d:DataW H} {ps:List MemPlace} (hval:Value.okWide Tryz.prog W .any base 25 v) (h:DataW.Trod enc Tryz.prog W 0 (fun _=>true) true 25 v d ps):
 Go.AM.Rep bj (fun b=>b<W.heap.size) W (.dat 25 (toD d)) v∧Conf Go.AM.PG 25 (toD d):=by
 obtain⟨fuel,hf⟩:=h;obtain⟨cs,rfl,hcs⟩:=okWide_struct Tryz.underlying25 hval;have hf':DataW.trod enc Go.AM.PG W 0 (fun _=>true) true fuel 25 cs.toList=some (d,ps):=by rw[pg];exact hf
 obtain⟨hrep,hconf⟩:=nz (P:=Go.AM.PG) okT fuel 25 cs.toList d ps hf' (by rw[Array.length_toList,hcs,pg]) (by rw[pg];exact size25)
 exact⟨by simp only[Go.AM.Rep];exact⟨cs,rfl,layT25,hrep⟩,hconf⟩
theorem Wb:30<Tryz.prog.types.size:=of_decide_eq_true (by kernel_rfl)
theorem read30:Tryz.prog.readableRec 30=true:=by kernel_rfl
theorem layT30:Go.AM.layOk Go.AM.PG Go.AM.rowDepth 30=true:=by kernel_rfl
set_option maxRecDepth 100000 in
theorem DK {H:Type} {enc:TypeId×Value->H} {W:World} {base:Nat} {v:Value} {d:DataW H} {ps:List MemPlace} (hval:Value.okWide Tryz.prog W .any base 30 v) (h:DataW.Trod enc Tryz.prog W 0 (fun _=>true) true 30 v d ps):
 Go.AM.Rep bj (fun b=>b<W.heap.size) W (.dat 30 (toD d)) v∧Conf Go.AM.PG 30 (toD d):=by
 obtain⟨fuel,hf⟩:=h;obtain⟨cs,rfl,hcs⟩:=okWide_struct Tryz.underlying30 hval;have hf':DataW.trod enc Go.AM.PG W 0 (fun _=>true) true fuel 30 cs.toList=some (d,ps):=by rw[pg];exact hf
 obtain⟨hrep,hconf⟩:=nz (P:=Go.AM.PG) okT fuel 30 cs.toList d ps hf' (by rw[Array.length_toList,hcs,pg]) (by rw[pg];exact Wb)
 exact⟨by simp only[Go.AM.Rep];exact⟨cs,rfl,layT30,hrep⟩,hconf⟩
set_option maxRecDepth 100000 in
theorem Wc (H:Type) (enc:TypeId×Value->H) (W:World) (base:Nat) (args:Array Value) (ds gs:List (DataW H)) (before:List MemPlace)
 (hval:∀(j:Nat) t v,Tryz.f4.params[j]? = some t->args[j]? = some v->Value.okWide Tryz.prog W .any base t v)
 (hW:DataW.Whole enc Tryz.prog Tryz.f4.params.toList Rows.framePromotesSpec.vars false W args.toList ds gs before) (hL:laidMetH Tryz.prog Rows.framePromotesRow.laid W):
 Calls Tryz.prog 4 args W fun e W'=>∃v,e = .returned v∧Rows.framePromotesSpec.post enc Tryz.prog Tryz.f4 false true false false W args v W':=by
 have hW':=hW;obtain⟨p,q,hA0,hV,rfl,hfz,hnd⟩:=hW;have hA:DataW.TrodAll enc Tryz.prog W 0 (fun _=>true) true Tryz.f4.params.toList args.toList ds p:=hA0
 rw[Tryz.params4]at hA hval;obtain⟨v0,v2,d0,d2,p0,p2,rfl,rfl,rfl,h0,h2⟩:=trodAll_two hA;obtain⟨rfl,rfl⟩:=trodVars_none hV;obtain⟨r0,c0⟩:=DJ (hval 0 25 v0 rfl rfl) h0;obtain⟨r2,c2⟩:=DK (hval 1 30 v2 rfl rfl) h2;clear hA0;simp only[List.append_nil]at hW' hfz hnd;refine(top4 c0 W r0 r2).mono fun e W' ⟨he,hb⟩=> ?_
 subst he;have hlt:∀x∈p0++p2,x.block<W.heap.size:=fun x hx=>hW'.lt x hx
 have hres:∀(b:Nat) (sp:Nat->Bool) (hd:Bool),DataW.TrodAll enc Tryz.prog W' b sp hd Tryz.f4.resultTypes.toList ((Value.bool true).resultList Tryz.f4.resultTypes.size) (Rows.framePromotesSpec.fn H ([d0,d2] ++ [])).results []:=
  fun _ _ _=>trodAll_cons_mk (shut_bool Tryz.underlying4 _) trodAll_mk0
 have hargs':∀sp:Nat->Bool,(∀x∈p0++p2,sp x.block=true)->DataW.TrodAll enc Tryz.prog W' 0 sp true Tryz.f4.params.toList (#[v0,v2]:Array Value).toList (Rows.framePromotesSpec.fn H ([d0,d2] ++ [])).args (p0++p2):=
  fun sp hsp=>trodAll_mk2 (WideElems.Trod_stays laidOut read25 size25 h0 (fun x hx=>hb.same (hlt x (List.mem_append_left _ hx))) (fun x hx=>hsp x (List.mem_append_left _ hx)))
   (WideElems.Trod_stays laidOut read30 Wb h2 (fun x hx=>hb.same (hlt x (List.mem_append_right _ hx))) (fun x hx=>hsp x (List.mem_append_right _ hx)))
 have hold:∀x∈p0++p2,(fun b=>decide (b<W.heap.size)) x.block=true:=fun x hx=>by simpa using hlt x hx
 refine⟨_,rfl,[d0,d2],[],p0++p2,[],p0++p2,[],hW',hres _ _ _,hargs' _ hold,rfl,World.keptBut_mono (fun x hx=>⟨hx, .inr (by simpa using hx)⟩) (hb.frame (· ∈ p0++p2)),fun h=>by cases h⟩
noncomputable def arg0:Array Value:= #[.agg #[.int .u32 0, .slice none 0 0], .agg #[.int .i64 0, .slice none 0 0, .bool false]]
theorem laid_met (os:Os):laidMet Tryz.prog Rows.framePromotesRow.laid ((World.laidAll Tryz.prog os Rows.framePromotesRow.laid).forCall (fun _ _=>0) ⟨#[],arg0,[]⟩).memory:=
 laidMet_laidAll _ (by kernel_rfl) (by kernel_rfl)
theorem reads (os:Os) {H:Type} (enc:TypeId×Value->H):∃ds places,DataW.whole enc Tryz.prog ((World.laidAll Tryz.prog os Rows.framePromotesRow.laid).forCall (fun _ _=>0) ⟨#[],arg0,[]⟩).memory Tryz.f4.params.toList Rows.framePromotesSpec.vars false arg0.toList 8=some (ds,[],places):=
 ⟨[.agg [.lit (.int .u32 0), .nil], .agg [.lit (.int .i64 0), .nil, .lit (.bool false)]],[],by kernel_rfl⟩
set_option maxRecDepth 100000 in
theorem lifted (os:Os) (started:os.Started) (H:Type) (enc:TypeId×Value->H) (F:Stop.Interp):
 ReturnsInHanded {} Tryz.checked os 4 .any ((OpenSpec.ofChange Rows.framePromotesSpec).preRow enc Tryz.prog Tryz.f4 Rows.framePromotesRow.domain false Rows.framePromotesRow.laid) (((OpenSpec.ofChange Rows.framePromotesSpec).at F).post enc Tryz.prog Tryz.f4 false true false false):=by
 obtain⟨ds,places,hx⟩:=reads os enc
 refine returnsInHanded_of_row (C:=Tryz.checked) (s:=OpenSpec.ofChange Rows.framePromotesSpec) own started (by kernel_rfl) Tryz.func4
  (witness_row_at (enc:=enc) (C:=Tryz.checked) false (World.laidAll Tryz.prog os Rows.framePromotesRow.laid) arg0 (World.laidAll_os _ _ _) (by kernel_rfl) (by kernel_rfl) (by kernel_rfl)
   (OpenSpec.preRow_of_cond 8 hx (by kernel_rfl) (fun k hk=>by cases hk) (by kernel_rfl) (laid_met os))) ?_
 intro W base args ds gs before hval hW _ _ _ hL _ _;exact Wc H enc W base args ds gs before hval hW hL
theorem said:Rows.FramePromotesSaid:=
 OpenClaim.holds_of_cond 4 Tryz.f4 rfl rfl rfl rfl rfl rfl rfl ⟨rfl,rfl,rfl,rfl,rfl⟩ rfl rfl rfl rfl rfl (by kernel_rfl) Tryz.func4 (by kernel_rfl)
  (of_decide_eq_true (by kernel_rfl)) (by unfold Func.isWrapper;first|(rw[if_pos (by decide +kernel)];kernel_rfl)|(rw[if_neg (by decide +kernel)];exact⟨rfl,rfl⟩))
  (fun os started H enc _ F=>by rw[OpenClaim.pre_eq_preRow];exact lifted os started H enc F)
theorem plain (f:FuncId) (fn:Func) (hf:Tryz.pinned.checked.prog.funcNamed "decompiler/decompilerlaw29.FramePromotes" = some f) (hfn:Tryz.pinned.checked.prog.funcs[f]? = some fn):
 false=Tryz.pinned.checked.prog.looks []∧∀(j:Nat) t,fn.params[j]? = some t->Tryz.pinned.checked.prog.wantsStandIn t=false:=by
 obtain rfl:f=4:=Option.some.inj ((show Tryz.prog.funcNamed "decompiler/decompilerlaw29.FramePromotes" = some 4 by kernel_rfl).symm.trans hf) |>.symm
 obtain rfl:fn=Tryz.f4:=(Option.some.inj (Tryz.func4.symm.trans hfn)).symm;refine⟨by kernel_rfl,fun j t ht=> ?_⟩
 rw[Tryz.params4]at ht;have hm:t∈(#[25,30]:Array TypeId):=Array.mem_of_getElem? ht
 have h2:t=25∨t=30:=by simpa using hm
 rcases h2 with rfl|rfl
 ·exact(show Tryz.prog.wantsStandIn 25=false by kernel_rfl)
 ·exact(show Tryz.prog.wantsStandIn 30=false by kernel_rfl)
theorem card:Rows.FramePromotesCardSaid:=
 Claim7.holds_tied_plain_at .later [] _ _ _ _ said (fun _ h=>by cases h) (by kernel_rfl) (fun _ h=>by cases h) framePromotes_row_tie rfl ⟨rfl,rfl⟩ (by kernel_rfl) rfl plain (by kernel_rfl)
end Go.Proofs.YtfdedgmlafelaaaGreatDoor.framePromotes
