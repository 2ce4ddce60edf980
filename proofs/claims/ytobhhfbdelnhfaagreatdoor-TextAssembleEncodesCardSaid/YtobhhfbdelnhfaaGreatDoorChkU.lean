/-
  'TextAssembleEncodesCardSaid': the row's step and its card, with the walk taken from the lifted functions.
-/
import Derived.Test.YtobhhfbdelnhfaaGreatDoorCards
import Derived.Test.YtobhhfbdelnhfaaGreatDoorTie
import Derived.Test.YtobhhfbdelnhfaaGreatDoorM4
import Derived.WalkKit
import Derived.ProofKit
import Derived.OpenShut
import Derived.Below
import Derived.ChangeSame
import Derived.ChangeMaps5
import Derived.Carry
import Derived.Lay
set_option linter.unusedVariables false
set_option linter.unusedSimpArgs false
namespace Go.Proofs.YtobhhfbdelnhfaaGreatDoor.textAssembleEncodes
open Go.ChangeShapes Go.WideShapes Go.ChangeAt Go.RowKit
open Go.AM (toD toDs D trod_rep nowhere RepD Conf)
set_option linter.unusedVariables false
theorem own:ownKnob Tryz.prog.godebug=none:=by kernel_rfl
theorem laidOut:laidOutB Tryz.prog=true:=by kernel_rfl
theorem size36:36<Tryz.prog.types.size:=of_decide_eq_true (by kernel_rfl)
theorem cells36:1=Tryz.prog.cellsOf 36:=by kernel_rfl
theorem read36:Tryz.prog.readableRec 36=true:=by kernel_rfl
theorem u32_range {n:Int} (h:(Lit.int .u32 n).wf=true):0≤n∧n<4294967296:=by
 simp only[Lit.wf,Bool.and_eq_true,decide_eq_true_eq]at h
 simp[IntKind.min,IntKind.max,IntKind.bits,IntKind.signed]at h
 omega
set_option maxRecDepth 100000 in
theorem slice_rep {H:Type} {enc:TypeId×Value→H} {W:World} {base:Nat} {t e:TypeId} {v:Value} {d:DataW H} {ps:List MemPlace} (ht:Tryz.prog.underlying t=some (.slice e)) (hc:1=Tryz.prog.cellsOf t) (hs:t<Tryz.prog.types.size)
 (hval:Value.okWide Tryz.prog W .any base t v) (h:DataW.Trod enc Tryz.prog W 0 (fun _=>true) true t v d ps):RepD Go.AM.PG (fun b=>b<W.heap.size) W t (toD d) [v]∧Conf Go.AM.PG t (toD d):=by
 obtain⟨fuel,hf⟩:=h
 obtain⟨a,l,cap,rfl⟩:=okWide_slice ht hval
 have hcs:(Value.slice a l cap).cells.toList = [.slice a l cap]:=rfl
 rw[hcs, ← pg]at hf
 have hf':=hf
 exact trod_rep (P:=Go.AM.PG) okT fuel t [.slice a l cap] d ps hf' (by rw[pg];exact hc) (by rw[pg];exact hs)
set_option maxRecDepth 100000 in
theorem contract (H:Type) (enc:TypeId×Value→H) (W:World) (base:Nat) (args:Array Value) (ds gs:List (DataW H)) (before:List MemPlace)
 (hval:∀(j:Nat) t v,Tryz.f6.params[j]? = some t→args[j]? = some v→Value.okWide Tryz.prog W .any base t v)
 (hW:DataW.Whole enc Tryz.prog Tryz.f6.params.toList Rows.textAssembleEncodesSpec.vars false W args.toList ds gs before) (hL:laidMetH Tryz.prog Rows.textAssembleEncodesRow.laid W) (hsh:W.ShapedOpen Tryz.prog):
 Calls Tryz.prog 6 args W fun e W'=>∃v,e = .returned v∧Rows.textAssembleEncodesSpec.post enc Tryz.prog Tryz.f6 false true false false W args v W':=by
 have hW':=hW
 obtain⟨p,q,hA0,hV,rfl,hfz,hnd⟩:=hW
 have hA:DataW.TrodAll enc Tryz.prog W 0 (fun _=>true) true Tryz.f6.params.toList args.toList ds p:=hA0
 rw[Tryz.params6]at hA hval
 obtain⟨v0,v2,d0,d2,p0,p2,rfl,rfl,rfl,h0,h2⟩:=trodAll_two hA
 obtain⟨rfl,rfl⟩:=trodVars_none hV
 obtain⟨n,rfl,rfl,rfl,w2⟩:=open_int Tryz.underlying22 (hval 1 22 v2 rfl rfl) h2
 obtain⟨r0,c0⟩:=slice_rep Tryz.underlying36 cells36 size36 (hval 0 36 v0 rfl rfl) h0
 clear hA0
 simp only[List.append_nil]at hW' hfz hnd
 refine(top6 c0 (u32_range w2) W hL hsh r0).mono fun e W' ⟨he,hb⟩=> ?_
 subst he
 have hlt:∀x∈p0,x.block<W.heap.size:=fun x hx=>hW'.lt x hx
 have hres:∀(b:Nat) (sp:Nat→Bool) (hd:Bool),DataW.TrodAll enc Tryz.prog W' b sp hd Tryz.f6.resultTypes.toList ((Value.bool true).resultList Tryz.f6.resultTypes.size) (Rows.textAssembleEncodesSpec.fn H ([d0, .lit (.int .u32 n)] ++ [])).results []:=
  fun _ _ _=>trodAll_cons_mk (shut_bool Tryz.underlying4 _) trodAll_mk0
 have hargs':∀sp:Nat→Bool,(∀x∈p0,sp x.block=true)→DataW.TrodAll enc Tryz.prog W' 0 sp true Tryz.f6.params.toList (#[v0, .int .u32 n]:Array Value).toList (Rows.textAssembleEncodesSpec.fn H ([d0, .lit (.int .u32 n)] ++ [])).args (p0 ++ []):=
  fun sp hsp=>trodAll_mk2 (WideElems.Trod_stays laidOut read36 size36 h0 (fun x hx=>hb.same (hlt x hx)) (fun x hx=>hsp x hx)) (shut_int Tryz.underlying22 w2)
 have hold:∀x∈p0,(fun b=>decide (b<W.heap.size)) x.block=true:=fun x hx=>by simpa using hlt x hx
 refine⟨_,rfl,[d0, .lit (.int .u32 n)],[],p0,[],p0 ++ [],[],hW',hres _ _ _,hargs' _ hold,rfl,World.keptBut_mono (fun x hx=>⟨hx, .inr (by simpa using hx)⟩) (hb.frame (· ∈ p0)),fun h=>by cases h⟩
noncomputable def arg0:Array Value:= #[.slice none 0 0, .int .u32 0]
theorem laid_met (os:Os):laidMet Tryz.prog Rows.textAssembleEncodesRow.laid ((World.laidAll Tryz.prog os Rows.textAssembleEncodesRow.laid).forCall (fun _ _=>0) ⟨#[],arg0,[]⟩).memory:=
 laidMet_laidAll _ (by kernel_rfl) (by kernel_rfl)
theorem reads (os:Os) {H:Type} (enc:TypeId×Value→H):∃ds places,DataW.whole enc Tryz.prog ((World.laidAll Tryz.prog os Rows.textAssembleEncodesRow.laid).forCall (fun _ _=>0) ⟨#[],arg0,[]⟩).memory Tryz.f6.params.toList Rows.textAssembleEncodesSpec.vars false arg0.toList 8=some (ds,[],places):=
 ⟨[.nil, .lit (.int .u32 0)],[],by kernel_rfl⟩
set_option maxRecDepth 100000 in
theorem lifted (os:Os) (started:os.Started) (H:Type) (enc:TypeId×Value→H) (F:Stop.Interp):
 ReturnsInHanded {} Tryz.checked os 6 .any ((OpenSpec.ofChange Rows.textAssembleEncodesSpec).preRow enc Tryz.prog Tryz.f6 Rows.textAssembleEncodesRow.domain false Rows.textAssembleEncodesRow.laid) (((OpenSpec.ofChange Rows.textAssembleEncodesSpec).at F).post enc Tryz.prog Tryz.f6 false true false false):=by
 obtain⟨ds,places,hx⟩:=reads os enc
 refine returnsInHanded_of_row (C:=Tryz.checked) (s:=OpenSpec.ofChange Rows.textAssembleEncodesSpec) own started (by kernel_rfl) Tryz.func6
  (witness_row_at (enc:=enc) (C:=Tryz.checked) false (World.laidAll Tryz.prog os Rows.textAssembleEncodesRow.laid) arg0 (World.laidAll_os _ _ _) (by kernel_rfl) (by kernel_rfl) (by kernel_rfl)
   (OpenSpec.preRow_of_cond 8 hx (by kernel_rfl) (fun k hk=>by cases hk) (by kernel_rfl) (laid_met os))) ?_
 intro W base args ds gs before hval hW _ _ _ hL hsh _
 exact contract H enc W base args ds gs before hval hW hL hsh
theorem said:Rows.TextAssembleEncodesSaid:=
 OpenClaim.holds_of_cond 6 Tryz.f6 rfl rfl rfl rfl rfl rfl rfl ⟨rfl,rfl,rfl,rfl,rfl⟩ rfl rfl rfl rfl rfl (by kernel_rfl) Tryz.func6 (by kernel_rfl)
  (of_decide_eq_true (by kernel_rfl)) (by unfold Func.isWrapper;first|(rw[if_pos (by decide +kernel)];kernel_rfl)|(rw[if_neg (by decide +kernel)];exact⟨rfl,rfl⟩))
  (fun os started H enc _ F=>by rw[OpenClaim.pre_eq_preRow];exact lifted os started H enc F)
theorem plain (f:FuncId) (fn:Func) (hf:Tryz.pinned.checked.prog.funcNamed "decompiler/decompilerlaw04.TextAssembleEncodes" = some f) (hfn:Tryz.pinned.checked.prog.funcs[f]? = some fn):
 false=Tryz.pinned.checked.prog.looks []∧∀(j:Nat) t,fn.params[j]? = some t→Tryz.pinned.checked.prog.wantsStandIn t=false:=by
 obtain rfl:f=6:=Option.some.inj ((show Tryz.prog.funcNamed "decompiler/decompilerlaw04.TextAssembleEncodes" = some 6 by kernel_rfl).symm.trans hf) |>.symm
 obtain rfl:fn=Tryz.f6:=(Option.some.inj (Tryz.func6.symm.trans hfn)).symm
 refine⟨by kernel_rfl,fun j t ht=> ?_⟩
 rw[Tryz.params6]at ht
 have hm:t∈(#[36,22]:Array TypeId):=Array.mem_of_getElem? ht
 have h2:t=36∨t=22:=by simpa using hm
 rcases h2 with rfl|rfl
 ·exact(show Tryz.prog.wantsStandIn 36=false by kernel_rfl)
 ·exact(show Tryz.prog.wantsStandIn 22=false by kernel_rfl)
theorem card:Rows.TextAssembleEncodesCardSaid:=
 Claim7.holds_tied_plain_at .later [] _ _ _ _ said (fun _ h=>by cases h) (by kernel_rfl) (fun _ h=>by cases h) textAssembleEncodes_row_tie rfl ⟨rfl,rfl⟩ (by kernel_rfl) rfl plain (by kernel_rfl)
end Go.Proofs.YtobhhfbdelnhfaaGreatDoor.textAssembleEncodes
