/-
  'BackendLabelsSaid': the row's step, with the walk taken from the lifted functions.
-/
import Derived.Test.YtiojjmlccehpoaaGreatRows
import Derived.Test.YtiojjmlccehpoaaGreatM6
import Derived.WalkKit
import Derived.ProofKit
import Derived.OpenShut
import Derived.HandedShaped
import Derived.Below
import Derived.ChangeSame
import Derived.Carry
import Derived.Shelf.Vars
set_option linter.unusedSimpArgs false
set_option linter.unusedVariables false
namespace Go.Proofs.YtiojjmlccehpoaaGreat
open Go.ChangeShapes Go.WideShapes Go.ChangeAt Go.RowKit
open Go.AM (toD toDs D mi bA RepD Conf)
theorem own:ownKnob Tryz.prog.godebug=none:=by kernel_rfl
theorem laidOut:laidOutB Tryz.prog=true:=by kernel_rfl
theorem okT:Go.AM.okTypes Go.AM.PG=true:=by kernel_rfl
theorem pg:Go.AM.PG=Tryz.prog:=by unfold Go.AM.PG;rfl
theorem maxLen (W:World) (h:W.ShapedOpen Tryz.prog):∃m,W.cell? ⟨0,0,none⟩=some (.int .i64 m):=
 cell_of_shapedOpen_int (P:=Tryz.prog) (t:=3) (zero:= #[.int .i64 0]) h (of_decide_eq_true (by kernel_rfl)) (by kernel_rfl) (by kernel_rfl) (by kernel_rfl) (by kernel_rfl) Tryz.underlying3
set_option maxRecDepth 100000 in
theorem C4 {H:Type} {enc:TypeId×Value->H} {W:World} {base:Nat} {t e:TypeId} {v:Value} {d:DataW H} {ps:List MemPlace} (ht:Tryz.prog.underlying t=some (.slice e)) (hc:1=Tryz.prog.cellsOf t) (hs:t<Tryz.prog.types.size)
 (hval:Value.okWide Tryz.prog W .any base t v) (h:DataW.Trod enc Tryz.prog W 0 (fun _=>true) true t v d ps):RepD Go.AM.PG (fun b=>b<W.heap.size) W t (toD d) [v]∧Conf Go.AM.PG t (toD d):=by
 obtain⟨fuel,hf⟩:=h;obtain⟨a,l,cap,rfl⟩:=okWide_slice ht hval;have hcs:(Value.slice a l cap).cells.toList = [.slice a l cap]:=rfl;rw[hcs, <- pg]at hf;have hf':=hf;exact mi (P:=Go.AM.PG) okT fuel t [.slice a l cap] d ps hf' (by rw[pg];exact hc) (by rw[pg];exact hs)
theorem Qe:1=Tryz.prog.cellsOf 26:=by kernel_rfl
theorem FR:26<Tryz.prog.types.size:=of_decide_eq_true (by kernel_rfl)
theorem ZA:Tryz.prog.readableRec 26=true:=by kernel_rfl
theorem ZB:38<Tryz.prog.types.size:=of_decide_eq_true (by kernel_rfl)
theorem read38:Tryz.prog.readableRec 38=true:=by kernel_rfl
theorem layT:Go.AM.layOk Go.AM.PG Go.AM.rowDepth 38=true:=by kernel_rfl
set_option maxRecDepth 100000 in
theorem NG {H:Type} {enc:TypeId×Value->H} {W:World} {base:Nat} {v:Value} {d:DataW H} {ps:List MemPlace} (hval:Value.okWide Tryz.prog W .any base 38 v) (h:DataW.Trod enc Tryz.prog W 0 (fun _=>true) true 38 v d ps):
 Go.AM.Rep bA (fun b=>b<W.heap.size) W (.dat 38 (toD d)) v∧Conf Go.AM.PG 38 (toD d):=by
 obtain⟨fuel,hf⟩:=h;obtain⟨cs,rfl,hcs⟩:=okWide_struct Tryz.underlying38 hval;have hf':DataW.trod enc Go.AM.PG W 0 (fun _=>true) true fuel 38 cs.toList=some (d,ps):=by rw[pg];exact hf
 obtain⟨hrep,hconf⟩:=mi (P:=Go.AM.PG) okT fuel 38 cs.toList d ps hf' (by rw[Array.length_toList,hcs,pg]) (by rw[pg];exact ZB)
 exact⟨by simp only[Go.AM.Rep];exact⟨cs,rfl,layT,hrep⟩,hconf⟩
end Go.Proofs.YtiojjmlccehpoaaGreat
namespace Go.Proofs.YtiojjmlccehpoaaGreat.backendLabels
open Go.ChangeShapes Go.WideShapes Go.ChangeAt Go.RowKit
open Go.AM (toD toDs D mi bA RepD Conf)
set_option maxRecDepth 100000 in
theorem lifted (os:Os) (started:os.Started) (H:Type) (enc:TypeId×Value->H):
 ReturnsInHanded {} Tryz.checked os 5 .any (Rows.backendLabelsSpec.pre6 enc Tryz.prog Tryz.f5 Rows.backendLabelsRow.domain false) (Rows.backendLabelsSpec.post enc Tryz.prog Tryz.f5 false true false false):=by
 refine returnsInHanded_of_change_shaped (C:=Tryz.checked) own started (by kernel_rfl) Tryz.func5
  (ChangeSpec.witness6 (enc:=enc) (C:=Tryz.checked) false ⟨#[], #[.agg #[.string ⟨#[]⟩, .slice none 0 0, .slice none 0 0], .slice none 0 0, .slice none 0 0, .int .u32 0],[]⟩ 8 (by kernel_rfl) (by kernel_rfl) (by kernel_rfl) (by kernel_rfl)) ?_
 intro W base args ds gs before hval0 hW hcnd0 _ hsh _;clear hcnd0;have hval:∀(j:Nat) t v,Tryz.f5.params[j]? = some t->args[j]? = some v->Value.okWide Tryz.prog W .any base t v:=hval0
 have hW':=hW;obtain⟨p,q,hA0,hV,rfl,hfz,hnd⟩:=hW;have hA:DataW.TrodAll enc Tryz.prog W 0 (fun _=>true) true Tryz.f5.params.toList args.toList ds p:=hA0
 rw[Tryz.params5]at hA hval;obtain⟨v0,v1,v2,v3,d0,d1,d2,d3,p0,p1,p2,p3,rfl,rfl,rfl,h0,h1,h2,h3⟩:=trodAll_four hA;obtain⟨rfl,rfl⟩:=trodVars_none hV;obtain⟨n,rfl,rfl,rfl,w3⟩:=open_int Tryz.underlying22 (hval 3 22 v3 rfl rfl) h3;obtain⟨r0,c0⟩:=NG (hval 0 38 v0 rfl rfl) h0;obtain⟨r1,c1⟩:=C4 Tryz.underlying26 Qe FR (hval 1 26 v1 rfl rfl) h1;obtain⟨r2,c2⟩:=C4 Tryz.underlying26 Qe FR (hval 2 26 v2 rfl rfl) h2;clear hA0 hval0;simp only[List.append_nil]at hW' hfz hnd;refine(top5 c0 c1 c2 W (maxLen W hsh) r0 r1 r2).mono fun e W' ⟨he,hb⟩=> ?_
 subst he;have hlt:∀x∈p0++p1++p2,x.block<W.heap.size:=fun x hx=>hW'.lt x hx
 have hres:∀(b:Nat) (sp:Nat->Bool) (hd:Bool),DataW.TrodAll enc Tryz.prog W' b sp hd Tryz.f5.resultTypes.toList ((Value.bool true).resultList Tryz.f5.resultTypes.size) (Rows.backendLabelsSpec.fn H ([d0,d1,d2, .lit (.int .u32 n)] ++ [])).results []:=
  fun _ _ _=>trodAll_cons_mk (shut_bool Tryz.underlying4 _) trodAll_mk0
 have hargs':∀sp:Nat->Bool,(∀x∈p0++p1++p2,sp x.block=true)->DataW.TrodAll enc Tryz.prog W' 0 sp true Tryz.f5.params.toList (#[v0,v1,v2, .int .u32 n]:Array Value).toList (Rows.backendLabelsSpec.fn H ([d0,d1,d2, .lit (.int .u32 n)] ++ [])).args (p0++(p1++(p2 ++ []))):=
  fun sp hsp=>trodAll_mk4 (WideElems.Trod_stays laidOut read38 ZB h0 (fun x hx=>hb.same (hlt x (List.mem_append_left _ (List.mem_append_left _ hx)))) (fun x hx=>hsp x (List.mem_append_left _ (List.mem_append_left _ hx))))
   (WideElems.Trod_stays laidOut ZA FR h1 (fun x hx=>hb.same (hlt x (List.mem_append_left _ (List.mem_append_right _ hx)))) (fun x hx=>hsp x (List.mem_append_left _ (List.mem_append_right _ hx))))
   (WideElems.Trod_stays laidOut ZA FR h2 (fun x hx=>hb.same (hlt x (List.mem_append_right _ hx))) (fun x hx=>hsp x (List.mem_append_right _ hx))) (shut_int Tryz.underlying22 w3)
 have hold:∀x∈p0++p1++p2,(fun b=>decide (b<W.heap.size)) x.block=true:=fun x hx=>by simpa using hlt x hx
 refine⟨_,rfl,[d0,d1,d2, .lit (.int .u32 n)],[],p0++p1++p2,[],p0++(p1++(p2 ++ [])),[],hW',hres _ _ _,hargs' _ hold,rfl,World.keptBut_mono (fun x hx=>⟨hx, .inr (by simpa using hx)⟩) (hb.frame (· ∈ p0++p1++p2)),fun h=>by cases h⟩
theorem k_wf:Rows.backendLabelsRow.wf (OpenSpec.ofChange Rows.backendLabelsSpec)=true:=by kernel_rfl
theorem k_read:Tryz.f5.params.all (Tryz.prog.readableRec ·)=true:=by kernel_rfl
theorem SK:(Rows.backendLabelsRow.inPlace==Tryz.prog.inPlace 5)=true:=by kernel_rfl
theorem k_unf:(Rows.backendLabelsRow.unfollowed==Tryz.prog.unfollowed 5)=true:=by kernel_rfl
theorem k_rec:(Rows.backendLabelsRow.recurses==Tryz.prog.recurses 5)=true:=by kernel_rfl
theorem k_named:(Rows.backendLabelsRow.named==Tryz.prog.varsNamed 5)=true:=by kernel_rfl
theorem closed:joinedFacts Tryz.prog 5 Tryz.f5 Rows.backendLabelsSpec Rows.backendLabelsRow=true:=by
 unfold joinedFacts;simp only[Bool.and_eq_true]
 repeat' apply And.intro
 ·exact k_wf
 ·exact laidOut
 ·kernel_rfl
 ·exact k_read
 ·kernel_rfl
 ·kernel_rfl
 ·kernel_rfl
 ·kernel_rfl
 ·kernel_rfl
 ·exact SK
 ·exact k_unf
 ·exact k_rec
 ·exact k_named
 ·kernel_rfl
 ·kernel_rfl
 ·kernel_rfl
 ·kernel_rfl
 ·kernel_rfl
 ·kernel_rfl
 ·kernel_rfl
 ·kernel_rfl
 ·kernel_rfl
 ·kernel_rfl
 ·kernel_rfl
 ·kernel_rfl
 ·kernel_rfl
 ·kernel_rfl
 ·kernel_rfl
 ·kernel_rfl
 ·kernel_rfl
 ·kernel_rfl
 ·kernel_rfl
theorem ZC:Rows.backendLabelsRow.holds Tryz.pinned (OpenSpec.ofChange Rows.backendLabelsSpec):=
 OpenClaim.holds_of_wide 5 Tryz.f5 rfl rfl rfl rfl rfl rfl rfl ⟨rfl,rfl,rfl,rfl,rfl⟩ rfl rfl rfl rfl rfl (by kernel_rfl) Tryz.func5 closed
  (of_decide_eq_true (by kernel_rfl)) (by unfold Func.isWrapper;first|(rw[if_pos (by decide +kernel)];kernel_rfl)|(rw[if_neg (by decide +kernel)];exact⟨rfl,rfl⟩))
  (fun os started H enc _=>lifted os started H enc)
theorem proved:Rows.BackendLabelsSaid:=ZC
end Go.Proofs.YtiojjmlccehpoaaGreat.backendLabels
