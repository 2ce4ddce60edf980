/-
  A function of a struct, by cases on one of its fields: for each of its first values a run of its own.
-/
import Derived.Test.YtfdedgmlafelaaaGreatDoorC1
set_option linter.unusedVariables false
set_option linter.unusedSimpArgs false
namespace Go.Proofs.YtfdedgmlafelaaaGreatDoor
open Go Go.AM
set_option maxRecDepth 100000
theorem lift_ok {e:Env} {tb:Tb} (hok:EnvOk e) (h:TbOk e tb) (K n:Nat) {f:FuncId} {S:FunS} {av:List AV} {p r:List D} {H:Hp}
 (hr:bodyK (envF e tb f) (runTb e tb K n) K f av H (retF S p)=some r) (hH:H.n=S.hs.length):Ok e.P f av H (resF S p (bdL r)) (heapR S p (bdL r)):=by
 intro lo w0 ρ E w vs inv ra
 refine(bodyK_sound (env:=envF e tb f) (envF_ok hok f) K (runTb_fn h K n) (runTb_sound hok h K n) f (fun F hF x hx n0 g hg=>h.l f F x n0 g hF hx hg) hr lo w0 ρ E w vs inv ra).mono ?_
 rintro e' w' ⟨u,ρ',E',v0,Hc,rfl,inv',reach,hrep,hk⟩
 unfold retF at hk
 split at hk
 ·rename_i q hq
  obtain⟨h1,h2⟩:=guardAll_some hk
  cases h2
  obtain⟨o1,o2⟩:=allB_both h1
  have hp:=eqD2_eq o2
  have st:St lo w0 ρ E w ρ' E' Hc [v0] {tmps:= #[u],defers:=[]} w':=⟨inv',⟨rfl,fun t x ht=>by
   cases t with
   |zero=>simp at ht;subst ht;simpa using hrep
   |succ t=>simp at ht,rfl⟩,reach⟩
  obtain⟨ρ2,E2,st2⟩:=nrm_wk hq o1 (σp:=bdL p) (σs:=bdL q.s) (js:=0) (by rw[hp];exact bdL_ats p) (bdL_ats q.s) lo w0 ρ E w ρ' E' _ w' (by rw[← hH];exact inv.dom) st
  refine⟨u,ρ2,E2,rfl,st2.inv,st2.reach,?_⟩
  unfold resF
  cases hm:mkFr (bdL p) (bdL q.s) S.rs S.rhs 0 with
  |nil=>simp only[List.headD_nil,Rep]
  |cons x xs=>
   have:=st2.fr.rep 0 x (by rw[hm];rfl)
   simpa using this
 ·cases hk
end Go.Proofs.YtfdedgmlafelaaaGreatDoor
