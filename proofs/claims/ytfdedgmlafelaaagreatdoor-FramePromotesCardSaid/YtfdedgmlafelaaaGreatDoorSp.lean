/-
  A function of a struct, by cases on one of its fields: for each of its first values a run of its own.
-/
import Derived.Test.YtfdedgmlafelaaaGreatDoorC1
set_option linter.unusedSimpArgs false
set_option linter.unusedVariables false
set_option maxRecDepth 100000
namespace Go.Proofs.YtfdedgmlafelaaaGreatDoor
open Go Go.AM
theorem rn {e:Env} {tb:Tb} (hok:cP e) (h:TbOk e tb) (K n:Nat) {f:FuncId} {S:FunS} {av:List AV} {p r:List D} {H:Hp}
 (hr:jS (gx e tb f) (fM e tb K n) K f av H (qN S p)=some r) (hH:H.n=S.hs.length):Ok e.P f av H (AZ S p (bdL r)) (ue S p (bdL r)):=by
 intro lo w0 ρ E w vs inv ra;refine(qh (env:=gx e tb f) (nA hok f) K (kB h K n) (gS hok h K n) f (fun F hF x hx n0 g hg=>h.l f F x n0 g hF hx hg) hr lo w0 ρ E w vs inv ra).mono ?_
 rintro e' w' ⟨u,ρ',E',v0,Hc,rfl,inv',reach,hrep,hk⟩;unfold qN at hk;split at hk
 ·rename_i q hq;obtain⟨h1,h2⟩:=dY hk;cases h2;obtain⟨o1,o2⟩:=bA h1;have hp:=nD o2
  have st:St lo w0 ρ E w ρ' E' Hc [v0] {tmps:= #[u],defers:=[]} w':=⟨inv',⟨rfl,fun t x ht=>by
   cases t with
   |zero=>simp at ht;subst ht;simpa using hrep
   |succ t=>simp at ht,rfl⟩,reach⟩
  obtain⟨ρ2,E2,st2⟩:=AY hq o1 (σp:=bdL p) (σs:=bdL q.s) (js:=0) (by rw[hp];exact cR p) (cR q.s) lo w0 ρ E w ρ' E' _ w' (by rw[<- hH];exact inv.dom) st
  refine⟨u,ρ2,E2,rfl,st2.inv,st2.reach,?_⟩
  unfold AZ;cases hm:kC (bdL p) (bdL q.s) S.rs S.rhs 0 with
  |nil=>simp only[List.headD_nil,Rep]
  |cons x xs=>
   have:=st2.fr.rep 0 x (by rw[hm];rfl)
   simpa using this
 ·cases hk
end Go.Proofs.YtfdedgmlafelaaaGreatDoor
