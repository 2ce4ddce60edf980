/-
  Closed runs over a table of contracts: the surroundings stay the same from call to call, so that the kernel keeps what it has reckoned of types.
-/
import Derived.Test.YteccopaonadbeaaGreatDoorAmT
set_option linter.unusedVariables false
set_option linter.unusedSimpArgs false
namespace Go.AM
set_option linter.unusedSimpArgs false
section
variable {e:Env} {tb:Tb}
noncomputable def liftC (e:Env) (tb:Tb) (run:Rec) (f:FuncId) (S:FunS) (ds:List D):Option (List D):=
 bif allB (tb.O f (argF S (ds.take S.np) (ds.drop S.np)) (heapF S (ds.take S.np) (ds.drop S.np)))then
  (run f (argF S (ds.take S.np) (ds.drop S.np)) (heapF S (ds.take S.np) (ds.drop S.np))).bind fun p=>retF S (ds.take S.np) p.1 p.2
 else none
theorem liftC_sound (e:Env) (tb:Tb) {run:Rec} (hs:SoundRec e.P tb.O run) {f:FuncId} {S:FunS}:SoundF e.P f S (liftC e tb run f S):=by
 intro p s r hpl hr lo w0 ρ E w vs inv ra
 unfold liftC at hr
 rw[← hpl,List.take_left,List.drop_left]at hr
 cases hb:allB (tb.O f (argF S p s) (heapF S p s))with
 |false=>simp[hb]at hr
 |true=>
 simp only[hb,cond_true]at hr
 obtain⟨⟨v0',Hc'⟩,hrun,hk⟩:=Option.bind_eq_some_iff.1 hr
 refine(hs f _ _ v0' Hc' hrun hb lo w0 ρ E w vs inv ra).mono ?_
 rintro e' w' ⟨u,ρ',E',rfl,inv',reach,hrep⟩
 simp only at hk
 unfold retF at hk
 split at hk
 ·rename_i q hq
  obtain⟨h1,h2⟩:=guardAll_some hk
  cases h2
  obtain⟨o1,o2⟩:=allB_both h1
  have hp:=eqD2_eq o2
  have st:St lo w0 ρ E w ρ' E' Hc' [v0'] {tmps:= #[u],defers:=[]} w':=⟨inv',⟨rfl,fun t x ht=>by
   cases t with
   |zero=>simp at ht;subst ht;simpa using hrep
   |succ t=>simp at ht,rfl⟩,reach⟩
  obtain⟨ρ2,E2,st2⟩:=nrmC_wk hq o1 (σp:=bdL p) (σs:=bdL q.s) (js:=0) (by rw[hp];exact bdL_ats p) (bdL_ats q.s) lo w0 ρ E w ρ' E' _ w' inv.dom st
  refine⟨u,ρ2,E2,rfl,st2.inv,st2.reach,?_⟩
  unfold resF
  cases hm:mkFr (bdL p) (bdL q.s) S.rs S.rhs 0 with
  |nil=>simp only[List.headD_nil,Rep]
  |cons x xs=>
   have:=st2.fr.rep 0 x (by rw[hm];rfl)
   simpa using this
 ·cases hk
end
end Go.AM
