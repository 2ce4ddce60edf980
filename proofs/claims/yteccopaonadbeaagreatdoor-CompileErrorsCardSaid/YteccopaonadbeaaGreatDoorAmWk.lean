/-
  A function that defers one call, lifted: what is done with its result is done by its continuations.
-/
import Derived.Test.YteccopaonadbeaaGreatDoorAmW
import Derived.Test.YteccopaonadbeaaGreatDoorAmV
import Derived.Test.YteccopaonadbeaaGreatDoorAmS
set_option linter.unusedVariables false
set_option linter.unusedSimpArgs false
namespace Go.AM
set_option linter.unusedSimpArgs false
noncomputable section
section
variable {R S:Type} {env:Env} {r:Rec}
theorem evD_bind (g:R→Option S) (F:Nat):∀(c:Code) (fr:Fr) (H:Hp) (kd:AV→List AV→Fr→Hp→Option R) (kr:Fr→Hp→Option R) (krd:AV→List AV→Fr→Hp→Option R),
 (evD env r F c fr H kd kr krd).bind g=evD env r F c fr H (fun a zs fr H=>(kd a zs fr H).bind g) (fun fr H=>(kr fr H).bind g) (fun a zs fr H=>(krd a zs fr H).bind g):=by
 intro c
 induction c with
 |seq a b iha ihb=>
  intro fr H kd kr krd
  simp only[evD]
  rw[bif_bind,iha,ev_bind]
  simp only[ev_bind,ihb]
  rfl
 |region id ops draw=>
  intro fr H kd kr krd
  simp only[evD,bif_bind]
  congr 1
  split
  ·rw[evOps_bind]
   congr 1
   funext fr H
   split<;>rfl
  ·rfl
 |_=>intro fr H kd kr krd;rfl
def callK {R:Type} (e:Env) (r:Rec) (F:Nat) (g:AV) (zs:List AV) (H:Hp) (k:Hp→Option R):Option R:=
 match g with
 | .func f a b=>(e.fn f).bind fun fn=>ev e r F none fn.code (frame0 (a++zs++b) fn.ntmps) H (fun fr H=>(retA e.P fn.results fr H).bind fun p=>k p.2) (fun _ _ _=>none) (fun fr H=>(retA e.P fn.results fr H).bind fun p=>k p.2) (fun _ _ _=>none)
 |_=>none
theorem callK_bind (F:Nat) (g:AV) (zs:List AV) (H:Hp) (k:Hp→Option R):callK env r F g zs H k=(callB env r F g zs H).bind fun p=>k p.2:=by
 cases g with
 |func f a b=>
  simp only[callK,callB]
  cases env.fn f with
  |none=>rfl
  |some fn=>simp only[Option.bind_some,ev_bind];rfl
 |_=>rfl
def endDK {R:Type} (e:Env) (r:Rec) (F:Nat) (fn:FnA) (k:AV→Hp→Option R) (g:AV) (zs:List AV) (fr:Fr) (H:Hp):Option R:=
 callK e r F g zs H fun H'=>(retA e.P fn.results fr H').bind fun p=>k p.1 p.2
def bodyDK {R:Type} (e:Env) (r:Rec) (F:Nat) (f:FuncId) (args:List AV) (H:Hp) (k:AV→Hp→Option R):Option R:=
 (e.fn f).bind fun fn=>evD e r F fn.code (frame0 args fn.ntmps) H (endDK e r F fn k) (fun fr H=>(retA e.P fn.results fr H).bind fun p=>k p.1 p.2) (endDK e r F fn k)
theorem endDK_bind (F:Nat) (fn:FnA) (k:AV→Hp→Option R) (g:AV) (zs:List AV) (fr:Fr) (H:Hp):endDK env r F fn k g zs fr H=(endD env r F fn g zs fr H).bind fun p=>k p.1 p.2:=by
 unfold endDK endD
 rw[callK_bind]
 cases callB env r F g zs H<;>rfl
theorem bodyDK_bind (F:Nat) (f:FuncId) (args:List AV) (H:Hp) (k:AV→Hp→Option R):bodyDK env r F f args H k=(bodyD env r F f args H).bind fun p=>k p.1 p.2:=by
 unfold bodyDK bodyD
 cases env.fn f with
 |none=>rfl
 |some fn=>
  simp only[Option.bind_some]
  rw[evD_bind]
  congr 1
  ·funext g zs fr H;exact endDK_bind F fn k g zs fr H
  ·funext g zs fr H;exact endDK_bind F fn k g zs fr H
end
def envN (e:Env) (tb:Tb) (f:FuncId):Env:={envF e tb f with lp:=fun _ _=>none}
def liftD (e:Env) (tb:Tb) (K n:Nat) (f:FuncId) (S:FunS) (ds:List D):Option (List D):=
 bodyDK (envN e tb f) (runTb e tb K n) K f (argF S (ds.take S.np) (ds.drop S.np)) (heapF S (ds.take S.np) (ds.drop S.np)) (retF S (ds.take S.np))
theorem liftD_sound {e:Env} {tb:Tb} (hok:EnvOk e) (h:TbOk e tb) (K n:Nat) {f:FuncId} {S:FunS}:SoundF e.P f S (liftD e tb K n f S):=by
 intro p s r hpl hr lo w0 ρ E w vs inv ra
 unfold liftD at hr
 rw[← hpl,List.take_left,List.drop_left,bodyDK_bind]at hr
 obtain⟨⟨v0,Hc⟩,hb,hk⟩:=Option.bind_eq_some_iff.1 hr
 have hokN:EnvOk (envN e tb f):=envF_ok (tb:=tb) hok f
 have hfn:HasFn (envN e tb f) (runTb e tb K n):=runTb_fn h K n
 have hrs:SoundRec (envN e tb f).P (envN e tb f).pre (runTb e tb K n):=runTb_sound hok h K n
 have hs:=bodyD_sound hokN hfn hrs (fun i=> @draw_sound i _ _ hokN hfn hrs) (fun _ _=>rfl) K f (fun _ _ _=>[]) _ _ _ _ hb rfl
 refine(hs lo w0 ρ E w vs inv ra).mono ?_
 rintro e' w' ⟨u,ρ',E',rfl,inv',reach,hrep⟩
 unfold retF at hk
 split at hk
 ·rename_i q hq
  obtain⟨h1,h2⟩:=guardAll_some hk
  cases h2
  obtain⟨o1,o2⟩:=allB_both h1
  have hp:=eqD2_eq o2
  have st:St lo w0 ρ E w ρ' E' Hc [v0] {tmps:= #[u],defers:=[]} w':=⟨inv',⟨rfl,fun t x ht=>by
   cases t with
   |zero=>simp at ht;subst ht;simpa using hrep
   |succ t=>simp at ht,rfl⟩,reach⟩
  obtain⟨ρ2,E2,st2⟩:=nrmC_wk hq o1 (σp:=bdL p) (σs:=bdL q.s) (js:=0) (by rw[hp];exact bdL_ats p) (bdL_ats q.s) lo w0 ρ E w ρ' E' _ w' inv.dom st
  refine⟨u,ρ2,E2,rfl,st2.inv,st2.reach,?_⟩
  unfold resF
  cases hm:mkFr (bdL p) (bdL q.s) S.rs S.rhs 0 with
  |nil=>simp only[List.headD_nil,Rep]
  |cons x xs=>
   have:=st2.fr.rep 0 x (by rw[hm];rfl)
   simpa using this
 ·cases hk
end
end Go.AM
