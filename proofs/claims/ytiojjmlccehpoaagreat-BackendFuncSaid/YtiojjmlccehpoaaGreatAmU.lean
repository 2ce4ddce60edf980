/-
  Closed runs over a table of contracts: the surroundings stay the same from call to call, so that the kernel keeps what it has reckoned of types.
-/
import Derived.Test.YtiojjmlccehpoaaGreatAmT
set_option linter.unusedSimpArgs false
set_option linter.unusedVariables false
namespace Go.AM
noncomputable def xV (e:Env) (tb:Tb) (F:Nat):Nat->Rec
 |0=>tb.T
 |n+1=>fun f args H=>tx (tb.T f args H) ((e.fn f).bind fun fn=>
   ev e (xV e tb F n) F none fn.code (fp args fn.ntmps) H (retA e.P fn.results) (fun _ _ _=>none) (retA e.P fn.results) (fun _ _ _=>none))
section
variable {e:Env} {tb:Tb}
theorem Ic (h:TbOk e tb) (F n:Nat):g8 e (xV e tb F n):=by
 cases n with
 |zero=>exact h.h
 |succ n=>
  intro f args H p hp;simp only[xV]at hp;cases ht:tb.T f args H with
  |some q=>exact h.h f args H q ht
  |none=>
   rw[ht]at hp;simp only[tx]at hp;cases hF:e.fn f with
   |none=>simp[hF]at hp
   |some F=>exact⟨F,rfl⟩
theorem Id (hok:eh e) (hl:∀n c,e.lp n c=none) (hp:e.pre=tb.O) (h:TbOk e tb) (F:Nat):∀n,cB e.P tb.O (xV e tb F n):=by
 intro n
 induction n with
 |zero=>intro f args H v H' hv hp;exact h.t f args H v H' hv hp
 |succ n ih=>
  intro f args H v H' hv hpr;simp only[xV]at hv;cases ht:tb.T f args H with
  |some q=>rw[ht]at hv;exact h.t f args H v H' (by rw[ht];exact hv) hpr
  |none=>
   rw[ht]at hv;simp only[tx]at hv;exact SI hok hl F (Ic h F n) (by rw[hp];exact ih) (lj hok (Ic h F n) (by rw[hp];exact ih)) f tb.O args H v H' hv hpr
noncomputable def PR (e:Env) (tb:Tb) (run:Rec) (f:FuncId) (S:FunS) (ds:List D):Option (List D):=
 bif bf (tb.O f (uE S (ds.take S.np) (ds.drop S.np)) (eD S (ds.take S.np) (ds.drop S.np)))then
  (run f (uE S (ds.take S.np) (ds.drop S.np)) (eD S (ds.take S.np) (ds.drop S.np))).bind fun p=>oz S (ds.take S.np) p.1 p.2
 else none
theorem Ie (e:Env) (tb:Tb) {run:Rec} (hs:cB e.P tb.O run) {f:FuncId} {S:FunS}:aH e.P f S (PR e tb run f S):=by
 intro p s r hpl hr lo w0 ρ E w vs inv ra;unfold PR at hr;rw[<- hpl,List.take_left,List.drop_left]at hr;cases hb:bf (tb.O f (uE S p s) (eD S p s))with
 |false=>simp[hb]at hr
 |true=>
 simp only[hb,ap]at hr;obtain⟨⟨v0',Hc'⟩,hrun,hk⟩:=aZ.1 hr;refine(hs f _ _ v0' Hc' hrun hb lo w0 ρ E w vs inv ra).mono ?_
 rintro e' w' ⟨u,ρ',E',rfl,inv',reach,hrep⟩;simp only at hk;unfold oz at hk;split at hk
 ·rename_i q hq;obtain⟨h1,h2⟩:=fc hk;cases h2;obtain⟨o1,o2⟩:=bJ h1;have hp:=pH o2
  have st:St lo w0 ρ E w ρ' E' Hc' [v0'] {tmps:= #[u],defers:=[]} w':=⟨inv',⟨rfl,fun t x ht=>by
   cases t with
   |zero=>simp at ht;subst ht;simpa using hrep
   |succ t=>simp at ht,rfl⟩,reach⟩
  obtain⟨ρ2,E2,st2⟩:=pG hq o1 (σp:=bdL p) (σs:=bdL q.s) (js:=0) (by rw[hp];exact dK p) (dK q.s) lo w0 ρ E w ρ' E' _ w' inv.dom st
  refine⟨u,ρ2,E2,rfl,st2.inv,st2.reach,?_⟩
  unfold H9;cases hm:mK (bdL p) (bdL q.s) S.rs S.rhs 0 with
  |nil=>simp only[List.headD_nil,Rep]
  |cons x xs=>
   have:=st2.fr.rep 0 x (by rw[hm];rfl)
   simpa using this
 ·cases hk
end
end Go.AM
