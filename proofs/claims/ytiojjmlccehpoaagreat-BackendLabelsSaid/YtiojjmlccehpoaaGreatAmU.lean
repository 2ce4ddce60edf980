/-
  Closed runs over a table of contracts: the surroundings stay the same from call to call, so that the kernel keeps what it has reckoned of types.
-/
import Derived.Test.YtiojjmlccehpoaaGreatAmT
set_option linter.unusedSimpArgs false
set_option linter.unusedVariables false
namespace Go.AM
noncomputable def w8 (e:Env) (tb:Tb) (F:Nat):Nat->Rec
 |0=>tb.T
 |n+1=>fun f args H=>sL (tb.T f args H) ((e.fn f).bind fun fn=>
   ev e (w8 e tb F n) F none fn.code (ff args fn.ntmps) H (retA e.P fn.results) (fun _ _ _=>none) (retA e.P fn.results) (fun _ _ _=>none))
section
variable {e:Env} {tb:Tb}
theorem GZ (h:TbOk e tb) (F n:Nat):gS e (w8 e tb F n):=by
 cases n with
 |zero=>exact h.h
 |succ n=>
  intro f args H p hp;simp only[w8]at hp;cases ht:tb.T f args H with
  |some q=>exact h.h f args H q ht
  |none=>
   rw[ht]at hp;simp only[sL]at hp;cases hF:e.fn f with
   |none=>simp[hF]at hp
   |some F=>exact⟨F,rfl⟩
theorem G0 (hok:ed e) (hl:∀n c,e.lp n c=none) (hp:e.pre=tb.O) (h:TbOk e tb) (F:Nat):∀n,cB e.P tb.O (w8 e tb F n):=by
 intro n
 induction n with
 |zero=>intro f args H v H' hv hp;exact h.t f args H v H' hv hp
 |succ n ih=>
  intro f args H v H' hv hpr;simp only[w8]at hv;cases ht:tb.T f args H with
  |some q=>rw[ht]at hv;exact h.t f args H v H' (by rw[ht];exact hv) hpr
  |none=>
   rw[ht]at hv;simp only[sL]at hv;exact QG hok hl F (GZ h F n) (by rw[hp];exact ih) (kM hok (GZ h F n) (by rw[hp];exact ih)) f tb.O args H v H' hv hpr
noncomputable def N8 (e:Env) (tb:Tb) (run:Rec) (f:FuncId) (S:FunS) (ds:List D):Option (List D):=
 bif aU (tb.O f (DD S (ds.take S.np) (ds.drop S.np)) (eV S (ds.take S.np) (ds.drop S.np)))then
  (run f (DD S (ds.take S.np) (ds.drop S.np)) (eV S (ds.take S.np) (ds.drop S.np))).bind fun p=>qV S (ds.take S.np) p.1 p.2
 else none
theorem G1 (e:Env) (tb:Tb) {run:Rec} (hs:cB e.P tb.O run) {f:FuncId} {S:FunS}:aH e.P f S (N8 e tb run f S):=by
 intro p s r hpl hr lo w0 ρ E w vs inv ra;unfold N8 at hr;rw[<- hpl,List.take_left,List.drop_left]at hr;cases hb:aU (tb.O f (DD S p s) (eV S p s))with
 |false=>simp[hb]at hr
 |true=>
 simp only[hb,aj]at hr;obtain⟨⟨v0',Hc'⟩,hrun,hk⟩:=aT.1 hr;refine(hs f _ _ v0' Hc' hrun hb lo w0 ρ E w vs inv ra).mono ?_
 rintro e' w' ⟨u,ρ',E',rfl,inv',reach,hrep⟩;simp only at hk;unfold qV at hk;split at hk
 ·rename_i q hq;obtain⟨h1,h2⟩:=eU hk;cases h2;obtain⟨o1,o2⟩:=bH h1;have hp:=ph o2
  have st:St lo w0 ρ E w ρ' E' Hc' [v0'] {tmps:= #[u],defers:=[]} w':=⟨inv',⟨rfl,fun t x ht=>by
   cases t with
   |zero=>simp at ht;subst ht;simpa using hrep
   |succ t=>simp at ht,rfl⟩,reach⟩
  obtain⟨ρ2,E2,st2⟩:=pf hq o1 (σp:=bdL p) (σs:=bdL q.s) (js:=0) (by rw[hp];exact dE p) (dE q.s) lo w0 ρ E w ρ' E' _ w' inv.dom st
  refine⟨u,ρ2,E2,rfl,st2.inv,st2.reach,?_⟩
  unfold GW;cases hm:mo (bdL p) (bdL q.s) S.rs S.rhs 0 with
  |nil=>simp only[List.headD_nil,Rep]
  |cons x xs=>
   have:=st2.fr.rep 0 x (by rw[hm];rfl)
   simpa using this
 ·cases hk
end
end Go.AM
