/-
  Code, and functions.
-/
import Derived.Test.YteccopaonadbeaaGreatDoorAmDq
set_option linter.unusedVariables false
set_option linter.unusedSimpArgs false
namespace Go.AM
set_option linter.unusedSectionVars false
section
variable [HasDef]
def DrawSound (env:Env) (r:Rec):Prop:=
 ∀(lo:Nat→Prop) (w0:World) (ρ0:Nat→Option Nat) (E0:Nat→Prop) (wE:World) (R:Type) (res:R) (id:Nat) (ops:Array Oper) (kn:Fr→Hp→Option R) (Q:Exit→Act→World→Prop) (fr:Fr) (H:Hp),
  (drawOk env (fixO env ops)&&fixOk env ops)=true→evOpsT env r (fixO env ops) (fun log fr H=>bif drawDyn env (fixO env ops) (log.reverse ++ [(fr,H)])then kn fr H else none) (fixO env ops).toList [] (clrE env ops fr) H=some res→After lo w0 ρ0 E0 wE res kn (Q .normal)→
  ∀ρ E a w,St lo w0 ρ0 E0 wE ρ E H fr a w→(Code.region id ops true).wp env.P Q a w
def SoundLp (P:Program) (n0:Nat) (c:Code) (g:Fr→Hp→Ot):Prop:=
 ∀(lo:Nat→Prop) (w0:World) (ρ0:Nat→Option Nat) (E0:Nat→Prop) (wE:World) (R:Type) (res:R) (fr:Fr) (H:Hp) (kx:Nat→Fr→Hp→Option R) (kr:Fr→Hp→Option R) (kg:Nat→Fr→Hp→Option R) (Q:Exit→Act→World→Prop),(∀i b,ρ0 i=some b→i<n0)→
  (g fr H).go (fun _ _=>none) kx kr kg=some res→(∀i,After lo w0 ρ0 E0 wE res (kx i) (Q (.exit i)))→After lo w0 ρ0 E0 wE res kr (Q .ret)→(∀l,After lo w0 ρ0 E0 wE res (kg l) (Q (.goto l)))→
  ∀ρ E a w,St lo w0 ρ0 E0 wE ρ E H fr a w→(Code.loop c).wp P Q a w
end
def loopsOf:Code→List Code
 | .seq a b=>loopsOf a++loopsOf b
 | .cond _ a b=>loopsOf a++loopsOf b
 | .block _ c=>loopsOf c
 | .loop c=>c::loopsOf c
 | .scope c=>loopsOf c
 |_=>[]
section
variable [HasDef] {lo:Nat→Prop} {w0:World} {ρ0:Nat→Option Nat} {E0:Nat→Prop} {wE:World} {env:Env} {r:Rec}
theorem ev_sound (hok:EnvOk env) (hf:HasFn env r) (hr:SoundRec env.P env.pre r) (hd:DrawSound env r) (hn0:(∀i b,ρ0 i=some b→i<env.n0)∨∀n c,env.lp n c=none) (fuel:Nat) {R:Type} {res:R}:
 ∀(c:Code),(∀x∈loopsOf c,∀g,env.lp env.n0 x=some g→SoundLp env.P env.n0 x g)→∀(seek:Option Nat) (fr:Fr) (H:Hp) (kn:Fr→Hp→Option R) (kx:Nat→Fr→Hp→Option R) (kr:Fr→Hp→Option R) (kg:Nat→Fr→Hp→Option R) (Q:Exit→Act→World→Prop),
  ev env r fuel seek c fr H kn kx kr kg=some res→After lo w0 ρ0 E0 wE res kn (Q .normal)→(∀i,After lo w0 ρ0 E0 wE res (kx i) (Q (.exit i)))→After lo w0 ρ0 E0 wE res kr (Q .ret)→(∀l,After lo w0 ρ0 E0 wE res (kg l) (Q (.goto l)))→
  ∀ρ E a w,St lo w0 ρ0 E0 wE ρ E H fr a w→match seek with
   |none=>c.wp env.P Q a w
   |some l=>∀rest,findLabel c l=some rest→rest.wp env.P Q a w:=by
 intro c
 induction c with
 |skip=>
  intro hlp seek fr H kn kx kr kg Q h hn hx hret hg ρ E a w st
  cases seek with
  |none=>simp only[ev]at h;exact wp_skip (hn _ _ _ _ _ _ h st)
  |some l=>simp[ev]at h
 |label l'=>
  intro hlp seek fr H kn kx kr kg Q h hn hx hret hg ρ E a w st
  cases seek with
  |none=>simp only[ev]at h;exact wp_label (hn _ _ _ _ _ _ h st)
  |some l=>
   intro rest hrest
   simp only[ev]at h
   cases hb:Nat.beq l' l with
   |false=>simp[hb]at h
   |true=>
    simp only[hb,cond_true]at h
    have:l'=l:=Nat.eq_of_beq_eq_true hb
    subst this
    simp only[findLabel,beq_self_eq_true,if_true,Option.some.injEq]at hrest
    subst hrest
    exact wp_skip (hn _ _ _ _ _ _ h st)
 |ret=>
  intro hlp seek fr H kn kx kr kg Q h hn hx hret hg ρ E a w st
  cases seek with
  |none=>simp only[ev]at h;exact wp_ret (hret _ _ _ _ _ _ h st)
  |some l=>simp[ev]at h
 |exit id=>
  intro hlp seek fr H kn kx kr kg Q h hn hx hret hg ρ E a w st
  cases seek with
  |none=>simp only[ev]at h;exact wp_exit (hx id _ _ _ _ _ _ h st)
  |some l=>simp[ev]at h
 |goto l'=>
  intro hlp seek fr H kn kx kr kg Q h hn hx hret hg ρ E a w st
  cases seek with
  |none=>simp only[ev]at h;exact wp_goto (hg l' _ _ _ _ _ _ h st)
  |some l=>simp[ev]at h
 |seq x y ihx ihy=>
  intro hlp seek fr H kn kx kr kg Q h hn hx hret hg ρ E a w st
  replace ihx:=ihx fun z hz=>hlp z (by simp[loopsOf,hz])
  replace ihy:=ihy fun z hz=>hlp z (by simp[loopsOf,hz])
  have both:∀(sk:Option Nat) (fr:Fr) (H:Hp),ev env r fuel sk x fr H (fun fr H=>ev env r fuel none y fr H kn kx kr kg) kx kr kg=some res→∀ρ E a w,St lo w0 ρ0 E0 wE ρ E H fr a w→match sk with
   |none=>x.wp env.P (Exit.then (y.wp env.P Q) Q) a w
   |some l=>∀rest,findLabel x l=some rest→rest.wp env.P (Exit.then (y.wp env.P Q) Q) a w:=by
   intro sk fr H h ρ E a w st
   refine ihx sk fr H _ kx kr kg (Exit.then (y.wp env.P Q) Q) h ?_ ?_ ?_ ?_ ρ E a w st
   ·intro ρ1 E1 fr1 H1 a1 w1 h1 st1
    exact ihy none fr1 H1 kn kx kr kg Q h1 hn hx hret hg ρ1 E1 a1 w1 st1
   ·intro i;exact hx i
   ·exact hret
   ·intro l;exact hg l
  cases seek with
  |none=>
   simp only[ev]at h
   cases hq:(env.clr&&quiet env x)with
   |false=>
    simp only[hq,cond_false]at h
    exact wp_seq (both none fr H h ρ E a w st)
   |true=>
    simp only[hq,cond_true]at h
    split at h
    ·rename_i q hqq
     rw[guardAll_eq]at h
     cases ho:allB q.2 with
     |false=>simp[ho]at h
     |true=>
      simp only[ho,cond_true]at h
      simp only[Bool.and_eq_true]at hq
      refine wp_seq (evQ_sound hok hf hr x (Exit.then (y.wp env.P Q) Q) fr q hq.2 hqq ho (fun ρ1 E1 a1 w1 st1=> ?_) ρ E a w st)
      exact ihy none q.1 H kn kx kr kg Q h hn hx hret hg ρ1 E1 a1 w1 st1
    ·exact wp_seq (both none fr H h ρ E a w st)
  |some l=>
   intro rest hrest
   simp only[ev]at h
   simp only[findLabel]at hrest
   cases hl:findLabel x l with
   |none=>
    simp only[hl,Option.isSome_none,cond_false]at h hrest
    exact ihy (some l) fr H kn kx kr kg Q h hn hx hret hg ρ E a w st rest hrest
   |some rx=>
    simp only[hl,Option.isSome_some,cond_true]at h
    simp only[hl,Option.some.injEq]at hrest
    subst hrest
    exact wp_seq (both (some l) fr H h ρ E a w st rx hl)
 |cond c x y ihx ihy=>
  intro hlp seek fr H kn kx kr kg Q h hn hx hret hg ρ E a w st
  replace ihx:=ihx fun z hz=>hlp z (by simp[loopsOf,hz])
  replace ihy:=ihy fun z hz=>hlp z (by simp[loopsOf,hz])
  cases seek with
  |some l=>simp[ev]at h
  |none=>
   simp only[ev]at h
   split at h
   ·rename_i t ht
    have hc:a.eval c = .bool t:=by
     have:=st.fr.opd c
     rw[ht]at this
     simpa only[Rep]using this
    cases t with
    |true=>simp only[cond_true]at h;exact wp_cond_true hc (ihx none fr H kn kx kr kg Q h hn hx hret hg ρ E a w st)
    |false=>simp only[cond_false]at h;exact wp_cond_false hc (ihy none fr H kn kx kr kg Q h hn hx hret hg ρ E a w st)
   ·rename_i t ht
    have hc:a.eval c = .bool t:=by
     have:=st.fr.opd c
     rw[ht]at this
     simpa only[Rep]using this
    cases t with
    |true=>simp only[cond_true]at h;exact wp_cond_true hc (ihx none fr H kn kx kr kg Q h hn hx hret hg ρ E a w st)
    |false=>simp only[cond_false]at h;exact wp_cond_false hc (ihy none fr H kn kx kr kg Q h hn hx hret hg ρ E a w st)
   ·cases h
 |block id x ih=>
  intro hlp seek fr H kn kx kr kg Q h hn hx hret hg ρ E a w st
  replace ih:=ih fun z hz=>hlp z (by simp[loopsOf,hz])
  cases seek with
  |some l=>simp[ev]at h
  |none=>
   simp only[ev]at h
   refine wp_block (ih none fr H kn _ kr kg (Exit.inBlock id Q) h hn ?_ hret hg ρ E a w st)
   intro i ρ1 E1 fr1 H1 a1 w1 h1 st1
   simp only[Exit.inBlock]
   cases hb:Nat.beq i id with
   |true=>
    simp only[hb,cond_true]at h1
    rw[if_pos (Nat.eq_of_beq_eq_true hb)]
    exact hn _ _ _ _ _ _ h1 st1
   |false=>
    simp only[hb,cond_false]at h1
    rw[if_neg (fun e=>by subst e;simp at hb)]
    exact hx i _ _ _ _ _ _ h1 st1
 |loop x ih=>
  intro hlp seek fr H kn kx kr kg Q h hn hx hret hg ρ E a w st
  replace ih:=ih fun z hz=>hlp z (by simp[loopsOf,hz])
  cases seek with
  |some l=>simp[ev]at h
  |none=>
   simp only[ev]at h
   split at h
   ·rename_i g hlg
    rcases hn0 with hn0|hn0
    ·exact hlp x (by simp[loopsOf]) g hlg lo w0 ρ0 E0 wE R res fr H kx kr kg Q hn0 h hx hret hg ρ E a w st
    ·rw[hn0]at hlg;cases hlg
   ·rename_i hlg
    have hL:=st.dom0
    have key:∀m fr1 H1,loopN env.clr (tmpsOf x) H.n (fun fr H kn=>ev env r fuel none x fr H kn kx kr kg) m fr1 H1=some res→∀ρ E a w,St lo w0 ρ0 E0 wE ρ E H1 fr1 a w→Code.rounds env.P x Q m a w:=by
     intro m
     induction m with
     |zero=>intro fr1 H1 h1;simp[loopN]at h1
     |succ m ihm=>
      intro fr1 H1 h1 ρ1 E1 a1 w1 st1
      rw[rounds_succ]
      have go:∀fr2 H2,ev env r fuel none x fr2 H2 (loopN env.clr (tmpsOf x) H.n (fun fr H kn=>ev env r fuel none x fr H kn kx kr kg) m) kx kr kg=some res→∀ρ E,St lo w0 ρ0 E0 wE ρ E H2 fr2 a1 w1→x.wp env.P (Exit.then (Code.rounds env.P x Q m) Q) a1 w1:=by
       intro fr2 H2 h2 ρ2 E2 st2
       refine ih none fr2 H2 _ kx kr kg (Exit.then (Code.rounds env.P x Q m) Q) h2 ?_ ?_ ?_ ?_ ρ2 E2 a1 w1 st2
       ·intro ρ3 E3 fr3 H3 a3 w3 h3 st3;exact ihm fr3 H3 h3 ρ3 E3 a3 w3 st3
       ·intro i;exact hx i
       ·exact hret
       ·intro l;exact hg l
      simp only[loopN]at h1
      cases hclr:env.clr with
      |false=>simp only[hclr,cond_false]at h1;exact go fr1 H1 (by rw[hclr];exact h1) ρ1 E1 st1
      |true=>
       simp only[hclr,cond_true]at h1
       obtain⟨ρ2,st2⟩:=(st1.clear (tmpsOf x)).gc hL
       exact go _ _ (by rw[hclr];exact h1) ρ2 E1 st2
    exact wp_loop_rounds fuel (key fuel fr H h ρ E a w st)
 |scope x ih=>
  intro hlp seek fr H kn kx kr kg Q h hn hx hret hg ρ E a w st
  replace ih:=ih fun z hz=>hlp z (by simp[loopsOf,hz])
  cases seek with
  |some l=>simp[ev]at h
  |none=>
   simp only[ev]at h
   have hL:=st.dom0
   have key:∀m l fr1 H1,jumpN env.clr (tmpsOf x) H.n x kg (fun l fr H kg=>ev env r fuel (some l) x fr H kn kx kr kg) m l fr1 H1=some res→∀ρ E a w,St lo w0 ρ0 E0 wE ρ E H1 fr1 a w→jumps env.P x Q m l a w:=by
    intro m
    induction m with
    |zero=>intro l fr1 H1 h1;simp[jumpN]at h1
    |succ m ihm=>
     intro l fr1 H1 h1 ρ1 E1 a1 w1 st1
     simp only[jumps]
     simp only[jumpN]at h1
     cases hl:findLabel x l with
     |none=>
      simp only[hl,Option.isSome_none,cond_false]at h1
      exact hg l _ _ _ _ _ _ h1 st1
     |some rest=>
      simp only[hl,Option.isSome_some,cond_true]at h1
      have go:∀fr2 H2,ev env r fuel (some l) x fr2 H2 kn kx kr (jumpN env.clr (tmpsOf x) H.n x kg (fun l fr H kg=>ev env r fuel (some l) x fr H kn kx kr kg) m)=some res→∀ρ E,St lo w0 ρ0 E0 wE ρ E H2 fr2 a1 w1→
       rest.wp env.P (fun e a w=>match e with | .goto l'=>jumps env.P x Q m l' a w|e=>Q e a w) a1 w1:=by
       intro fr2 H2 h2 ρ2 E2 st2
       refine ih (some l) fr2 H2 kn kx kr _ (fun e a w=>match e with | .goto l'=>jumps env.P x Q m l' a w|e=>Q e a w) h2 hn hx hret ?_ ρ2 E2 a1 w1 st2 rest hl
       intro l' ρ3 E3 fr3 H3 a3 w3 h3 st3
       exact ihm l' fr3 H3 h3 ρ3 E3 a3 w3 st3
      cases hclr:env.clr with
      |false=>simp only[hclr,cond_false]at h1;exact go fr1 H1 (by rw[hclr];exact h1) ρ1 E1 st1
      |true=>
       simp only[hclr,cond_true]at h1
       obtain⟨ρ2,st2⟩:=(st1.clear (tmpsOf x)).gc hL
       exact go _ _ (by rw[hclr];exact h1) ρ2 E1 st2
   refine wp_scope_fuel fuel ?_
   refine ih none fr H kn kx kr _ (fun e a w=>match e with | .goto l=>jumps env.P x Q fuel l a w|e=>Q e a w) h hn hx hret ?_ ρ E a w st
   intro l' ρ3 E3 fr3 H3 a3 w3 h3 st3
   exact key fuel l' fr3 H3 h3 ρ3 E3 a3 w3 st3
 |region id ops draw=>
  intro hlp seek fr H kn kx kr kg Q h hn hx hret hg ρ E a w st
  cases seek with
  |some l=>simp[ev]at h
  |none=>
   simp only[ev]at h
   cases draw with
   |false=>
    simp only[cond_false]at h
    exact wp_region_list (ops_sound hok hf hr hn true ops.toList fr H h ρ E a w st)
   |true=>
    simp only[cond_true]at h
    cases hdr:drawOk env (fixO env ops)&&fixOk env ops with
    |false=>simp[hdr]at h
    |true=>
     simp only[hdr,cond_true]at h
     exact hd lo w0 ρ0 E0 wE R res id ops kn Q fr H hdr h hn ρ E a w st
 |rangeFunc f ps x y ihx ihy=>
  intro hlp seek fr H kn kx kr kg Q h
  cases seek<;>simp[ev]at h
 |refuse why=>
  intro hlp seek fr H kn kx kr kg Q h
  cases seek<;>simp[ev]at h
def resS (tmps:Array Value):ResultVar→Sem Value
 | .tmp t=>pure (tmps.getD t undef)
 | .cell a t=>do loadVar t (← asAddr (tmps.getD a undef))
theorem res_sound {P:Program} {ρ:Nat→Option Nat} {E:Nat→Prop} {H:Hp} {fr:Fr} {a:Act} {w:World} (inv:Inv lo w0 ρ E H w) (hfr:FrRep ρ E w fr a) {x:ResultVar} {v:AV} (h:resA P fr H x=some v):
 OkP P ρ E w (resS a.tmps x) v:=by
 cases x with
 |tmp t=>
  simp only[resA]at h
  exact⟨_,by simp[resS],hfr.rep t v h⟩
 |cell b T=>
  simp only[resA]at h
  cases hx:fr[b]? with
  |none=>simp[hx]at h
  |some x=>
   simp only[hx,Option.bind_some]at h
   cases hb:(atObl H x).isEmpty with
   |false=>simp[hb]at h
   |true=>
   simp only[hb,cond_true]at h
   obtain⟨ad,he,u,hr,hv⟩:=ok_loadVar (P:=P) inv h (by rw[List.isEmpty_iff.1 hb];rfl) (hfr.rep b x hx)
   exact⟨u,by simp[resS,he,asAddr,hr],hv⟩
theorem ret_sound {P:Program} {fn:Func} {ρ:Nat→Option Nat} {E:Nat→Prop} {H H':Hp} {fr:Fr} {a:Act} {w:World} (inv:Inv lo w0 ρ E H w) (hfr:FrRep ρ E w fr a) {v:AV} (h:retA P fn.results.toList fr H=some (v,H')):
 H'=H∧OkP P ρ E w (results fn a.tmps) v:=by
 have many:∀(rs:List ResultVar) (vs:List AV),mapO (resA P fr H) rs=some vs→∃us,(rs.mapM (resS a.tmps)).run P w = .ok us w∧RepL ρ E w vs us:=by
  intro rs
  induction rs with
  |nil=>intro vs hm;simp only[mapO,Option.some.injEq]at hm;subst hm;exact⟨[],by simp,RepL.nil⟩
  |cons x rs ih=>
   intro vs hm
   simp only[mapO]at hm
   cases hx:resA P fr H x with
   |none=>simp[hx]at hm
   |some y=>
    cases hrest:mapO (resA P fr H) rs with
    |none=>simp[hx,hrest]at hm
    |some ys=>
     simp[hx,hrest]at hm
     subst hm
     obtain⟨us,hru,hrl⟩:=ih ys hrest
     obtain⟨u,hu,hv⟩:=res_sound inv hfr hx
     exact⟨u::us,by rw[List.mapM_cons];simp only[Sem.run_bind,hu,Result.andThen_ok,hru,Sem.run_pure],RepL.cons hv hrl⟩
 have hres:results fn a.tmps=(do
  let vs ← fn.results.toList.mapM (resS a.tmps)
  pure (if h:vs.toArray.size=1 then vs.toArray[0]else .tuple vs.toArray)):=by
  have e:results fn a.tmps=(do
   let vs ← fn.results.mapM (resS a.tmps)
   pure (if h:vs.size=1 then vs[0]else .tuple vs)):=by
   unfold results
   congr 1
  rw[e,Array.mapM_eq_mapM_toList]
  simp only[map_eq_pure_bind,bind_assoc,pure_bind]
 unfold retA at h
 split at h
 ·rename_i x hx
  cases hr:resA P fr H x with
  |none=>simp[hr]at h
  |some v'=>
   simp[hr]at h
   obtain⟨rfl,rfl⟩:=h
   obtain⟨us,hru,hrl⟩:=many [x] [v'] (by simp[mapO,hr])
   simp only[RepL]at hrl
   obtain⟨u,us',rfl,hv,rfl⟩:=hrl
   refine⟨rfl,u,?_,hv⟩
   rw[hres,hx]
   simp only[Sem.run_bind,hru,Result.andThen_ok]
   simp
 ·rename_i hne
  cases hm:mapO (resA P fr H) fn.results.toList with
  |none=>simp[hm]at h
  |some vs=>
   simp[hm]at h
   obtain⟨rfl,rfl⟩:=h
   obtain⟨us,hru,hrl⟩:=many _ vs hm
   have hl:us.length≠1:=by
    intro e
    rw[← hrl.length, ← mapO_len hm]at e
    match hq:fn.results.toList,e with
    | [x],_=>exact hne x hq
   refine⟨rfl, .tuple us.toArray,?_,by simp only[Rep];exact⟨us.toArray,rfl,by simpa using hrl⟩⟩
   rw[hres]
   simp only[Sem.run_bind,hru,Result.andThen_ok]
   simp[hl]
end
section
variable {lo:Nat→Prop} {w0:World} {ρ0:Nat→Option Nat} {E0:Nat→Prop} {wE:World} {env:Env} {r:Rec}
theorem frame0_rep {ρ:Nat→Option Nat} {E:Nat→Prop} {w:World} {args:List AV} {vs:Array Value} (n:Nat) (h:RepL ρ E w args vs.toList):
 FrRep ρ E w (frame0 args n) {tmps:=vs++Array.replicate (n-vs.size) undef,defers:=[]}:=by
 have hl:args.length=vs.size:=by rw[h.length,Array.length_toList]
 refine⟨by simp[frame0,hl],fun t x ht=> ?_,rfl⟩
 simp only[frame0]at ht
 by_cases hlt:t<args.length
 ·rw[List.getElem?_append_left hlt]at ht
  obtain⟨v,hv,hr⟩:=h.get ht
  have hv':vs[t]? = some v:=by simpa using hv
  have:(vs++Array.replicate (n-vs.size) undef).getD t undef=v:=by
   rw[Array.getD_eq_getD_getElem?,Array.getElem?_append_left (by omega),hv'];rfl
  rw[this];exact hr
 ·rw[List.getElem?_append_right (by omega),List.getElem?_replicate]at ht
  split at ht
  ·cases ht
   have:(vs++Array.replicate (n-vs.size) undef).getD t undef=undef:=by
    rw[Array.getD_eq_getD_getElem?,Array.getElem?_append_right (by omega),Array.getElem?_replicate]
    split<;>rfl
   rw[this]
   simp only[uv,Rep]
  ·cases ht
noncomputable def bodyRun (env:Env) (r:Rec) (fuel:Nat):Rec:=fun f args H=>(env.fn f).bind fun fn=>
 ev {env with n0:=H.n} r fuel none fn.code (frame0 args fn.ntmps) H (retA env.P fn.results) (fun _ _ _=>none) (retA env.P fn.results) (fun _ _ _=>none)
theorem body_fn (env:Env) (r:Rec) (n:Nat):HasFn env (bodyRun env r n):=by
 intro f args H p h
 simp only[bodyRun]at h
 cases hf:env.fn f with
 |none=>simp[hf]at h
 |some F=>exact⟨F,rfl⟩
theorem body_sound1 (hok:EnvOk env) (n:Nat) (hf:HasFn env r) (ih:SoundRec env.P env.pre r) (hd:∀k,DrawSound {env with n0:=k} r) (f:FuncId) (hlp:∀F,env.fn f=some F→∀x∈loopsOf F.code,∀n0 g,env.lp n0 x=some g→SoundLp env.P n0 x g) (pre:FuncId→List AV→Hp→List Bool):SoundAt env.P pre (bodyRun env r n) f:=by
 intro args H v H' h _ lo w0 ρ E w vs inv ra
 simp only[bodyRun]at h
 cases hF:env.fn f with
 |none=>simp[hF]at h
 |some F=>
  simp only[hF,Option.bind_some]at h
  obtain⟨fn,h1,h2,h3,h4,_⟩:=hok f F hF
  refine calls_of_wp h1 h2 ?_
  rw[h3]
  have st:St lo w0 ρ E w ρ E H (frame0 args F.ntmps) {tmps:=vs++Array.replicate (F.ntmps-vs.size) undef,defers:=[]} w:=⟨inv,frame0_rep F.ntmps ra,Reach.refl⟩
  have fin:∀(ex:Exit),(ex = .normal∨ex = .ret)→After lo w0 ρ E w (v,H') (retA env.P F.results) (bodyPost env.P fn (fun e w'=>∃u ρ' E',e = .returned u∧Inv lo w0 ρ' E' H' w'∧Reach lo ρ E w ρ' E' w'∧Rep ρ' E' w' v u) ex):=by
   intro ex hex ρ' E' fr' H1 a' w' hk st'
   rw[← h4]at hk
   obtain⟨rfl,u,hru,hv⟩:=ret_sound st'.inv st'.fr hk
   have:a'.defers = []∧∃v0,(results fn a'.tmps).run env.P w' = .ok v0 w'∧∃u ρ'' E'',Ending.returned v0 = .returned u∧Inv lo w0 ρ'' E'' H' w'∧Reach lo ρ E w ρ'' E'' w'∧Rep ρ'' E'' w' v u:=
    ⟨st'.fr.defers,u,hru,u,ρ',E',rfl,st'.inv,st'.reach,hv⟩
   rcases hex with rfl|rfl<;>exact this
  exact ev_sound (env:={env with n0:=H.n}) hok hf ih (hd H.n) (.inl inv.dom) n F.code (fun x hx g hg=>hlp F hF x hx H.n g hg) none _ H _ _ _ _ _ h (fin .normal (.inl rfl)) (fun i ρ' E' fr' H1 a' w' hk=>by cases hk) (fin .ret (.inr rfl)) (fun l ρ' E' fr' H1 a' w' hk=>by cases hk) ρ E _ w st
theorem runC_step (hok:EnvOk env) (hl:∀n c,env.lp n c=none) (n:Nat) (hf:HasFn env r) (ih:SoundRec env.P env.pre r) (hd:DrawSound env r) (f:FuncId) (pre:FuncId→List AV→Hp→List Bool):
 SoundAt env.P pre (fun f args H=>(env.fn f).bind fun fn=>ev env r n none fn.code (frame0 args fn.ntmps) H (retA env.P fn.results) (fun _ _ _=>none) (retA env.P fn.results) (fun _ _ _=>none)) f:=by
 intro args H v H' h _ lo w0 ρ E w vs inv ra
 simp only at h
 cases hF:env.fn f with
 |none=>simp[hF]at h
 |some F=>
  simp only[hF,Option.bind_some]at h
  obtain⟨fn,h1,h2,h3,h4,_⟩:=hok f F hF
  refine calls_of_wp h1 h2 ?_
  rw[h3]
  have st:St lo w0 ρ E w ρ E H (frame0 args F.ntmps) {tmps:=vs++Array.replicate (F.ntmps-vs.size) undef,defers:=[]} w:=⟨inv,frame0_rep F.ntmps ra,Reach.refl⟩
  have fin:∀(ex:Exit),(ex = .normal∨ex = .ret)→After lo w0 ρ E w (v,H') (retA env.P F.results) (bodyPost env.P fn (fun e w'=>∃u ρ' E',e = .returned u∧Inv lo w0 ρ' E' H' w'∧Reach lo ρ E w ρ' E' w'∧Rep ρ' E' w' v u) ex):=by
   intro ex hex ρ' E' fr' H1 a' w' hk st'
   rw[← h4]at hk
   obtain⟨rfl,u,hru,hv⟩:=ret_sound st'.inv st'.fr hk
   have:a'.defers = []∧∃v0,(results fn a'.tmps).run env.P w' = .ok v0 w'∧∃u ρ'' E'',Ending.returned v0 = .returned u∧Inv lo w0 ρ'' E'' H' w'∧Reach lo ρ E w ρ'' E'' w'∧Rep ρ'' E'' w' v u:=
    ⟨st'.fr.defers,u,hru,u,ρ',E',rfl,st'.inv,st'.reach,hv⟩
   rcases hex with rfl|rfl<;>exact this
  exact ev_sound hok hf ih hd (.inr hl) n F.code (fun x _ g hg=>by rw[hl]at hg;cases hg) none _ H _ _ _ _ _ h (fin .normal (.inl rfl)) (fun i ρ' E' fr' H1 a' w' hk=>by cases hk) (fin .ret (.inr rfl)) (fun l ρ' E' fr' H1 a' w' hk=>by cases hk) ρ E _ w st
end
end Go.AM
