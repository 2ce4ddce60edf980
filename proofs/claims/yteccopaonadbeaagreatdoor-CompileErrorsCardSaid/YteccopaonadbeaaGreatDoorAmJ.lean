/-
  Regions that draw their order go as the order of the text does: the step, and the whole.
-/
import Derived.Test.YteccopaonadbeaaGreatDoorAmI
set_option linter.unusedVariables false
set_option linter.unusedSimpArgs false
namespace Go.AM
set_option linter.unusedSectionVars false
section
variable [HasDef] {lo:Nat→Prop} {w0:World} {ρ0:Nat→Option Nat} {E0:Nat→Prop} {wE:World} {env:Env} {r:Rec} {ops:Array Oper} {vT:Nat→AV} {fr0:Fr} {frT:Nat→Fr} {HT:Nat→Hp} {Wd:Nat→Bool}
theorem di_step (hok:EnvOk env) (hf:HasFn env r) (hrec:SoundRec env.P env.pre r) (hdr:drawOk env ops=true) (run:Run env r ops frT HT vT Wd) (h0:frT 0=fr0) {S:List (Fr×Hp)} (hS:∀q,q≤ops.size→S[q]? = some (frT q,HT q)) (hdyn:drawDyn env ops S=true)
 {L:Nat→Bool} {ρ:Nat→Option Nat} {E:Nat→Prop} {p m:Nat} {a:Act} {w:World} (di:DI lo w0 ρ0 E0 wE env ops vT fr0 HT Wd L ρ E p m a w) {i:Nat} (hi:i<ops.size) (hr:Rdy ops L i)
 {K:Act→World→Prop} {Q:Exit→Act→World→Prop} (hK:∀a' w',(∃ρ' E' p' m',DI lo w0 ρ0 E0 wE env ops vT fr0 HT Wd (add L i) ρ' E' p' m' a' w')→K a' w'):wpOp env.P ops Q i K a w:=by
 have ho:ops[i]? = some (ops[i]):=Array.getElem?_eq_getElem hi
 generalize ops[i]=o at ho
 have hup:=up_add (vT:=vT) (fr0:=fr0) hdr di.closed ho hr
 have hcl:=closed_add di.closed hr
 have hag:∀t,(namesOf ops o).elem t=true→(frUp fr0 ops vT L ops.size).getD t .undef=(frT i).getD t .undef:=fun t ht=>up_agrees hdr run h0 di.closed ho hr ht
 have hopd:∀x∈o.op.operands.toList,opd (frUp fr0 ops vT L ops.size) x=opd (frT i) x:=by
  intro x hx
  refine opd_congr fun t e=>hag t (mem_names ?_)
  simp only[opTmps,List.mem_filterMap]
  exact⟨x,hx,by rw[e]⟩
 have hw:Region.wanted o (yielded ops a.tmps)=Wd i:=by
  have hg:=run.guard i o ho
  unfold GuardOk at hg
  split at hg
  ·rename_i e;rw[hg];simp[Region.wanted,e]
  ·rename_i j want e
   obtain⟨s,hs,hcase⟩:=hg
   have hsn:(namesOf ops o).elem s=true:=by
    have:slotOf ops j=s:=by simp only[slotOf];rw[show(ops[j]?).bind (fun x=>x.dst)=some s from hs];rfl
    simp[namesOf,e,this]
   rcases hcase with⟨b,hb,hwd⟩|⟨vs,hb,hwd⟩
   ·rw[← hag s hsn]at hb
    rw[hwd];exact wanted_guard e hs (di.fr.at hb)
   ·rw[← hag s hsn]at hb
    rw[hwd];exact wanted_skip e hs (di.fr.at hb)
 have hat3:cls env o.op=3→i=m:=by
  intro h3
  rcases Nat.lt_trichotomy i m with h|h|h
  ·by_cases hp:p≤i
   ·have:=(di.quiet i o hp h ho h3).1;rw[hr.1]at this;cases this
   ·have:=di.past i o (by omega) ho (.inr h3);rw[hr.1]at this;cases this
  ·exact h
  ·rcases di.stop with e|⟨om,hom,hc3,hlm⟩
   ·omega
   ·rcases pairs_of hdr h hom ho with hpr|hfr
    ·have:=preds_spec di.closed hpr (.inr hr);rw[hlm]at this;cases this
    ·have:=isLd_cls (env:=env) (free_not3 hfr hc3 (by omega));omega
 have hge:cls env o.op=2→i<m:=by
  intro h12
  rcases Nat.lt_trichotomy i m with h|h|h
  ·exact h
  ·rcases di.stop with e|⟨om,hom,hc3,_⟩
   ·omega
   ·rw[← h,ho]at hom;cases hom;omega
  ·rcases di.stop with e|⟨om,hom,hc3,hlm⟩
   ·omega
   ·rcases pairs_of hdr h hom ho with hpr|hfr
    ·have:=preds_spec di.closed hpr (.inr hr);rw[hlm]at this;cases this
    ·have:=isLd_cls (env:=env) (free_not3 hfr hc3 (by omega));omega
 have quiet':∀q x,p≤q→q<m→ops[q]? = some x→cls env x.op=3→add L i q=true∧(HT (q+1)).n=(HT q).n∧(HT (q+1)).gl=(HT q).gl∧
  ∀j y,p≤j→j<q→ops[j]? = some y→cls env y.op=2→add L i j=false→∀b,(HT j).n≤b→(HT (q+1)).get b=(HT q).get b:=by
  intro q x h1 h2 hx hc
  obtain⟨a1,a2,a3,a4⟩:=di.quiet q x h1 h2 hx hc
  refine⟨add_mono a1,a2,a3,fun j y hj1 hj2 hy hcy hl b hb=>a4 j y hj1 hj2 hy hcy ?_ b hb⟩
  cases hlj:L j with
  |false=>rfl
  |true=>rw[add_mono hlj]at hl;cases hl
 have same:∀a' w' E',Inv lo w0 ρ E' (HT m) w'→Reach lo ρ E w ρ E' w'→FrRep ρ E' w' (frUp fr0 ops vT (add L i) ops.size) a'→cls env o.op≠3→(cls env o.op=2→Wd i=false)→K a' w':=by
  intro a' w' E' inv' reach hfr' hc3 hc2
  refine hK a' w' ⟨ρ,E',p,m,{pm:=di.pm,mn:=di.mn,quiet:=quiet',past:=fun j x hj hx hcx=>add_mono (di.past j x hj hx hcx),stop:= ?_,inv:=inv',fr:=hfr',reach:=di.reach.trans reach,closed:=hcl,owed:= ?_}⟩
  ·rcases di.stop with e|⟨om,hom,h3,hl⟩
   ·exact .inl e
   ·refine .inr ⟨om,hom,h3,?_⟩
    have:m≠i:=fun e=>by rw[e,ho]at hom;cases hom;exact hc3 h3
    simp only[add,this,if_false];exact hl
  ·intro j x h1 h2 hx hcx hwx hlx
   by_cases e:j=i
   ·subst e;rw[ho]at hx;cases hx;rw[hc2 hcx]at hwx;cases hwx
   ·simp only[add,e,if_false]at hlx
    exact di.owed j x h1 h2 hx hcx hwx hlx
 have effect:cls env o.op=3→∀ρ' E' a' w',Inv lo w0 ρ' E' (HT (i+1)) w'→Reach lo ρ E w ρ' E' w'→FrRep ρ' E' w' (frUp fr0 ops vT (add L i) ops.size) a'→(isSt o.op=true→ρ'=ρ)→K a' w':=by
  intro h3 ρ' E' a' w' inv' reach hfr' hρs
  have him:=hat3 h3
  obtain⟨m',h1,h2,h3',h4⟩:=exists_next (fun j=>∃x,ops[j]? = some x∧cls env x.op=3) ops.size (ops.size-(i+1)) (i+1) (by omega)
  have hq:∀j x,i+1≤j→j<m'→ops[j]? = some x→cls env x.op≠3:=fun j x hj1 hj2 hx hc=>h3' j hj1 hj2 ⟨x,hx,hc⟩
  have hg:∀j,i+1≤j→j≤m'→Grows (HT (i+1)) (HT j):=by
   intro j hj1 hj2
   have:=grows_between run (p:=i+1) (j-(i+1)) (by omega) (fun q x hq1 hq2=>hq q x (by omega) (by omega))
   rwa [show i+1+(j-(i+1))=j from by omega]at this
  have hgm:=hg m' h1 (Nat.le_refl _)
  have hstop:m'=ops.size∨∃o,ops[m']? = some o∧cls env o.op=3∧add L i m'=false:=by
   rcases h4 with e|⟨x,hx,hcx⟩
   ·exact .inl e
   ·refine .inr ⟨x,hx,hcx,?_⟩
    have hne:m'≠i:=by omega
    simp only[add,hne,if_false]
    cases hl:L m' with
    |false=>rfl
    |true=>
     rcases pairs_of hdr (show i<m' by omega) ho hx with hpr|hfr
     ·have:=preds_spec di.closed hpr (.inl hl);rw[hr.1]at this;cases this
     ·have:=isLd_cls (env:=env) (free_not3 hfr h3 (by omega));omega
  have late:∀j x,i+1≤j→j<m'→ops[j]? = some x→ρ' (HT j).n=none:=by
   intro j x hj1 hj2 hx
   cases hρ:ρ' (HT j).n with
   |none=>rfl
   |some b=>
    have:=inv'.dom _ b hρ
    have:=(hg j hj1 (by omega)).n
    omega
  by_cases hpend:∃j x,p≤j∧j<i∧ops[j]? = some x∧cls env x.op=2∧L j=false
  ·
   have soft:∀j x,p≤j→j<i→ops[j]? = some x→cls env x.op=2→L j=false→isSt o.op=true∧(HT (i+1)).n=(HT i).n∧(HT (i+1)).gl=(HT i).gl∧∀b,(HT j).n≤b→(HT (i+1)).get b=(HT i).get b:=by
    intro j x hj1 hj2 hx hcx hlj
    have hnot:¬((preds ops).getD i []).elem j=true:=fun h=>by
     have:=preds_spec di.closed h (.inr hr);rw[hlj]at this;cases this
    have hst:isSt o.op=true:=by
     rcases pairs_of hdr hj2 hx ho with hpr|hfr
     ·exact(hnot hpr).elim
     ·rcases free_heap hfr with h|h|h|h|h|h
      ·omega
      ·omega
      ·omega
      ·have:=isLd_cls (env:=env) h.1;omega
      ·omega
      ·exact h.2
    exact⟨hst,store_soft run hS hi (by omega) ho hst ((dyn_of hdyn hj2 hx ho hnot).2.2 hcx hst)⟩
   obtain⟨j0,x0,hj01,hj02,hx0,hc0,hl0⟩:=hpend
   obtain⟨hst,sn,sg,_⟩:=soft j0 x0 hj01 hj02 hx0 hc0 hl0
   have hρ:=hρs hst
   subst hρ
   refine hK a' w' ⟨_,E',p,m',{pm:=by have:=di.pm;omega,mn:=h2,quiet:= ?_,past:=fun j x hj hx hcx=>add_mono (di.past j x hj hx hcx),stop:=hstop,inv:=inv'.pad (hgm.len inv'.len) hgm.n hgm.get hgm.gl,fr:=hfr',reach:=di.reach.trans reach,closed:=hcl,owed:= ?_}⟩
   ·intro q x hq1 hq2 hx hc
    rcases Nat.lt_trichotomy q i with hlt|heq|hgt
    ·exact quiet' q x hq1 (by omega) hx hc
    ·subst heq
     refine⟨by simp[add],sn,sg,fun j y hj1 hj2 hy hcy hl b hb=>(soft j y hj1 hj2 hy hcy ?_).2.2.2 b hb⟩
     have:j≠q:=by omega
     simpa only[add,this,if_false]using hl
    ·exact(hq q x (by omega) hq2 hx hc).elim
   ·intro j x hj1 hj2 hx hcx hwx hlx
    rcases Nat.lt_trichotomy j i with hlt|heq|hgt
    ·have:j≠i:=by omega
     simp only[add,this,if_false]at hlx
     exact di.owed j x hj1 (by omega) hx hcx hwx hlx
    ·subst heq;simp[add]at hlx
    ·exact late j x (by omega) hj2 hx
  ·refine hK a' w' ⟨ρ',E',i+1,m',{pm:=h1,mn:=h2,quiet:=fun q x hq1 hq2 hx hc=>(hq q x hq1 hq2 hx hc).elim,past:= ?_,stop:=hstop,inv:=inv'.pad (hgm.len inv'.len) hgm.n hgm.get hgm.gl,fr:=hfr',reach:=di.reach.trans reach,closed:=hcl,owed:=fun j x hj1 hj2 hx _ _ _=>late j x hj1 hj2 hx}⟩
   intro j x hj hx hcx
   by_cases e:j=i
   ·simp[add,e]
   ·refine add_mono ?_
    by_cases hjp:j<p
    ·exact di.past j x hjp hx hcx
    ·rcases hcx with hcx|hcx
     ·cases hlj:L j with
      |true=>rfl
      |false=>exact(hpend ⟨j,x,by omega,by omega,hx,hcx,hlj⟩).elim
     ·exact(di.quiet j x (by omega) (by omega) hx hcx).1
 unfold wpOp
 rw[ho]
 simp only
 rw[hw]
 obtain⟨_,⟨hwd,v0,he,hre⟩|⟨hwd,hv,hH⟩⟩:=run.step i o ho
 ·
  rw[hwd,if_pos rfl]
  refine .inl ?_
  have he':evOp env r (frUp fr0 ops vT L ops.size) (HT i) o.type o.op=some (v0,HT (i+1)):=by rw[evOp_congr hopd];exact he
  have put:∀{ρ':Nat→Option Nat} {E':Nat→Prop} {w':World} {u:Value},Ext ρ E w ρ' E' w'→Rep ρ' E' w' v0 u→FrRep ρ' E' w' (frUp fr0 ops vT (add L i) ops.size) (a.put o.dst u):=by
   intro ρ' E' w' u ext rv
   rw[hup];exact(di.fr.mono ext).put (hre.rep rv) o.dst
  rcases cls_le3 (env:=env) o.op with hc|hc|hc|hc
  ·have hm:=(cls0_any hc he').2 (HT m)
   refine op_sound hok hf hrec hm di.inv di.fr fun u ρ' E' w' inv' reach rv hρ=> ?_
   have e:=hρ (by omega)
   subst e
   exact same _ _ E' inv' reach (put reach.ext rv) (by omega) (by omega)
  ·have hm:evOp env r (frUp fr0 ops vT L ops.size) (HT m) o.type o.op=some (v0,HT m):=by
    rw[evOp_congr hopd]
    by_cases him:i≤m
    ·
     have key:∀d,i+d≤m→evOp env r (frT i) (HT (i+d)) o.type o.op=some (v0,HT (i+d)):=by
      intro d
      induction d with
      |zero=>
       intro _
       have e:=(cls1_le hc he).1
       rw[e]at he;exact he
      |succ d ih=>
       intro hd
       have hmn:=di.mn
       have hx:ops[i+d]? = some (ops[i+d]'(by omega)):=Array.getElem?_eq_getElem (by omega)
       generalize ops[i+d]'(by omega)=x at hx
       by_cases hcx:cls env x.op=3
       ·have hne:i≠i+d:=fun e=>by rw[← e,ho]at hx;cases hx;omega
        have hlj:L (i+d)=true:=by
         by_cases h:i+d<p
         ·exact di.past (i+d) x h hx (.inr hcx)
         ·exact(di.quiet (i+d) x (by omega) (by omega) hx hcx).1
        have hnot:¬((preds ops).getD (i+d) []).elem i=true:=fun h=>by
         have:=preds_spec di.closed h (.inl hlj);rw[hr.1]at this;cases this
        have hld:isLd o.op=true:=by
         rcases pairs_of hdr (show i<i+d by omega) ho hx with h|h
         ·exact(hnot h).elim
         ·rcases free_heap h with h|h|h|h|h|h
          ·omega
          ·omega
          ·omega
          ·exact h.1
          ·omega
          ·omega
        exact ld_at run hS he ((dyn_of hdyn (show i<i+d by omega) ho hx hnot).1 hld hcx) (Nat.le_refl _) (by omega) (by omega) (by omega) (by omega)
       ·have:=step_small run hx hcx
        exact(cls1_le hc (ih (by omega))).2 _ this.le
     have:=key (m-i) (by omega)
     rwa [show i+(m-i)=m from by omega]at this
    ·rcases di.stop with e|⟨om,hom,hc3,hlm⟩
     ·omega
     ·have hnot:¬((preds ops).getD i []).elem m=true:=fun h=>by
       have:=preds_spec di.closed h (.inr hr);rw[hlm]at this;cases this
      have hld:isLd o.op=true:=by
       rcases pairs_of hdr (show m<i by omega) hom ho with h|h
       ·exact(hnot h).elim
       ·exact free_not3 h hc3 (by omega)
      exact ld_at run hS he ((dyn_of hdyn (show m<i by omega) hom ho hnot).2.1 hc3 hld) (by omega) (Nat.le_refl _) (by omega) (Nat.le_refl _) (by omega)
   refine op_sound hok hf hrec hm di.inv di.fr fun u ρ' E' w' inv' reach rv hρ=> ?_
   have e:=hρ (by omega)
   subst e
   exact same _ _ E' inv' reach (put reach.ext rv) (by omega) (by omega)
  ·
   have him:=hge hc
   have hpi:p≤i:=by
    by_cases h:p≤i
    ·exact h
    ·have:=di.past i o (by omega) ho (.inl hc);rw[hr.1]at this;cases this
   obtain⟨mk,k,hv,hH,hnew⟩:=cls2_new hc he'
   obtain⟨s,hexec,u,w',ob,hrun,⟨hheap,hio⟩,hblk,hmk⟩:=hnew ρ E w a o rfl di.fr
   have hup1:(HT (i+1)).n≤(HT m).n:=by
    have:=(di.up run (m-(i+1)) (i+1) (by omega) (by omega)).1
    rwa [show i+1+(m-(i+1))=m from by omega]at this
   have hnone:=di.owed i o hpi him ho hc hwd hr.1
   have hn1:(HT (i+1)).n=(HT i).n+1:=by rw[hH];rfl
   have hgetk:(HT m).get (HT i).n=some k:=by
    have:=di.keeps run hpi ho hc hr.1 (Nat.le_refl _) (by omega) (m-(i+1)) (by omega)
    rw[show i+1+(m-(i+1))=m from by omega]at this
    rw[this,hH];exact Hp.get_push_eq k
   have hold:∀b,b<w.heap.size→w'.heap[b]? = w.heap[b]? :=fun b hb=>by rw[hheap,Array.getElem?_push_lt (by omega)];simp[hb]
   have hnewb:w'.heap[w.heap.size]? = some ob:=by rw[hheap];simp
   have hsz:w'.heap.size=w.heap.size+1:=by rw[hheap];simp
   have hmap:∀j b,ρ j=some b→upd ρ (HT i).n w.heap.size j=some b:=fun j b hb=>by
    simp only[upd]
    split
    ·rename_i e;rw[e,hnone]at hb;cases hb
    ·exact hb
   have ext:Ext ρ E w (upd ρ (HT i).n w.heap.size) E w':=Ext.grow hmap (fun _ h=>h) (fun i b hb=>(di.inv.bd i b hb).2) di.inv.ebd hold (by omega)
   have hcase:∀j b,upd ρ (HT i).n w.heap.size j=some b→(j=(HT i).n∧b=w.heap.size)∨ρ j=some b:=fun j b hb=>by
    simp only[upd]at hb
    split at hb
    ·rename_i hj;exact .inl ⟨hj,by simpa using hb.symm⟩
    ·exact .inr hb
   have inv':Inv lo w0 (upd ρ (HT i).n w.heap.size) E (HT m) w':=
    {gl:=gl_mono rfl ext di.inv.gl
     len:=di.inv.len
     dom:=fun j b hb=>by
      rcases hcase j b hb with⟨rfl,_⟩|hb'
      ·omega
      ·exact di.inv.dom j b hb'
     blk:=fun j k' b hk' hb=>by
      rcases hcase j b hb with⟨rfl,rfl⟩|hb'
      ·rw[hgetk]at hk';cases hk';exact hblk _ _ _ ext hnewb
      ·exact(di.inv.blk j k' b hk' hb').mono ext (hold b (di.inv.bd j b hb').2)
     inj:=fun j j' k1 k2 b h1 h2 hb1 hb2=>by
      rcases hcase j b hb1 with⟨rfl,rfl⟩|hb1'<;>rcases hcase j' _ hb2 with⟨rfl,e⟩|hb2'
      ·rfl
      ·have:=(di.inv.bd j' _ hb2').2;omega
      ·have:=(di.inv.bd j _ hb1').2;omega
      ·exact di.inv.inj j j' k1 k2 b h1 h2 hb1' hb2'
     notE:=fun j k1 b h1 hb1 he1=>by
      rcases hcase j b hb1 with⟨rfl,rfl⟩|hb1'
      ·have:=di.inv.ebd _ he1;omega
      ·exact di.inv.notE j k1 b h1 hb1' he1
     bd:=fun j b hb=>by
      rcases hcase j b hb with⟨rfl,rfl⟩|hb'
      ·exact⟨fun h=>by have:=di.inv.lole _ h;omega,by omega⟩
      ·have:=di.inv.bd j b hb';exact⟨this.1,by omega⟩
     ebd:=fun b hb=>by have:=di.inv.ebd b hb;omega
     lole:=fun b hb=>by have:=di.inv.lole b hb;omega
     old:=fun b hb=>by rw[hold b (di.inv.lole b hb)];exact di.inv.old b hb
     io:=di.inv.io.trans hio}
   have rv:Rep (upd ρ (HT i).n w.heap.size) E w' v0 u:=by rw[hv];exact hmk _ _ _ _ (upd_self _ _ _) hnewb
   unfold Oper.wp
   rw[hexec]
   simp only[Sem.run_bind,hrun,Result.andThen_ok,Sem.run_pure,Oper.upon]
   refine hK _ _ ⟨_,E,p,m,{pm:=di.pm,mn:=di.mn,quiet:=quiet',past:=fun j x hj hx hcx=>add_mono (di.past j x hj hx hcx),stop:= ?_,inv:=inv',fr:=put ext rv,reach:=di.reach.trans ext.reach,closed:=hcl,owed:= ?_}⟩
   ·rcases di.stop with e|⟨om,hom,h3,hl⟩
    ·exact .inl e
    ·refine .inr ⟨om,hom,h3,?_⟩
     have:m≠i:=by omega
     simp only[add,this,if_false];exact hl
   ·intro j x h1 h2 hx hcx hwx hlx
    by_cases e:j=i
    ·simp[add,e]at hlx
    ·simp only[add,e,if_false]at hlx
     have hold':=di.owed j x h1 h2 hx hcx hwx hlx
     simp only[upd]
     rw[if_neg]
     ·exact hold'
     ·intro en
      rcases Nat.lt_or_gt_of_ne e with hlt|hgt
      ·
       obtain⟨_,⟨_,_,hej,_⟩|⟨hwj,_⟩⟩:=run.step j x hx
       ·obtain⟨_,_,_,hHj,_⟩:=cls2_new hcx hej
        have hn2:(HT (j+1)).n=(HT j).n+1:=by rw[hHj];rfl
        have hg2:=(di.up run (i-(j+1)) (j+1) (by omega) (by omega)).1
        rw[show j+1+(i-(j+1))=i from by omega]at hg2
        omega
       ·rw[hwx]at hwj;cases hwj
      ·have hg2:=(di.up run (j-(i+1)) (i+1) (by omega) (by omega)).1
       rw[show i+1+(j-(i+1))=j from by omega]at hg2
       omega
  ·
   have him:=hat3 hc
   have inv0:=di.inv
   rw[← him]at inv0
   by_cases hst:isSt o.op=true
   ·cases hop:o.op<;>rw[hop]at hst<;>first|(cases hst;done)|skip
    rename_i T x y
    obtain⟨hob,h0⟩:=evOp_some he'
    rw[hop]at hob h0
    simp only[evOp0]at h0
    obtain⟨hx,e⟩:=uA_some h0
    exact wp_okU (C:=True) (s:=Instr.storeAt T (a.eval x) (a.eval y)) (by simp[execOp,hop]) (ok_store inv0 hx (by simpa only[obl]using hob) (di.fr.opd x) (di.fr.opd y))
     fun u ρ' E' w' inv' reach rv hρ=>effect hc ρ' E' _ w' inv' reach (put reach.ext (by rw[e];exact rv)) (fun _=>hρ trivial)
   ·exact op_sound hok hf hrec he' inv0 di.fr fun u ρ' E' w' inv' reach rv _=>effect hc ρ' E' _ w' inv' reach (put reach.ext rv) (fun h=>(hst h).elim)
 ·
  rw[hwd,if_neg (by simp)]
  have hfr':FrRep ρ E w (frUp fr0 ops vT (add L i) ops.size) (a.put o.dst undef):=by
   rw[hup,hv];exact di.fr.put (by simp only[uv,Rep]) o.dst
  by_cases hc:cls env o.op=3
  ·have him:=hat3 hc
   have inv0:=di.inv
   rw[← him, ← hH]at inv0
   exact effect hc ρ E _ w inv0 Reach.refl hfr' (fun _=>rfl)
  ·exact same _ w E di.inv Reach.refl hfr' hc fun _=>hwd
def lst (listed:Array Bool):Nat→Bool:=fun i=>listed.getD i false
theorem lst_set {listed:Array Bool} {i:Nat} (hi:i<listed.size):lst (listed.setIfInBounds i true)=add (lst listed) i:=by
 funext j
 simp only[lst,add,Array.getD_eq_getD_getElem?]
 by_cases e:j=i
 ·subst e;simp[hi]
 ·rw[Array.getElem?_setIfInBounds_ne (Ne.symm e)];simp[e]
theorem ready_iff {listed:Array Bool} (hs:listed.size=ops.size) {i:Nat}:i∈Region.ready .any ops listed↔i<ops.size∧Rdy ops (lst listed) i:=by
 simp only[Region.ready,List.mem_filter,List.mem_range]
 constructor
 ·rintro⟨hi,h⟩
  refine⟨hi,?_⟩
  have ho:ops[i]? = some ops[i]:=Array.getElem?_eq_getElem hi
  simp only[ho,Option.map_some,Option.getD_some,Bool.and_eq_true,Bool.not_eq_true']at h
  refine⟨?_,fun o ho' e he hb=> ?_⟩
  ·have hi':i<listed.size:=by omega
   have:=h.1
   simp only[lst,Array.getD,hi',dif_pos]at this ⊢
   exact this
  ·rw[ho]at ho';cases ho'
   have:=Array.all_eq_true_iff_forall_mem.1 h.2 e (by simpa using he)
   simpa[hb,lst]using this
 ·rintro⟨hi,h1,h2⟩
  refine⟨hi,?_⟩
  have ho:ops[i]? = some ops[i]:=Array.getElem?_eq_getElem hi
  simp only[ho,Option.map_some,Option.getD_some,Bool.and_eq_true,Bool.not_eq_true']
  refine⟨?_,Array.all_eq_true_iff_forall_mem.2 fun e he=> ?_⟩
  ·have hi':i<listed.size:=by omega
   simp only[lst,Array.getD,hi',dif_pos]at h1 ⊢
   exact h1
  ·cases hb:Region.binds .any e with
   |false=>simp
   |true=>have:=h2 _ ho e (by simpa using he) hb;simpa[lst]using this
def rest (n:Nat) (L:Nat→Bool):Nat:=(List.range n).countP fun i=> !L i
theorem rest_add {n:Nat} {L:Nat→Bool} {i:Nat} (hi:i<n) (hl:L i=false):rest n L=rest n (add L i)+1:=by
 have key:∀m,(List.range m).countP (fun j=> !L j)=(List.range m).countP (fun j=> !add L i j)+(if i<m then 1 else 0):=by
  intro m
  induction m with
  |zero=>simp
  |succ m ih=>
   rw[List.range_succ,List.countP_append,List.countP_append,ih]
   simp only[List.countP_cons,List.countP_nil]
   by_cases e:m=i
   ·subst e
    simp[add,hl]
   ·simp only[add,e,if_false]
    by_cases h1:i<m
    ·have h2:i<m+1:=by omega
     simp only[h1,h2,if_true];omega
    ·have h2:¬i<m+1:=by omega
     simp only[h1,h2,if_false];omega
 have:=key n
 rw[if_pos hi]at this
 exact this
theorem all_up (hback:edgesBack ops=true) {L:Nat→Bool} (hno:∀i,i<ops.size→¬Rdy ops L i):∀i,i<ops.size→L i=true:=by
 intro i
 induction i using Nat.strongRecOn with
 |_ i ih=>
  intro hi
  cases hl:L i with
  |true=>rfl
  |false=>
   refine(hno i hi ⟨hl,fun o ho e he hb=> ?_⟩).elim
   have h1:=List.all_eq_true.1 hback i (by simpa using hi)
   simp only[ho]at h1
   have h2:=List.all_eq_true.1 h1 e he
   simp only[hb,Bool.not_true,Bool.false_or,Nat.blt_eq]at h2
   exact ih e.on h2 (by omega)
theorem rest_zero {n:Nat} {L:Nat→Bool} (h:rest n L=0):∀i,i<n→L i=true:=by
 intro i hi
 simp only[rest,List.countP_eq_zero,List.mem_range]at h
 have:=h i hi
 simpa using this
theorem fix_size:(fixO env ops).size=ops.size:=by
 unfold fixO
 split
 ·rfl
 ·split
  ·show(ops.toList.set _ _).length=_
   simp
  ·rfl
theorem late_spec {e:Nat} (h:lateI env ops=some e):e<ops.size∧∃o T s,ops[e]? = some o∧o.op = .alloc T∧o.guard=none∧o.dst=some s∧(∀x∈o.after.toList,Region.binds .any x=false)∧(fixO env ops)[e]? = some (waitFor o (effsO env ops e)):=by
 have h1:=List.mem_of_find?_eq_some h
 have h2:=List.find?_some h
 have he:e<ops.size:=by simpa using h1
 refine⟨he,?_⟩
 have ho:ops[e]? = some ops[e]:=Array.getElem?_eq_getElem he
 generalize ops[e]=o at ho
 unfold isLate at h2
 rw[ho]at h2
 simp only[Bool.and_eq_true,Option.isNone_iff_eq_none,List.all_eq_true,Bool.not_eq_true']at h2
 obtain⟨⟨⟨⟨ha,hg⟩,hd⟩,hb⟩,_⟩:=h2
 obtain⟨s,hs⟩:=Option.isSome_iff_exists.1 hd
 have hT:∃T,o.op = .alloc T:=by
  unfold isAl at ha
  split at ha
  ·rename_i T e;exact⟨T,e⟩
  ·cases ha
 obtain⟨T,hT⟩:=hT
 refine⟨o,T,s,ho,hT,hg,hs,hb,?_⟩
 unfold fixO
 simp only[h,ho]
 rw[← Array.getElem?_toList]
 show(ops.toList.set e _)[e]? = _
 rw[List.getElem?_set_self (by simpa using he)]
theorem fix_other {i:Nat} (h:lateI env ops≠some i):(fixO env ops)[i]? = ops[i]? :=by
 unfold fixO
 split
 ·rfl
 ·rename_i e he
  split
  ·rw[← Array.getElem?_toList]
   show(ops.toList.set e _)[i]? = _
   rw[List.getElem?_set_ne (fun e'=>h (by rw[← e'];exact he)),Array.getElem?_toList]
  ·rfl
theorem fix_same {i:Nat}:((fixO env ops)[i]?).bind (·.dst)=(ops[i]?).bind (·.dst):=by
 by_cases h:lateI env ops=some i
 ·obtain⟨_,o,T,s,ho,_,_,_,_,h2⟩:=late_spec h
  rw[h2,ho];rfl
 ·rw[fix_other h]
theorem fix_yield {tmps:Array Value}:yielded (fixO env ops) tmps=yielded ops tmps:=by
 funext j
 unfold yielded
 rw[fix_same]
theorem fix_wpOp {i:Nat} {K:Act→World→Prop} {Q:Exit→Act→World→Prop} {a:Act} {w:World} (h:wpOp env.P (fixO env ops) Q i K a w):wpOp env.P ops Q i K a w:=by
 by_cases hl:lateI env ops=some i
 ·obtain⟨_,o,T,s,ho,_,hg,_,_,h2⟩:=late_spec hl
  unfold wpOp at h ⊢
  rw[h2]at h
  rw[ho]
  simp only at h ⊢
  have e1:Region.wanted (waitFor o (effsO env ops i)) (yielded (fixO env ops) a.tmps)=true:=by simp[Region.wanted,waitFor,hg]
  have e2:Region.wanted o (yielded ops a.tmps)=true:=by simp[Region.wanted,hg]
  rw[if_pos e1]at h
  rw[if_pos e2]
  obtain⟨d,op,ty,ps,af,gd⟩:=o
  exact h
 ·unfold wpOp at h ⊢
  rw[fix_other hl,fix_yield]at h
  exact h
theorem put_getD {a:Act} {d:Option Tmp} {v:Value} {s:Nat} (h:d≠some s):(a.put d v).tmps.getD s undef=a.tmps.getD s undef:=by
 cases d with
 |none=>rfl
 |some t=>
  have:t≠s:=fun e=>h (by rw[e])
  simp only[Act.put,Array.getD_eq_getD_getElem?]
  rw[Array.getElem?_setIfInBounds_ne this]
theorem wpOp_keep {P:Program} {i s:Nat} {K:Act→World→Prop} {Q:Exit→Act→World→Prop} {a:Act} {w:World} (hd:∀o,ops[i]? = some o→o.dst≠some s) (h:wpOp P ops Q i K a w):
 wpOp P ops Q i (fun a' w'=>K a' w'∧a'.tmps.getD s undef=a.tmps.getD s undef) a w:=by
 unfold wpOp at h ⊢
 split
 ·rename_i e
  simp only[e]at h
  exact⟨h,rfl⟩
 ·rename_i o ho
  simp only[ho]at h
  have hd':=hd o ho
  split
  ·rename_i hw
   simp only[hw,if_true]at h
   refine h.imp (fun hh=> ?_) id
   unfold Oper.wp at hh ⊢
   generalize (execOp a.eval o).run P w=r at *
   cases r with
   |ok n w'=>
    cases n<;>simp only[Oper.upon]at hh ⊢ <;>
     first
      |exact⟨hh,put_getD hd'⟩
      |exact Calls.mono hh (fun e w'' he=>by cases e<;>first|exact⟨he,put_getD hd'⟩|exact he)
      |exact Rows.mono hh (fun _ _ he=>⟨he,put_getD hd'⟩)
   |halt x w'=>cases x<;>simp only[Oper.upon]at hh ⊢ <;>exact hh
  ·rename_i hw
   simp only[hw]at h
   exact⟨h,put_getD hd'⟩
structure Late (lo:Nat→Prop) (w0:World) (ρ0:Nat→Option Nat) (E0:Nat→Prop) (wE:World) (env:Env) (ops:Array Oper) (vT:Nat→AV) (fr0:Fr) (HT:Nat→Hp) (Wd:Nat→Bool) (e s:Nat) (L:Nat→Bool) (a:Act) (w:World):Prop where
 ex:∃(L':Nat→Bool) (ρ1:Nat→Option Nat) (E1:Nat→Prop) (H1:Hp) (w1 w2:World) (ob:Obj) (u:Value) (mk:Nat→AV) (k:Blk) (ρ:Nat→Option Nat) (E:Nat→Prop) (p m:Nat),
  L=add L' e∧L' e=false∧Inv lo w0 ρ1 E1 H1 w1∧Reach lo ρ0 E0 wE ρ1 E1 w1∧(w2.heap=w1.heap.push ob∧SameIO w1 w2)∧
  (∀ρ' E' w'',Ext ρ1 E1 w1 ρ' E' w''→w''.heap[w1.heap.size]? = some ob→BlkRep ρ' E' w'' k w1.heap.size)∧
  (∀ρ' E' w'' i,ρ' i=some w1.heap.size→w''.heap[w1.heap.size]? = some ob→Rep ρ' E' w'' (mk i) u)∧
  HT (e+1)=(HT e).push k∧REq (mk (HT e).n) (vT e)∧
  DI (fun b=>lo b∨b=w1.heap.size) w2 ρ1 E1 w2 env ops vT fr0 HT Wd L' ρ E p m a w∧(a.tmps.getD s undef=u∨a.tmps.size≤s)∧¬Rdy ops L' e
theorem late_mat (hdr:drawOk env ops=true) (run:Run env r ops frT HT vT Wd) {e s:Nat} {o:Oper} (ho:ops[e]? = some o) (hc:cls env o.op=2) (hd:o.dst=some s) (hwd:Wd e=true)
 {L':Nat→Bool} {ρ1:Nat→Option Nat} {E1:Nat→Prop} {H1:Hp} {w1 w2:World} {ob:Obj} {u:Value} {mk:Nat→AV} {k:Blk} {ρ:Nat→Option Nat} {E:Nat→Prop} {p m:Nat} {a:Act} {w:World}
 (inv1:Inv lo w0 ρ1 E1 H1 w1) (reach1:Reach lo ρ0 E0 wE ρ1 E1 w1) (hw2:w2.heap=w1.heap.push ob∧SameIO w1 w2)
 (hblk:∀ρ' E' w'',Ext ρ1 E1 w1 ρ' E' w''→w''.heap[w1.heap.size]? = some ob→BlkRep ρ' E' w'' k w1.heap.size)
 (hmk:∀ρ' E' w'' i,ρ' i=some w1.heap.size→w''.heap[w1.heap.size]? = some ob→Rep ρ' E' w'' (mk i) u)
 (hH:HT (e+1)=(HT e).push k) (hre:REq (mk (HT e).n) (vT e))
 (di:DI (fun b=>lo b∨b=w1.heap.size) w2 ρ1 E1 w2 env ops vT fr0 HT Wd L' ρ E p m a w) (hslot:a.tmps.getD s undef=u∨a.tmps.size≤s) (hr:Rdy ops L' e):
 ∃ρ',DI lo w0 ρ0 E0 wE env ops vT fr0 HT Wd (add L' e) ρ' E p m a w:=by
 have hge:e<m:=by
  rcases Nat.lt_trichotomy e m with h|h|h
  ·exact h
  ·rcases di.stop with e'|⟨om,hom,hc3,_⟩
   ·have:=(Array.getElem?_eq_some_iff.1 ho).1;omega
   ·rw[← h,ho]at hom;cases hom;omega
  ·rcases di.stop with e'|⟨om,hom,hc3,hlm⟩
   ·have:=(Array.getElem?_eq_some_iff.1 ho).1;omega
   ·rcases pairs_of hdr h hom ho with hpr|hfr
    ·have:=preds_spec di.closed hpr (.inr hr);rw[hlm]at this;cases this
    ·have:=isLd_cls (env:=env) (free_not3 hfr hc3 (by omega));omega
 have hpi:p≤e:=by
  by_cases h:p≤e
  ·exact h
  ·have:=di.past e o (by omega) ho (.inl hc);rw[hr.1]at this;cases this
 have hmn:=di.mn
 have hup1:(HT (e+1)).n≤(HT m).n:=by
  have:=(di.up run (m-(e+1)) (e+1) (by omega) (by omega)).1
  rwa [show e+1+(m-(e+1))=m from by omega]at this
 have hnone:=di.owed e o hpi hge ho hc hwd hr.1
 have hn1:(HT (e+1)).n=(HT e).n+1:=by rw[hH];rfl
 have hgetk:(HT m).get (HT e).n=some k:=by
  have:=di.keeps run hpi ho hc hr.1 (Nat.le_refl _) (by omega) (m-(e+1)) (by omega)
  rw[show e+1+(m-(e+1))=m from by omega]at this
  rw[this,hH];exact Hp.get_push_eq k
 have hold12:∀b,b<w1.heap.size→w2.heap[b]? = w1.heap[b]? :=fun b hb=>by rw[hw2.1,Array.getElem?_push_lt (by omega)];simp[hb]
 have hsz2:w2.heap.size=w1.heap.size+1:=by rw[hw2.1];simp
 have hb1:w.heap[w1.heap.size]? = some ob:=by rw[di.inv.old _ (.inr rfl),hw2.1];simp
 have hlt:=di.inv.lole w1.heap.size (.inr rfl)
 have hbig:=di.reach.ext.bigger
 have hmap:∀j b,ρ j=some b→upd ρ (HT e).n w1.heap.size j=some b:=fun j b hb=>by
  simp only[upd]
  split
  ·rename_i e';rw[e',hnone]at hb;cases hb
  ·exact hb
 have ext:Ext ρ E w (upd ρ (HT e).n w1.heap.size) E w:=Ext.grow hmap (fun _ h=>h) (fun i b hb=>(di.inv.bd i b hb).2) di.inv.ebd (fun _ _=>rfl) (Nat.le_refl _)
 have ext12:Ext ρ1 E1 w1 ρ1 E1 w2:=Ext.grow (fun _ _ h=>h) (fun _ h=>h) (fun i b hb=>(inv1.bd i b hb).2) inv1.ebd hold12 (by omega)
 have ext1:Ext ρ1 E1 w1 (upd ρ (HT e).n w1.heap.size) E w:=(ext12.trans di.reach.ext).trans ext
 have hcase:∀j b,upd ρ (HT e).n w1.heap.size j=some b→(j=(HT e).n∧b=w1.heap.size)∨ρ j=some b:=fun j b hb=>by
  simp only[upd]at hb
  split at hb
  ·rename_i hj;exact .inl ⟨hj,by simpa using hb.symm⟩
  ·exact .inr hb
 have inv':Inv lo w0 (upd ρ (HT e).n w1.heap.size) E (HT m) w:=
  {gl:=gl_mono rfl ext di.inv.gl
   len:=di.inv.len
   dom:=fun j b hb=>by
    rcases hcase j b hb with⟨rfl,_⟩|hb'
    ·omega
    ·exact di.inv.dom j b hb'
   blk:=fun j k' b hk' hb=>by
    rcases hcase j b hb with⟨rfl,rfl⟩|hb'
    ·rw[hgetk]at hk';cases hk';exact hblk _ _ _ ext1 hb1
    ·exact(di.inv.blk j k' b hk' hb').mono ext rfl
   inj:=fun j j' k1 k2 b h1 h2 hb1' hb2'=>by
    rcases hcase j b hb1' with⟨rfl,rfl⟩|hb1'<;>rcases hcase j' _ hb2' with⟨rfl,e'⟩|hb2'
    ·rfl
    ·exact((di.inv.bd j' _ hb2').1 (.inr rfl)).elim
    ·exact((di.inv.bd j _ hb1').1 (.inr e')).elim
    ·exact di.inv.inj j j' k1 k2 b h1 h2 hb1' hb2'
   notE:=fun j k1 b h1 hb1' he1=>by
    rcases hcase j b hb1' with⟨rfl,rfl⟩|hb1'
    ·rcases di.reach.new _ he1 with h|h
     ·have:=inv1.ebd _ h;omega
     ·exact h (.inr rfl)
    ·exact di.inv.notE j k1 b h1 hb1' he1
   bd:=fun j b hb=>by
    rcases hcase j b hb with⟨rfl,rfl⟩|hb'
    ·exact⟨fun h=>by have:=inv1.lole _ h;omega,hlt⟩
    ·have:=di.inv.bd j b hb';exact⟨fun h=>this.1 (.inl h),this.2⟩
   ebd:=di.inv.ebd
   lole:=fun b hb=>di.inv.lole b (.inl hb)
   old:=fun b hb=>(di.inv.old b (.inl hb)).trans ((hold12 b (inv1.lole b hb)).trans (inv1.old b hb))
   io:=inv1.io.trans (hw2.2.trans di.inv.io)}
 have rv:Rep (upd ρ (HT e).n w1.heap.size) E w (vT e) u:=hre.rep (hmk _ _ _ _ (upd_self _ _ _) hb1)
 have hfr:FrRep (upd ρ (HT e).n w1.heap.size) E w (frUp fr0 ops vT (add L' e) ops.size) a:=by
  rw[up_add (vT:=vT) (fr0:=fr0) hdr di.closed ho hr,hd]
  have base:=di.fr.mono ext
  refine⟨by rw[putA_len];exact base.size,fun t x ht=> ?_,base.defers⟩
  by_cases hts:t=s
  ·subst hts
   have hl:t<(frUp fr0 ops vT L' ops.size).length:=by
    have:=(List.getElem?_eq_some_iff.1 ht).1
    rwa [putA_len]at this
   simp only[putA,List.getElem?_set_self hl,Option.some.injEq]at ht
   subst ht
   rcases hslot with h|h
   ·rw[h];exact rv
   ·rw[base.size]at h;omega
  ·rw[putA_other (fun h=>hts (by injection h with h;exact h.symm))]at ht
   exact base.rep t x ht
 refine⟨_,{pm:=di.pm,mn:=di.mn,quiet:= ?_,past:=fun j x hj hx hcx=>add_mono (di.past j x hj hx hcx),stop:= ?_,inv:=inv',fr:=hfr,reach:=reach1.trans ⟨ext1,fun b hb=>(di.reach.new b hb).imp id fun h h'=>h (.inl h')⟩,closed:=closed_add di.closed hr,owed:= ?_}⟩
 ·intro q x h1 h2 hx hc'
  obtain⟨a1,a2,a3,a4⟩:=di.quiet q x h1 h2 hx hc'
  refine⟨add_mono a1,a2,a3,fun j y hj1 hj2 hy hcy hl b hb=>a4 j y hj1 hj2 hy hcy ?_ b hb⟩
  cases hlj:L' j with
  |false=>rfl
  |true=>rw[add_mono hlj]at hl;cases hl
 ·rcases di.stop with e'|⟨om,hom,h3,hl⟩
  ·exact .inl e'
  ·refine .inr ⟨om,hom,h3,?_⟩
   have:m≠e:=by omega
   simp only[add,this,if_false];exact hl
 ·intro j x h1 h2 hx hcx hwx hlx
  by_cases e':j=e
  ·simp[add,e']at hlx
  ·simp only[add,e',if_false]at hlx
   have hold':=di.owed j x h1 h2 hx hcx hwx hlx
   simp only[upd]
   rw[if_neg]
   ·exact hold'
   ·intro en
    rcases Nat.lt_or_gt_of_ne e' with hlt'|hgt
    ·obtain⟨_,⟨_,_,hej,_⟩|⟨hwj,_⟩⟩:=run.step j x hx
     ·obtain⟨_,_,_,hHj,_⟩:=cls2_new hcx hej
      have hn2:(HT (j+1)).n=(HT j).n+1:=by rw[hHj];rfl
      have hg2:=(di.up run (e-(j+1)) (j+1) (by omega) (by omega)).1
      rw[show j+1+(e-(j+1))=e from by omega]at hg2
      omega
     ·rw[hwx]at hwj;cases hwj
    ·have hg2:=(di.up run (j-(e+1)) (e+1) (by omega) (by omega)).1
     rw[show e+1+(j-(e+1))=j from by omega]at hg2
     omega
theorem late_rdy {e:Nat} (hl:lateI env ops=some e) {L':Nat→Bool} (hL:L' e=false) (h:∀f∈effsO env ops e,L' f=true):Rdy (fixO env ops) L' e:=by
 obtain⟨_,o,T,s,ho,_,_,_,hb,h2⟩:=late_spec hl
 refine⟨hL,fun o' ho' x hx hbx=> ?_⟩
 rw[h2]at ho';cases ho'
 simp only[waitFor,List.mem_append,List.mem_map]at hx
 rcases hx with hx|⟨f,hf,rfl⟩
 ·rw[hb x hx]at hbx;cases hbx
 ·exact h f hf
theorem effs_lt {e f:Nat} (h:f∈effsO env ops e):f<e:=by
 simp only[effsO,List.mem_filter,List.mem_range]at h
 exact h.1
theorem back_of (h:edgesBack (fixO env ops)=true):edgesBack ops=true:=by
 simp only[edgesBack,List.all_eq_true,List.mem_range]at h ⊢
 intro j hj
 have h1:=h j (by rw[fix_size];exact hj)
 by_cases hl:lateI env ops=some j
 ·obtain⟨_,o,T,s,ho,_,_,_,hb,h2⟩:=late_spec hl
  rw[ho]
  simp only[List.all_eq_true]
  intro x hx
  rw[hb x hx];rfl
 ·rw[fix_other hl]at h1
  exact h1
theorem any_late (hok:EnvOk env) (hf:HasFn env r) (hrec:SoundRec env.P env.pre r) (hdr:drawOk env (fixO env ops)=true) (hfx:fixOk env ops=true) (run:Run env r (fixO env ops) frT HT vT Wd) (h0:frT 0=fr0)
 (hclr:∀s,lateS env ops=some s→fr0.getD s .undef = .undef) {S:List (Fr×Hp)} (hS:∀q,q≤(fixO env ops).size→S[q]? = some (frT q,HT q)) (hdyn:drawDyn env (fixO env ops) S=true)
 {Q:Exit→Act→World→Prop} (hQ:∀ρ E a w,St lo w0 ρ0 E0 wE ρ E (HT (fixO env ops).size) (frT (fixO env ops).size) a w→Q .normal a w):
 ∀(fuel:Nat) (listed:Array Bool) (a:Act) (w:World),listed.size=ops.size→rest ops.size (lst listed)=fuel→
  ((∃ρ E p m,DI lo w0 ρ0 E0 wE env (fixO env ops) vT fr0 HT Wd (lst listed) ρ E p m a w)∨∃e s,lateI env ops=some e∧lateS env ops=some s∧Late lo w0 ρ0 E0 wE env (fixO env ops) vT fr0 HT Wd e s (lst listed) a w)→wpAny env.P .any ops Q fuel listed a w:=by
 have fin:∀(listed:Array Bool) (a:Act) (w:World),(∀i,i<ops.size→lst listed i=true)→
  ((∃ρ E p m,DI lo w0 ρ0 E0 wE env (fixO env ops) vT fr0 HT Wd (lst listed) ρ E p m a w)∨∃e s,lateI env ops=some e∧lateS env ops=some s∧Late lo w0 ρ0 E0 wE env (fixO env ops) vT fr0 HT Wd e s (lst listed) a w)→Q .normal a w:=by
  rintro listed a w hall (⟨ρ,E,p,m,di⟩|⟨e,s,hl,_,⟨L',_,_,_,_,_,_,_,_,_,_,_,_,_,hL,hL',_,_,_,_,_,_,_,_,_,hn⟩⟩)
  ·have hm:m=(fixO env ops).size:=by
    rcases di.stop with e|⟨o,ho,_,hl⟩
    ·exact e
    ·have h1:=(Array.getElem?_eq_some_iff.1 ho).1
     rw[fix_size]at h1
     rw[hall m h1]at hl;cases hl
   subst hm
   refine hQ ρ E a w ⟨di.inv,?_,di.reach⟩
   have:frUp fr0 (fixO env ops) vT (lst listed) (fixO env ops).size=frT (fixO env ops).size:=by
    apply List.ext_getElem?
    intro t
    exact(frUp_text (vT:=vT) h0 (fun i o ho=>(run.step i o ho).1) (fixO env ops).size (Nat.le_refl _) fun j o hj _ _=>hall j (by rw[fix_size]at hj;exact hj)).1
   rw[← this];exact di.fr
  ·refine(hn (late_rdy hl hL' fun f hf=> ?_)).elim
   have h1:=effs_lt hf
   have h2:=hall f (by have:=(late_spec hl).1;omega)
   rw[hL]at h2
   simpa only[add,show f≠e by omega,if_false]using h2
 intro fuel
 induction fuel with
 |zero=>
  intro listed a w hs hrest hdi
  have hall:=rest_zero hrest
  refine⟨?_,fin listed a w hall hdi⟩
  rw[List.eq_nil_iff_forall_not_mem]
  intro i hi
  obtain⟨h1,h2⟩:=(ready_iff hs).1 hi
  have h3:=h2.1;rw[hall i h1]at h3;cases h3
 |succ fuel ih=>
  intro listed a w hs hrest hdi
  refine⟨fun hnil=> ?_,fun i hi=> ?_⟩
  ·refine fin listed a w (all_up (back_of (by simp only[drawOk,Bool.and_eq_true]at hdr;exact hdr.1.2)) fun i hi hrdy=> ?_) hdi
   have:=(ready_iff hs).2 ⟨hi,hrdy⟩
   rw[hnil]at this;cases this
  ·obtain⟨h1,h2⟩:=(ready_iff hs).1 hi
   have h1':i<(fixO env ops).size:=by rw[fix_size];exact h1
   have hrest':rest ops.size (lst (listed.setIfInBounds i true))=fuel:=by
    rw[lst_set (by omega)]
    have:=rest_add h1 h2.1
    omega
   rcases hdi with⟨ρ,E,p,m,di⟩|⟨e,s,hl,hls,hlate⟩
   ·
    have norm:Rdy (fixO env ops) (lst listed) i→wpOp env.P ops Q i (wpAny env.P .any ops Q fuel (listed.setIfInBounds i true)) a w:=by
     intro hrd
     refine fix_wpOp (di_step hok hf hrec hdr run h0 hS hdyn di h1' hrd fun a' w' hdi'=> ?_)
     rw[← lst_set (by omega)]at hdi'
     exact ih _ a' w' (by simp[hs]) hrest' (.inl hdi')
    by_cases hli:lateI env ops=some i
    ·by_cases hrd:Rdy (fixO env ops) (lst listed) i
     ·exact norm hrd
     ·
      obtain⟨_,o,T,s,ho,hT,hg,hd,hb,ho'⟩:=late_spec hli
      have hls:lateS env ops=some s:=by simp only[lateS,hli,Option.bind_some,ho,hd]
      have hc:cls env (waitFor o (effsO env ops i)).op=2:=by simp only[waitFor,hT,cls]
      obtain⟨_,⟨hwd,v0,he,hre⟩|⟨hwd,_,_⟩⟩:=run.step i _ ho'
      ·have he':evOp env r (frUp fr0 (fixO env ops) vT (lst listed) (fixO env ops).size) (HT i) (waitFor o (effsO env ops i)).type (waitFor o (effsO env ops i)).op=some (v0,HT (i+1)):=by
        rw[evOp_congr (fun x hx=> ?_)]
        ·exact he
        ·simp[waitFor,hT,Op.operands]at hx
       obtain⟨mk,k,hv,hH,hnew⟩:=cls2_new hc he'
       obtain⟨sm,hexec,u,w',ob,hrun,⟨hheap,hio⟩,hblk,hmk⟩:=hnew ρ E w a (waitFor o (effsO env ops i)) rfl di.fr
       refine fix_wpOp ?_
       unfold wpOp
       rw[ho']
       simp only
       have e1:Region.wanted (waitFor o (effsO env ops i)) (yielded (fixO env ops) a.tmps)=true:=by simp[Region.wanted,waitFor,hg]
       rw[if_pos e1]
       refine .inl ?_
       unfold Oper.wp
       rw[hexec]
       simp only[Sem.run_bind,hrun,Result.andThen_ok,Sem.run_pure,Oper.upon]
       refine ih _ _ _ (by simp[hs]) hrest' (.inr ⟨i,s,hli,hls,⟨lst listed,ρ,E,HT m,w,w',ob,u,mk,k,ρ,E,p,m,by rw[lst_set (by omega)],h2.1,di.inv,di.reach,⟨hheap,hio⟩,hblk,hmk,hH,by rw[← hv];exact hre,?_,?_,hrd⟩⟩)
       ·have hsz:w'.heap.size=w.heap.size+1:=by rw[hheap];simp
        have hold:∀b,b<w.heap.size→w'.heap[b]? = w.heap[b]? :=fun b hb=>by rw[hheap,Array.getElem?_push_lt (by omega)];simp[hb]
        have ext:Ext ρ E w ρ E w':=Ext.grow (fun _ _ h=>h) (fun _ h=>h) (fun i b hb=>(di.inv.bd i b hb).2) di.inv.ebd hold (by omega)
        have hfr:FrRep ρ E w' (frUp fr0 (fixO env ops) vT (lst listed) (fixO env ops).size) (a.put (waitFor o (effsO env ops i)).dst u):=by
         have h3:=(di.fr.mono ext).put (v:= .undef) (u:=u) (by simp only[Rep]) (waitFor o (effsO env ops i)).dst
         have h4:putA (frUp fr0 (fixO env ops) vT (lst listed) (fixO env ops).size) (waitFor o (effsO env ops i)).dst .undef=frUp fr0 (fixO env ops) vT (lst listed) (fixO env ops).size:=by
          show putA _ o.dst .undef=_
          rw[hd]
          simp only[putA]
          refine set_getD ?_
          have key:∀q,q≤(fixO env ops).size→(frUp fr0 (fixO env ops) vT (lst listed) q).getD s .undef = .undef:=by
           intro q
           induction q with
           |zero=>intro _;exact hclr s hls
           |succ q ihq=>
            intro hq
            have ihq:=ihq (by omega)
            have hx:(fixO env ops)[q]? = some ((fixO env ops)[q]'(by omega)):=Array.getElem?_eq_getElem (by omega)
            generalize (fixO env ops)[q]'(by omega)=x at hx
            simp only[frUp,hx]
            cases hq':lst listed q with
            |false=>exact ihq
            |true=>
             simp only[cond_true]
             have hqi:q≠i:=fun h=>by rw[h,h2.1]at hq';cases hq'
             have hne:lateI env ops≠some q:=fun h=>hqi (by rw[hli]at h;injection h with h;exact h.symm)
             have hxd:x.dst≠some s:=by
              unfold fixOk at hfx
              simp only[hli,ho,Option.bind_some,hd,List.all_eq_true,List.mem_range]at hfx
              have h5:=hfx q (by rw[fix_size]at hq;omega)
              unfold fixK at h5
              rw[← fix_other hne,hx]at h5
              simp only[Bool.or_eq_true,Bool.and_eq_true,Bool.not_eq_true',beq_eq_false_iff_ne,ne_eq]at h5
              rcases h5 with h5|h5
              ·exact(hqi (Nat.eq_of_beq_eq_true h5)).elim
              ·exact h5.2
             simp only[List.getD,putA_other hxd]
             exact ihq
          exact key _ (Nat.le_refl _)
         rw[h4]at h3
         exact h3
        exact{pm:=di.pm,mn:=di.mn,quiet:=di.quiet,past:=di.past,stop:=di.stop,closed:=di.closed,owed:=di.owed,fr:=hfr,reach:=Reach.refl
              inv:={gl:=gl_mono rfl ext di.inv.gl,len:=di.inv.len,dom:=di.inv.dom,blk:=fun j k' b hk' hb=>(di.inv.blk j k' b hk' hb).mono ext (hold b (di.inv.bd j b hb).2),inj:=di.inv.inj,notE:=di.inv.notE
                    bd:=fun j b hb=>by
                     have:=di.inv.bd j b hb
                     exact⟨fun h=>h.elim this.1 (fun h=>by omega),by omega⟩
                    ebd:=fun b hb=>by have:=di.inv.ebd b hb;omega
                    lole:=fun b hb=>by
                     rcases hb with hb|hb
                     ·have:=di.inv.lole b hb;omega
                     ·omega
                    old:=fun _ _=>rfl,io:=⟨rfl,rfl,rfl⟩}}
       ·have e5:(waitFor o (effsO env ops i)).dst=some s:=hd
        rw[e5]
        by_cases hsz:s<a.tmps.size
        ·left;simp[Act.put,Array.getD_eq_getD_getElem?,hsz]
        ·right
         show(a.tmps.setIfInBounds s u).size≤s
         rw[Array.size_setIfInBounds]
         exact Nat.le_of_not_lt hsz
      ·exact(by
        have hg':=run.guard i _ ho'
        simp only[GuardOk,waitFor,hg]at hg'
        rw[hg']at hwd;cases hwd)
    ·refine norm ⟨h2.1,fun o ho x hx hb=> ?_⟩
     rw[fix_other hli]at ho
     exact h2.2 o ho x hx hb
   ·
    obtain⟨L',ρ1,E1,H1,w1,w2,ob,u,mk,k,ρ,E,p,m,hL,hL',inv1,reach1,hw2,hblk,hmk,hH,hre,di,hslot,hn⟩:=hlate
    obtain⟨_,oe,T,s',hoe,hT,hg,hd,hb,hoe'⟩:=late_spec hl
    have hs':s'=s:=by
     simp only[lateS,hl,Option.bind_some,hoe,hd,Option.some.injEq]at hls;exact hls
    subst hs'
    have hie:i≠e:=fun h=>by have:=h2.1;rw[hL,h]at this;simp[add]at this
    have hli:lateI env ops≠some i:=fun h=>hie (by rw[hl]at h;injection h with h;exact h.symm)
    have ho:ops[i]? = some ops[i]:=Array.getElem?_eq_getElem h1
    generalize ops[i]=o at ho
    have hk:fixK env ops e s' i=true:=by
     unfold fixOk at hfx
     simp only[hl,hoe,Option.bind_some,hd,List.all_eq_true,List.mem_range]at hfx
     exact hfx i h1
    unfold fixK at hk
    rw[ho]at hk
    simp only[Bool.or_eq_true,Bool.and_eq_true,Bool.not_eq_true',beq_eq_false_iff_ne,ne_eq]at hk
    rcases hk with hk|⟨hk,hdst⟩
    ·exact(hie (Nat.eq_of_beq_eq_true hk)).elim
    have low:∀f,f≠e→lst listed f=true→L' f=true:=fun f hf h=>by rw[hL]at h;simpa only[add,hf,if_false]using h
    have hrd:Rdy (fixO env ops) L' i:=by
     refine⟨by have:=h2.1;rw[hL]at this;simpa only[add,hie,if_false]using this,fun o' ho' x hx hbx=> ?_⟩
     rw[fix_other hli,ho]at ho';cases ho'
     refine low _ (fun hxe=> ?_) (h2.2 o ho x hx hbx)
     rcases hk with hk|hk
     ·have:waits1 o e=true:=by
       simp only[waits1,List.any_eq_true,Bool.and_eq_true]
       exact⟨x,hx,hbx,by rw[hxe];exact Nat.beq_refl e⟩
      rw[hk]at this;cases this
     ·refine hn (late_rdy hl hL' fun f hf=> ?_)
      have h5:=(List.all_eq_true.1 hk) f hf
      simp only[waits1,List.any_eq_true,Bool.and_eq_true]at h5
      obtain⟨y,hy,hby,hyf⟩:=h5
      have:=h2.2 o ho y hy hby
      rw[Nat.eq_of_beq_eq_true hyf]at this
      exact low f (by have:=effs_lt hf;omega) this
    refine fix_wpOp (wpOp_mono ?_ (wpOp_keep (s:=s') ?_ (di_step (K:=fun a' w'=>∃ρ' E' p' m',DI (fun b=>lo b∨b=w1.heap.size) w2 ρ1 E1 w2 env (fixO env ops) vT fr0 HT Wd (add L' i) ρ' E' p' m' a' w'∧a'.tmps.size=a.tmps.size) hok hf hrec hdr run h0 hS hdyn di h1' hrd ?_)))
    ·rintro a' w' ⟨⟨ρ',E',p',m',di',hsz⟩,hkeep⟩
     have hslot':a'.tmps.getD s' undef=u∨a'.tmps.size≤s':=by rw[hkeep,hsz];exact hslot
     have hL2:lst (listed.setIfInBounds i true)=add (add L' i) e:=by
      rw[lst_set (by omega),hL]
      funext j
      simp only[add]
      split<;>split<;>rfl
     have hne:add L' i e=false:=by simp only[add,show¬e=i from fun h=>hie h.symm,if_false];exact hL'
     refine ih _ a' w' (by simp[hs]) hrest' ?_
     by_cases hrd':Rdy (fixO env ops) (add L' i) e
     ·left
      obtain⟨ρ'',di''⟩:=late_mat (o:=waitFor oe (effsO env ops e)) hdr run hoe' (by simp only[waitFor,hT,cls]) hd (by
       have hg':=run.guard e _ hoe'
       simp only[GuardOk,waitFor,hg]at hg'
       exact hg') inv1 reach1 hw2 hblk hmk hH hre di' hslot' hrd'
      rw[hL2]
      exact⟨_,_,_,_,di''⟩
     ·right
      exact⟨e,s',hl,hls,⟨add L' i,ρ1,E1,H1,w1,w2,ob,u,mk,k,ρ',E',p',m',hL2,hne,inv1,reach1,hw2,hblk,hmk,hH,hre,di',hslot',hrd'⟩⟩
    ·intro o' ho'
     rw[fix_other hli,ho]at ho';cases ho'
     exact hdst
    ·rintro a' w' ⟨ρ',E',p',m',di'⟩
     refine⟨ρ',E',p',m',di',?_⟩
     have e1:=di'.fr.size
     have e2:=di.fr.size
     rw[e1,e2]
     have key:∀(La:Nat→Bool) q,(frUp fr0 (fixO env ops) vT La q).length=fr0.length:=by
      intro La q
      induction q with
      |zero=>rfl
      |succ q ihq=>
       simp only[frUp]
       split
       ·cases La q
        ·exact ihq
        ·simp only[cond_true,putA_len];exact ihq
       ·exact ihq
     rw[key,key]
theorem draw_sound (hok:EnvOk env) (hf:HasFn env r) (hrec:SoundRec env.P env.pre r):DrawSound env r:=by
 intro lo w0 ρ0 E0 wE R res id ops kn Q fr H hdr h hk ρ E a w st
 rw[Bool.and_eq_true]at hdr
 obtain⟨hdr,hfx⟩:=hdr
 have hmix:env.P.follows .mixedOrders=true:=by
  simp only[drawOk,Bool.and_eq_true]at hdr
  exact hdr.1.1
 obtain⟨frT,HT,vT,Wd,e1,e2,hkn,hs,hg⟩:=run_of_evOps (fixO env ops).toList 0 [] (clrE env ops fr) H (fun q=>by simp) h
 have run:Run env r (fixO env ops) frT HT vT Wd:=⟨fun i o ho=>hs i o (Nat.zero_le _) ho,fun i o ho=>hg i o (Nat.zero_le _) ho⟩
 simp only[Nat.zero_add,Array.length_toList]at hkn
 have hS:∀q,q≤(fixO env ops).size→((stsFrom frT HT 0 (fixO env ops).size []).reverse ++ [(frT (fixO env ops).size,HT (fixO env ops).size)])[q]? = some (frT q,HT q):=fun q hq=>sts_get hq
 have hclr:∀s,lateS env ops=some s→(clrE env ops fr).getD s .undef = .undef:=by
  intro s hs
  by_cases hl:s<fr.length<;>simp[clrE,hs,List.getD,List.getElem?_set,hl]
 have hfr0:FrRep ρ E w (clrE env ops fr) a:=by
  unfold clrE
  split
  ·rename_i s _
   refine⟨by simp[st.fr.size],fun t x ht=> ?_,st.fr.defers⟩
   simp only[List.getElem?_set]at ht
   by_cases hst:s=t
   ·subst hst
    by_cases hl:s<fr.length
    ·simp only[hl,if_true,Option.some.injEq]at ht
     subst ht;simp only[Rep]
    ·simp[hl]at ht
   ·rw[if_neg hst]at ht
    exact st.fr.rep t x ht
  ·exact st.fr
 cases hdyn:drawDyn env (fixO env ops) ((stsFrom frT HT 0 (fixO env ops).size []).reverse ++ [(frT (fixO env ops).size,HT (fixO env ops).size)])with
 |false=>rw[hdyn]at hkn;cases hkn
 |true=>
  rw[hdyn]at hkn
  simp only[cond_true]at hkn
  refine wp_region_any hmix ?_
  refine any_late hok hf hrec hdr hfx run e1 hclr hS hdyn (fun ρ' E' a' w' st'=>hk ρ' E' _ _ a' w' hkn st') ops.size _ a _ (by simp) ?_ (.inl ?_)
  ·simp only[rest]
   have:(List.range ops.size).countP (fun i=> !lst (Array.replicate ops.size false) i)=(List.range ops.size).length:=by
    rw[List.countP_eq_length]
    intro i hi
    simp only[List.mem_range]at hi
    simp[lst,Array.getD,hi]
   rw[this];simp
  ·have hL:∀i,lst (Array.replicate ops.size false) i=false:=by
    intro i
    simp only[lst,Array.getD]
    split
    ·simp
    ·rfl
   generalize lst (Array.replicate ops.size false)=L at hL
   generalize fixO env ops=ops at *
   obtain⟨m,h1,h2,h3,h4⟩:=exists_next (fun j=>∃x,ops[j]? = some x∧cls env x.op=3) ops.size ops.size 0 (by omega)
   have hq:∀j x,0≤j→j<m→ops[j]? = some x→cls env x.op≠3:=fun j x hj1 hj2 hx hc=>h3 j hj1 hj2 ⟨x,hx,hc⟩
   have hgr:∀j,j≤m→Grows (HT 0) (HT j):=by
    intro j hj
    have:=grows_between run (p:=0) j (by omega) (fun q x hq1 hq2=>hq q x hq1 (by omega))
    rwa [Nat.zero_add]at this
   have inv0:Inv lo w0 ρ E (HT 0) {w with drawn:=w.drawn+1}:=by rw[e2];exact st.inv.heap rfl
   refine⟨ρ,E,0,m,{pm:=Nat.zero_le _,mn:=h2,quiet:=fun q x hq1 hq2 hx hc=>(hq q x hq1 hq2 hx hc).elim,past:=fun i o hi=>by omega,stop:= ?_,inv:=inv0.pad ((hgr m (Nat.le_refl _)).len inv0.len) (hgr m (Nat.le_refl _)).n (hgr m (Nat.le_refl _)).get (hgr m (Nat.le_refl _)).gl,fr:= ?_,reach:= ?_,closed:=fun j o ho hj=>(by rw[hL j]at hj;cases hj),owed:= ?_}⟩
   ·rcases h4 with e|⟨x,hx,hc⟩
    ·exact .inl e
    ·exact .inr ⟨x,hx,hc,hL m⟩
   ·have:∀fr,frUp fr ops vT L ops.size=fr:=by
     intro fr
     have key:∀k,frUp fr ops vT L k=fr:=by
      intro k
      induction k with
      |zero=>rfl
      |succ k ih=>simp only[frUp,hL,cond_false,ih];split<;>rfl
     exact key _
    rw[this]
    exact hfr0.mono (Ext.heap rfl)
   ·exact st.reach.trans ⟨Ext.heap rfl,fun _ h=> .inl h⟩
   ·intro i o h1' h2' ho hc hw hl
    cases hρ:ρ (HT i).n with
    |none=>rfl
    |some b=>
     have:=inv0.dom _ b hρ
     have:=(hgr i (by omega)).n
     omega
end
section
variable {env:Env} {r:Rec}
theorem body_sound (hok:EnvOk env) (n:Nat) (hf:HasFn env r) (hr:SoundRec env.P env.pre r) (f:FuncId) (hlp:∀F,env.fn f=some F→∀x∈loopsOf F.code,∀n0 g,env.lp n0 x=some g→SoundLp env.P n0 x g)
 (pre:FuncId→List AV→Hp→List Bool):SoundAt env.P pre (bodyRun env r n) f:=body_sound1 hok n hf hr (fun k=>draw_sound (env:={env with n0:=k}) hok hf hr) f hlp pre
end
end Go.AM
