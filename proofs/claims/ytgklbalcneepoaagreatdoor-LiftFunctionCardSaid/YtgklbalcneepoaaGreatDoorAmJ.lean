/-
  Regions that draw their order go as the order of the text does: the step, and the whole.
-/
import Derived.Test.YtgklbalcneepoaaGreatDoorAmI
namespace Go.AM
set_option linter.unusedVariables false
set_option linter.unusedSimpArgs false
section
variable {lo:Nat→Prop} {w0:World} {ρ0:Nat→Option Nat} {E0:Nat→Prop} {wE:World} {env:Env} {r:Rec} {ops:Array Oper} {vT:Nat→AV} {fr0:Fr} {frT:Nat→Fr} {HT:Nat→Hp} {Wd:Nat→Bool}
theorem di_step (hok:EnvOk env) (hf:HasFn env r) (hrec:SoundRec env.P env.pre r) (hdr:drawOk env ops=true) (run:Run env r ops frT HT vT Wd) (h0:frT 0=fr0) {S:List (Fr×Hp)} (hS:∀q,q≤ops.size→S[q]? = some (frT q,HT q)) (hdyn:drawDyn env ops S=true)
 {L:Nat→Bool} {ρ:Nat→Option Nat} {E:Nat→Prop} {p m:Nat} {a:Act} {w:World} (di:DI lo w0 ρ0 E0 wE env ops vT fr0 HT Wd L ρ E p m a w) {i:Nat} (hi:i<ops.size) (hr:Rdy ops L i)
 {K:Act→World→Prop} {Q:Exit→Act→World→Prop} (hK:∀a' w',(∃ρ' E' p' m',DI lo w0 ρ0 E0 wE env ops vT fr0 HT Wd (add L i) ρ' E' p' m' a' w')→K a' w'):wpOp env.P ops Q i K a w:=by
 have ho:ops[i]? = some (ops[i]):=Array.getElem?_eq_getElem hi
 generalize ops[i]=o at ho
 have hup:=up_add (vT:=vT) (fr0:=fr0) hdr di.closed ho hr
 have hcl:=closed_add di.closed hr
 have hag:∀t,(namesOf ops o).elem t=true→(frUp fr0 ops vT L ops.size).getD t .undef=(frT i).getD t .undef:=fun t ht=>up_agrees hdr run h0 di.closed ho hr ht
 have hopd:∀x∈o.op.operands.toList,opd (frUp fr0 ops vT L ops.size) x=opd (frT i) x:=by
  intro x hx
  refine opd_congr fun t e=>hag t (mem_names ?_)
  simp only[opTmps,List.mem_filterMap]
  exact⟨x,hx,by rw[e]⟩
 have hw:Region.wanted o (yielded ops a.tmps)=Wd i:=by
  have hg:=run.guard i o ho
  unfold GuardOk at hg
  split at hg
  ·rename_i e;rw[hg];simp[Region.wanted,e]
  ·rename_i j want e
   obtain⟨s,hs,hcase⟩:=hg
   have hsn:(namesOf ops o).elem s=true:=by
    have:slotOf ops j=s:=by simp only[slotOf];rw[show(ops[j]?).bind (fun x=>x.dst)=some s from hs];rfl
    simp[namesOf,e,this]
   rcases hcase with⟨b,hb,hwd⟩|⟨vs,hb,hwd⟩
   ·rw[← hag s hsn]at hb
    rw[hwd];exact wanted_guard e hs (di.fr.at hb)
   ·rw[← hag s hsn]at hb
    rw[hwd];exact wanted_skip e hs (di.fr.at hb)
 have hat3:cls env o.op=3→i=m:=by
  intro h3
  rcases Nat.lt_trichotomy i m with h|h|h
  ·by_cases hp:p≤i
   ·have:=(di.quiet i o hp h ho h3).1;rw[hr.1]at this;cases this
   ·have:=di.past i o (by omega) ho (.inr h3);rw[hr.1]at this;cases this
  ·exact h
  ·rcases di.stop with e|⟨om,hom,hc3,hlm⟩
   ·omega
   ·rcases pairs_of hdr h hom ho with hpr|hfr
    ·have:=preds_spec di.closed hpr (.inr hr);rw[hlm]at this;cases this
    ·have:=isLd_cls (env:=env) (free_not3 hfr hc3 (by omega));omega
 have hge:cls env o.op=2→i<m:=by
  intro h12
  rcases Nat.lt_trichotomy i m with h|h|h
  ·exact h
  ·rcases di.stop with e|⟨om,hom,hc3,_⟩
   ·omega
   ·rw[← h,ho]at hom;cases hom;omega
  ·rcases di.stop with e|⟨om,hom,hc3,hlm⟩
   ·omega
   ·rcases pairs_of hdr h hom ho with hpr|hfr
    ·have:=preds_spec di.closed hpr (.inr hr);rw[hlm]at this;cases this
    ·have:=isLd_cls (env:=env) (free_not3 hfr hc3 (by omega));omega
 have quiet':∀q x,p≤q→q<m→ops[q]? = some x→cls env x.op=3→add L i q=true∧(HT (q+1)).n=(HT q).n∧(HT (q+1)).gl=(HT q).gl∧
  ∀j y,p≤j→j<q→ops[j]? = some y→cls env y.op=2→add L i j=false→∀b,(HT j).n≤b→(HT (q+1)).get b=(HT q).get b:=by
  intro q x h1 h2 hx hc
  obtain⟨a1,a2,a3,a4⟩:=di.quiet q x h1 h2 hx hc
  refine⟨add_mono a1,a2,a3,fun j y hj1 hj2 hy hcy hl b hb=>a4 j y hj1 hj2 hy hcy ?_ b hb⟩
  cases hlj:L j with
  |false=>rfl
  |true=>rw[add_mono hlj]at hl;cases hl
 have same:∀a' w' E',Inv lo w0 ρ E' (HT m) w'→Reach lo ρ E w ρ E' w'→FrRep ρ E' w' (frUp fr0 ops vT (add L i) ops.size) a'→cls env o.op≠3→(cls env o.op=2→Wd i=false)→K a' w':=by
  intro a' w' E' inv' reach hfr' hc3 hc2
  refine hK a' w' ⟨ρ,E',p,m,{pm:=di.pm,mn:=di.mn,quiet:=quiet',past:=fun j x hj hx hcx=>add_mono (di.past j x hj hx hcx),stop:= ?_,inv:=inv',fr:=hfr',reach:=di.reach.trans reach,closed:=hcl,owed:= ?_}⟩
  ·rcases di.stop with e|⟨om,hom,h3,hl⟩
   ·exact .inl e
   ·refine .inr ⟨om,hom,h3,?_⟩
    have:m≠i:=fun e=>by rw[e,ho]at hom;cases hom;exact hc3 h3
    simp only[add,this,if_false];exact hl
  ·intro j x h1 h2 hx hcx hwx hlx
   by_cases e:j=i
   ·subst e;rw[ho]at hx;cases hx;rw[hc2 hcx]at hwx;cases hwx
   ·simp only[add,e,if_false]at hlx
    exact di.owed j x h1 h2 hx hcx hwx hlx
 have effect:cls env o.op=3→∀ρ' E' a' w',Inv lo w0 ρ' E' (HT (i+1)) w'→Reach lo ρ E w ρ' E' w'→FrRep ρ' E' w' (frUp fr0 ops vT (add L i) ops.size) a'→(isSt o.op=true→ρ'=ρ)→K a' w':=by
  intro h3 ρ' E' a' w' inv' reach hfr' hρs
  have him:=hat3 h3
  obtain⟨m',h1,h2,h3',h4⟩:=exists_next (fun j=>∃x,ops[j]? = some x∧cls env x.op=3) ops.size (ops.size-(i+1)) (i+1) (by omega)
  have hq:∀j x,i+1≤j→j<m'→ops[j]? = some x→cls env x.op≠3:=fun j x hj1 hj2 hx hc=>h3' j hj1 hj2 ⟨x,hx,hc⟩
  have hg:∀j,i+1≤j→j≤m'→Grows (HT (i+1)) (HT j):=by
   intro j hj1 hj2
   have:=grows_between run (p:=i+1) (j-(i+1)) (by omega) (fun q x hq1 hq2=>hq q x (by omega) (by omega))
   rwa [show i+1+(j-(i+1))=j from by omega]at this
  have hgm:=hg m' h1 (Nat.le_refl _)
  have hstop:m'=ops.size∨∃o,ops[m']? = some o∧cls env o.op=3∧add L i m'=false:=by
   rcases h4 with e|⟨x,hx,hcx⟩
   ·exact .inl e
   ·refine .inr ⟨x,hx,hcx,?_⟩
    have hne:m'≠i:=by omega
    simp only[add,hne,if_false]
    cases hl:L m' with
    |false=>rfl
    |true=>
     rcases pairs_of hdr (show i<m' by omega) ho hx with hpr|hfr
     ·have:=preds_spec di.closed hpr (.inl hl);rw[hr.1]at this;cases this
     ·have:=isLd_cls (env:=env) (free_not3 hfr h3 (by omega));omega
  have late:∀j x,i+1≤j→j<m'→ops[j]? = some x→ρ' (HT j).n=none:=by
   intro j x hj1 hj2 hx
   cases hρ:ρ' (HT j).n with
   |none=>rfl
   |some b=>
    have:=inv'.dom _ b hρ
    have:=(hg j hj1 (by omega)).n
    omega
  by_cases hpend:∃j x,p≤j∧j<i∧ops[j]? = some x∧cls env x.op=2∧L j=false
  ·
   have soft:∀j x,p≤j→j<i→ops[j]? = some x→cls env x.op=2→L j=false→isSt o.op=true∧(HT (i+1)).n=(HT i).n∧(HT (i+1)).gl=(HT i).gl∧∀b,(HT j).n≤b→(HT (i+1)).get b=(HT i).get b:=by
    intro j x hj1 hj2 hx hcx hlj
    have hnot:¬((preds ops).getD i []).elem j=true:=fun h=>by
     have:=preds_spec di.closed h (.inr hr);rw[hlj]at this;cases this
    have hst:isSt o.op=true:=by
     rcases pairs_of hdr hj2 hx ho with hpr|hfr
     ·exact(hnot hpr).elim
     ·rcases free_heap hfr with h|h|h|h|h|h
      ·omega
      ·omega
      ·omega
      ·have:=isLd_cls (env:=env) h.1;omega
      ·omega
      ·exact h.2
    exact⟨hst,store_soft run hS hi (by omega) ho hst ((dyn_of hdyn hj2 hx ho hnot).2.2 hcx hst)⟩
   obtain⟨j0,x0,hj01,hj02,hx0,hc0,hl0⟩:=hpend
   obtain⟨hst,sn,sg,_⟩:=soft j0 x0 hj01 hj02 hx0 hc0 hl0
   have hρ:=hρs hst
   subst hρ
   refine hK a' w' ⟨_,E',p,m',{pm:=by have:=di.pm;omega,mn:=h2,quiet:= ?_,past:=fun j x hj hx hcx=>add_mono (di.past j x hj hx hcx),stop:=hstop,inv:=inv'.pad (hgm.len inv'.len) hgm.n hgm.get hgm.gl,fr:=hfr',reach:=di.reach.trans reach,closed:=hcl,owed:= ?_}⟩
   ·intro q x hq1 hq2 hx hc
    rcases Nat.lt_trichotomy q i with hlt|heq|hgt
    ·exact quiet' q x hq1 (by omega) hx hc
    ·subst heq
     refine⟨by simp[add],sn,sg,fun j y hj1 hj2 hy hcy hl b hb=>(soft j y hj1 hj2 hy hcy ?_).2.2.2 b hb⟩
     have:j≠q:=by omega
     simpa only[add,this,if_false]using hl
    ·exact(hq q x (by omega) hq2 hx hc).elim
   ·intro j x hj1 hj2 hx hcx hwx hlx
    rcases Nat.lt_trichotomy j i with hlt|heq|hgt
    ·have:j≠i:=by omega
     simp only[add,this,if_false]at hlx
     exact di.owed j x hj1 (by omega) hx hcx hwx hlx
    ·subst heq;simp[add]at hlx
    ·exact late j x (by omega) hj2 hx
  ·refine hK a' w' ⟨ρ',E',i+1,m',{pm:=h1,mn:=h2,quiet:=fun q x hq1 hq2 hx hc=>(hq q x hq1 hq2 hx hc).elim,past:= ?_,stop:=hstop,inv:=inv'.pad (hgm.len inv'.len) hgm.n hgm.get hgm.gl,fr:=hfr',reach:=di.reach.trans reach,closed:=hcl,owed:=fun j x hj1 hj2 hx _ _ _=>late j x hj1 hj2 hx}⟩
   intro j x hj hx hcx
   by_cases e:j=i
   ·simp[add,e]
   ·refine add_mono ?_
    by_cases hjp:j<p
    ·exact di.past j x hjp hx hcx
    ·rcases hcx with hcx|hcx
     ·cases hlj:L j with
      |true=>rfl
      |false=>exact(hpend ⟨j,x,by omega,by omega,hx,hcx,hlj⟩).elim
     ·exact(di.quiet j x (by omega) (by omega) hx hcx).1
 unfold wpOp
 rw[ho]
 simp only
 rw[hw]
 obtain⟨_,⟨hwd,v0,he,hre⟩|⟨hwd,hv,hH⟩⟩:=run.step i o ho
 ·
  rw[hwd,if_pos rfl]
  refine .inl ?_
  have he':evOp env r (frUp fr0 ops vT L ops.size) (HT i) o.type o.op=some (v0,HT (i+1)):=by rw[evOp_congr hopd];exact he
  have put:∀{ρ':Nat→Option Nat} {E':Nat→Prop} {w':World} {u:Value},Ext ρ E w ρ' E' w'→Rep ρ' E' w' v0 u→FrRep ρ' E' w' (frUp fr0 ops vT (add L i) ops.size) (a.put o.dst u):=by
   intro ρ' E' w' u ext rv
   rw[hup];exact(di.fr.mono ext).put (hre.rep rv) o.dst
  rcases cls_le3 (env:=env) o.op with hc|hc|hc|hc
  ·have hm:=(cls0_any hc he').2 (HT m)
   refine op_sound hok hf hrec hm di.inv di.fr fun u ρ' E' w' inv' reach rv hρ=> ?_
   have e:=hρ (by omega)
   subst e
   exact same _ _ E' inv' reach (put reach.ext rv) (by omega) (by omega)
  ·have hm:evOp env r (frUp fr0 ops vT L ops.size) (HT m) o.type o.op=some (v0,HT m):=by
    rw[evOp_congr hopd]
    by_cases him:i≤m
    ·
     have key:∀d,i+d≤m→evOp env r (frT i) (HT (i+d)) o.type o.op=some (v0,HT (i+d)):=by
      intro d
      induction d with
      |zero=>
       intro _
       have e:=(cls1_le hc he).1
       rw[e]at he;exact he
      |succ d ih=>
       intro hd
       have hmn:=di.mn
       have hx:ops[i+d]? = some (ops[i+d]'(by omega)):=Array.getElem?_eq_getElem (by omega)
       generalize ops[i+d]'(by omega)=x at hx
       by_cases hcx:cls env x.op=3
       ·have hne:i≠i+d:=fun e=>by rw[← e,ho]at hx;cases hx;omega
        have hlj:L (i+d)=true:=by
         by_cases h:i+d<p
         ·exact di.past (i+d) x h hx (.inr hcx)
         ·exact(di.quiet (i+d) x (by omega) (by omega) hx hcx).1
        have hnot:¬((preds ops).getD (i+d) []).elem i=true:=fun h=>by
         have:=preds_spec di.closed h (.inl hlj);rw[hr.1]at this;cases this
        have hld:isLd o.op=true:=by
         rcases pairs_of hdr (show i<i+d by omega) ho hx with h|h
         ·exact(hnot h).elim
         ·rcases free_heap h with h|h|h|h|h|h
          ·omega
          ·omega
          ·omega
          ·exact h.1
          ·omega
          ·omega
        exact ld_at run hS he ((dyn_of hdyn (show i<i+d by omega) ho hx hnot).1 hld hcx) (Nat.le_refl _) (by omega) (by omega) (by omega) (by omega)
       ·have:=step_small run hx hcx
        exact(cls1_le hc (ih (by omega))).2 _ this.le
     have:=key (m-i) (by omega)
     rwa [show i+(m-i)=m from by omega]at this
    ·rcases di.stop with e|⟨om,hom,hc3,hlm⟩
     ·omega
     ·have hnot:¬((preds ops).getD i []).elem m=true:=fun h=>by
       have:=preds_spec di.closed h (.inr hr);rw[hlm]at this;cases this
      have hld:isLd o.op=true:=by
       rcases pairs_of hdr (show m<i by omega) hom ho with h|h
       ·exact(hnot h).elim
       ·exact free_not3 h hc3 (by omega)
      exact ld_at run hS he ((dyn_of hdyn (show m<i by omega) hom ho hnot).2.1 hc3 hld) (by omega) (Nat.le_refl _) (by omega) (Nat.le_refl _) (by omega)
   refine op_sound hok hf hrec hm di.inv di.fr fun u ρ' E' w' inv' reach rv hρ=> ?_
   have e:=hρ (by omega)
   subst e
   exact same _ _ E' inv' reach (put reach.ext rv) (by omega) (by omega)
  ·
   have him:=hge hc
   have hpi:p≤i:=by
    by_cases h:p≤i
    ·exact h
    ·have:=di.past i o (by omega) ho (.inl hc);rw[hr.1]at this;cases this
   obtain⟨mk,k,hv,hH,hnew⟩:=cls2_new hc he'
   obtain⟨s,hexec,u,w',ob,hrun,⟨hheap,hio⟩,hblk,hmk⟩:=hnew ρ E w a o rfl di.fr
   have hup1:(HT (i+1)).n≤(HT m).n:=by
    have:=(di.up run (m-(i+1)) (i+1) (by omega) (by omega)).1
    rwa [show i+1+(m-(i+1))=m from by omega]at this
   have hnone:=di.owed i o hpi him ho hc hwd hr.1
   have hn1:(HT (i+1)).n=(HT i).n+1:=by rw[hH];rfl
   have hgetk:(HT m).get (HT i).n=some k:=by
    have:=di.keeps run hpi ho hc hr.1 (Nat.le_refl _) (by omega) (m-(i+1)) (by omega)
    rw[show i+1+(m-(i+1))=m from by omega]at this
    rw[this,hH];exact Hp.get_push_eq k
   have hold:∀b,b<w.heap.size→w'.heap[b]? = w.heap[b]? :=fun b hb=>by rw[hheap,Array.getElem?_push_lt (by omega)];simp[hb]
   have hnewb:w'.heap[w.heap.size]? = some ob:=by rw[hheap];simp
   have hsz:w'.heap.size=w.heap.size+1:=by rw[hheap];simp
   have hmap:∀j b,ρ j=some b→upd ρ (HT i).n w.heap.size j=some b:=fun j b hb=>by
    simp only[upd]
    split
    ·rename_i e;rw[e,hnone]at hb;cases hb
    ·exact hb
   have ext:Ext ρ E w (upd ρ (HT i).n w.heap.size) E w':=Ext.grow hmap (fun _ h=>h) (fun i b hb=>(di.inv.bd i b hb).2) di.inv.ebd hold (by omega)
   have hcase:∀j b,upd ρ (HT i).n w.heap.size j=some b→(j=(HT i).n∧b=w.heap.size)∨ρ j=some b:=fun j b hb=>by
    simp only[upd]at hb
    split at hb
    ·rename_i hj;exact .inl ⟨hj,by simpa using hb.symm⟩
    ·exact .inr hb
   have inv':Inv lo w0 (upd ρ (HT i).n w.heap.size) E (HT m) w':=
    {gl:=gl_mono rfl ext di.inv.gl
     len:=di.inv.len
     dom:=fun j b hb=>by
      rcases hcase j b hb with⟨rfl,_⟩|hb'
      ·omega
      ·exact di.inv.dom j b hb'
     blk:=fun j k' b hk' hb=>by
      rcases hcase j b hb with⟨rfl,rfl⟩|hb'
      ·rw[hgetk]at hk';cases hk';exact hblk _ _ _ ext hnewb
      ·exact(di.inv.blk j k' b hk' hb').mono ext (hold b (di.inv.bd j b hb').2)
     inj:=fun j j' k1 k2 b h1 h2 hb1 hb2=>by
      rcases hcase j b hb1 with⟨rfl,rfl⟩|hb1'<;>rcases hcase j' _ hb2 with⟨rfl,e⟩|hb2'
      ·rfl
      ·have:=(di.inv.bd j' _ hb2').2;omega
      ·have:=(di.inv.bd j _ hb1').2;omega
      ·exact di.inv.inj j j' k1 k2 b h1 h2 hb1' hb2'
     notE:=fun j k1 b h1 hb1 he1=>by
      rcases hcase j b hb1 with⟨rfl,rfl⟩|hb1'
      ·have:=di.inv.ebd _ he1;omega
      ·exact di.inv.notE j k1 b h1 hb1' he1
     bd:=fun j b hb=>by
      rcases hcase j b hb with⟨rfl,rfl⟩|hb'
      ·exact⟨fun h=>by have:=di.inv.lole _ h;omega,by omega⟩
      ·have:=di.inv.bd j b hb';exact⟨this.1,by omega⟩
     ebd:=fun b hb=>by have:=di.inv.ebd b hb;omega
     lole:=fun b hb=>by have:=di.inv.lole b hb;omega
     old:=fun b hb=>by rw[hold b (di.inv.lole b hb)];exact di.inv.old b hb
     io:=di.inv.io.trans hio}
   have rv:Rep (upd ρ (HT i).n w.heap.size) E w' v0 u:=by rw[hv];exact hmk _ _ _ _ (upd_self _ _ _) hnewb
   unfold Oper.wp
   rw[hexec]
   simp only[Sem.run_bind,hrun,Result.andThen_ok,Sem.run_pure,Oper.upon]
   refine hK _ _ ⟨_,E,p,m,{pm:=di.pm,mn:=di.mn,quiet:=quiet',past:=fun j x hj hx hcx=>add_mono (di.past j x hj hx hcx),stop:= ?_,inv:=inv',fr:=put ext rv,reach:=di.reach.trans ext.reach,closed:=hcl,owed:= ?_}⟩
   ·rcases di.stop with e|⟨om,hom,h3,hl⟩
    ·exact .inl e
    ·refine .inr ⟨om,hom,h3,?_⟩
     have:m≠i:=by omega
     simp only[add,this,if_false];exact hl
   ·intro j x h1 h2 hx hcx hwx hlx
    by_cases e:j=i
    ·simp[add,e]at hlx
    ·simp only[add,e,if_false]at hlx
     have hold':=di.owed j x h1 h2 hx hcx hwx hlx
     simp only[upd]
     rw[if_neg]
     ·exact hold'
     ·intro en
      rcases Nat.lt_or_gt_of_ne e with hlt|hgt
      ·
       obtain⟨_,⟨_,_,hej,_⟩|⟨hwj,_⟩⟩:=run.step j x hx
       ·obtain⟨_,_,_,hHj,_⟩:=cls2_new hcx hej
        have hn2:(HT (j+1)).n=(HT j).n+1:=by rw[hHj];rfl
        have hg2:=(di.up run (i-(j+1)) (j+1) (by omega) (by omega)).1
        rw[show j+1+(i-(j+1))=i from by omega]at hg2
        omega
       ·rw[hwx]at hwj;cases hwj
      ·have hg2:=(di.up run (j-(i+1)) (i+1) (by omega) (by omega)).1
       rw[show i+1+(j-(i+1))=j from by omega]at hg2
       omega
  ·
   have him:=hat3 hc
   have inv0:=di.inv
   rw[← him]at inv0
   by_cases hst:isSt o.op=true
   ·cases hop:o.op<;>rw[hop]at hst<;>first|(cases hst;done)|skip
    rename_i T x y
    obtain⟨hob,h0⟩:=evOp_some he'
    rw[hop]at hob h0
    simp only[evOp0]at h0
    obtain⟨hx,e⟩:=uA_some h0
    exact wp_okU (C:=True) (s:=Instr.storeAt T (a.eval x) (a.eval y)) (by simp[execOp,hop]) (ok_store inv0 hx (by simpa only[obl]using hob) (di.fr.opd x) (di.fr.opd y))
     fun u ρ' E' w' inv' reach rv hρ=>effect hc ρ' E' _ w' inv' reach (put reach.ext (by rw[e];exact rv)) (fun _=>hρ trivial)
   ·exact op_sound hok hf hrec he' inv0 di.fr fun u ρ' E' w' inv' reach rv _=>effect hc ρ' E' _ w' inv' reach (put reach.ext rv) (fun h=>(hst h).elim)
 ·
  rw[hwd,if_neg (by simp)]
  have hfr':FrRep ρ E w (frUp fr0 ops vT (add L i) ops.size) (a.put o.dst undef):=by
   rw[hup,hv];exact di.fr.put (by simp only[uv,Rep]) o.dst
  by_cases hc:cls env o.op=3
  ·have him:=hat3 hc
   have inv0:=di.inv
   rw[← him, ← hH]at inv0
   exact effect hc ρ E _ w inv0 Reach.refl hfr' (fun _=>rfl)
  ·exact same _ w E di.inv Reach.refl hfr' hc fun _=>hwd
def lst (listed:Array Bool):Nat→Bool:=fun i=>listed.getD i false
theorem lst_set {listed:Array Bool} {i:Nat} (hi:i<listed.size):lst (listed.setIfInBounds i true)=add (lst listed) i:=by
 funext j
 simp only[lst,add,Array.getD_eq_getD_getElem?]
 by_cases e:j=i
 ·subst e;simp[hi]
 ·rw[Array.getElem?_setIfInBounds_ne (Ne.symm e)];simp[e]
theorem ready_iff {listed:Array Bool} (hs:listed.size=ops.size) {i:Nat}:i∈Region.ready .any ops listed↔i<ops.size∧Rdy ops (lst listed) i:=by
 simp only[Region.ready,List.mem_filter,List.mem_range]
 constructor
 ·rintro⟨hi,h⟩
  refine⟨hi,?_⟩
  have ho:ops[i]? = some ops[i]:=Array.getElem?_eq_getElem hi
  simp only[ho,Option.map_some,Option.getD_some,Bool.and_eq_true,Bool.not_eq_true']at h
  refine⟨?_,fun o ho' e he hb=> ?_⟩
  ·have hi':i<listed.size:=by omega
   have:=h.1
   simp only[lst,Array.getD,hi',dif_pos]at this ⊢
   exact this
  ·rw[ho]at ho';cases ho'
   have:=Array.all_eq_true_iff_forall_mem.1 h.2 e (by simpa using he)
   simpa[hb,lst]using this
 ·rintro⟨hi,h1,h2⟩
  refine⟨hi,?_⟩
  have ho:ops[i]? = some ops[i]:=Array.getElem?_eq_getElem hi
  simp only[ho,Option.map_some,Option.getD_some,Bool.and_eq_true,Bool.not_eq_true']
  refine⟨?_,Array.all_eq_true_iff_forall_mem.2 fun e he=> ?_⟩
  ·have hi':i<listed.size:=by omega
   simp only[lst,Array.getD,hi',dif_pos]at h1 ⊢
   exact h1
  ·cases hb:Region.binds .any e with
   |false=>simp
   |true=>have:=h2 _ ho e (by simpa using he) hb;simpa[lst]using this
def rest (n:Nat) (L:Nat→Bool):Nat:=(List.range n).countP fun i=> !L i
theorem rest_add {n:Nat} {L:Nat→Bool} {i:Nat} (hi:i<n) (hl:L i=false):rest n L=rest n (add L i)+1:=by
 have key:∀m,(List.range m).countP (fun j=> !L j)=(List.range m).countP (fun j=> !add L i j)+(if i<m then 1 else 0):=by
  intro m
  induction m with
  |zero=>simp
  |succ m ih=>
   rw[List.range_succ,List.countP_append,List.countP_append,ih]
   simp only[List.countP_cons,List.countP_nil]
   by_cases e:m=i
   ·subst e
    simp[add,hl]
   ·simp only[add,e,if_false]
    by_cases h1:i<m
    ·have h2:i<m+1:=by omega
     simp only[h1,h2,if_true];omega
    ·have h2:¬i<m+1:=by omega
     simp only[h1,h2,if_false];omega
 have:=key n
 rw[if_pos hi]at this
 exact this
theorem all_up (hdr:drawOk env ops=true) {L:Nat→Bool} (hno:∀i,i<ops.size→¬Rdy ops L i):∀i,i<ops.size→L i=true:=by
 simp only[drawOk,Bool.and_eq_true]at hdr
 have hback:=hdr.1.2
 intro i
 induction i using Nat.strongRecOn with
 |_ i ih=>
  intro hi
  cases hl:L i with
  |true=>rfl
  |false=>
   refine(hno i hi ⟨hl,fun o ho e he hb=> ?_⟩).elim
   have h1:=List.all_eq_true.1 hback i (by simpa using hi)
   simp only[ho]at h1
   have h2:=List.all_eq_true.1 h1 e he
   simp only[hb,Bool.not_true,Bool.false_or,Nat.blt_eq]at h2
   exact ih e.on h2 (by omega)
theorem rest_zero {n:Nat} {L:Nat→Bool} (h:rest n L=0):∀i,i<n→L i=true:=by
 intro i hi
 simp only[rest,List.countP_eq_zero,List.mem_range]at h
 have:=h i hi
 simpa using this
theorem any_sound (hok:EnvOk env) (hf:HasFn env r) (hrec:SoundRec env.P env.pre r) (hdr:drawOk env ops=true) (run:Run env r ops frT HT vT Wd) (h0:frT 0=fr0) {S:List (Fr×Hp)} (hS:∀q,q≤ops.size→S[q]? = some (frT q,HT q)) (hdyn:drawDyn env ops S=true)
 {Q:Exit→Act→World→Prop} (hQ:∀ρ E a w,St lo w0 ρ0 E0 wE ρ E (HT ops.size) (frT ops.size) a w→Q .normal a w):
 ∀(fuel:Nat) (listed:Array Bool) (a:Act) (w:World),listed.size=ops.size→rest ops.size (lst listed)=fuel→(∃ρ E p m,DI lo w0 ρ0 E0 wE env ops vT fr0 HT Wd (lst listed) ρ E p m a w)→wpAny env.P .any ops Q fuel listed a w:=by
 have fin:∀(listed:Array Bool) (a:Act) (w:World),(∀i,i<ops.size→lst listed i=true)→(∃ρ E p m,DI lo w0 ρ0 E0 wE env ops vT fr0 HT Wd (lst listed) ρ E p m a w)→Q .normal a w:=by
  rintro listed a w hall ⟨ρ,E,p,m,di⟩
  have hm:m=ops.size:=by
   rcases di.stop with e|⟨o,ho,_,hl⟩
   ·exact e
   ·rw[hall m (Array.getElem?_eq_some_iff.1 ho).1]at hl;cases hl
  subst hm
  refine hQ ρ E a w ⟨di.inv,?_,di.reach⟩
  have:frUp fr0 ops vT (lst listed) ops.size=frT ops.size:=by
   apply List.ext_getElem?
   intro t
   exact(frUp_text (vT:=vT) h0 (fun i o ho=>(run.step i o ho).1) ops.size (Nat.le_refl _) fun j o hj _ _=>hall j hj).1
  rw[← this];exact di.fr
 intro fuel
 induction fuel with
 |zero=>
  intro listed a w hs hrest hdi
  have hall:=rest_zero hrest
  refine⟨?_,fin listed a w hall hdi⟩
  rw[List.eq_nil_iff_forall_not_mem]
  intro i hi
  obtain⟨h1,h2⟩:=(ready_iff hs).1 hi
  have h3:=h2.1;rw[hall i h1]at h3;cases h3
 |succ fuel ih=>
  intro listed a w hs hrest hdi
  refine⟨fun hnil=> ?_,fun i hi=> ?_⟩
  ·refine fin listed a w (all_up hdr fun i hi hrdy=> ?_) hdi
   have:=(ready_iff hs).2 ⟨hi,hrdy⟩
   rw[hnil]at this;cases this
  ·obtain⟨h1,h2⟩:=(ready_iff hs).1 hi
   obtain⟨ρ,E,p,m,di⟩:=hdi
   refine di_step hok hf hrec hdr run h0 hS hdyn di h1 h2 fun a' w' hdi'=> ?_
   rw[← lst_set (by omega)]at hdi'
   refine ih _ a' w' (by simp[hs]) ?_ hdi'
   rw[lst_set (by omega)]
   have:=rest_add h1 h2.1
   omega
theorem draw_sound (hok:EnvOk env) (hf:HasFn env r) (hrec:SoundRec env.P env.pre r):DrawSound env r:=by
 intro lo w0 ρ0 E0 wE R res id ops kn Q fr H hdr h hk ρ E a w st
 have hmix:env.P.follows .mixedOrders=true:=by
  simp only[drawOk,Bool.and_eq_true]at hdr
  exact hdr.1.1
 obtain⟨frT,HT,vT,Wd,e1,e2,hkn,hs,hg⟩:=run_of_evOps ops.toList 0 [] fr H (fun q=>by simp) h
 have run:Run env r ops frT HT vT Wd:=⟨fun i o ho=>hs i o (Nat.zero_le _) ho,fun i o ho=>hg i o (Nat.zero_le _) ho⟩
 simp only[Nat.zero_add,Array.length_toList]at hkn
 have hS:∀q,q≤ops.size→((stsFrom frT HT 0 ops.size []).reverse ++ [(frT ops.size,HT ops.size)])[q]? = some (frT q,HT q):=fun q hq=>sts_get hq
 cases hdyn:drawDyn env ops ((stsFrom frT HT 0 ops.size []).reverse ++ [(frT ops.size,HT ops.size)])with
 |false=>rw[hdyn]at hkn;cases hkn
 |true=>
  rw[hdyn]at hkn
  simp only[cond_true]at hkn
  refine wp_region_any hmix ?_
  refine any_sound hok hf hrec hdr run e1 hS hdyn (fun ρ' E' a' w' st'=>hk ρ' E' _ _ a' w' hkn st') ops.size _ a _ (by simp) ?_ ?_
  ·simp only[rest]
   have:(List.range ops.size).countP (fun i=> !lst (Array.replicate ops.size false) i)=(List.range ops.size).length:=by
    rw[List.countP_eq_length]
    intro i hi
    simp only[List.mem_range]at hi
    simp[lst,Array.getD,hi]
   rw[this];simp
  ·have hL:∀i,lst (Array.replicate ops.size false) i=false:=by
    intro i
    simp only[lst,Array.getD]
    split
    ·simp
    ·rfl
   obtain⟨m,h1,h2,h3,h4⟩:=exists_next (fun j=>∃x,ops[j]? = some x∧cls env x.op=3) ops.size ops.size 0 (by omega)
   have hq:∀j x,0≤j→j<m→ops[j]? = some x→cls env x.op≠3:=fun j x hj1 hj2 hx hc=>h3 j hj1 hj2 ⟨x,hx,hc⟩
   have hgr:∀j,j≤m→Grows (HT 0) (HT j):=by
    intro j hj
    have:=grows_between run (p:=0) j (by omega) (fun q x hq1 hq2=>hq q x hq1 (by omega))
    rwa [Nat.zero_add]at this
   have inv0:Inv lo w0 ρ E (HT 0) {w with drawn:=w.drawn+1}:=by rw[e2];exact st.inv.heap rfl
   refine⟨ρ,E,0,m,{pm:=Nat.zero_le _,mn:=h2,quiet:=fun q x hq1 hq2 hx hc=>(hq q x hq1 hq2 hx hc).elim,past:=fun i o hi=>by omega,stop:= ?_,inv:=inv0.pad ((hgr m (Nat.le_refl _)).len inv0.len) (hgr m (Nat.le_refl _)).n (hgr m (Nat.le_refl _)).get (hgr m (Nat.le_refl _)).gl,fr:= ?_,reach:= ?_,closed:=fun j o ho hj=>(by rw[hL j]at hj;cases hj),owed:= ?_}⟩
   ·rcases h4 with e|⟨x,hx,hc⟩
    ·exact .inl e
    ·exact .inr ⟨x,hx,hc,hL m⟩
   ·have:frUp fr ops vT (lst (Array.replicate ops.size false)) ops.size=fr:=by
     have key:∀k,frUp fr ops vT (lst (Array.replicate ops.size false)) k=fr:=by
      intro k
      induction k with
      |zero=>rfl
      |succ k ih=>simp only[frUp,hL,cond_false,ih];split<;>rfl
     exact key _
    rw[this]
    exact st.fr.mono (Ext.heap rfl)
   ·exact st.reach.trans ⟨Ext.heap rfl,fun _ h=> .inl h⟩
   ·intro i o h1' h2' ho hc hw hl
    cases hρ:ρ (HT i).n with
    |none=>rfl
    |some b=>
     have:=inv0.dom _ b hρ
     have:=(hgr i (by omega)).n
     omega
theorem body_sound (hok:EnvOk env) (n:Nat) (hf:HasFn env r) (hr:SoundRec env.P env.pre r) (f:FuncId) (hlp:∀F,env.fn f=some F→∀x∈loopsOf F.code,∀n0 g,env.lp n0 x=some g→SoundLp env.P n0 x g)
 (pre:FuncId→List AV→Hp→List Bool):SoundAt env.P pre (bodyRun env r n) f:=body_sound1 hok n hf hr (fun k=>draw_sound (env:={env with n0:=k}) hok hf hr) f hlp pre
end
end Go.AM
