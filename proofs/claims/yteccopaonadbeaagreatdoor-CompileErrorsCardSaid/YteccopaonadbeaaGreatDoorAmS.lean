/-
  Loops and functions as partial functions on data.
-/
import Derived.Test.YteccopaonadbeaaGreatDoorAmR
set_option linter.unusedVariables false
set_option linter.unusedSimpArgs false
namespace Go.AM
structure OutS where
 kind:Nat
 id:Nat
 fs:List Slot
 hs:List HB
structure LoopS where
 n0:Nat
 fs:List Slot
 hs:List HB
 outs:List OutS
noncomputable def eqD2:List D→List D→List Bool
 | [],[]=>[]
 |x::xs,y::ys=>qeqD x y::eqD2 xs ys
 |_,_=>[false]
theorem eqD2_eq:∀{xs ys:List D},allB (eqD2 xs ys)=true→xs=ys
 | [],[],_=>rfl
 |x::xs,y::ys,h=>by
  simp only[eqD2,allB]at h
  cases hq:qeqD x y with
  |false=>simp[hq]at h
  |true=>simp only[hq,cond_true]at h;rw[qeqD_iff.1 hq,eqD2_eq h]
 | [],_::_,h=>by simp[eqD2,allB]at h
 |_::_,[],h=>by simp[eqD2,allB]at h
theorem guardAll_some {R:Type} {x:Option R} {r:R}:∀{bs:List Bool},guardAll x bs=some r→allB bs=true∧x=some r
 | [],h=>⟨rfl,h⟩
 |b::bs,h=>by
  cases b with
  |false=>simp[guardAll]at h
  |true=>
   simp only[guardAll,cond_true]at h
   simpa only[allB,cond_true]using guardAll_some h
noncomputable def readS {R:Type} (n0 m0:Nat) (fs:List Slot) (hs:List HB) (p:List D) (k:List D→Option R) (fr:Fr) (H:Hp):Option R:=
 match nrmC n0 m0 fs hs fr H with
 |some q=>guardAll (k q.s) (q.ob++eqD2 q.p p)
 |none=>none
theorem readS_some {R:Type} {n0 m0:Nat} {fs:List Slot} {hs:List HB} {p:List D} {k:List D→Option R} {fr:Fr} {H:Hp} {res:R} (h:readS n0 m0 fs hs p k fr H=some res):
 ∃s,k s=some res∧∀{σp σs:Bd} {js:Nat},Bd.ats σp 0 p→Bd.ats σs js s→Wk n0 fr H (mkFr σp σs fs hs js) (mkHp σp σs fs hs js):=by
 unfold readS at h
 split at h
 ·rename_i q hq
  obtain⟨h1,h2⟩:=guardAll_some h
  obtain⟨o1,o2⟩:=allB_both h1
  have:=eqD2_eq o2
  subst this
  exact⟨q.s,h2,fun hp hs=>nrmC_wk hq o1 hp hs⟩
 ·cases h
def findO:List OutS→Nat→Nat→Nat→Option (Nat×OutS)
 | [],_,_,_=>none
 |o::os,k,i,j=>bif Nat.beq o.kind k&&Nat.beq o.id i then some (j,o)else findO os k i (j+1)
theorem findO_some:∀{os:List OutS} {k i j0 j:Nat} {o:OutS},findO os k i j0=some (j,o)→∃d,j=j0+d∧os[d]? = some o∧o.kind=k∧o.id=i
 | [],_,_,_,_,_,h=>by simp[findO]at h
 |o'::os,k,i,j0,j,o,h=>by
  simp only[findO]at h
  cases hb:(Nat.beq o'.kind k&&Nat.beq o'.id i)with
  |true=>
   simp only[hb,cond_true,Option.some.injEq,Prod.mk.injEq]at h
   obtain⟨rfl,rfl⟩:=h
   simp only[Bool.and_eq_true]at hb
   exact⟨0,rfl,rfl,Nat.eq_of_beq_eq_true hb.1,Nat.eq_of_beq_eq_true hb.2⟩
  |false=>
   simp only[hb,cond_false]at h
   obtain⟨d,h1,h2,h3⟩:=findO_some h
   exact⟨d+1,by omega,by simpa using h2,h3⟩
noncomputable def outK (S:LoopS) (p:List D) (kind id:Nat) (fr:Fr) (H:Hp):Option (Sum (List D) (List D)):=
 match findO S.outs kind id 0 with
 |some (j,o)=>readS S.n0 S.hs.length o.fs o.hs p (fun s=>some (.inr (.int j::s))) fr H
 |none=>none
noncomputable def stepQ (e:Env) (tb:Tb) (K n:Nat) (f:FuncId) (c:Code) (S:LoopS) (p s:List D):Option (Sum (List D) (List D)):=
 ev {envF e tb f with n0:=S.n0} (runTb e tb K n) K none c (mkFr (bdL p) (bdL s) S.fs S.hs 0) (mkHp (bdL p) (bdL s) S.fs S.hs 0)
  (readS S.n0 S.n0 S.fs S.hs p (fun s=>some (.inl s))) (outK S p 0) (outK S p 1 0) (outK S p 2)
noncomputable def mkOut (o:OutS) (p:List D) (σ:Bd):Out:=
 match o.kind with
 |0=> .exit o.id (mkFr (bdL p) σ o.fs o.hs 1) (mkHp (bdL p) σ o.fs o.hs 1)
 |1=> .ret (mkFr (bdL p) σ o.fs o.hs 1) (mkHp (bdL p) σ o.fs o.hs 1)
 |_=> .goto o.id (mkFr (bdL p) σ o.fs o.hs 1) (mkHp (bdL p) σ o.fs o.hs 1)
noncomputable def selO (p:List D) (r:Option (List D)):Nat→List OutS→Ot
 |_,[]=> .fail
 |_,[o]=> .leaf (mkOut o p (bdQ r))
 |j,o::o'::os=> .br (qcmp .eql (qint (qnth r 0)) j) (.leaf (mkOut o p (bdQ r))) (selO p r (j+1) (o'::os))
def obOt:List Bool→Ot→Ot
 | [],t=>t
 |b::bs,t=> .br b (obOt bs t) .fail
theorem obOt_res {t:Ot} {o:Out}:∀{bs:List Bool},(obOt bs t).res=some o→allB bs=true∧t.res=some o
 | [],h=>⟨rfl,h⟩
 |b::bs,h=>by
  simp only[obOt,Ot.res]at h
  cases b with
  |false=>cases h
  |true=>
   simp only[cond_true]at h
   obtain⟨h1,h2⟩:=obOt_res h
   exact⟨by simpa only[allB,cond_true]using h1,h2⟩
noncomputable def mkLp (S:LoopS) (q:List D→List D→Option (List D)) (fr:Fr) (H:Hp):Ot:=
 match nrmC S.n0 S.n0 S.fs S.hs fr H with
 |some n=>obOt (n.ob ++ [qsome (q n.p n.s)]) (selO n.p (q n.p n.s) 0 S.outs)
 |none=> .fail
theorem selO_res {p:List D} {j:Nat} {ds:List D} {o:Out}:∀{os:List OutS} {j0 d:Nat} {o':OutS},(selO p (some (.int (j:Int)::ds)) j0 os).res=some o→j=j0+d→os[d]? = some o'→o=mkOut o' p (bdL (.int (j:Int)::ds))
 | [],_,_,_,h,_,_=>by simp[selO,Ot.res]at h
 | [o1],j0,d,o',h,hj,ho=>by
   simp only[selO,Ot.res,bdQ_some,Option.some.injEq]at h
   cases d with
   |zero=>simp at ho;subst ho;exact h.symm
   |succ d=>simp at ho
 |o1::o2::os,j0,d,o',h,hj,ho=>by
  have hq:qint (qnth (some (.int (j:Int)::ds)) 0)=j:=by simp[qint_eq,qnth_eq,D.toInt]
  simp only[selO,Ot.res,hq,bdQ_some]at h
  cases hc:qcmp .eql (j:Int) (j0:Int)with
  |true=>
   have:=qeqI_iff.1 hc
   simp only[hc,cond_true,Option.some.injEq]at h
   obtain rfl:d=0:=by omega
   simp at ho;subst ho;exact h.symm
  |false=>
   simp only[hc,cond_false]at h
   have hne:(j:Int)≠j0:=fun e=>by rw[qeqI_iff.2 e]at hc;cases hc
   cases d with
   |zero=>exact absurd (by omega) hne
   |succ d=>exact selO_res (d:=d) h (by omega) (by simpa using ho)
section
variable {e:Env} {tb:Tb}
theorem loopQ_sound (hok:EnvOk e) (h:TbOk e tb) (K n:Nat) {f:FuncId} {F:FnA} {c:Code} (hF:e.fn f=some F) (hc:c∈loopsOf F.code) (S:LoopS) {q:List D→List D→Option (List D)}
 (hq:∀p s r,q p s=some r→loW (stepQ e tb K n f c S p) s=some r):SoundLp e.P S.n0 c (mkLp S q):=by
 refine soundLp_of fun fr H o ho=> ?_
 unfold mkLp at ho
 split at ho
 ·rename_i nm hrd
  obtain⟨p,hpe⟩:∃p,p=nm.p:=⟨_,rfl⟩
  obtain⟨s,hse⟩:∃s,s=nm.s:=⟨_,rfl⟩
  rw[← hpe, ← hse]at ho
  obtain⟨ho1,ho⟩:=obOt_res ho
  obtain⟨ho1,hs⟩:=allB_both ho1
  have hs:=allB_one hs
  obtain⟨r,hr⟩:=qsome_some hs
  rw[hr]at ho
  obtain⟨N,hN⟩:=loW_iff.1 (hq p s r hr)
  intro lo w0 ρ0 E0 wE Q hL hQ ρ E a w st
  have key:∀N s,loF (stepQ e tb K n f c S p) N s=some r→∀ρ E a w,St lo w0 ρ0 E0 wE ρ E (mkHp (bdL p) (bdL s) S.fs S.hs 0) (mkFr (bdL p) (bdL s) S.fs S.hs 0) a w→Code.rounds e.P c Q N a w:=by
   intro N
   induction N with
   |zero=>intro s h;cases h
   |succ N ih=>
    intro s hlo ρ E a w st
    rw[rounds_succ]
    simp only[loF]at hlo
    cases hst:stepQ e tb K n f c S p s with
    |none=>simp[hst]at hlo
    |some x=>
     rw[hst]at hlo
     have hout:∀kind id fr1 H1,outK S p kind id fr1 H1=some x→∃o':OutS,o'.kind=kind∧o'.id=id∧o=mkOut o' p (bdL r)∧Wk S.n0 fr1 H1 (mkFr (bdL p) (bdL r) o'.fs o'.hs 1) (mkHp (bdL p) (bdL r) o'.fs o'.hs 1):=by
      intro kind id fr1 H1 h1
      unfold outK at h1
      split at h1
      ·rename_i j o' hfo
       obtain⟨d,h2,h3,h4,h5⟩:=findO_some hfo
       obtain⟨s',hs',hwk⟩:=readS_some h1
       cases hs'
       simp only[Option.some.injEq]at hlo
       subst hlo
       refine⟨o',h4,h5,selO_res ho h2 h3,hwk (bdL_ats p) ?_⟩
       have:=(Bd.ats_app (xs:=[.int (j:Int)]) (ys:=s') (bdL_ats (.int (j:Int)::s'))).2
       simpa using this
      ·cases h1
     refine ev_sound (lo:=lo) (w0:=w0) (ρ0:=ρ0) (E0:=E0) (wE:=wE) (env:={envF e tb f with n0:=S.n0}) (envF_ok (tb:=tb) hok f) (runTb_fn h K n) (runTb_sound hok h K n) (draw_sound (env:={envF e tb f with n0:=S.n0}) (envF_ok (tb:=tb) hok f) (runTb_fn h K n) (runTb_sound hok h K n)) (.inl hL) K (res:=x) c (fun y hy g hg=>h.l f F y S.n0 g hF (loopsOf_sub hc hy) hg) none _ _ _ _ _ _ _ hst ?_ ?_ ?_ ?_ ρ E a w st
     ·intro ρ1 E1 fr1 H1 a1 w1 h1 st1
      obtain⟨s',hs',hwk⟩:=readS_some h1
      cases hs'
      obtain⟨ρ2,E2,st2⟩:=hwk (bdL_ats p) (bdL_ats s') lo w0 ρ0 E0 wE ρ1 E1 a1 w1 hL st1
      exact ih s' hlo ρ2 E2 a1 w1 st2
     ·intro i ρ1 E1 fr1 H1 a1 w1 h1 st1
      obtain⟨o',hk,hi,rfl,hwk⟩:=hout 0 i fr1 H1 h1
      obtain⟨ρ2,E2,st2⟩:=hwk lo w0 ρ0 E0 wE ρ1 E1 a1 w1 hL st1
      simp only[mkOut,hk,hi]at hQ
      exact hQ ρ2 E2 a1 w1 st2
     ·intro ρ1 E1 fr1 H1 a1 w1 h1 st1
      obtain⟨o',hk,hi,rfl,hwk⟩:=hout 1 0 fr1 H1 h1
      obtain⟨ρ2,E2,st2⟩:=hwk lo w0 ρ0 E0 wE ρ1 E1 a1 w1 hL st1
      simp only[mkOut,hk]at hQ
      exact hQ ρ2 E2 a1 w1 st2
     ·intro l ρ1 E1 fr1 H1 a1 w1 h1 st1
      obtain⟨o',hk,hi,rfl,hwk⟩:=hout 2 l fr1 H1 h1
      obtain⟨ρ2,E2,st2⟩:=hwk lo w0 ρ0 E0 wE ρ1 E1 a1 w1 hL st1
      simp only[mkOut,hk,hi]at hQ
      exact hQ ρ2 E2 a1 w1 st2
  obtain⟨ρ',E',st'⟩:=nrmC_wk hrd ho1 (by rw[← hpe];exact bdL_ats p) (by rw[← hse];exact bdL_ats s) lo w0 ρ0 E0 wE ρ E a w hL st
  exact wp_loop_rounds N (key N s hN ρ' E' a w st')
 ·simp[Ot.res]at ho
end
structure FunS where
 fs:List Slot
 hs:List HB
 rs:List Slot
 rhs:List HB
def FunS.np (S:FunS):Nat:=npF S.fs+(S.hs.map npB).sum
noncomputable def argF (S:FunS) (p s:List D):List AV:=mkFr (bdL p) (bdL s) S.fs S.hs 0
noncomputable def heapF (S:FunS) (p s:List D):Hp:=mkHp (bdL p) (bdL s) S.fs S.hs 0
noncomputable def resF (S:FunS) (p:List D) (σ:Bd):AV:=(mkFr (bdL p) σ S.rs S.rhs 0).headD .undef
noncomputable def heapR (S:FunS) (p:List D) (σ:Bd):Hp:=mkHp (bdL p) σ S.rs S.rhs 0
def SoundF (P:Program) (f:FuncId) (S:FunS) (q:List D→Option (List D)):Prop:=
 ∀p s r,p.length=S.np→q (p++s)=some r→Ok P f (argF S p s) (heapF S p s) (resF S p (bdL r)) (heapR S p (bdL r))
noncomputable def retF (S:FunS) (p:List D) (v:AV) (Hc:Hp):Option (List D):=
 match nrmC S.hs.length S.hs.length S.rs S.rhs [v] Hc with
 |some q=>guardAll (some q.s) (q.ob++eqD2 q.p p)
 |none=>none
noncomputable def liftF (e:Env) (tb:Tb) (K n:Nat) (f:FuncId) (S:FunS) (ds:List D):Option (List D):=
 bodyK (envF e tb f) (runTb e tb K n) K f (argF S (ds.take S.np) (ds.drop S.np)) (heapF S (ds.take S.np) (ds.drop S.np)) (retF S (ds.take S.np))
section
variable {e:Env} {tb:Tb}
theorem liftF_sound (hok:EnvOk e) (h:TbOk e tb) (K n:Nat) {f:FuncId} {S:FunS}:SoundF e.P f S (liftF e tb K n f S):=by
 intro p s r hpl hr lo w0 ρ E w vs inv ra
 unfold liftF at hr
 rw[← hpl,List.take_left,List.drop_left]at hr
 refine(bodyK_sound (env:=envF e tb f) (envF_ok hok f) K (runTb_fn h K n) (runTb_sound hok h K n) f (fun F hF x hx n0 g hg=>h.l f F x n0 g hF hx hg) hr lo w0 ρ E w vs inv ra).mono ?_
 rintro e' w' ⟨u,ρ',E',v0,Hc,rfl,inv',reach,hrep,hk⟩
 unfold retF at hk
 split at hk
 ·rename_i q hq
  obtain⟨h1,h2⟩:=guardAll_some hk
  cases h2
  obtain⟨o1,o2⟩:=allB_both h1
  have hp:=eqD2_eq o2
  have st:St lo w0 ρ E w ρ' E' Hc [v0] {tmps:= #[u],defers:=[]} w':=⟨inv',⟨rfl,fun t x ht=>by
   cases t with
   |zero=>simp at ht;subst ht;simpa using hrep
   |succ t=>simp at ht,rfl⟩,reach⟩
  obtain⟨ρ2,E2,st2⟩:=nrmC_wk hq o1 (σp:=bdL p) (σs:=bdL q.s) (js:=0) (by rw[hp];exact bdL_ats p) (bdL_ats q.s) lo w0 ρ E w ρ' E' _ w' inv.dom st
  refine⟨u,ρ2,E2,rfl,st2.inv,st2.reach,?_⟩
  unfold resF
  cases hm:mkFr (bdL p) (bdL q.s) S.rs S.rhs 0 with
  |nil=>simp only[List.headD_nil,Rep]
  |cons x xs=>
   have:=st2.fr.rep 0 x (by rw[hm];rfl)
   simpa using this
 ·cases hk
theorem levels_sound {P:Program} {f:FuncId} {S:FunS} {Φ:(List D→Option (List D))→List D→Option (List D)}
 (hΦ:∀q,SoundF P f S q→SoundF P f S (Φ q)):∀n,SoundF P f S (levels Φ n)
 |0=>fun _ _ _ _ h=>by cases h
 |n+1=>hΦ _ (levels_sound hΦ n)
theorem fuelled_sound {P:Program} {f:FuncId} {S:FunS} {F:Nat→List D→Option (List D)} (h:∀n,SoundF P f S (F n)):SoundF P f S (fun ds=>F (fuelL ds) ds):=
 fun p s r hp hr=>h _ p s r hp hr
end
end Go.AM
