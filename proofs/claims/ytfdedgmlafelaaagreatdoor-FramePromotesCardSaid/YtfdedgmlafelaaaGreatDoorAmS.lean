/-
  Loops and functions as partial functions on data.
-/
import Derived.Test.YtfdedgmlafelaaaGreatDoorAmR
set_option linter.unusedSimpArgs false
set_option linter.unusedVariables false
namespace Go.AM
structure OutS where
 kind:Nat
 id:Nat
 fs:List Slot
 hs:List HB
structure LoopS where
 n0:Nat
 fs:List Slot
 hs:List HB
 outs:List OutS
noncomputable def IS:List D->List D->List Bool
 | [],[]=>[]
 |x::xs,y::ys=>jY x y::IS xs ys
 |_,_=>[false]
theorem nD:∀{xs ys:List D},aX (IS xs ys)=true->xs=ys
 | [],[],_=>rfl
 |x::xs,y::ys,h=>by
  simp only[IS,aX]at h;cases hq:jY x y with
  |false=>simp[hq]at h
  |true=>simp only[hq,cond_true]at h;rw[qeqD_iff.1 hq,nD h]
 | [],_::_,h=>by simp[IS,aX]at h
 |_::_,[],h=>by simp[IS,aX]at h
theorem dY {R:Type} {x:Option R} {r:R}:∀{bs:List Bool},ck x bs=some r->aX bs=true∧x=some r
 | [],h=>⟨rfl,h⟩
 |b::bs,h=>by
  cases b with
  |false=>simp[ck]at h
  |true=>
   simp only[ck,cond_true]at h;simpa only[aX,cond_true]using dY h
noncomputable def yK {R:Type} (n0 m0:Nat) (fs:List Slot) (hs:List HB) (p:List D) (k:List D->Option R) (fr:Fr) (H:Hp):Option R:=
 match nrmC n0 m0 fs hs fr H with
 |some q=>ck (k q.s) (q.ob++IS q.p p)
 |none=>none
theorem t8 {R:Type} {n0 m0:Nat} {fs:List Slot} {hs:List HB} {p:List D} {k:List D->Option R} {fr:Fr} {H:Hp} {res:R} (h:yK n0 m0 fs hs p k fr H=some res):
 ∃s,k s=some res∧∀{σp σs:Bd} {js:Nat},Bd.ats σp 0 p->Bd.ats σs js s->Wk n0 fr H (kC σp σs fs hs js) (oY σp σs fs hs js):=by
 unfold yK at h;split at h
 ·rename_i q hq;obtain⟨h1,h2⟩:=dY h;obtain⟨o1,o2⟩:=bA h1;have:=nD o2;subst this;exact⟨q.s,h2,fun hp hs=>Lj hq o1 hp hs⟩
 ·cases h
def EM:List OutS->Nat->Nat->Nat->Option (Nat×OutS)
 | [],_,_,_=>none
 |o::os,k,i,j=>bif Nat.beq o.kind k&&Nat.beq o.id i then some (j,o)else EM os k i (j+1)
theorem ua:∀{os:List OutS} {k i j0 j:Nat} {o:OutS},EM os k i j0=some (j,o)->∃d,j=j0+d∧os[d]? = some o∧o.kind=k∧o.id=i
 | [],_,_,_,_,_,h=>by simp[EM]at h
 |o'::os,k,i,j0,j,o,h=>by
  simp only[EM]at h;cases hb:(Nat.beq o'.kind k&&Nat.beq o'.id i)with
  |true=>
   simp only[hb,cond_true,Option.some.injEq,Prod.mk.injEq]at h;obtain⟨rfl,rfl⟩:=h;simp only[Bool.and_eq_true]at hb;exact⟨0,rfl,rfl,Nat.eq_of_beq_eq_true hb.1,Nat.eq_of_beq_eq_true hb.2⟩
  |false=>
   simp only[hb,cond_false]at h;obtain⟨d,h1,h2,h3⟩:=ua h;exact⟨d+1,by omega,by simpa using h2,h3⟩
noncomputable def uc (S:LoopS) (p:List D) (kind id:Nat) (fr:Fr) (H:Hp):Option (Sum (List D) (List D)):=
 match EM S.outs kind id 0 with
 |some (j,o)=>yK S.n0 S.hs.length o.fs o.hs p (fun s=>some (.inr (.int j::s))) fr H
 |none=>none
noncomputable def yL (e:Env) (tb:Tb) (K n:Nat) (f:FuncId) (c:Code) (S:LoopS) (p s:List D):Option (Sum (List D) (List D)):=
 ev {gx e tb f with n0:=S.n0} (fM e tb K n) K none c (kC (bdL p) (bdL s) S.fs S.hs 0) (oY (bdL p) (bdL s) S.fs S.hs 0)
  (yK S.n0 S.n0 S.fs S.hs p (fun s=>some (.inl s))) (uc S p 0) (uc S p 1 0) (uc S p 2)
noncomputable def ud (o:OutS) (p:List D) (σ:Bd):Out:=
 match o.kind with
 |0=> .exit o.id (kC (bdL p) σ o.fs o.hs 1) (oY (bdL p) σ o.fs o.hs 1)
 |1=> .ret (kC (bdL p) σ o.fs o.hs 1) (oY (bdL p) σ o.fs o.hs 1)
 |_=> .goto o.id (kC (bdL p) σ o.fs o.hs 1) (oY (bdL p) σ o.fs o.hs 1)
noncomputable def NO (p:List D) (r:Option (List D)):Nat->List OutS->Ot
 |_,[]=> .fail
 |_,[o]=> .leaf (ud o p (bdQ r))
 |j,o::o'::os=> .br (ae .eql (ah (ar r 0)) j) (.leaf (ud o p (bdQ r))) (NO p r (j+1) (o'::os))
def obOt:List Bool->Ot->Ot
 | [],t=>t
 |b::bs,t=> .br b (obOt bs t) .fail
theorem EN {t:Ot} {o:Out}:∀{bs:List Bool},(obOt bs t).res=some o->aX bs=true∧t.res=some o
 | [],h=>⟨rfl,h⟩
 |b::bs,h=>by
  simp only[obOt,Ot.res]at h;cases b with
  |false=>cases h
  |true=>
   simp only[cond_true]at h;obtain⟨h1,h2⟩:=EN h;exact⟨by simpa only[aX,cond_true]using h1,h2⟩
noncomputable def bu (S:LoopS) (q:List D->uAC) (fr:Fr) (H:Hp):Ot:=
 match nrmC S.n0 S.n0 S.fs S.hs fr H with
 |some n=>obOt (n.ob ++ [uZZ (q n.p n.s)]) (NO n.p (q n.p n.s) 0 S.outs)
 |none=> .fail
theorem EO {p:List D} {j:Nat} {ds:List D} {o:Out}:∀{os:List OutS} {j0 d:Nat} {o':OutS},(NO p (some (.int (j:Int)::ds)) j0 os).res=some o->j=j0+d->os[d]? = some o'->o=ud o' p (bdL (.int (j:Int)::ds))
 | [],_,_,_,h,_,_=>by simp[NO,Ot.res]at h
 | [o1],j0,d,o',h,hj,ho=>by
   simp only[NO,Ot.res,tT,Option.some.injEq]at h;cases d with
   |zero=>simp at ho;subst ho;exact h.symm
   |succ d=>simp at ho
 |o1::o2::os,j0,d,o',h,hj,ho=>by
  have hq:ah (ar (some (.int (j:Int)::ds)) 0)=j:=by simp[dM,AU,D.toInt]
  simp only[NO,Ot.res,hq,tT]at h;cases hc:ae .eql (j:Int) (j0:Int)with
  |true=>
   have:=qeqI_iff.1 hc;simp only[hc,cond_true,Option.some.injEq]at h;obtain rfl:d=0:=by omega
   simp at ho;subst ho;exact h.symm
  |false=>
   simp only[hc,cond_false]at h;have hne:(j:Int)≠j0:=fun e=>by rw[qeqI_iff.2 e]at hc;cases hc
   cases d with
   |zero=>exact absurd (by omega) hne
   |succ d=>exact EO (d:=d) h (by omega) (by simpa using ho)
section
variable {e:Env} {tb:Tb}
theorem EP (hok:cP e) (h:TbOk e tb) (K n:Nat) {f:FuncId} {F:FnA} {c:Code} (hF:e.fn f=some F) (hc:c∈bq F.code) (S:LoopS) {q:List D->uAC}
 (hq:∀p s r,q p s=some r->loW (yL e tb K n f c S p) s=some r):gR e.P S.n0 c (bu S q):=by
 refine IF fun fr H o ho=> ?_
 unfold bu at ho;split at ho
 ·rename_i nm hrd;obtain⟨p,hpe⟩:∃p,p=nm.p:=⟨_,rfl⟩;obtain⟨s,hse⟩:∃s,s=nm.s:=⟨_,rfl⟩;rw[<- hpe, <- hse]at ho;obtain⟨ho1,ho⟩:=EN ho;obtain⟨ho1,hs⟩:=bA ho1;have hs:=EB hs;obtain⟨r,hr⟩:=tU hs;rw[hr]at ho;obtain⟨N,hN⟩:=loW_iff.1 (hq p s r hr);intro lo w0 ρ0 E0 wE Q hL hQ ρ E a w st;have key:∀N s,loF (yL e tb K n f c S p) N s=some r->∀ρ E a w,St lo w0 ρ0 E0 wE ρ E (oY (bdL p) (bdL s) S.fs S.hs 0) (kC (bdL p) (bdL s) S.fs S.hs 0) a w->Code.rounds e.P c Q N a w:=by
   intro N
   induction N with
   |zero=>intro s h;cases h
   |succ N ih=>
    intro s hlo ρ E a w st;rw[rounds_succ];simp only[loF]at hlo;cases hst:yL e tb K n f c S p s with
    |none=>simp[hst]at hlo
    |some x=>
     rw[hst]at hlo;have hout:∀kind id fr1 H1,uc S p kind id fr1 H1=some x->∃o':OutS,o'.kind=kind∧o'.id=id∧o=ud o' p (bdL r)∧Wk S.n0 fr1 H1 (kC (bdL p) (bdL r) o'.fs o'.hs 1) (oY (bdL p) (bdL r) o'.fs o'.hs 1):=by
      intro kind id fr1 H1 h1;unfold uc at h1;split at h1
      ·rename_i j o' hfo;obtain⟨d,h2,h3,h4,h5⟩:=ua hfo;obtain⟨s',hs',hwk⟩:=t8 h1;cases hs';simp only[Option.some.injEq]at hlo;subst hlo;refine⟨o',h4,h5,EO ho h2 h3,hwk (cR p) ?_⟩
       have:=(Bd.ats_app (xs:=[.int (j:Int)]) (ys:=s') (cR (.int (j:Int)::s'))).2;simpa using this
      ·cases h1
     refine gg (lo:=lo) (w0:=w0) (ρ0:=ρ0) (E0:=E0) (wE:=wE) (env:={gx e tb f with n0:=S.n0}) (nA (tb:=tb) hok f) (kB h K n) (gS hok h K n) (gi (env:={gx e tb f with n0:=S.n0}) (nA (tb:=tb) hok f) (kB h K n) (gS hok h K n)) (.inl hL) K (res:=x) c (fun y hy g hg=>h.l f F y S.n0 g hF (EA hc hy) hg) none _ _ _ _ _ _ _ hst ?_ ?_ ?_ ?_ ρ E a w st
     ·intro ρ1 E1 fr1 H1 a1 w1 h1 st1;obtain⟨s',hs',hwk⟩:=t8 h1;cases hs';obtain⟨ρ2,E2,st2⟩:=hwk (cR p) (cR s') lo w0 ρ0 E0 wE ρ1 E1 a1 w1 hL st1;exact ih s' hlo ρ2 E2 a1 w1 st2
     ·intro i ρ1 E1 fr1 H1 a1 w1 h1 st1;obtain⟨o',hk,hi,rfl,hwk⟩:=hout 0 i fr1 H1 h1;obtain⟨ρ2,E2,st2⟩:=hwk lo w0 ρ0 E0 wE ρ1 E1 a1 w1 hL st1;simp only[ud,hk,hi]at hQ;exact hQ ρ2 E2 a1 w1 st2
     ·intro ρ1 E1 fr1 H1 a1 w1 h1 st1;obtain⟨o',hk,hi,rfl,hwk⟩:=hout 1 0 fr1 H1 h1;obtain⟨ρ2,E2,st2⟩:=hwk lo w0 ρ0 E0 wE ρ1 E1 a1 w1 hL st1;simp only[ud,hk]at hQ;exact hQ ρ2 E2 a1 w1 st2
     ·intro l ρ1 E1 fr1 H1 a1 w1 h1 st1;obtain⟨o',hk,hi,rfl,hwk⟩:=hout 2 l fr1 H1 h1;obtain⟨ρ2,E2,st2⟩:=hwk lo w0 ρ0 E0 wE ρ1 E1 a1 w1 hL st1;simp only[ud,hk,hi]at hQ;exact hQ ρ2 E2 a1 w1 st2
  obtain⟨ρ',E',st'⟩:=Lj hrd ho1 (by rw[<- hpe];exact cR p) (by rw[<- hse];exact cR s) lo w0 ρ0 E0 wE ρ E a w hL st
  exact wp_loop_rounds N (key N s hN ρ' E' a w st')
 ·simp[Ot.res]at ho
end
structure FunS where
 fs:List Slot
 hs:List HB
 rs:List Slot
 rhs:List HB
def FunS.np (S:FunS):Nat:=npF S.fs+(S.hs.map npB).sum
noncomputable def qM (S:FunS) (p s:List D):List AV:=kC (bdL p) (bdL s) S.fs S.hs 0
noncomputable def dF (S:FunS) (p s:List D):Hp:=oY (bdL p) (bdL s) S.fs S.hs 0
noncomputable def AZ (S:FunS) (p:List D) (σ:Bd):AV:=(kC (bdL p) σ S.rs S.rhs 0).headD .undef
noncomputable def ue (S:FunS) (p:List D) (σ:Bd):Hp:=oY (bdL p) σ S.rs S.rhs 0
def aY (P:Program) (f:FuncId) (S:FunS) (q:uAC):Prop:=
 ∀p s r,p.length=S.np->q (p++s)=some r->Ok P f (qM S p s) (dF S p s) (AZ S p (bdL r)) (ue S p (bdL r))
noncomputable def qN (S:FunS) (p:List D) (v:AV) (Hc:Hp):Option (List D):=
 match nrm S.hs.length S.hs.length S.rs S.rhs [v] Hc with
 |some q=>ck (some q.s) (q.ob++IS q.p p)
 |none=>none
noncomputable def Lk (e:Env) (tb:Tb) (K n:Nat) (f:FuncId) (S:FunS) (ds:List D):Option (List D):=
 jS (gx e tb f) (fM e tb K n) K f (qM S (ds.take S.np) (ds.drop S.np)) (dF S (ds.take S.np) (ds.drop S.np)) (qN S (ds.take S.np))
section
variable {e:Env} {tb:Tb}
theorem EQ (hok:cP e) (h:TbOk e tb) (K n:Nat) {f:FuncId} {S:FunS}:aY e.P f S (Lk e tb K n f S):=by
 intro p s r hpl hr lo w0 ρ E w vs inv ra;unfold Lk at hr;rw[<- hpl,List.take_left,List.drop_left]at hr;refine(qh (env:=gx e tb f) (nA hok f) K (kB h K n) (gS hok h K n) f (fun F hF x hx n0 g hg=>h.l f F x n0 g hF hx hg) hr lo w0 ρ E w vs inv ra).mono ?_
 rintro e' w' ⟨u,ρ',E',v0,Hc,rfl,inv',reach,hrep,hk⟩;unfold qN at hk;split at hk
 ·rename_i q hq;obtain⟨h1,h2⟩:=dY hk;cases h2;obtain⟨o1,o2⟩:=bA h1;have hp:=nD o2
  have st:St lo w0 ρ E w ρ' E' Hc [v0] {tmps:= #[u],defers:=[]} w':=⟨inv',⟨rfl,fun t x ht=>by
   cases t with
   |zero=>simp at ht;subst ht;simpa using hrep
   |succ t=>simp at ht,rfl⟩,reach⟩
  obtain⟨ρ2,E2,st2⟩:=AY hq o1 (σp:=bdL p) (σs:=bdL q.s) (js:=0) (by rw[hp];exact cR p) (cR q.s) lo w0 ρ E w ρ' E' _ w' inv.dom st
  refine⟨u,ρ2,E2,rfl,st2.inv,st2.reach,?_⟩
  unfold AZ;cases hm:kC (bdL p) (bdL q.s) S.rs S.rhs 0 with
  |nil=>simp only[List.headD_nil,Rep]
  |cons x xs=>
   have:=st2.fr.rep 0 x (by rw[hm];rfl)
   simpa using this
 ·cases hk
theorem nE {P:Program} {f:FuncId} {S:FunS} {Φ:(uAC)->uAC}
 (hΦ:∀q,aY P f S q->aY P f S (Φ q)):∀n,aY P f S (levels Φ n)
 |0=>fun _ _ _ _ h=>by cases h
 |n+1=>hΦ _ (nE hΦ n)
theorem xH {P:Program} {f:FuncId} {S:FunS} {F:Nat->uAC} (h:∀n,aY P f S (F n)):aY P f S (fun ds=>F (bE ds) ds):=
 fun p s r hp hr=>h _ p s r hp hr
end
end Go.AM
