/-
  Loops and functions as partial functions on data.
-/
import Derived.Test.YtiojjmlccehpoaaGreatAmR
set_option linter.unusedSimpArgs false
set_option linter.unusedVariables false
namespace Go.AM
structure OutS where
 kind:Nat
 id:Nat
 fs:List Slot
 hs:List HB
structure LoopS where
 n0:Nat
 fs:List Slot
 hs:List HB
 outs:List OutS
noncomputable def K7:List D->List D->List Bool
 | [],[]=>[]
 |x::xs,y::ys=>fV x y::K7 xs ys
 |_,_=>[false]
theorem ph:∀{xs ys:List D},aU (K7 xs ys)=true->xs=ys
 | [],[],_=>rfl
 |x::xs,y::ys,h=>by
  simp only[K7,aU]at h;cases hq:fV x y with
  |false=>simp[hq]at h
  |true=>simp only[hq,aj]at h;rw[qeqD_iff.1 hq,ph h]
 | [],_::_,h=>by simp[K7,aU]at h
 |_::_,[],h=>by simp[K7,aU]at h
theorem eU {R:Type} {x:Option R} {r:R}:∀{bs:List Bool},cQ x bs=some r->aU bs=true∧x=some r
 | [],h=>⟨rfl,h⟩
 |b::bs,h=>by
  cases b with
  |false=>simp[cQ]at h
  |true=>
   simp only[cQ,aj]at h;simpa only[aU,aj]using eU h
noncomputable def BL {R:Type} (n0 m0:Nat) (fs:List Slot) (hs:List HB) (p:List D) (k:List D->Option R) (fr:Fr) (H:Hp):Option R:=
 match nrmC n0 m0 fs hs fr H with
 |some q=>cQ (k q.s) (q.ob++K7 q.p p)
 |none=>none
theorem wZ {R:Type} {n0 m0:Nat} {fs:List Slot} {hs:List HB} {p:List D} {k:List D->Option R} {fr:Fr} {H:Hp} {res:R} (h:BL n0 m0 fs hs p k fr H=some res):
 ∃s,k s=some res∧∀{σp σs:Bd} {js:Nat},Bd.ats σp 0 p->Bd.ats σs js s->Wk n0 fr H (mo σp σs fs hs js) (qU σp σs fs hs js):=by
 unfold BL at h;split at h
 ·rename_i q hq;obtain⟨h1,h2⟩:=eU h;obtain⟨o1,o2⟩:=bH h1;have:=ph o2;subst this;exact⟨q.s,h2,fun hp hs=>pf hq o1 hp hs⟩
 ·cases h
def GS:List OutS->Nat->Nat->Nat->Option (Nat×OutS)
 | [],_,_,_=>none
 |o::os,k,i,j=>bif Nat.beq o.kind k&&Nat.beq o.id i then some (j,o)else GS os k i (j+1)
theorem w5:∀{os:List OutS} {k i j0 j:Nat} {o:OutS},GS os k i j0=some (j,o)->∃d,j=j0+d∧os[d]? = some o∧o.kind=k∧o.id=i
 | [],_,_,_,_,_,h=>by simp[GS]at h
 |o'::os,k,i,j0,j,o,h=>by
  simp only[GS]at h;cases hb:(Nat.beq o'.kind k&&Nat.beq o'.id i)with
  |true=>
   simp only[hb,aj,aN,cO]at h;obtain⟨rfl,rfl⟩:=h;simp only[bn]at hb;exact⟨0,rfl,rfl,aR hb.1,aR hb.2⟩
  |false=>
   simp only[hb,aI]at h;obtain⟨d,h1,h2,h3⟩:=w5 h;exact⟨d+1,by omega,by simpa using h2,h3⟩
noncomputable def w6 (S:LoopS) (p:List D) (kind id:Nat) (fr:Fr) (H:Hp):Option (Sum (List D) (List D)):=
 match GS S.outs kind id 0 with
 |some (j,o)=>BL S.n0 S.hs.length o.fs o.hs p (fun s=>some (.inr (.int j::s))) fr H
 |none=>none
noncomputable def BM (e:Env) (tb:Tb) (K n:Nat) (f:FuncId) (c:Code) (S:LoopS) (p s:List D):Option (Sum (List D) (List D)):=
 ev {it e tb f with n0:=S.n0} (gy e tb K n) K none c (mo (bdL p) (bdL s) S.fs S.hs 0) (qU (bdL p) (bdL s) S.fs S.hs 0)
  (BL S.n0 S.n0 S.fs S.hs p (fun s=>some (.inl s))) (w6 S p 0) (w6 S p 1 0) (w6 S p 2)
noncomputable def w7 (o:OutS) (p:List D) (σ:Bd):Out:=
 match o.kind with
 |0=> .exit o.id (mo (bdL p) σ o.fs o.hs 1) (qU (bdL p) σ o.fs o.hs 1)
 |1=> .ret (mo (bdL p) σ o.fs o.hs 1) (qU (bdL p) σ o.fs o.hs 1)
 |_=> .goto o.id (mo (bdL p) σ o.fs o.hs 1) (qU (bdL p) σ o.fs o.hs 1)
noncomputable def QT (p:List D) (r:Option (List D)):Nat->List OutS->Ot
 |_,[]=> .fail
 |_,[o]=> .leaf (w7 o p (bdQ r))
 |j,o::o'::os=> .br (ab .eql (ah (ac r 0)) j) (.leaf (w7 o p (bdQ r))) (QT p r (j+1) (o'::os))
def obOt:List Bool->Ot->Ot
 | [],t=>t
 |b::bs,t=> .br b (obOt bs t) .fail
theorem GT {t:Ot} {o:Out}:∀{bs:List Bool},(obOt bs t).res=some o->aU bs=true∧t.res=some o
 | [],h=>⟨rfl,h⟩
 |b::bs,h=>by
  simp only[obOt,Ot.res]at h;cases b with
  |false=>cases h
  |true=>
   simp only[aj]at h;obtain⟨h1,h2⟩:=GT h;exact⟨by simpa only[aU,aj]using h1,h2⟩
noncomputable def bQ (S:LoopS) (q:List D->uAC) (fr:Fr) (H:Hp):Ot:=
 match nrmC S.n0 S.n0 S.fs S.hs fr H with
 |some n=>obOt (n.ob ++ [ap (q n.p n.s)]) (QT n.p (q n.p n.s) 0 S.outs)
 |none=> .fail
theorem GU {p:List D} {j:Nat} {ds:List D} {o:Out}:∀{os:List OutS} {j0 d:Nat} {o':OutS},(QT p (some (.int (j:Int)::ds)) j0 os).res=some o->j=j0+d->os[d]? = some o'->o=w7 o' p (bdL (.int (j:Int)::ds))
 | [],_,_,_,h,_,_=>by simp[QT,Ot.res]at h
 | [o1],j0,d,o',h,hj,ho=>by
   simp only[QT,Ot.res,wO,aN]at h;cases d with
   |zero=>simp at ho;subst ho;exact h.symm
   |succ d=>simp at ho
 |o1::o2::os,j0,d,o',h,hj,ho=>by
  have hq:ah (ac (some (.int (j:Int)::ds)) 0)=j:=by simp[iU,DA,D.toInt]
  simp only[QT,Ot.res,hq,wO]at h;cases hc:ab .eql (j:Int) (j0:Int)with
  |true=>
   have:=qeqI_iff.1 hc;simp only[hc,aj,aN]at h;obtain rfl:d=0:=by omega
   simp at ho;subst ho;exact h.symm
  |false=>
   simp only[hc,aI]at h;have hne:(j:Int)≠j0:=fun e=>by rw[qeqI_iff.2 e]at hc;cases hc
   cases d with
   |zero=>exact absurd (by omega) hne
   |succ d=>exact GU (d:=d) h (by omega) (by simpa using ho)
section
variable {e:Env} {tb:Tb}
theorem GV (hok:ed e) (h:TbOk e tb) (K n:Nat) {f:FuncId} {F:FnA} {c:Code} (hF:e.fn f=some F) (hc:c∈bF F.code) (S:LoopS) {q:List D->uAC}
 (hq:∀p s r,q p s=some r->loW (BM e tb K n f c S p) s=some r):iZ e.P S.n0 c (bQ S q):=by
 refine KU fun fr H o ho=> ?_
 unfold bQ at ho;split at ho
 ·rename_i nm hrd;obtain⟨p,hpe⟩:∃p,p=nm.p:=⟨_,rfl⟩;obtain⟨s,hse⟩:∃s,s=nm.s:=⟨_,rfl⟩;rw[<- hpe, <- hse]at ho;obtain⟨ho1,ho⟩:=GT ho;obtain⟨ho1,hs⟩:=bH ho1;have hs:=GI hs;obtain⟨r,hr⟩:=wP hs;rw[hr]at ho;obtain⟨N,hN⟩:=loW_iff.1 (hq p s r hr);intro lo w0 ρ0 E0 wE Q hL hQ ρ E a w st;have key:∀N s,loF (BM e tb K n f c S p) N s=some r->∀ρ E a w,St lo w0 ρ0 E0 wE ρ E (qU (bdL p) (bdL s) S.fs S.hs 0) (mo (bdL p) (bdL s) S.fs S.hs 0) a w->Code.rounds e.P c Q N a w:=by
   intro N
   induction N with
   |zero=>intro s h;cases h
   |succ N ih=>
    intro s hlo ρ E a w st;rw[rounds_succ];simp only[loF]at hlo;cases hst:BM e tb K n f c S p s with
    |none=>simp[hst]at hlo
    |some x=>
     rw[hst]at hlo;have hout:∀kind id fr1 H1,w6 S p kind id fr1 H1=some x->∃o':OutS,o'.kind=kind∧o'.id=id∧o=w7 o' p (bdL r)∧Wk S.n0 fr1 H1 (mo (bdL p) (bdL r) o'.fs o'.hs 1) (qU (bdL p) (bdL r) o'.fs o'.hs 1):=by
      intro kind id fr1 H1 h1;unfold w6 at h1;split at h1
      ·rename_i j o' hfo;obtain⟨d,h2,h3,h4,h5⟩:=w5 hfo;obtain⟨s',hs',hwk⟩:=wZ h1;cases hs';simp only[aN]at hlo;subst hlo;refine⟨o',h4,h5,GU ho h2 h3,hwk (dE p) ?_⟩
       have:=(Bd.ats_app (xs:=[.int (j:Int)]) (ys:=s') (dE (.int (j:Int)::s'))).2;simpa using this
      ·cases h1
     refine o4 (lo:=lo) (w0:=w0) (ρ0:=ρ0) (E0:=E0) (wE:=wE) (env:={it e tb f with n0:=S.n0}) (pb (tb:=tb) hok f) (mj h K n) (i6 hok h K n) (kM (env:={it e tb f with n0:=S.n0}) (pb (tb:=tb) hok f) (mj h K n) (i6 hok h K n)) (.inl hL) K (res:=x) c (fun y hy g hg=>h.l f F y S.n0 g hF (GH hc hy) hg) none _ _ _ _ _ _ _ hst ?_ ?_ ?_ ?_ ρ E a w st
     ·intro ρ1 E1 fr1 H1 a1 w1 h1 st1;obtain⟨s',hs',hwk⟩:=wZ h1;cases hs';obtain⟨ρ2,E2,st2⟩:=hwk (dE p) (dE s') lo w0 ρ0 E0 wE ρ1 E1 a1 w1 hL st1;exact ih s' hlo ρ2 E2 a1 w1 st2
     ·intro i ρ1 E1 fr1 H1 a1 w1 h1 st1;obtain⟨o',hk,hi,rfl,hwk⟩:=hout 0 i fr1 H1 h1;obtain⟨ρ2,E2,st2⟩:=hwk lo w0 ρ0 E0 wE ρ1 E1 a1 w1 hL st1;simp only[w7,hk,hi]at hQ;exact hQ ρ2 E2 a1 w1 st2
     ·intro ρ1 E1 fr1 H1 a1 w1 h1 st1;obtain⟨o',hk,hi,rfl,hwk⟩:=hout 1 0 fr1 H1 h1;obtain⟨ρ2,E2,st2⟩:=hwk lo w0 ρ0 E0 wE ρ1 E1 a1 w1 hL st1;simp only[w7,hk]at hQ;exact hQ ρ2 E2 a1 w1 st2
     ·intro l ρ1 E1 fr1 H1 a1 w1 h1 st1;obtain⟨o',hk,hi,rfl,hwk⟩:=hout 2 l fr1 H1 h1;obtain⟨ρ2,E2,st2⟩:=hwk lo w0 ρ0 E0 wE ρ1 E1 a1 w1 hL st1;simp only[w7,hk,hi]at hQ;exact hQ ρ2 E2 a1 w1 st2
  obtain⟨ρ',E',st'⟩:=pf hrd ho1 (by rw[<- hpe];exact dE p) (by rw[<- hse];exact dE s) lo w0 ρ0 E0 wE ρ E a w hL st
  exact wp_loop_rounds N (key N s hN ρ' E' a w st')
 ·simp[Ot.res]at ho
end
structure FunS where
 fs:List Slot
 hs:List HB
 rs:List Slot
 rhs:List HB
def FunS.np (S:FunS):Nat:=npF S.fs+(S.hs.map npB).sum
noncomputable def DD (S:FunS) (p s:List D):List AV:=mo (bdL p) (bdL s) S.fs S.hs 0
noncomputable def eV (S:FunS) (p s:List D):Hp:=qU (bdL p) (bdL s) S.fs S.hs 0
noncomputable def GW (S:FunS) (p:List D) (σ:Bd):AV:=(mo (bdL p) σ S.rs S.rhs 0).headD .undef
noncomputable def BN (S:FunS) (p:List D) (σ:Bd):Hp:=qU (bdL p) σ S.rs S.rhs 0
def aH (P:Program) (f:FuncId) (S:FunS) (q:uAC):Prop:=
 ∀p s r,p.length=S.np->q (p++s)=some r->Ok P f (DD S p s) (eV S p s) (GW S p (bdL r)) (BN S p (bdL r))
noncomputable def qV (S:FunS) (p:List D) (v:AV) (Hc:Hp):Option (List D):=
 match nrmC S.hs.length S.hs.length S.rs S.rhs [v] Hc with
 |some q=>cQ (some q.s) (q.ob++K7 q.p p)
 |none=>none
noncomputable def N6 (e:Env) (tb:Tb) (K n:Nat) (f:FuncId) (S:FunS) (ds:List D):Option (List D):=
 jZ (it e tb f) (gy e tb K n) K f (DD S (ds.take S.np) (ds.drop S.np)) (eV S (ds.take S.np) (ds.drop S.np)) (qV S (ds.take S.np))
section
variable {e:Env} {tb:Tb}
theorem GX (hok:ed e) (h:TbOk e tb) (K n:Nat) {f:FuncId} {S:FunS}:aH e.P f S (N6 e tb K n f S):=by
 intro p s r hpl hr lo w0 ρ E w vs inv ra;unfold N6 at hr;rw[<- hpl,List.take_left,List.drop_left]at hr;refine(sN (env:=it e tb f) (pb hok f) K (mj h K n) (i6 hok h K n) f (fun F hF x hx n0 g hg=>h.l f F x n0 g hF hx hg) hr lo w0 ρ E w vs inv ra).mono ?_
 rintro e' w' ⟨u,ρ',E',v0,Hc,rfl,inv',reach,hrep,hk⟩;unfold qV at hk;split at hk
 ·rename_i q hq;obtain⟨h1,h2⟩:=eU hk;cases h2;obtain⟨o1,o2⟩:=bH h1;have hp:=ph o2
  have st:St lo w0 ρ E w ρ' E' Hc [v0] {tmps:= #[u],defers:=[]} w':=⟨inv',⟨rfl,fun t x ht=>by
   cases t with
   |zero=>simp at ht;subst ht;simpa using hrep
   |succ t=>simp at ht,rfl⟩,reach⟩
  obtain⟨ρ2,E2,st2⟩:=pf hq o1 (σp:=bdL p) (σs:=bdL q.s) (js:=0) (by rw[hp];exact dE p) (dE q.s) lo w0 ρ E w ρ' E' _ w' inv.dom st
  refine⟨u,ρ2,E2,rfl,st2.inv,st2.reach,?_⟩
  unfold GW;cases hm:mo (bdL p) (bdL q.s) S.rs S.rhs 0 with
  |nil=>simp only[List.headD_nil,Rep]
  |cons x xs=>
   have:=st2.fr.rep 0 x (by rw[hm];rfl)
   simpa using this
 ·cases hk
theorem pj {P:Program} {f:FuncId} {S:FunS} {Φ:(uAC)->uAC}
 (hΦ:∀q,aH P f S q->aH P f S (Φ q)):∀n,aH P f S (levels Φ n)
 |0=>fun _ _ _ _ h=>by cases h
 |n+1=>hΦ _ (pj hΦ n)
theorem AT {P:Program} {f:FuncId} {S:FunS} {F:Nat->uAC} (h:∀n,aH P f S (F n)):aH P f S (fun ds=>F (aY ds) ds):=
 fun p s r hp hr=>h _ p s r hp hr
end
end Go.AM
