/-
  Loops and functions as partial functions on data.
-/
import Derived.Test.YtiojjmlccehpoaaGreatAmR
set_option linter.unusedSimpArgs false
set_option linter.unusedVariables false
namespace Go.AM
structure OutS where
 kind:Nat
 id:Nat
 fs:List Slot
 hs:List HB
structure LoopS where
 n0:Nat
 fs:List Slot
 hs:List HB
 outs:List OutS
noncomputable def Mu:List D->List D->List Bool
 | [],[]=>[]
 |x::xs,y::ys=>f8 x y::Mu xs ys
 |_,_=>[false]
theorem pH:∀{xs ys:List D},bf (Mu xs ys)=true->xs=ys
 | [],[],_=>rfl
 |x::xs,y::ys,h=>by
  simp only[Mu,bf]at h;cases hq:f8 x y with
  |false=>simp[hq]at h
  |true=>simp only[hq,ap]at h;rw[qeqD_iff.1 hq,pH h]
 | [],_::_,h=>by simp[Mu,bf]at h
 |_::_,[],h=>by simp[Mu,bf]at h
theorem fc {R:Type} {x:Option R} {r:R}:∀{bs:List Bool},cT x bs=some r->bf bs=true∧x=some r
 | [],h=>⟨rfl,h⟩
 |b::bs,h=>by
  cases b with
  |false=>simp[cT]at h
  |true=>
   simp only[cT,ap]at h;simpa only[bf,ap]using fc h
noncomputable def CA {R:Type} (n0 m0:Nat) (fs:List Slot) (hs:List HB) (p:List D) (k:List D->Option R) (fr:Fr) (H:Hp):Option R:=
 match nrmC n0 m0 fs hs fr H with
 |some q=>cT (k q.s) (q.ob++Mu q.p p)
 |none=>none
theorem xQ {R:Type} {n0 m0:Nat} {fs:List Slot} {hs:List HB} {p:List D} {k:List D->Option R} {fr:Fr} {H:Hp} {res:R} (h:CA n0 m0 fs hs p k fr H=some res):
 ∃s,k s=some res∧∀{σp σs:Bd} {js:Nat},Bd.ats σp 0 p->Bd.ats σs js s->Wk n0 fr H (mK σp σs fs hs js) (rF σp σs fs hs js):=by
 unfold CA at h;split at h
 ·rename_i q hq;obtain⟨h1,h2⟩:=fc h;obtain⟨o1,o2⟩:=bJ h1;have:=pH o2;subst this;exact⟨q.s,h2,fun hp hs=>pG hq o1 hp hs⟩
 ·cases h
def H5:List OutS->Nat->Nat->Nat->Option (Nat×OutS)
 | [],_,_,_=>none
 |o::os,k,i,j=>bif Nat.beq o.kind k&&Nat.beq o.id i then some (j,o)else H5 os k i (j+1)
theorem xR:∀{os:List OutS} {k i j0 j:Nat} {o:OutS},H5 os k i j0=some (j,o)->∃d,j=j0+d∧os[d]? = some o∧o.kind=k∧o.id=i
 | [],_,_,_,_,_,h=>by simp[H5]at h
 |o'::os,k,i,j0,j,o,h=>by
  simp only[H5]at h;cases hb:(Nat.beq o'.kind k&&Nat.beq o'.id i)with
  |true=>
   simp only[hb,ap,aQ,cS]at h;obtain⟨rfl,rfl⟩:=h;simp only[bu]at hb;exact⟨0,rfl,rfl,aV hb.1,aV hb.2⟩
  |false=>
   simp only[hb,aJ]at h;obtain⟨d,h1,h2,h3⟩:=xR h;exact⟨d+1,by omega,by simpa using h2,h3⟩
noncomputable def xS (S:LoopS) (p:List D) (kind id:Nat) (fr:Fr) (H:Hp):Option (Sum (List D) (List D)):=
 match H5 S.outs kind id 0 with
 |some (j,o)=>CA S.n0 S.hs.length o.fs o.hs p (fun s=>some (.inr (.int j::s))) fr H
 |none=>none
noncomputable def CB (e:Env) (tb:Tb) (K n:Nat) (f:FuncId) (c:Code) (S:LoopS) (p s:List D):Option (Sum (List D) (List D)):=
 ev {gT e tb f with n0:=S.n0} (f6 e tb K n) K none c (mK (bdL p) (bdL s) S.fs S.hs 0) (rF (bdL p) (bdL s) S.fs S.hs 0)
  (CA S.n0 S.n0 S.fs S.hs p (fun s=>some (.inl s))) (xS S p 0) (xS S p 1 0) (xS S p 2)
noncomputable def xU (o:OutS) (p:List D) (σ:Bd):Out:=
 match o.kind with
 |0=> .exit o.id (mK (bdL p) σ o.fs o.hs 1) (rF (bdL p) σ o.fs o.hs 1)
 |1=> .ret (mK (bdL p) σ o.fs o.hs 1) (rF (bdL p) σ o.fs o.hs 1)
 |_=> .goto o.id (mK (bdL p) σ o.fs o.hs 1) (rF (bdL p) σ o.fs o.hs 1)
noncomputable def SV (p:List D) (r:Option (List D)):Nat->List OutS->Ot
 |_,[]=> .fail
 |_,[o]=> .leaf (xU o p (bdQ r))
 |j,o::o'::os=> .br (ae .eql (ah (ab r 0)) j) (.leaf (xU o p (bdQ r))) (SV p r (j+1) (o'::os))
def obOt:List Bool->Ot->Ot
 | [],t=>t
 |b::bs,t=> .br b (obOt bs t) .fail
theorem H6 {t:Ot} {o:Out}:∀{bs:List Bool},(obOt bs t).res=some o->bf bs=true∧t.res=some o
 | [],h=>⟨rfl,h⟩
 |b::bs,h=>by
  simp only[obOt,Ot.res]at h;cases b with
  |false=>cases h
  |true=>
   simp only[ap]at h;obtain⟨h1,h2⟩:=H6 h;exact⟨by simpa only[bf,ap]using h1,h2⟩
noncomputable def bL (S:LoopS) (q:List D->uAC) (fr:Fr) (H:Hp):Ot:=
 match nrmC S.n0 S.n0 S.fs S.hs fr H with
 |some n=>obOt (n.ob ++ [ao (q n.p n.s)]) (SV n.p (q n.p n.s) 0 S.outs)
 |none=> .fail
theorem H7 {p:List D} {j:Nat} {ds:List D} {o:Out}:∀{os:List OutS} {j0 d:Nat} {o':OutS},(SV p (some (.int (j:Int)::ds)) j0 os).res=some o->j=j0+d->os[d]? = some o'->o=xU o' p (bdL (.int (j:Int)::ds))
 | [],_,_,_,h,_,_=>by simp[SV,Ot.res]at h
 | [o1],j0,d,o',h,hj,ho=>by
   simp only[SV,Ot.res,xF,aQ]at h;cases d with
   |zero=>simp at ho;subst ho;exact h.symm
   |succ d=>simp at ho
 |o1::o2::os,j0,d,o',h,hj,ho=>by
  have hq:ah (ab (some (.int (j:Int)::ds)) 0)=j:=by simp[jg,Ew,D.toInt]
  simp only[SV,Ot.res,hq,xF]at h;cases hc:ae .eql (j:Int) (j0:Int)with
  |true=>
   have:=qeqI_iff.1 hc;simp only[hc,ap,aQ]at h;obtain rfl:d=0:=by omega
   simp at ho;subst ho;exact h.symm
  |false=>
   simp only[hc,aJ]at h;have hne:(j:Int)≠j0:=fun e=>by rw[qeqI_iff.2 e]at hc;cases hc
   cases d with
   |zero=>exact absurd (by omega) hne
   |succ d=>exact H7 (d:=d) h (by omega) (by simpa using ho)
section
variable {e:Env} {tb:Tb}
theorem H8 (hok:eh e) (h:TbOk e tb) (K n:Nat) {f:FuncId} {F:FnA} {c:Code} (hF:e.fn f=some F) (hc:c∈bH F.code) (S:LoopS) {q:List D->uAC}
 (hq:∀p s r,q p s=some r->loW (CB e tb K n f c S p) s=some r):jk e.P S.n0 c (bL S q):=by
 refine Mi fun fr H o ho=> ?_
 unfold bL at ho;split at ho
 ·rename_i nm hrd;obtain⟨p,hpe⟩:∃p,p=nm.p:=⟨_,rfl⟩;obtain⟨s,hse⟩:∃s,s=nm.s:=⟨_,rfl⟩;rw[<- hpe, <- hse]at ho;obtain⟨ho1,ho⟩:=H6 ho;obtain⟨ho1,hs⟩:=bJ ho1;have hs:=HR hs;obtain⟨r,hr⟩:=xG hs;rw[hr]at ho;obtain⟨N,hN⟩:=loW_iff.1 (hq p s r hr);intro lo w0 ρ0 E0 wE Q hL hQ ρ E a w st;have key:∀N s,loF (CB e tb K n f c S p) N s=some r->∀ρ E a w,St lo w0 ρ0 E0 wE ρ E (rF (bdL p) (bdL s) S.fs S.hs 0) (mK (bdL p) (bdL s) S.fs S.hs 0) a w->Code.rounds e.P c Q N a w:=by
   intro N
   induction N with
   |zero=>intro s h;cases h
   |succ N ih=>
    intro s hlo ρ E a w st;rw[rounds_succ];simp only[loF]at hlo;cases hst:CB e tb K n f c S p s with
    |none=>simp[hst]at hlo
    |some x=>
     rw[hst]at hlo;have hout:∀kind id fr1 H1,xS S p kind id fr1 H1=some x->∃o':OutS,o'.kind=kind∧o'.id=id∧o=xU o' p (bdL r)∧Wk S.n0 fr1 H1 (mK (bdL p) (bdL r) o'.fs o'.hs 1) (rF (bdL p) (bdL r) o'.fs o'.hs 1):=by
      intro kind id fr1 H1 h1;unfold xS at h1;split at h1
      ·rename_i j o' hfo;obtain⟨d,h2,h3,h4,h5⟩:=xR hfo;obtain⟨s',hs',hwk⟩:=xQ h1;cases hs';simp only[aQ]at hlo;subst hlo;refine⟨o',h4,h5,H7 ho h2 h3,hwk (dK p) ?_⟩
       have:=(Bd.ats_app (xs:=[.int (j:Int)]) (ys:=s') (dK (.int (j:Int)::s'))).2;simpa using this
      ·cases h1
     refine pv (lo:=lo) (w0:=w0) (ρ0:=ρ0) (E0:=E0) (wE:=wE) (env:={gT e tb f with n0:=S.n0}) (pD (tb:=tb) hok f) (mH h K n) (jl hok h K n) (lj (env:={gT e tb f with n0:=S.n0}) (pD (tb:=tb) hok f) (mH h K n) (jl hok h K n)) (.inl hL) K (res:=x) c (fun y hy g hg=>h.l f F y S.n0 g hF (HQ hc hy) hg) none _ _ _ _ _ _ _ hst ?_ ?_ ?_ ?_ ρ E a w st
     ·intro ρ1 E1 fr1 H1 a1 w1 h1 st1;obtain⟨s',hs',hwk⟩:=xQ h1;cases hs';obtain⟨ρ2,E2,st2⟩:=hwk (dK p) (dK s') lo w0 ρ0 E0 wE ρ1 E1 a1 w1 hL st1;exact ih s' hlo ρ2 E2 a1 w1 st2
     ·intro i ρ1 E1 fr1 H1 a1 w1 h1 st1;obtain⟨o',hk,hi,rfl,hwk⟩:=hout 0 i fr1 H1 h1;obtain⟨ρ2,E2,st2⟩:=hwk lo w0 ρ0 E0 wE ρ1 E1 a1 w1 hL st1;simp only[xU,hk,hi]at hQ;exact hQ ρ2 E2 a1 w1 st2
     ·intro ρ1 E1 fr1 H1 a1 w1 h1 st1;obtain⟨o',hk,hi,rfl,hwk⟩:=hout 1 0 fr1 H1 h1;obtain⟨ρ2,E2,st2⟩:=hwk lo w0 ρ0 E0 wE ρ1 E1 a1 w1 hL st1;simp only[xU,hk]at hQ;exact hQ ρ2 E2 a1 w1 st2
     ·intro l ρ1 E1 fr1 H1 a1 w1 h1 st1;obtain⟨o',hk,hi,rfl,hwk⟩:=hout 2 l fr1 H1 h1;obtain⟨ρ2,E2,st2⟩:=hwk lo w0 ρ0 E0 wE ρ1 E1 a1 w1 hL st1;simp only[xU,hk,hi]at hQ;exact hQ ρ2 E2 a1 w1 st2
  obtain⟨ρ',E',st'⟩:=pG hrd ho1 (by rw[<- hpe];exact dK p) (by rw[<- hse];exact dK s) lo w0 ρ0 E0 wE ρ E a w hL st
  exact wp_loop_rounds N (key N s hN ρ' E' a w st')
 ·simp[Ot.res]at ho
end
structure FunS where
 fs:List Slot
 hs:List HB
 rs:List Slot
 rhs:List HB
def FunS.np (S:FunS):Nat:=npF S.fs+(S.hs.map npB).sum
noncomputable def uE (S:FunS) (p s:List D):List AV:=mK (bdL p) (bdL s) S.fs S.hs 0
noncomputable def eD (S:FunS) (p s:List D):Hp:=rF (bdL p) (bdL s) S.fs S.hs 0
noncomputable def H9 (S:FunS) (p:List D) (σ:Bd):AV:=(mK (bdL p) σ S.rs S.rhs 0).headD .undef
noncomputable def CC (S:FunS) (p:List D) (σ:Bd):Hp:=rF (bdL p) σ S.rs S.rhs 0
def aH (P:Program) (f:FuncId) (S:FunS) (q:uAC):Prop:=
 ∀p s r,p.length=S.np->q (p++s)=some r->Ok P f (uE S p s) (eD S p s) (H9 S p (bdL r)) (CC S p (bdL r))
noncomputable def oz (S:FunS) (p:List D) (v:AV) (Hc:Hp):Option (List D):=
 match nrmC S.hs.length S.hs.length S.rs S.rhs [v] Hc with
 |some q=>cT (some q.s) (q.ob++Mu q.p p)
 |none=>none
noncomputable def PP (e:Env) (tb:Tb) (K n:Nat) (f:FuncId) (S:FunS) (ds:List D):Option (List D):=
 jn (gT e tb f) (f6 e tb K n) K f (uE S (ds.take S.np) (ds.drop S.np)) (eD S (ds.take S.np) (ds.drop S.np)) (oz S (ds.take S.np))
section
variable {e:Env} {tb:Tb}
theorem Ia (hok:eh e) (h:TbOk e tb) (K n:Nat) {f:FuncId} {S:FunS}:aH e.P f S (PP e tb K n f S):=by
 intro p s r hpl hr lo w0 ρ E w vs inv ra;unfold PP at hr;rw[<- hpl,List.take_left,List.drop_left]at hr;refine(tA (env:=gT e tb f) (pD hok f) K (mH h K n) (jl hok h K n) f (fun F hF x hx n0 g hg=>h.l f F x n0 g hF hx hg) hr lo w0 ρ E w vs inv ra).mono ?_
 rintro e' w' ⟨u,ρ',E',v0,Hc,rfl,inv',reach,hrep,hk⟩;unfold oz at hk;split at hk
 ·rename_i q hq;obtain⟨h1,h2⟩:=fc hk;cases h2;obtain⟨o1,o2⟩:=bJ h1;have hp:=pH o2
  have st:St lo w0 ρ E w ρ' E' Hc [v0] {tmps:= #[u],defers:=[]} w':=⟨inv',⟨rfl,fun t x ht=>by
   cases t with
   |zero=>simp at ht;subst ht;simpa using hrep
   |succ t=>simp at ht,rfl⟩,reach⟩
  obtain⟨ρ2,E2,st2⟩:=pG hq o1 (σp:=bdL p) (σs:=bdL q.s) (js:=0) (by rw[hp];exact dK p) (dK q.s) lo w0 ρ E w ρ' E' _ w' inv.dom st
  refine⟨u,ρ2,E2,rfl,st2.inv,st2.reach,?_⟩
  unfold H9;cases hm:mK (bdL p) (bdL q.s) S.rs S.rhs 0 with
  |nil=>simp only[List.headD_nil,Rep]
  |cons x xs=>
   have:=st2.fr.rep 0 x (by rw[hm];rfl)
   simpa using this
 ·cases hk
theorem pI {P:Program} {f:FuncId} {S:FunS} {Φ:(uAC)->uAC}
 (hΦ:∀q,aH P f S q->aH P f S (Φ q)):∀n,aH P f S (levels Φ n)
 |0=>fun _ _ _ _ h=>by cases h
 |n+1=>hΦ _ (pI hΦ n)
theorem BL {P:Program} {f:FuncId} {S:FunS} {F:Nat->uAC} (h:∀n,aH P f S (F n)):aH P f S (fun ds=>F (aW ds) ds):=
 fun p s r hp hr=>h _ p s r hp hr
end
end Go.AM
