/-
  Plain laws: lists of statements, and the statements that hold them: conditionals and loops.
-/
import Derived.Test.YtiojjmlccehpoaaGreatM5
import Derived.Test.YtiojjmlccehpoaaGreatM3
set_option linter.unusedSimpArgs false
set_option linter.unusedVariables false
namespace Go.Proofs.YtiojjmlccehpoaaGreat
open Go Go.AM
def OkQ (Q Q':uAC) (v fn:D) (b:Int) (ex:Nat) (ex':Int) (s:D) (lp:Bool) (k:Nat):Prop:=
 ∀(es ts:List Int) (top end_:Int) (φ:Nat->Nat) (f:Int->Int) (S:PS) (R:RS) (c:Nat),Sim φ f S R->Ctx φ S.nx lp ts es ex top end_ ex'->Bud S R ts (k+c)->Both Q Q' v fn b ex ex' s es ts top end_ φ S R c
section
variable {Q Q':uAC} {v fn s:D} {b:Int} {ex:Nat} {ex':Int} {lp:Bool}
set_option maxHeartbeats 2000000 in
theorem Qb {v d:D} {b:Int} (h:fm d=true):(nb v b d).length≤6*nd d+1:=by unfold nb;have:=oy (v:=v) (b:=b) h;simp;omega
theorem Sim.test {φ f S R} (h:Sim φ f S R) (v:D) (b:Int) (d:D) {p:Nat} (h1:1≤p) (h2:p≤S.nx):
 Sim φ f {S with to:=S.to++bz (nb v b d) ++ [(p:Int)],ins:=S.ins++nb v b d ++ [jmp 1]} {R with to:=R.to++bz (nb v b d) ++ [(φ p:Int)],ins:=R.ins++nb v b d ++ [jmp 1]}:=
 (h.emit (nb v b d)).push (jmp 1) h1 h2
theorem Sim.take {φ f S R} (h:Sim φ f S R) {m:Nat} (hm:m<R.pl.length) (hn:∀p,1≤p->p≤S.nx->φ p≠m) (h0:R.pl.getD m 0=0):
 Sim (upN φ (S.nx+1) m) f {S with nx:=S.nx+1} R:=by
 have ho:∀p,p≤S.nx->upN φ (S.nx+1) m p=φ p:=fun p hp=>by unfold upN;rw[if_neg (by omega)]
 have hw:upN φ (S.nx+1) m (S.nx+1)=m:=by unfold upN;rw[if_pos rfl]
 refine{at_:=h.at_,ins:=h.ins,len:=h.len,to:= ?_,rng:=fun p hp=> ?_,lab:= ?_,lrng:=fun x hx=> ?_,pl:=fun p h1 h2=> ?_,inj:=fun p q p1 p2 q1 q2 e=> ?_,new:=fun p hp=>h.new p (by simp at hp;omega),fb:=h.fb}
 ·simp only[h.to];refine lF fun p hp=> ?_
  rcases h.rng p hp with hp|⟨p1,p2⟩
  ·rw[FP hp,FP hp]
  ·obtain⟨k,rfl⟩:∃k:Nat,p=(k:Int):=⟨p.toNat,by omega⟩
   rw[At,At,ho k (by omega)]
 ·rcases h.rng p hp with hp|⟨p1,p2⟩
  ·exact .inl hp
  ·exact .inr ⟨p1,by simp;omega⟩
 ·simp only[h.lab];refine lF fun x hx=> ?_
  have:=h.lrng x hx;rw[ho x.2.toNat (by omega)]
 ·have:=h.lrng x hx;exact⟨this.1,by simp;omega⟩
 ·simp only at h2;by_cases hp:p=S.nx+1
  ·subst hp;rw[hw,h.new _ (by omega)]
   exact⟨hm,h0⟩
  ·rw[ho p (by omega)]
   exact h.pl p h1 (by omega)
 ·simp only at p2 q2;by_cases hp:p=S.nx+1
  ·by_cases hq:q=S.nx+1
   ·omega
   ·subst hp;rw[hw,ho q (by omega)]at e
    exact absurd e.symm (hn q q1 (by omega))
  ·by_cases hq:q=S.nx+1
   ·subst hq;rw[hw,ho p (by omega)]at e
    exact absurd e (hn p p1 (by omega))
   ·rw[ho p (by omega),ho q (by omega)]at e
    exact h.inj p q p1 (by omega) q1 (by omega) e
end
end Go.Proofs.YtiojjmlccehpoaaGreat
namespace Go.Proofs.YtiojjmlccehpoaaGreat
open Go Go.AM
section
variable {Q Q':uAC} {v fn s:D} {b:Int} {ex:Nat} {ex' top end_:Int} {es ts:List Int} {φ:Nat->Nat} {f:Int->Int} {S:PS} {R:RS} {c:Nat} {lp:Bool}
theorem Ctx.up {φ φ':Nat->Nat} {nx nx':Nat} {lp ts es ex top end_ ex'} (h:Ctx φ nx lp ts es ex top end_ ex') (ho:∀p,p≤nx->φ' p=φ p) (hn:nx≤nx'):Ctx φ' nx' lp ts es ex top end_ ex':=
 ⟨fun hl=>by obtain⟨l,p,h1,h2,h3,h4⟩:=h.t hl;exact⟨l,p,h1,h2,by omega,by rw[ho p h3];exact h4⟩,
  fun hl=>by obtain⟨l,p,h1,h2,h3,h4⟩:=h.e hl;exact⟨l,p,h1,h2,by omega,by rw[ho p h3];exact h4⟩,
  h.x1,by have:=h.x2;omega,by rw[ho ex h.x2];exact h.x,h.len⟩
theorem Bud.le {S R ts} {S':PS} {R':RS} {c c':Nat} (h:Bud S R ts c) (h1:S'.ins.length+c'≤S.ins.length+c) (h2:S'.nx+c'≤S.nx+c) (h3:R'.pl.length+c'≤R.pl.length+c) (h4:S'.L.length+c'≤S.L.length+c) (h5:c'≤c):Bud S' R' ts c':=by
 unfold Bud at h ⊢;omega
set_option maxHeartbeats 8000000 in
theorem Av (l:List Int) (x:Int):dr (tD (l ++ [x])) 0 (l.length:Int)=tD l:=by
 have h:∀xs:List D,(D.list xs).toList=xs:=fun _=>rfl
 rw[oI];simp[tD,D.sub,h]
end
end Go.Proofs.YtiojjmlccehpoaaGreat
namespace Go.Proofs.YtiojjmlccehpoaaGreat
open Go Go.AM
def tN (l:List Nat):List Int:=l.map fun(n:Nat)=>(n:Int)
theorem tN_app (l:List Nat) (n:Nat):tN (l ++ [n])=tN l ++ [(n:Int)]:=by simp[tN]
theorem Aw (l:List Nat):(tN l).length=l.length:=by simp[tN]
theorem tN_get {l:List Nat} {i:Nat} (h:i<l.length):(tN l).getD i 0=((l.getD i 0:Nat):Int):=by simp[tN,List.getD,h]
noncomputable def csC (i:Nat):D:=ii (fA .u32 (i:Int)) 15 1 0 0 0 0
section
variable {Q Q':uAC} {v fn s:D} {b:Int} {ex:Nat} {ex' top end_:Int} {es ts:List Int} {lp:Bool}
end
end Go.Proofs.YtiojjmlccehpoaaGreat
namespace Go.Proofs.YtiojjmlccehpoaaGreat
open Go Go.AM
section
variable {Q Q':uAC} {v fn s:D} {b:Int} {ex:Nat} {ex' top end_:Int} {es ts:List Int} {φ:Nat->Nat} {f:Int->Int} {S:PS} {R:RS} {c:Nat} {lp:Bool}
noncomputable def endC:List D:=[ii 4294967295 5 2 0 0 0 0,ii 0 21 0 0 0 0 0]
end
end Go.Proofs.YtiojjmlccehpoaaGreat
namespace Go.Proofs.YtiojjmlccehpoaaGreat
open Go Go.AM
noncomputable def cst:Nat->D->Nat
 |0,_=>0
 |N+1,l=>(l.toList.map fun s=>40+6*ndS s+(5*(aa s 6).toList.length+((aa s 6).toList.map fun x=>cst N x+5).sum)+(cst N (aa s 4)+cst N (aa s 5))).sum
def wfL:Nat->Bool->D->Prop
 |0,_,_=>True
 |N+1,lp,l=>∀s∈l.toList,stB s=true∧((ah (aa s 0)=10∨ah (aa s 0)=11)->lp=true)∧∀x∈aW s,wfL N (lp||bT s) x
theorem Zm {s:D} (h:stB s=true):iD (ah (aa s 0)) (ah (aa s 1)) (aa s 3).toList.length (aa s 4).toList.length (aa s 5).toList.length (aa s 6).toList.length (gB (aB (aa s 2))) (cI .eql (aB (aa s 2)) (ByteArray.mk #[]))=true:=by
 unfold stB at h;rw[bn]at h;exact h.1
theorem OkQ.le {Q Q' v fn b ex ex' s lp k k'} (h:OkQ Q Q' v fn b ex ex' s lp k) (hk:k≤k'):OkQ Q Q' v fn b ex ex' s lp k':=fun es ts top end_ φ f S R c hs hc hb=>by
 obtain⟨φ',f',S',R',h1,h2,h3,h4,h5⟩:=h es ts top end_ φ f S R ((k'-k)+c) hs hc (by unfold Bud at hb ⊢;omega)
 exact⟨φ',f',S',R',h1,h2,h3,h4,by unfold Bud at h5 ⊢;omega⟩
set_option maxHeartbeats 4000000 in
theorem mL {st:List D->Option (Sum (List D) (List D))} {l:D} {cs:D->Nat} {ok:D->Prop} {B:Int} {call:D->Int->Option (List D)} (hl:l.toList.length≤maxLen)
 (hst:∀(left:Int) (i:Nat),st [.int left, .int (i:Int)]=bif aw (ab .lss (i:Int) (ae l)) (ab .geq left 0) false then(bif aS l (i:Int)then(bif ap (call (ay l (i:Int)) left)then some (.inl [.int (ah (ac (call (ay l (i:Int)) left) 0)), .int (aM .add .i64 (i:Int) 1)])else none)else none)else some (.inr [.int 0, .int left]))
 (hc:∀x∈l.toList,∀left,0≤left->left≤B->∃r:Int,call x left=some [.int r]∧ -1≤r∧r≤B∧(0≤r->ok x∧(cs x:Int)+r≤left)):
 ∀(k i:Nat) (left:Int),i+k=l.toList.length-> -1≤left->left≤B->∃r:Int,loW st [.int left, .int (i:Int)]=some [.int 0, .int r]∧ -1≤r∧r≤B∧(0≤r->0≤left∧(∀x∈l.toList.drop i,ok x)∧((((l.toList.drop i).map cs).sum:Nat):Int)+r≤left):=by
 intro k
 induction k with
 |zero=>
  intro i left hi h0 h1;obtain rfl:i=l.toList.length:=by omega
  refine⟨left,?_,h0,h1,fun h=>⟨h,by rw[lE (bj _)];simp,by rw[lE (bj _)];simp⟩⟩
  rw[bD,hst,aL];simp only[az,show¬((l.toList.length:Int)<(l.toList.length:Int))by omega,bl,bN,aI]
 |succ k ih=>
  intro i left hi h0 h1;have hlt:i<l.toList.length:=by omega
  by_cases hn:0≤left
  ·have hg:ay l (i:Int)=l.toList[i]:=by rw[bg,getD_lt hlt]
   obtain⟨r,r1,r2,r3,r4⟩:=hc l.toList[i] (b7 hlt) left hn h1;obtain⟨r',q1,q2,q3,q4⟩:=ih (i+1) r (by omega) r2 r3
   refine⟨r',?_,q2,q3,fun h=> ?_⟩
   ·rw[bD,hst,aL,hg,r1];simp only[az,bB,show(i:Int)<(l.toList.length:Int)by omega,hn,be,bN,aj,aZ hlt,aq,ax,bf,aC]
    rw[bk (by unfold maxLen at hl;omega)]
    exact q1
   ·obtain⟨a1,a2,a3⟩:=q4 h;obtain⟨b1,b2⟩:=r4 a1;rw[lC hlt];refine⟨hn,fun x hx=> ?_,?_⟩
    ·rcases cy.1 hx with rfl|hx
     ·exact b1
     ·exact a2 x hx
    ·rw[bW,fR];omega
  ·refine⟨left,?_,h0,h1,fun h=>absurd h hn⟩
   rw[bD,hst,aL];simp only[az,bB,show(i:Int)<(l.toList.length:Int)by omega,hn,be,bl,bN,aj,aI]
theorem small38:∀(N:Nat) (e:D) (n left:Int),Conf PG 25 e->e.size<N-> -1000≤n->n≤1000->0≤left->left≤10000->∃r:Int,F38 N [e, .int n, .int left]=some [.int r]∧ -1≤r∧r≤10000∧(0≤r->True∧(nodes N e:Int)+r≤left):=by
 intro N
 induction N with
 |zero=>intro e n left _ h;omega
 |succ N ih=>
  intro e n left hc h n0 n1 l0 l1;obtain⟨m1,m2⟩:=kY (j:=4) Px s23 hc;have ho:aa e 4=e.fld 4:=by rw[bx]
  rw[F38_s,Fb38_eq,ho,aL];simp only[az,b9,bN,aj];by_cases h1:n<1
  ·exact⟨-1,by simp[h1],by omega,by omega,fun h=>by omega⟩
  by_cases h2:left<1
  ·exact⟨-1,by simp[h1,h2],by omega,by omega,fun h=>by omega⟩
  by_cases h3:(4:Int)<((e.fld 4).toList.length:Int)
  ·exact⟨-1,by simp[h1,h2,h3],by omega,by omega,fun h=>by omega⟩
  have hs1:aM .sub .i64 left 1=left-1:=fp (by omega) (by omega)
  have hs2:aM .sub .i64 n 1=n-1:=fp (by omega) (by omega)
  obtain⟨r,q1,q2,q3,q4⟩:=mL (st:=D7 (F38 N) [.int n,e]) (l:=e.fld 4) (cs:=nodes N) (ok:=fun _=>True) (B:=10000) (call:=fun x left=>F38 N [x, .int (n-1), .int left]) m1
   (fun left i=>by rw[Rj,ho,hs2]) (fun x hx left a b=>by
    have:=eL hx
    exact ih x (n-1) left (m2 x hx) (by omega) (by omega) (by omega) a b) (e.fld 4).toList.length 0 (left-1) (by omega) (by omega) (by omega)
  refine⟨r,?_,q2,q3,fun h=>⟨trivial,?_⟩⟩
  ·simp only[b8]at q1;simp only[h1,h2,h3,bl,aI,hs1,HD,q1,aq,ax,bf,bt,aC,aj]
  ·obtain⟨a1,_,a2⟩:=q4 h;rw[lL]at a2;simp only[nodes,opd];omega
theorem Zn {e:D} {left:Int} (hc:Conf PG 25 e) (l0:0≤left) (l1:left≤10000):∃r:Int,q38 [e, .int 70, .int left]=some [.int r]∧ -1≤r∧r≤10000∧(0≤r->True∧(nd e:Int)+r≤left):=by
 have hN:e.size<aY [e, .int 70, .int left]:=cC (by simp)
 obtain⟨r,a,b,c,d⟩:=small38 _ e 70 left hc hN (by omega) (by omega) l0 l1
 refine⟨r,by rw[Vq];exact a,b,c,fun h=> ?_⟩
 have:=d h;rw[r9 _ (e.size+1) e hN (by omega)]at this
 exact this
noncomputable def tot:Nat->D->Nat
 |0,_=>0
 |N+1,l=>(l.toList.map fun s=>1+ndS s+(tot N (aa s 4)+tot N (aa s 5))+((aa s 6).toList.map (tot N)).sum).sum
def SmQ:Nat->D->Prop
 |0,_=>False
 |N+1,l=>∀s∈l.toList,(aa s 6).toList.length≤70∧∀x∈aW s,SmQ N x
set_option maxHeartbeats 2000000 in
theorem Zo:∀(N:Nat) (l:D) (n left:Int),Conf PG 36 l->l.size<N-> -1000≤n->n≤1000->0≤left->left≤10000->∃r:Int,qg N [l, .int n, .int left]=some [.int r]∧ -1≤r∧r≤10000∧(0≤r->SmQ N l∧(tot N l:Int)+r≤left):=by
 intro N
 induction N with
 |zero=>intro l n left _ h;omega
 |succ N ih=>
  intro l n left hc h n0 n1 l0 l1;have hlm:=(ce s36 hc).1;rw[F109_s,YH,aL];simp only[az,b9,bN,aj];by_cases h1:(20:Int)<(l.toList.length:Int)
  ·exact⟨-1,by simp[h1],by omega,by omega,fun h=>by omega⟩
  by_cases h2:n<1
  ·exact⟨-1,by simp[h1,h2],by omega,by omega,fun h=>by omega⟩
  have hs2:aM .sub .i64 n 1=n-1:=fp (by omega) (by omega)
  have key:∀(k i:Nat) (left:Int),i+k=l.toList.length-> -1≤left->left≤10000->
   loW (qf (qg N) [l, .int n]) [.int left, .int (i:Int)]=some [.int 1]∨∃r:Int,loW (qf (qg N) [l, .int n]) [.int left, .int (i:Int)]=some [.int 0, .int r]∧ -1≤r∧r≤10000
    ∧(0≤r->0≤left∧(∀s∈l.toList.drop i,(aa s 6).toList.length≤70∧∀x∈aW s,SmQ N x)∧((((l.toList.drop i).map fun s=>1+ndS s+(tot N (aa s 4)+tot N (aa s 5))+((aa s 6).toList.map (tot N)).sum).sum:Nat):Int)+r≤left):=by
   intro k
   induction k with
   |zero=>
    intro i left hi h0 h1;obtain rfl:i=l.toList.length:=by omega
    refine .inr ⟨left,?_,h0,h1,fun h=>⟨h,by rw[lE (bj _)];simp,by rw[lE (bj _)];simp⟩⟩
    rw[bD,ox,aL];simp only[az,show¬((l.toList.length:Int)<(l.toList.length:Int))by omega,bl,bN,aI]
   |succ k ihk=>
    intro i left hi h0 h1;have hlt:i<l.toList.length:=by omega
    by_cases hn:0≤left
    ·have hg:ay l (i:Int)=l.toList[i]:=by rw[bg,getD_lt hlt]
     obtain⟨cs,ss⟩:=bZ hc (b7 hlt);rw[bD,ox,aL l,hg];rw[lC hlt];generalize l.toList[i]=s at cs ss;simp only[az,bB,show(i:Int)<(l.toList.length:Int)by omega,hn,be,bN,aj,aZ hlt,b9,aL]
     by_cases g1:(4:Int)<((aa s 3).toList.length:Int)
     ·left;simp[g1]
     by_cases g2:(70:Int)<((aa s 6).toList.length:Int)
     ·left;simp[g1,g2]
     simp only[g1,g2,bl,aI];have hs1:aM .sub .i64 left 1=left-1:=fp (by omega) (by omega)
     have c4:=ba cs (x:=aa s 4) (by simp[aW])
     have c5:=ba cs (x:=aa s 5) (by simp[aW])
     have hc6:Conf PG 185 (aa s 6):=by rw[bx];exact bi Fi cs
     obtain⟨l3,e3⟩:=iC cs
     obtain⟨r2,p1,p2,p3,p4⟩:=mL (st:=qd (qg N) [l, .int n, .int (i:Int),s]) (l:=aa s 3) (cs:=nd) (ok:=fun _=>True) (B:=10000) (call:=fun x left=>q38 [x, .int 70, .int left]) l3
      (fun left i=>by rw[JO]) (fun x hx left a b=>Zn (e3 x hx) a b) (aa s 3).toList.length 0 (left-1) (by omega) (by omega) (by omega)
     simp only[b8]at p1;rw[lL]at p4;simp only[Aj,hs1,p1,hs2,aq,ax,bf,bt,aC];obtain⟨r3,t3,a1,a2,a3⟩:∃r3:Int,(fC (decide (0≤r2)) (ah (ac (qg N [aa s 4, .int (n-1), .int r2]) 0)) r2=r3∧(bif decide (0≤r2)then ap (qg N [aa s 4, .int (n-1), .int r2])else true)=true)∧ -1≤r3∧r3≤10000∧(0≤r3->0≤r2∧SmQ N (aa s 4)∧(tot N (aa s 4):Int)+r3≤r2):=by
      by_cases hr:0≤r2
      ·obtain⟨r,q1,q2,q3,q4⟩:=ih (aa s 4) (n-1) r2 c4.1 (by omega) (by omega) (by omega) hr p3
       exact⟨r,⟨by rw[q1,ew];simp[hr,ax,aC],by rw[q1];simp[hr,aq]⟩,q2,q3,fun h=>⟨hr,q4 h⟩⟩
      ·exact⟨r2,⟨by rw[ew];simp[hr],by simp[hr]⟩,p2,p3,fun h=>absurd h hr⟩
     simp only[t3,aq,aj];obtain⟨r4,t4,b1,b2,b3⟩:∃r4:Int,(fC (decide (0≤r3)) (ah (ac (qg N [aa s 5, .int (n-1), .int r3]) 0)) r3=r4∧(bif decide (0≤r3)then ap (qg N [aa s 5, .int (n-1), .int r3])else true)=true)∧ -1≤r4∧r4≤10000∧(0≤r4->0≤r3∧SmQ N (aa s 5)∧(tot N (aa s 5):Int)+r4≤r3):=by
      by_cases hr:0≤r3
      ·obtain⟨r,q1,q2,q3,q4⟩:=ih (aa s 5) (n-1) r3 c5.1 (by omega) (by omega) (by omega) hr a2
       exact⟨r,⟨by rw[q1,ew];simp[hr,ax,aC],by rw[q1];simp[hr,aq]⟩,q2,q3,fun h=>⟨hr,q4 h⟩⟩
      ·exact⟨r3,⟨by rw[ew];simp[hr],by simp[hr]⟩,a1,a2,fun h=>absurd h hr⟩
     simp only[t4,aj]
     obtain⟨r5,u1,u2,u3,u4⟩:=mL (st:=qe (qg N) [l, .int n, .int (i:Int),s]) (l:=aa s 6) (cs:=tot N) (ok:=SmQ N) (B:=10000) (call:=fun x left=>qg N [x, .int (n-1), .int left]) (ce s185 hc6).1
      (fun left i=>by rw[JP,hs2]) (fun x hx left a b=>by
       have hk:=ba cs (x:=x) (by simp[aW,hx])
       exact ih x (n-1) left hk.1 (by omega) (by omega) (by omega) a b) (aa s 6).toList.length 0 r4 (by omega) b1 b2
     simp only[b8]at u1;rw[lL]at u4;simp only[Ak,u1,aq,ax,bf,bt,aC,aj];rw[bk (by unfold maxLen at hlm;omega)]
     rcases ihk (i+1) r5 (by omega) u2 u3 with hh|⟨r,v1,v2,v3,v4⟩
     ·exact .inl hh
     ·refine .inr ⟨r,v1,v2,v3,fun h=> ?_⟩
      obtain⟨w1,w2,w3⟩:=v4 h;obtain⟨x1,x2,x3⟩:=u4 w1;obtain⟨y1,y2,y3⟩:=b3 x1;obtain⟨z1,z2,z3⟩:=a3 y1;obtain⟨_,_,o3⟩:=p4 z1;refine⟨trivial,fun q hq=> ?_,?_⟩
      ·rcases cy.1 hq with rfl|hq
       ·refine⟨by omega,fun x hx=> ?_⟩
        unfold aW at hx;rcases cy.1 hx with rfl|hx
        ·exact z2
        rcases cy.1 hx with rfl|hx
        ·exact y2
        ·exact x2 x hx
       ·exact w2 q hq
      ·rw[bW,fR];unfold ndS at *;omega
    ·refine .inr ⟨left,?_,h0,h1,fun h=>absurd h hn⟩
     rw[bD,ox,aL];simp only[az,bB,show(i:Int)<(l.toList.length:Int)by omega,hn,be,bl,bN,aj,aI]
  simp only[h1,h2,bl,aI,CQ];rcases key l.toList.length 0 left (by omega) (by omega) (by omega)with hh|⟨r,v1,v2,v3,v4⟩
  ·simp only[b8]at hh;exact⟨-1,by simp[hh,aq,ax,aC,aD],by omega,by omega,fun h=>by omega⟩
  ·simp only[b8]at v1;refine⟨r,by simp[v1,aq,ax,aC,aD],v2,v3,fun h=> ?_⟩
   obtain⟨_,w2,w3⟩:=v4 h;rw[lL]at w2 w3;exact⟨w2,w3⟩
theorem sb {α:Type} {f g:α->Nat}:∀(l:List α),(∀x∈l,f x≤g x)->(l.map f).sum≤(l.map g).sum
 | [],_=>bj _
 |x::l,h=>by
  rw[bW,bW,fR,fR];have:=h x (by simp);have:=sb l fun y hy=>h y (by simp[hy]);omega
theorem qj {α:Type} {f:α->Nat} (k:Nat):∀(l:List α),(l.map fun x=>k*f x).sum=k*(l.map f).sum
 | []=>by simp
 |x::l=>by rw[bW,bW,fR,fR,qj k l,Nat.mul_add]
theorem Ax {α:Type} {f:α->Nat}:∀(l:List α),(l.map fun x=>f x+5).sum=(l.map f).sum+5*l.length
 | []=>by simp
 |x::l=>by rw[bW,bW,fR,fR,Ax l,cn];omega
theorem C1:∀(N M:Nat) (l:D),Conf PG 36 l->l.size<N->l.size<M->SmQ N l->Sm M l∧cnt M l≤tot N l∧cst M l≤1000*tot N l:=by
 intro N
 induction N with
 |zero=>intro M l _ h;omega
 |succ N ih=>
  intro M l hc h1 h2 hs;obtain⟨M,rfl⟩:∃m,M=m+1:=⟨M-1,by omega⟩
  have hk:∀s∈l.toList,∀x∈aW s,Sm M x∧cnt M x≤tot N x∧cst M x≤1000*tot N x:=fun s hm x hx=>by
   obtain⟨c1,c2⟩:=bZ hc hm;obtain⟨k1,k2⟩:=ba c1 hx;exact ih M x k1 (by omega) (by omega) ((hs s hm).2 x hx)
  refine⟨fun s hm=>⟨by have:=(hs s hm).1;omega,fun x hx=>(hk s hm x hx).1⟩,?_,?_⟩
  ·simp only[cnt,tot];refine sb _ fun s hm=> ?_
   have h4:=(hk s hm (aa s 4) (by simp[aW])).2.1
   have h5:=(hk s hm (aa s 5) (by simp[aW])).2.1
   have h6:=sb (aa s 6).toList fun x hx=>(hk s hm x (by simp[aW,hx])).2.1
   unfold aW;rw[bW,bW,fR,fR];omega
  ·simp only[cst,tot];rw[<- qj];refine sb _ fun s hm=> ?_
   have h4:=(hk s hm (aa s 4) (by simp[aW])).2.2
   have h5:=(hk s hm (aa s 5) (by simp[aW])).2.2
   have h6:=sb (aa s 6).toList fun x hx=>(hk s hm x (by simp[aW,hx])).2.2
   have h70:=(hs s hm).1;rw[qj]at h6;rw[Ax];omega
theorem J2 {α:Type}:∀l:List α,(l.map fun _=>0).sum=0
 | []=>rfl
 |x::l=>by rw[bW,fR,J2 l]
theorem Zp:∀(N:Nat) (d:D) (n left:Int),Conf PG 63 d->d.size<N-> -1000≤n->n≤1000->0≤left->left≤10000->∃r:Int,FI N [d, .int n, .int left]=some [.int r]∧ -1≤r∧r≤10000∧(0≤r->True∧((0:Nat):Int)+r≤left):=by
 intro N
 induction N with
 |zero=>intro d n left _ h;omega
 |succ N ih=>
  intro d n left hc h n0 n1 l0 l1;obtain⟨m3,m4,c3,c4⟩:=fg hc;rw[F167_s,YL,aL,aL];simp only[az,b9,bN,aj];by_cases h1:n<1
  ·exact⟨-1,by simp[h1],by omega,by omega,fun h=>by omega⟩
  by_cases h2:left<1
  ·exact⟨-1,by simp[h1,h2],by omega,by omega,fun h=>by omega⟩
  by_cases h3:(12:Int)<((aa d 3).toList.length:Int)
  ·exact⟨-1,by simp[h1,h2,h3],by omega,by omega,fun h=>by omega⟩
  by_cases h4:(70:Int)<((aa d 4).toList.length:Int)
  ·exact⟨-1,by simp[h1,h2,h3,h4],by omega,by omega,fun h=>by omega⟩
  have hs1:aM .sub .i64 left 1=left-1:=fp (by omega) (by omega)
  have hs2:aM .sub .i64 n 1=n-1:=fp (by omega) (by omega)
  obtain⟨r,q1,q2,q3,q4⟩:=mL (st:=vh (FI N) [.int n,d]) (l:=aa d 3) (cs:=fun _=>0) (ok:=fun _=>True) (B:=10000) (call:=fun x left=>FI N [x, .int (n-1), .int left]) m3
   (fun left i=>by rw[Nu,hs2]) (fun x hx left a b=>by
    obtain⟨k1,k2⟩:=c3 x hx
    exact ih x (n-1) left k1 (by omega) (by omega) (by omega) a b) (aa d 3).toList.length 0 (left-1) (by omega) (by omega) (by omega)
  obtain⟨r',u1,u2,u3,u4⟩:=mL (st:=vi (FI N) [.int n,d]) (l:=aa d 4) (cs:=fun _=>0) (ok:=fun _=>True) (B:=10000) (call:=fun x left=>FI N [reT (aa x 1), .int (n-1), .int left]) m4
   (fun left i=>by rw[Nw,hs2];rfl) (fun x hx left a b=>by
    obtain⟨k1,k2⟩:=c4 x hx;rw[eC k1]
    exact ih (aa x 1) (n-1) left k1 (by omega) (by omega) (by omega) a b) (aa d 4).toList.length 0 r (by omega) q2 q3
  simp only[b8]at q1 u1;refine⟨r',?_,u2,u3,fun h=>⟨trivial,?_⟩⟩
  ·simp only[h1,h2,h3,h4,bl,aI,hs1,CR,CS,q1,u1,aq,ax,bf,bt,aC,aj]
  ·obtain⟨a1,_,a2⟩:=u4 h;obtain⟨_,_,b2⟩:=q4 a1;rw[J2]at a2 b2;omega
theorem ty65 {y:D} (h:Conf PG 65 y):Conf PG 63 (aa y 1):=by rw[bx];exact bi Py h
theorem Zq {d:D} (h:Conf PG 63 d):∃b,YP [d, .int 70]=some [.bool b]:=by
 have hN:d.size<aY [d, .int 70, .int 3000]:=cC (by simp)
 obtain⟨r,a,_⟩:=Zp _ d 70 3000 h hN (by omega) (by omega) (by omega) (by omega)
 exact⟨_,by rw[PU,F110_eq,PT];simp only[a,aq,aj];rfl⟩
theorem small16 {f v fn:D} (hf:Conf PG 38 f):∃b,q16 [f,v,fn]=some [.bool b]∧(b=true->v.toList.length≤40∧fn.toList.length≤70∧(aa f 1).toList.length≤300∧∃N,(aa f 2).size<N∧SmQ N (aa f 2)∧tot N (aa f 2)≤5000):=by
 have cv:Conf PG 35 (aa f 1):=by rw[bx];exact bi Ym hf
 have cb:Conf PG 36 (aa f 2):=by rw[bx];exact bi Jz hf
 obtain⟨lv,_,ev⟩:=ce s35 cv;have h46:∃b,q46 [f]=some [.bool b]∧(b=true->(aa f 1).toList.length≤300∧∃N,(aa f 2).size<N∧SmQ N (aa f 2)∧tot N (aa f 2)≤5000):=by
  have hN:(aa f 2).size<aY [aa f 2, .int 70, .int 5000]:=cC (by simp)
  obtain⟨r,a1,a2,a3,a4⟩:=Zo _ (aa f 2) 70 5000 cb hN (by omega) (by omega) (by omega) (by omega)
  have hloop:=zO (st:=Ao [f]) (n:=(aa f 1).toList.length) (p:=fun i=> !(match YP [aa ((aa f 1).toList.getD i .other) 1, .int 70]with|some [.bool b]=>b|_=>false)) (r0:=[D.int 0]) (r1:=[.int 1]) lv
   (by
    rw[CT,aL]
    simp only[az,show¬(((aa f 1).toList.length:Int)<((aa f 1).toList.length:Int))by omega,bl,aI])
   (fun i hi=>by
    have hx:=ev _ (b7 hi);have hg:ay (aa f 1) (i:Int)=(aa f 1).toList.getD i .other:=bg _ _;have ht:Conf PG 63 (aa ((aa f 1).toList.getD i .other) 1):=by rw[getD_lt hi];exact ty65 hx
    obtain⟨b,hb⟩:=Zq ht;have hre:=eC ht;unfold reT at hre;rw[CT,aL,hg,hre,hb];simp only[az,show(i:Int)<((aa f 1).toList.length:Int)by omega,be,aj,aZ hi,aq,ax,bf,aK,bI]
    rw[bk (by unfold maxLen at lv;omega)]
    cases b<;>rfl)
  rw[YT,F46_eq,PR,aL];simp only[a1,aq,ax,bf,aC,b9,az,bN,JU];by_cases h3:(300:Int)<((aa f 1).toList.length:Int)
  ·exact⟨false,by simp[h3],fun h=>by cases h⟩
  by_cases hr:r<0
  ·exact⟨false,by simp[h3,hr],fun h=>by cases h⟩
  obtain⟨w1,w2⟩:=a4 (by omega)
  have:∃e:Int,loW (Ao [f]) [.int 0]=some [.int e]:=by
   rw[hloop];split
   ·exact⟨1,rfl⟩
   ·exact⟨0,rfl⟩
  obtain⟨e,he⟩:=this;by_cases h0:e=0
  ·exact⟨true,by simp[h3,hr,he,h0,aq,ax,aC,aD],fun _=>⟨by omega,_,hN,w1,by omega⟩⟩
  ·exact⟨false,by simp[h3,hr,he,h0,aq,ax,aC,aD],fun h=>by cases h⟩
 obtain⟨b,hb,hb2⟩:=h46;rw[YU,F16_eq,hb,aL,aL];simp only[aq,ax,bf,aK,cJ,bN,aj];refine⟨_,rfl,fun h=> ?_⟩
 cases b with
 |false=>simp at h
 |true=>
  simp only[aj]at h;by_cases h1:(v.toList.length:Int)≤40
  ·simp only[h1,be,aj,cl]at h;obtain⟨c1,c2⟩:=hb2 rfl;exact⟨by omega,by omega,c1,c2⟩
  ·simp[h1]at h
theorem Zr {f v fn:D} (h:Ar f v fn=0):gT (eE f v.toList fn.toList) f=0:=by
 have hu:nG (eE f v.toList fn.toList)=0:=by
  unfold Ar at h;split at h
  ·assumption
  ·exact h
 have u2:(aa (eE f v.toList fn.toList) 2).toList=la f fn.toList:=by unfold eE;rw[dV];rfl
 unfold nG at hu;split at hu
 ·cases hu
 split at hu
 ·cases hu
 split at hu
 ·split at hu
  ·split at hu
   ·rename_i _ h2 _ _ _;have:=mF _ _ hu 0 (bj _) (by omega)
    rw[u2]at this;exact this
   ·rename_i h3;exact absurd hu h3
  ·rename_i h3;exact absurd hu h3
 ·rename_i h3;exact absurd hu h3
theorem NE {u f:D} (h:gT u f=0):∀x∈flB f,stB (d7 x)=true∧((ah (aa (d7 x) 0)=10∨ah (aa (d7 x) 0)=11)->Sr x=true):=by
 intro x hx;obtain⟨j,hj,rfl⟩:=List.getElem_of_mem hx;unfold gT at h;split at h
 ·cases h
 split at h
 ·split at h
  ·cases h
  split at h
  ·cases h
  have:=mF _ _ h j (lO _) (by omega)
  unfold plE at this;rw[getD_lt hj]at this;refine⟨Jx this,fun hk=> ?_⟩
  unfold mJ at this;split at this
  ·cases this
  split at this
  ·cases this
  split at this
  ·cases this
  split at this
  ·cases this
  rename_i hb;cases hfl:Sr (flB f)[j]with
  |true=>rfl
  |false=>exact absurd ⟨hk,hfl⟩ hb
 ·rename_i h3;exact absurd h h3
theorem Zs:∀(N:Nat) (l:D) (b:Bool),(∀x∈flP N l b,stB (d7 x)=true∧((ah (aa (d7 x) 0)=10∨ah (aa (d7 x) 0)=11)->Sr x=true))->wfL N b l:=by
 intro N
 induction N with
 |zero=>intro l b _;trivial
 |succ N ih=>
  intro l b h s hs;have h0:=h (.agg [s, .bool b]) (by simp only[flP,lK];exact⟨s,hs,by simp⟩)
  rw[rX,M8]at h0;refine⟨h0.1,h0.2,fun x hx=>ih x _ fun y hy=>h y ?_⟩
  simp only[flP,lK];exact⟨s,hs,cy.2 (.inr (lK.2 ⟨x,hx,hy⟩))⟩
theorem wf_body {f v fn:D} (h:Ar f v fn=0):wfL ((aa f 2).size+1) false (aa f 2):=Zs _ _ _ (NE (Zr h))
noncomputable def nms (l:List D):List D:=l.map fun x=> .str (aB (aa x 0))
theorem names17 {v sd2 f:D} {n:Int} (hv:v.toList.length≤1000) (hl:(aa f 1).toList.length≤1000):PP [sd2, .int n,aa f 1, .int (ae (aa f 1)),f] [.int 0, .list v.toList]=some [.int 0, .list (v.toList++nms (aa f 1).toList), .list []]:=by
 rw[JK];have key:∀k i:Nat,i+k=(aa f 1).toList.length->∀a:List D,a.length+k≤2000->loW (FA [sd2, .int n,aa f 1, .int (ae (aa f 1)),f]) [.int (i:Int), .list a]=some [.int 0, .list (a++nms ((aa f 1).toList.drop i)), .list []]:=by
  intro k
  induction k with
  |zero=>
   intro i hi a _;obtain rfl:i=(aa f 1).toList.length:=by omega
   rw[bD,CN,aL,lE (bj _)];simp[az,nms]
  |succ k ih=>
   intro i hi a ha;have hlt:i<(aa f 1).toList.length:=by omega
   have hg:ay (aa f 1) (i:Int)=(aa f 1).toList[i]:=by rw[bg,getD_lt hlt]
   rw[bD,CN,aL,hg,lC hlt];generalize (aa f 1).toList[i]=x;have hm:cA (ae (bG (.list a) (.list [.str (aB (aa x 0))]))) 16=true:=by rw[dA,bL];exact bq (by simp;omega) (by omega)
   simp only[az,show(i:Int)<((aa f 1).toList.length:Int)by omega,be,aj,aZ hlt,hm]
   rw[bk (by omega)]
   have:=ih (i+1) (by omega) (a ++ [.str (aB (aa x 0))]) (by simp;omega)
   rw[aL]at this;rw[dA,this];simp[nms]
 have:=key (aa f 1).toList.length 0 (by omega) v.toList (by omega)
 simpa using this
noncomputable def nc (V:D) (b:Int) (x:D):List D:=[ii (adN V b (aB (aa x 0))) 5 2 0 0 2 0,ii 0 16 0 4 0 0 2,ii 0 3 0 0 0 0 0,ii 0 5 1 0 0 0 0,ii 0 18 0 4 0 0 2]
noncomputable def Ay (V:D) (b:Int) (x:D):List D:=ii 0 4 0 0 0 0 0::lB V b (aB (aa x 0))
theorem J3 (a c:List D):bz (a++c)=bz a++bz c:=by simp[bz]
theorem ini17 {V fn f:D} {b:Int} (hv:V.toList.length≤maxLen) (hl:(aa f 1).toList.length≤1000):FC [aa f 1, .int (ae (aa f 1)), .list [], .list [], .list [], .list [], .int 1,V,fn, .int b, .int 1,f] [.int 0, .list [], .list []]=some [.int 0,tD (bz ((aa f 1).toList.flatMap (nc V b))), .list ((aa f 1).toList.flatMap (nc V b))]:=by
 rw[CO];have key:∀k i:Nat,i+k=(aa f 1).toList.length->∀a:List D,a.length+5*k≤10000->loW (vf [aa f 1, .int (ae (aa f 1)), .list [], .list [], .list [], .list [], .int 1,V,fn, .int b, .int 1,f]) [.int (i:Int),tD (bz a), .list a]=some [.int 0,tD (bz (a++((aa f 1).toList.drop i).flatMap (nc V b))), .list (a++((aa f 1).toList.drop i).flatMap (nc V b))]:=by
  intro k
  induction k with
  |zero=>
   intro i hi a _;obtain rfl:i=(aa f 1).toList.length:=by omega
   rw[bD,Ae,aL (aa f 1),lE (bj _)];simp[az]
  |succ k ih=>
   intro i hi a ha;have hlt:i<(aa f 1).toList.length:=by omega
   have hg:ay (aa f 1) (i:Int)=(aa f 1).toList[i]:=by rw[bg,getD_lt hlt]
   rw[bD,Ae,aL (aa f 1),hg,lC hlt];have hih:=ih (i+1) (by omega)
   rw[aL (aa f 1)]at hih;generalize (aa f 1).toList[i]=x;have e1:q51 [.list [], .list [], .list [], .list [],tD (bz a), .list a, .int 1,V,fn, .int b, .int 1, .str (aB (aa x 0))]=some [ii (adN V b (aB (aa x 0))) 5 2 0 0 2 0]:=CX hv
   have e2:=dp (E:= .list []) (T:= .list []) (L:= .list []) (A:= .list []) (fn:=fn) (nx:=1) (ex:=1) (v:=V) (b:=b) (l:=nc V b x) (to:=bz a) (ins:=a) (by simp[nc]) (by simp[bz];omega) (by omega) (by
    intro y hy;simp only[nc,cy,fx,fz]at hy;rcases hy with rfl|rfl|rfl|rfl|rfl<;>exact cu ..)
   have hre:D.agg [D.int (ah (aa (ii (adN V b (aB (aa x 0))) 5 2 0 0 2 0) 0)),D.int (ah (aa (ii (adN V b (aB (aa x 0))) 5 2 0 0 2 0) 1)),D.int (ah (aa (ii (adN V b (aB (aa x 0))) 5 2 0 0 2 0) 2)),D.int (ah (aa (ii (adN V b (aB (aa x 0))) 5 2 0 0 2 0) 3)),D.int (ah (aa (ii (adN V b (aB (aa x 0))) 5 2 0 0 2 0) 4)),D.int (ah (aa (ii (adN V b (aB (aa x 0))) 5 2 0 0 2 0) 5)),D.int (ah (aa (ii (adN V b (aB (aa x 0))) 5 2 0 0 2 0) 6)),D.int (ah (aa (ii (adN V b (aB (aa x 0))) 5 2 0 0 2 0) 7)),D.int (ah (aa (ii (adN V b (aB (aa x 0))) 5 2 0 0 2 0) 8))]=ii (adN V b (aB (aa x 0))) 5 2 0 0 2 0:=cu ..;have hc:D.list [ii (adN V b (aB (aa x 0))) 5 2 0 0 2 0, .agg [.int 0, .int 0, .int 16, .int 0, .int 4, .int 0, .int 0, .int 2, .int 0], .agg [.int 0, .int 0, .int 3, .int 0, .int 0, .int 0, .int 0, .int 0, .int 0], .agg [.int 0, .int 0, .int 5, .int 1, .int 0, .int 0, .int 0, .int 0, .int 0], .agg [.int 0, .int 0, .int 18, .int 0, .int 4, .int 0, .int 0, .int 2, .int 0]] = .list (nc V b x):=rfl
   simp only[az,show(i:Int)<((aa f 1).toList.length:Int)by omega,be,aj,aZ hlt,e1,aq,ax,bf,bt,hre,hc,e2]
   rw[bk (by omega)]
   rw[<- J3];have:=hih (a++nc V b x) (by simp[nc];omega)
   rw[this,lk];simp
 have:=key (aa f 1).toList.length 0 (by omega) [] (by simp;omega)
 simpa[tD,bz]using this
noncomputable def lw (V:D) (b:Int) (l:List D):Nat->List D
 |0=>[]
 |k+1=>Ay V b (l.getD k .other)++lw V b l k
theorem C2 (V:D) (b:Int) (l:List D):∀k,(lw V b l k).length=3*k
 |0=>rfl
 |k+1=>by simp[lw,Ay,lB,C2 V b l k];omega
theorem pop17 {E T L A V fn f:D} {b nx ex:Int} (hv:V.toList.length≤maxLen):∀(k:Nat) (to:List Int) (ins:List D),k≤(aa f 1).toList.length->to.length+3*k≤89000000->ins.length+3*k≤89000000->
 loW (vg [E,T,L,A, .int nx,V,fn, .int b, .int ex,f]) [.int ((k:Int)-1),tD to, .list ins]=some [.int 0,tD (to++bz (lw V b (aa f 1).toList k)), .list (ins++lw V b (aa f 1).toList k)]
 |0,to,ins,_,_,_=>by
  rw[bD,Ah];simp[bB,lw,bz]
 |k+1,to,ins,hk,ht,hi=>by
  have hlt:k<(aa f 1).toList.length:=by omega
  have hg:ay (aa f 1) (k:Int)=(aa f 1).toList.getD k .other:=bg _ _;have ih:=pop17 hv k (to++bz (Ay V b ((aa f 1).toList.getD k .other))) (ins++Ay V b ((aa f 1).toList.getD k .other)) (by omega) (by simp[bz,Ay,lB];omega) (by simp[Ay,lB];omega) (E:=E) (T:=T) (L:=L) (A:=A) (V:=V) (fn:=fn) (f:=f) (b:=b) (nx:=nx) (ex:=ex)
  have hk1:(((k+1:Nat):Int)-1)=(k:Int):=by omega
  have e1:=dp (E:=E) (T:=T) (L:=L) (A:=A) (fn:=fn) (nx:=nx) (ex:=ex) (v:=V) (b:=b) (l:=[ii 0 4 0 0 0 0 0]) (to:=to) (ins:=ins) (by simp) (by omega) (by omega) (by intro x hx;simp only[cy,fx,fz]at hx;subst hx;exact cu ..)
  have e2:=mK (E:=E) (T:=T) (L:=L) (A:=A) (fn:=fn) (nx:=nx) (ex:=ex) (b:=b) hv (n:=aB (aa ((aa f 1).toList.getD k .other) 0)) (to:=to++bz [ii 0 4 0 0 0 0 0]) (ins:=ins ++ [ii 0 4 0 0 0 0 0]) (by simp[bz];omega) (by simp;omega)
  have h4:D.list [.agg [.int 0, .int 0, .int 4, .int 0, .int 0, .int 0, .int 0, .int 0, .int 0]] = .list [ii 0 4 0 0 0 0 0]:=rfl;rw[bD,Ah,hk1,hg,h4];generalize hx:(aa f 1).toList.getD k .other=x at *;have hs:aM .sub .i64 (k:Int) 1=(k:Int)-1:=fp (by omega) (by omega)
  simp only[bB,show(0:Int)≤(k:Int)by omega,be,aj,aZ hlt,e1,aq,ax,bf,bt,e2,hs]
  have hc1:to++bz [ii 0 4 0 0 0 0 0]++bz (lB V b (aB (aa x 0)))=to++bz (Ay V b x):=by simp[bz,Ay]
  have hc2:ins ++ [ii 0 4 0 0 0 0 0]++lB V b (aB (aa x 0))=ins++Ay V b x:=by simp[Ay]
  rw[hc1,hc2,ih];simp only[lw,hx,J3,dH]
def res (f:Int->Int) (p:Int):Int:=if p<0 then p else f p
theorem idx60 {E T L A V fn:D} {ins:D} {b nx ex:Int} {f:Int->Int} (hA:JY A f) (to:List Int) (hto:to.length≤90000000):PN [.int (ae (tD to)),E,T,L,A,tD to,ins, .int nx,V,fn, .int b, .int ex] [.int 0, .list []]=some [.int 0,tD (to.map (res f))]:=by
 rw[JG,fO];have key:∀k i:Nat,i+k=to.length->loW (Fw [.int (to.length:Int),E,T,L,A,tD to,ins, .int nx,V,fn, .int b, .int ex]) [.int (i:Int),tD ((to.take i).map (res f))]=some [.int 0,tD (to.map (res f))]:=by
  intro k
  induction k with
  |zero=>
   intro i hi;obtain rfl:i=to.length:=by omega
   rw[bD,CM,eP (bj _)];simp only[az,show¬((to.length:Int)<(to.length:Int))by omega,bl,aI]
  |succ k ih=>
   intro i hi;have hlt:i<to.length:=by omega
   have ih:=ih (i+1) (by omega)
   rw[vj hlt,ll,bW,jH]at ih;have hg:ah (ay (tD to) (i:Int))=to[i]:=by rw[m8 hlt,ne,cq hlt];rfl
   have hl:∀x,((to.take i).map (res f) ++ [x]).length≤1000000000:=fun x=>by simp;omega
   rw[bD,CM];simp only[hg,at_get hA,aC,az,cJ,bB,show(i:Int)<(to.length:Int)by omega,show(0:Int)≤(i:Int)by omega,be,aj,As hlt,fO,FO]
   rw[bk (by omega)]
   generalize to[i]=x at *;by_cases hx:0≤x
   ·have hr:res f x=f x:=by unfold res;rw[if_neg (by omega)]
    rw[hr]at ih;simp only[hx,be,aj,bq (hl (f x)) (show 8≤1000 by omega),aD]
    exact ih
   ·have hr:res f x=x:=by unfold res;rw[if_pos (by omega)]
    rw[hr]at ih;simp only[hx,bl,aI,aj,bq (hl x) (show 8≤1000 by omega),aD,be]
    exact ih
 have:=key to.length 0 (by omega)
 simpa[tD]using this
end Go.Proofs.YtiojjmlccehpoaaGreat
namespace Go.Proofs.YtiojjmlccehpoaaGreat
open Go Go.AM
theorem wfL_irr:∀(N M:Nat) (l:D) (b:Bool),Conf PG 36 l->l.size<N->l.size<M->wfL N b l->wfL M b l:=by
 intro N
 induction N with
 |zero=>intro M l b _ h;omega
 |succ N ih=>
  intro M l b hc h1 h2 hw;obtain⟨M,rfl⟩:∃m,M=m+1:=⟨M-1,by omega⟩
  intro s hs;obtain⟨w1,w2,w3⟩:=hw s hs;obtain⟨c1,c2⟩:=bZ hc hs
  exact⟨w1,w2,fun x hx=>by
   obtain⟨k1,k2⟩:=ba c1 hx
   exact ih M x _ k1 (by omega) (by omega) (w3 x hx)⟩
section
variable {v fn l:D} {b:Int} {ex:Nat} {ex':Int} {lp:Bool}
end
theorem ini_len (V:D) (b:Int) (l:List D):(l.flatMap (nc V b)).length=5*l.length:=by
 induction l with
 |nil=>rfl
 |cons x l ih=>rw[lk,bM,ih];simp[nc];omega
theorem clone48 {v:D} (lv:D.list v.toList=v) (h:v.toList.length≤1000):q48 [v]=some [.list v.toList]:=by
 have h1:bG (.list []) v = .list v.toList:=by
  rw[mT]
  show D.list ([]++v.toList) = .list v.toList
  rw[gj]
 have h2:([v]:List D).headD .other=v:=rfl;rw[WE];unfold F48;rw[h2,h1,bL,bq (by omega) (by omega),aj]
theorem first49 {V fn:D} {b:Int}:PO [.list [], .list [],V,fn, .int b, .int 0, .int 0]=some [.int 1, .int 1]:=by
 have h:=bk (i:=0) (by omega)
 simp only[b8]at h;rw[JH,YB,h]
 rfl
end Go.Proofs.YtiojjmlccehpoaaGreat
namespace Go.Proofs.YtiojjmlccehpoaaGreat
open Go Go.AM
def Pln (x:D):Prop:=(∃n o f w c a b:Int,x=ii n o f w c a b∧o≠20∧o≠23)∧q20 [x]=some [.bool true]
def G (nf nx:Nat) (x:D) (p:Int):Prop:=(p = -1∧Pln x)∨((x=jmp 0∨x=jmp 1)∧1≤p∧p≤(nx:Int))∨(x=ii 0 23 0 0 0 0 0∧p≤ -2∧ -2-p<(nf:Int))
structure SimP (nf:Nat) (S:PS):Prop where
 at_:∃f,JY S.A f∧∀p,0≤f p∧f p≤(S.ins.length:Int)
 len:S.to.length=S.ins.length
 zp:∀q∈S.ins.zip S.to,G nf S.nx q.1 q.2
 lrng:∀x∈S.L,1≤x.2∧x.2≤(S.nx:Int)
theorem G.up {nf nx nx' x p} (h:G nf nx x p) (hn:nx≤nx'):G nf nx' x p:=by
 rcases h with h|⟨h,h1,h2⟩|h
 ·exact .inl h
 ·exact .inr (.inl ⟨h,h1,by omega⟩)
 ·exact .inr (.inr h)
theorem Az:∀{c:List D} {q:D×Int},q∈c.zip (bz c)->q.1∈c∧q.2 = -1
 | [],_,h=>by simp[bz]at h
 |x::c,q,h=>by
  have h':q=(x, -1)∨q∈c.zip (bz c):=by simpa[bz]using h
  rcases h' with rfl|h'
  ·exact⟨by simp,rfl⟩
  ·have:=Az h';exact⟨by simp[this.1],this.2⟩
theorem fbUp {A:D} {n m:Nat} (h:∃f,JY A f∧∀p,0≤f p∧f p≤(n:Int)) (hm:n≤m):∃f,JY A f∧∀p,0≤f p∧f p≤(m:Int):=by
 obtain⟨f,h1,h2⟩:=h;exact⟨f,h1,fun p=>⟨(h2 p).1,by have:=(h2 p).2;omega⟩⟩
theorem SimP.emit {nf S} (h:SimP nf S) {c:List D} (hc:∀x∈c,Pln x):SimP nf {S with to:=S.to++bz c,ins:=S.ins++c}:=
 {at_:=fbUp h.at_ (by simp),len:=by simp[h.len,Au],lrng:=h.lrng,
  zp:=fun q hq=>by
   simp only at hq;rw[List.zip_append h.len.symm]at hq;rcases cV.1 hq with hq|hq
   ·exact h.zp q hq
   ·obtain⟨h1,h2⟩:=Az hq
    exact .inl ⟨h2,hc _ h1⟩}
theorem SimP.put {nf S} (h:SimP nf S) {i:D} {p:Int} (hg:G nf S.nx i p):SimP nf {S with to:=S.to ++ [p],ins:=S.ins ++ [i]}:=
 {at_:=fbUp h.at_ (by simp),len:=by simp[h.len],lrng:=h.lrng,
  zp:=fun q hq=>by
   simp only at hq;rw[List.zip_append h.len.symm]at hq;rcases cV.1 hq with hq|hq
   ·exact h.zp q hq
   ·simp at hq;subst hq;exact hg}
theorem SimP.push {nf S} (h:SimP nf S) {i:D} (hi:i=jmp 0∨i=jmp 1) {p:Nat} (h1:1≤p) (h2:p≤S.nx):SimP nf {S with to:=S.to ++ [(p:Int)],ins:=S.ins ++ [i]}:=
 h.put (.inr (.inl ⟨hi,by omega,by omega⟩))
theorem SimP.up {nf S} (h:SimP nf S) {n:Nat} (hn:S.nx≤n):SimP nf {S with nx:=n}:=
 {at_:=h.at_,len:=h.len,zp:=fun q hq=>(h.zp q hq).up hn,lrng:=fun x hx=>by have:=h.lrng x hx;exact⟨this.1,by simp;omega⟩}
theorem SimP.here {nf S} (h:SimP nf S) (p:Int):SimP nf {S with A:=dN 106 S.A (.int p) (.int (S.ins.length:Int))}:=
 {at_:=by
   obtain⟨f,h1,h2⟩:=h.at_;refine⟨_,Zg h1 _ _,fun q=> ?_⟩
   simp only;split
   ·exact⟨by omega,by omega⟩
   ·exact h2 q
  len:=h.len,zp:=h.zp,lrng:=h.lrng}
theorem SimP.addLab {nf S} (h:SimP nf S) (n:ByteArray) {p:Nat} (h1:1≤p) (h2:p≤S.nx):SimP nf {S with L:=S.L ++ [(n,(p:Int))]}:=
 {at_:=h.at_,len:=h.len,zp:=h.zp,lrng:=fun x hx=>by
   rcases cV.1 hx with hx|hx
   ·exact h.lrng x hx
   ·simp at hx;subst hx;exact⟨by simp;omega,by simp;omega⟩}
def bO (S:PS) (ts:List Int) (c:Nat):Prop:=S.ins.length+c≤80000000∧S.nx+c≤80000000∧S.L.length+c≤80000000∧ts.length+c≤80000000
structure CtxP (nx:Nat) (lp:Bool) (ts es:List Int) (ex:Nat):Prop where
 t:lp=true->∃l p,ts=l ++ [((p:Nat):Int)]∧1≤p∧p≤nx
 e:lp=true->∃l p,es=l ++ [((p:Nat):Int)]∧1≤p∧p≤nx
 x1:1≤ex
 x2:ex≤nx
 len:es.length=ts.length
theorem CtxP.up {nx nx' lp ts es ex} (h:CtxP nx lp ts es ex) (hn:nx≤nx'):CtxP nx' lp ts es ex:=
 ⟨fun hl=>by obtain⟨l,p,h1,h2,h3⟩:=h.t hl;exact⟨l,p,h1,h2,by omega⟩,
  fun hl=>by obtain⟨l,p,h1,h2,h3⟩:=h.e hl;exact⟨l,p,h1,h2,by omega⟩,
  h.x1,by have:=h.x2;omega,h.len⟩
def One (nf:Nat) (Q:uAC) (v fn:D) (b:Int) (ex:Nat) (s:D) (es ts:List Int) (S:PS) (c:Nat):Prop:=
 ∃S',Q (fv v fn b ex s es ts S)=some (eh es ts S')∧SimP nf S'∧S.nx≤S'.nx∧bO S' ts c
def OkP (nf:Nat) (Q:uAC) (v fn:D) (b:Int) (ex:Nat) (s:D) (lp:Bool) (k:Nat):Prop:=
 ∀(es ts:List Int) (S:PS) (c:Nat),SimP nf S->CtxP S.nx lp ts es ex->bO S ts (k+c)->One nf Q v fn b ex s es ts S c
theorem One.code {nf Q v fn b ex s es ts S c} {k:Nat} (hs:SimP nf S) (l:List D) (hp:∀x∈l,Pln x) (hl:l.length≤k) (hb:bO S ts (k+c))
 (h1:Q (fv v fn b ex s es ts S)=some (eh es ts {S with to:=S.to++bz l,ins:=S.ins++l})):One nf Q v fn b ex s es ts S c:=
 ⟨_,h1,hs.emit hp,bj _,by unfold bO at hb ⊢;simp;omega⟩
theorem J4 {nf:Nat} {v fn:D} {b:Int} {ex:Nat} {l:D} {es ts:List Int} {lp:Bool} {stP:List D->Option (Sum (List D) (List D))} {cP:uAC} {cost:D->Nat}
 (hP:∀i S S',i<l.toList.length->cP (fv v fn b ex (l.toList.getD i .other) es ts S)=some (eh es ts S')->stP (qi i es ts S)=some (.inl (qi (i+1) es ts S')))
 (hP0:∀S,stP (qi l.toList.length es ts S)=some (.inr (.int 0::eh es ts S)))
 (hs:∀s∈l.toList,∀S c,SimP nf S->CtxP S.nx lp ts es ex->bO S ts (cost s+c)->One nf cP v fn b ex s es ts S c):
 ∀(k i:Nat) S c,i+k=l.toList.length->SimP nf S->CtxP S.nx lp ts es ex->bO S ts (((l.toList.drop i).map cost).sum+c)->∃S',loW stP (qi i es ts S)=some (.int 0::eh es ts S')∧SimP nf S'∧S.nx≤S'.nx∧bO S' ts c:=by
 intro k
 induction k with
 |zero=>
  intro i S c hi hsim hctx hb;obtain rfl:i=l.toList.length:=by omega
  rw[lE (bj _)]at hb;exact⟨S,by rw[bD,hP0],hsim,bj _,by simpa using hb⟩
 |succ k ih=>
  intro i S c hi hsim hctx hb;have hlt:i<l.toList.length:=by omega
  rw[lC hlt,bW,fR,nj]at hb;have hm:l.toList.getD i .other=l.toList[i]:=getD_lt hlt;obtain⟨S1,p1,s1,x1,b1⟩:=hs l.toList[i] (b7 hlt) S _ hsim hctx hb;rw[<- hm]at p1;obtain⟨S2,p2,s2,x2,b2⟩:=ih (i+1) S1 c (by omega) s1 (hctx.up x1) b1
  refine⟨S2,?_,s2,by omega,b2⟩
  rw[bD,hP i S S1 hlt p1];exact p2
theorem vl {n o f w c a b k sh:Int} (h81:q81 [ii n o f w c a b]=some [.int k, .int sh, .bool true]) (ha:0≤a∧a<8) (hb:0≤b∧b<8) (hk:Y3 [ii n o f w c a b, .int sh]=some [ii n o f w c a b]) (hn:sh=4∨sh=5->n≤127) (h7:sh≠7):q20 [ii n o f w c a b]=some [.bool true]:=by
 have h69:q69 [ii n o f w c a b]=some [.int k, .int sh, .int 0]:=by
  rw[Y6,F69_eq,h81];simp only[aq,ax,bf,bt,aC,aK,bI,bX,aI,aj,hk,dV,aD,bB,az,cJ,bN,ha,hb,be,au,h7,bl];by_cases h4:sh=4∨sh=5
  ·have:=hn h4;simp[this,ha.1,ha.2,hb.1,hb.2,au,h7]
  ·have h1:¬sh=4:=fun h=>h4 (.inl h)
   have h2:¬sh=5:=fun h=>h4 (.inr h)
   simp[h1,h2,ha.1,ha.2,hb.1,hb.2,au,h7]
 rw[Y7,F20_eq,h69];simp[aq,ax,aC,aD]
set_option linter.defProp false in
def vs:=And.intro @aD<|And.intro @bB<|And.intro @cJ<|And.intro @az<|And.intro @b9<|And.intro @bN<|And.intro @dV<|And.intro @aC<|And.intro @aK<|And.intro @aq<|And.intro @ax iV
theorem kp {n o f w c a b:Int} (sh:Int) (h20:o≠20) (h23:o≠23) (h81:∃k,q81 [ii n o f w c a b]=some [.int k, .int sh, .bool true]) (ha:0≤a∧a<8) (hb:0≤b∧b<8) (hk:Y3 [ii n o f w c a b, .int sh]=some [ii n o f w c a b]) (hn:sh=4∨sh=5->n≤127) (h7:sh≠7):Pln (ii n o f w c a b):=
 ⟨⟨n,o,f,w,c,a,b,rfl,h20,h23⟩,by obtain⟨k,h81⟩:=h81;exact vl h81 ha hb hk hn h7⟩
theorem pl_1:Pln (ii 0 1 0 0 0 0 0):=kp 0 (by omega) (by omega) ⟨_,by rw[eO,fh];simp[vs];rfl⟩ (by omega) (by omega) (by rw[dG,dX];simp[vs]) (by omega) (by omega)
theorem pl_2:Pln (ii 0 2 0 0 0 0 0):=kp 0 (by omega) (by omega) ⟨_,by rw[eO,fh];simp[vs];rfl⟩ (by omega) (by omega) (by rw[dG,dX];simp[vs]) (by omega) (by omega)
theorem pl_3:Pln (ii 0 3 0 0 0 0 0):=kp 1 (by omega) (by omega) ⟨_,by rw[eO,fh];simp[vs];rfl⟩ (by omega) (by omega) (by rw[dG,dX];simp[vs]) (by omega) (by omega)
theorem pl_4 (a:Int) (h1:0≤a) (h2:a<8):Pln (ii 0 4 0 0 0 a 0):=kp 1 (by omega) (by omega) ⟨_,by rw[eO,fh];simp[vs];rfl⟩ (by omega) (by omega) (by rw[dG,dX];simp[vs]) (by omega) (by omega)
theorem J5 (n a:Int) (h1:0≤a) (h2:a<8):Pln (ii n 5 2 0 0 a 0):=kp 6 (by omega) (by omega) ⟨_,by rw[eO,fh];simp[vs];rfl⟩ (by omega) (by omega) (by rw[dG,dX];simp[vs]) (by omega) (by omega)
theorem pl_b (n o:Int) (h1:5≤o) (h2:o≤15) (hn:n≤127):Pln (ii n o 1 0 0 0 0):=by
 have e0:¬o=0:=by omega
 have e1:¬o=1:=by omega
 have e2:¬o=2:=by omega
 have e3:¬o=3:=by omega
 have e4:¬o=4:=by omega
 exact kp 4 (by omega) (by omega) ⟨_,by rw[eO,fh];simp[vs,e0,e1,e2,e3,e4,h1,h2];rfl⟩ (by omega) (by omega) (by rw[dG,dX];simp[vs,h1,h2]) (by omega) (by omega)
theorem Zt (o a b:Int) (h1:5≤o) (h2:o≤15) (ha:0≤a∧a<8) (hb:0≤b∧b<8):Pln (ii 0 o 0 0 0 a b):=by
 have e0:¬o=0:=by omega
 have e1:¬o=1:=by omega
 have e2:¬o=2:=by omega
 have e3:¬o=3:=by omega
 have e4:¬o=4:=by omega
 exact kp 3 (by omega) (by omega) ⟨_,by rw[eO,fh];simp[vs,e0,e1,e2,e3,e4,h1,h2];rfl⟩ ha hb (by rw[dG,dX];simp[vs,h1,h2]) (by omega) (by omega)
theorem pl_5b:Pln (ii 0 5 1 0 0 0 0):=pl_b 0 5 (by omega) (by omega) (by omega)
theorem Zu (n:Int) (_:0≤n) (h:n≤127):Pln (ii n 15 1 0 0 0 0):=pl_b n 15 (by omega) (by omega) h
theorem Zv {w:Int} (b:Int) (h1:0≤b) (h2:b<8) (hw:w=1∨w=2∨w=4):Pln (ii 0 16 0 w 0 0 b):=by
 have key:∃k,q81 [ii 0 16 0 w 0 0 b]=some [.int k, .int 5, .bool true]:=by
  rw[eO,fh,FM,PW];rcases hw with rfl|rfl|rfl<;>exact⟨_,by simp[vs];rfl⟩
 exact kp 5 (by omega) (by omega) key (by omega) (by omega) (by rw[dG,dX];simp[vs]) (by omega) (by omega)
theorem Zw {w:Int} (hw:w=1∨w=2∨w=4):Pln (ii 0 18 0 w 0 0 2):=by
 have key:∃k,q81 [ii 0 18 0 w 0 0 2]=some [.int k, .int 5, .bool true]:=by
  rw[eO,fh,FM,PW];rcases hw with rfl|rfl|rfl<;>exact⟨_,by simp[vs];rfl⟩
 exact kp 5 (by omega) (by omega) key (by omega) (by omega) (by rw[dG,dX];simp[vs]) (by omega) (by omega)
theorem pl_21:Pln (ii 0 21 0 0 0 0 0):=kp 2 (by omega) (by omega) ⟨_,by rw[eO,fh];simp[vs];rfl⟩ (by omega) (by omega) (by rw[dG,dX];simp[vs]) (by omega) (by omega)
theorem pl_26:Pln (ii 0 26 0 0 0 0 0):=kp 2 (by omega) (by omega) ⟨_,by rw[eO,fh];simp[vs];rfl⟩ (by omega) (by omega) (by rw[dG,dX];simp[vs]) (by omega) (by omega)
theorem pl_27:Pln (ii 0 27 0 0 0 0 0):=kp 2 (by omega) (by omega) ⟨_,by rw[eO,fh];simp[vs];rfl⟩ (by omega) (by omega) (by rw[dG,dX];simp[vs]) (by omega) (by omega)
theorem pl_25 (c:Int) (h1:0≤c) (h2:c≤14):Pln (ii 0 25 0 0 c 0 0):=by
 have key:∃k,q81 [ii 0 25 0 0 c 0 0]=some [.int k, .int 2, .bool true]:=by
  rw[eO,fh,FN,PX];exact⟨_,by simp[vs,show¬c<0 by omega,show¬14<c by omega];rfl⟩
 exact kp 2 (by omega) (by omega) key (by omega) (by omega) (by rw[dG,dX];simp[vs]) (by omega) (by omega)
theorem Zx (c:Int) (h1:0≤c) (h2:c≤14):q20 [jmp c]=some [.bool true]:=by
 have key:∃k,q81 [ii 0 20 2 0 c 0 0]=some [.int k, .int 8, .bool true]:=by
  rw[eO,fh,FN,PX];exact⟨_,by simp[vs,show¬c<0 by omega,show¬14<c by omega];rfl⟩
 obtain⟨k,hk⟩:=key;exact vl hk (by omega) (by omega) (by rw[dG,dX];simp[vs]) (by omega) (by omega)
theorem vl_call:q20 [ii 0 23 0 0 0 0 0]=some [.bool true]:=vl (k:=128) (sh:=8) (by rw[eO,fh];simp[vs]) (by omega) (by omega) (by rw[dG,dX];simp[vs]) (by omega) (by omega)
theorem Qc {n:Int} (h0:0≤n) (h1:n≤4294967295):fA .u32 n=n:=by
 rw[F6];simp only[IntKind.wrap,IntKind.bits,IntKind.signed];simp;omega
theorem mul64 {a b:Int} (h0: -9223372036854775808≤a*b) (h1:a*b≤9223372036854775807):aM .mul .i64 a b=a*b:=by rw[eI];exact wrap64 h0 h1
theorem pl_cs (i:Nat) (h:i≤64):Pln (csC i):=by
 unfold csC;rw[Qc (by omega) (by omega)]
 exact Zu _ (by omega) (by omega)
theorem NF {v:D} {b:Int} {n:ByteArray}:∀x∈lB v b n,Pln x:=by
 intro x hx;simp only[lB,cy,fx,fz]at hx;rcases hx with rfl|rfl
 ·exact J5 _ 2 (by omega) (by omega)
 ·exact Zw (.inr (.inr rfl))
theorem pl_tail {o:Int} (h1:3≤o) (h2:o≤15):∀x∈tK o,Pln x:=by
 intro x hx;have h:o=3∨o=4∨o=5∨o=6∨o=7∨o=8∨o=9∨o=10∨o=11∨o=12∨o=13∨o=14∨o=15:=by omega
 rcases h with rfl|rfl|rfl|rfl|rfl|rfl|rfl|rfl|rfl|rfl|rfl|rfl|rfl<;>simp[tK,arO,ccO]at hx
 all_goals first
  | (subst hx;exact Zt _ _ _ (by omega) (by omega) (by omega) (by omega))
  | (rcases hx with rfl|rfl;exact Zt _ _ _ (by omega) (by omega) (by omega) (by omega);exact pl_25 _ (by omega) (by omega))
theorem pl_un {d:D} (h:head d=true) (h16:16≤ah (d.fld 0)):∀x∈unary d,Pln x:=by
 intro x hx;unfold head Jm at h;have hc:ah (d.fld 0)=16∨ah (d.fld 0)=17∨(ah (d.fld 0)=18∧(ah (d.fld 3)=1∨ah (d.fld 3)=2∨ah (d.fld 3)=4))∨(ah (d.fld 0)=19∧(ah (d.fld 3)=1∨ah (d.fld 3)=2)):=by
  generalize ah (d.fld 0)=o at h h16;rw[if_neg (by omega),if_neg (by omega),if_neg (by omega)]at h
  repeat' split at h
  ·rename_i h;omega
  ·simp only[bn,lI,cl]at h;omega
  ·simp only[bn,lI,cl]at h;omega
  ·cases h
 have hs:ah (d.fld 0)=19->0≤shf d∧shf d≤127:=fun h19=>by
  have hw:ah (d.fld 3)=1∨ah (d.fld 3)=2:=by omega
  unfold shf;rcases hw with hw|hw<;>rw[hw,mul64 (by omega) (by omega),fp (by omega) (by omega),Qc (by omega) (by omega)]<;>omega
 unfold unary at hx;rcases hc with hc|hc|⟨hc,hw⟩|⟨hc,hw⟩
 ·simp[hc]at hx;rcases hx with rfl|rfl
  ·exact Zu 0 (by omega) (by omega)
  ·exact pl_25 1 (by omega) (by omega)
 ·simp[hc]at hx;rcases hx with rfl|rfl|rfl
  ·exact Zt 5 1 0 (by omega) (by omega) (by omega) (by omega)
  ·exact pl_5b
  ·exact Zt 7 0 1 (by omega) (by omega) (by omega) (by omega)
 ·simp[hc]at hx;subst hx;exact Zv 0 (by omega) (by omega) hw
 ·have:=hs hc;simp[hc]at hx;rcases hx with rfl|rfl
  ·exact pl_b _ 12 (by omega) (by omega) this.2
  ·exact pl_b _ 14 (by omega) (by omega) this.2
theorem pl_code {v:D} {b:Int}:∀(N:Nat) (d:D),fmd N d=true->∀x∈code v b N d,Pln x:=by
 intro N
 induction N with
 |zero=>intro d _ x hx;simp[code]at hx
 |succ N ih=>
  intro d h x hx;simp only[fmd,bn,bV]at h;have hm:=h.1;simp only[code]at hx;rcases lc hm with⟨ho,hz⟩|⟨ho,hz⟩|⟨ho,hz⟩|⟨ho,hz⟩
  ·simp[ho]at hx;subst hx;exact J5 _ 0 (by omega) (by omega)
  ·simp[ho]at hx;rcases hx with rfl|rfl
   ·exact J5 _ 2 (by omega) (by omega)
   ·exact Zv 2 (by omega) (by omega) (.inr (.inr rfl))
  ·have m0:=(gN (d:=d) (i:=0) (by omega)).2
   have m1:=(gN (d:=d) (i:=1) (by omega)).2
   simp only[b8,nI]at m0 m1;rw[if_neg (by omega),if_neg (by omega),if_pos (by omega)]at hx
   simp only[cV,cy,fx,fz]at hx;rcases hx with(((hx|rfl)|hx)|rfl|rfl)|hx
   ·exact ih _ (h.2 _ m0) x hx
   ·exact pl_3
   ·exact ih _ (h.2 _ m1) x hx
   ·exact Zt 5 1 0 (by omega) (by omega) (by omega) (by omega)
   ·exact pl_4 0 (by omega) (by omega)
   ·exact pl_tail ho.1 ho.2 x hx
  ·have m0:=(gN (d:=d) (i:=0) (by omega)).2
   simp only[b8]at m0;rw[if_neg (by omega),if_neg (by omega),if_neg (by omega)]at hx
   rcases cV.1 hx with hx|hx
   ·exact ih _ (h.2 _ m0) x hx
   ·exact pl_un hm (by omega) x hx
theorem C3 {v d:D} {b:Int} (h:fm d=true):∀x∈cx v b d,Pln x:=pl_code _ d h
end Go.Proofs.YtiojjmlccehpoaaGreat
namespace Go.Proofs.YtiojjmlccehpoaaGreat
open Go Go.AM
section
variable {Q:uAC} {nf:Nat} {v fn s:D} {b:Int} {ex:Nat} {es ts:List Int} {S:PS} {c:Nat} {lp:Bool}
set_option maxHeartbeats 4000000 in
theorem ps1 (hs:SimP nf S) (hv:v.toList.length≤maxLen) (hk:ah (aa s 0)=1) (hw:stB s=true) (h3:(aa s 3).toList.length=1) (hb:bO S ts (40+6*ndS s+c)):One nf (eN Q) v fn b ex s es ts S c:=by
 have hf:fm (ay (aa s 3) 0)=true:=oz (i:=0) hw (by omega)
 rw[J1 h3]at hb;have r2:=hs.len;unfold bO at hb;have hl:=oy (v:=v) (b:=b) hf;have hin:aS (aa s 3) 0=true:=aZ (i:=0) (by omega)
 refine One.code (k:=40+6*nd (ay (aa s 3) 0)) hs (cx v b (ay (aa s 3) 0)++lB v b (aB (aa s 2))) (by intro x hx;rcases cV.1 hx with hx|hx;exact C3 hf x hx;exact NF x hx) (by simp[lB];omega) (by unfold bO;exact hb) ?_
 ·have e1:=hO (E:=tD es) (T:=tD ts) (L:=lD S.L) (A:=S.A) (fn:=fn) (nx:=(S.nx:Int)) (ex:=(ex:Int)) (b:=b) hv hf (to:=S.to) (ins:=S.ins) (by omega) (by omega)
  have e2:=mK (E:=tD es) (T:=tD ts) (L:=lD S.L) (A:=S.A) (fn:=fn) (nx:=(S.nx:Int)) (ex:=(ex:Int)) (b:=b) hv (n:=aB (aa s 2)) (to:=S.to++bz (cx v b (ay (aa s 3) 0))) (ins:=S.ins++cx v b (ay (aa s 3) 0)) (by simp[bz];omega) (by simp;omega)
  unfold fv eh;rw[cK,hk];simp only[cm,hin,e1,e2];simp[bz]
set_option maxHeartbeats 4000000 in
theorem ps4 (hs:SimP nf S) (hv:v.toList.length≤maxLen) (hk:ah (aa s 0)=4) (hw:stB s=true) (h3:(aa s 3).toList.length=1) (hb:bO S ts (40+6*ndS s+c)):One nf (eN Q) v fn b ex s es ts S c:=by
 have hf:fm (ay (aa s 3) 0)=true:=oz (i:=0) hw (by omega)
 rw[J1 h3]at hb;have r2:=hs.len;unfold bO at hb;have hl:=oy (v:=v) (b:=b) hf;have hin:aS (aa s 3) 0=true:=aZ (i:=0) (by omega)
 have ha:D.agg [.int 0, .int 0, .int 27, .int 0, .int 0, .int 0, .int 0, .int 0, .int 0]=ii 0 27 0 0 0 0 0:=rfl;refine One.code (k:=40+6*nd (ay (aa s 3) 0)) hs (cx v b (ay (aa s 3) 0) ++ [ii 0 27 0 0 0 0 0]) (by intro x hx;rcases cV.1 hx with hx|hx;exact C3 hf x hx;simp at hx;subst hx;exact pl_27) (by simp;omega) (by unfold bO;exact hb) ?_
 ·have e1:=hO (E:=tD es) (T:=tD ts) (L:=lD S.L) (A:=S.A) (fn:=fn) (nx:=(S.nx:Int)) (ex:=(ex:Int)) (b:=b) hv hf (to:=S.to) (ins:=S.ins) (by omega) (by omega)
  have e2:=dp (E:=tD es) (T:=tD ts) (L:=lD S.L) (A:=S.A) (fn:=fn) (nx:=(S.nx:Int)) (ex:=(ex:Int)) (b:=b) (v:=v) (l:=[ii 0 27 0 0 0 0 0]) (to:=S.to++bz (cx v b (ay (aa s 3) 0))) (ins:=S.ins++cx v b (ay (aa s 3) 0)) (by simp) (by first|omega|(simp[bz];omega)) (by first|omega|(simp;omega)) (by intro x hx;simp only[cy,fx,fz]at hx;rcases hx with rfl<;>exact cu ..)
  unfold fv eh;rw[cK,hk,ha];simp only[cm,Int.reduceEq,hin,e1,e2];simp[bz]
set_option maxHeartbeats 4000000 in
theorem ps2 (hs:SimP nf S) (hv:v.toList.length≤maxLen) (hk:ah (aa s 0)=2) (hw:stB s=true) (h3:(aa s 3).toList.length=2) (hwd:ah (aa s 1)=1∨ah (aa s 1)=2∨ah (aa s 1)=4) (hb:bO S ts (40+6*ndS s+c)):One nf (eN Q) v fn b ex s es ts S c:=by
 have hf:fm (ay (aa s 3) 0)=true:=oz (i:=0) hw (by omega)
 have hf1:fm (ay (aa s 3) 1)=true:=oz (i:=1) hw (by omega)
 rw[ndS_2 h3]at hb;have r2:=hs.len;unfold bO at hb;have hl:=oy (v:=v) (b:=b) hf;have hin:aS (aa s 3) 0=true:=aZ (i:=0) (by omega)
 have hl1:=oy (v:=v) (b:=b) hf1;have hin1:aS (aa s 3) 1=true:=aZ (i:=1) (by omega)
 have ha:D.agg [.int 0, .int 0, .int 3, .int 0, .int 0, .int 0, .int 0, .int 0, .int 0]=ii 0 3 0 0 0 0 0:=rfl;have hb4:D.agg [.int 0, .int 0, .int 4, .int 0, .int 0, .int 0, .int 2, .int 0, .int 0]=ii 0 4 0 0 0 2 0:=rfl;have hc:D.agg [.int 0, .int 0, .int 18, .int 0, .int (ah (aa s 1)), .int 0, .int 0, .int 2, .int 0]=ii 0 18 0 (ah (aa s 1)) 0 0 2:=rfl;refine One.code (k:=40+6*(nd (ay (aa s 3) 0)+nd (ay (aa s 3) 1))) hs (cx v b (ay (aa s 3) 0) ++ [ii 0 3 0 0 0 0 0]++cx v b (ay (aa s 3) 1) ++ [ii 0 4 0 0 0 2 0,ii 0 18 0 (ah (aa s 1)) 0 0 2]) (by intro x hx;simp only[cV,cy,fx,fz]at hx;rcases hx with((hx|rfl)|hx)|rfl|rfl;exact C3 hf x hx;exact pl_3;exact C3 hf1 x hx;exact pl_4 2 (by omega) (by omega);exact Zw hwd) (by simp;omega) (by unfold bO;exact hb) ?_
 ·have e1:=hO (E:=tD es) (T:=tD ts) (L:=lD S.L) (A:=S.A) (fn:=fn) (nx:=(S.nx:Int)) (ex:=(ex:Int)) (b:=b) hv hf (to:=S.to) (ins:=S.ins) (by omega) (by omega)
  have e2:=dp (E:=tD es) (T:=tD ts) (L:=lD S.L) (A:=S.A) (fn:=fn) (nx:=(S.nx:Int)) (ex:=(ex:Int)) (b:=b) (v:=v) (l:=[ii 0 3 0 0 0 0 0]) (to:=S.to++bz (cx v b (ay (aa s 3) 0))) (ins:=S.ins++cx v b (ay (aa s 3) 0)) (by simp) (by first|omega|(simp[bz];omega)) (by first|omega|(simp;omega)) (by intro x hx;simp only[cy,fx,fz]at hx;rcases hx with rfl<;>exact cu ..)
  have e3:=hO (E:=tD es) (T:=tD ts) (L:=lD S.L) (A:=S.A) (fn:=fn) (nx:=(S.nx:Int)) (ex:=(ex:Int)) (b:=b) hv hf1 (to:=S.to++bz (cx v b (ay (aa s 3) 0))++bz [ii 0 3 0 0 0 0 0]) (ins:=S.ins++cx v b (ay (aa s 3) 0) ++ [ii 0 3 0 0 0 0 0]) (by simp[bz];omega) (by simp;omega)
  have e4:=dp (E:=tD es) (T:=tD ts) (L:=lD S.L) (A:=S.A) (fn:=fn) (nx:=(S.nx:Int)) (ex:=(ex:Int)) (b:=b) (v:=v) (l:=[ii 0 4 0 0 0 2 0,ii 0 18 0 (ah (aa s 1)) 0 0 2]) (to:=S.to++bz (cx v b (ay (aa s 3) 0))++bz [ii 0 3 0 0 0 0 0]++bz (cx v b (ay (aa s 3) 1))) (ins:=S.ins++cx v b (ay (aa s 3) 0) ++ [ii 0 3 0 0 0 0 0]++cx v b (ay (aa s 3) 1)) (by simp) (by first|omega|(simp[bz];omega)) (by first|omega|(simp;omega)) (by intro x hx;simp only[cy,fx,fz]at hx;rcases hx with rfl|rfl<;>exact cu ..)
  unfold fv eh;rw[cK,hk,ha,hb4,hc];simp only[cm,Int.reduceEq,hin,hin1,e1,e2,e3,e4];simp[bz]
set_option maxHeartbeats 4000000 in
theorem ps3 (hs:SimP nf S) (hv:v.toList.length≤maxLen) (hk:ah (aa s 0)=3) (hb:bO S ts (40+6*ndS s+c)):One nf (eN Q) v fn b ex s es ts S c:=by
 have r2:=hs.len;unfold bO at hb;have ha:D.agg [.int 0, .int 0, .int 26, .int 0, .int 0, .int 0, .int 0, .int 0, .int 0]=ii 0 26 0 0 0 0 0:=rfl;refine One.code (k:=40+6*ndS s) hs ([ii 0 26 0 0 0 0 0]++lB v b (aB (aa s 2))) (by intro x hx;simp only[cV,cy,fx,fz]at hx;rcases hx with rfl|hx;exact pl_26;exact NF x hx) (by simp[lB];omega) (by unfold bO;exact hb) ?_
 ·have e1:=dp (E:=tD es) (T:=tD ts) (L:=lD S.L) (A:=S.A) (fn:=fn) (nx:=(S.nx:Int)) (ex:=(ex:Int)) (b:=b) (v:=v) (l:=[ii 0 26 0 0 0 0 0]) (to:=S.to) (ins:=S.ins) (by simp) (by first|omega|(simp[bz];omega)) (by first|omega|(simp;omega)) (by intro x hx;simp only[cy,fx,fz]at hx;rcases hx with rfl<;>exact cu ..)
  have e2:=mK (E:=tD es) (T:=tD ts) (L:=lD S.L) (A:=S.A) (fn:=fn) (nx:=(S.nx:Int)) (ex:=(ex:Int)) (b:=b) hv (n:=aB (aa s 2)) (to:=S.to++bz [ii 0 26 0 0 0 0 0]) (ins:=S.ins ++ [ii 0 26 0 0 0 0 0]) (by simp[bz];omega) (by simp;omega)
  unfold fv eh;rw[cK,hk,ha];simp only[cm,Int.reduceEq,e1,e2];simp[bz]
set_option maxHeartbeats 4000000 in
theorem ps15 (hs:SimP nf S) (hv:v.toList.length≤maxLen) (hk:ah (aa s 0)=15) (hb:bO S ts (40+6*ndS s+c)):One nf (eN Q) v fn b ex s es ts S c:=by
 have r2:=hs.len;unfold bO at hb;have ha:D.agg [.int 0, .int 0, .int 1, .int 0, .int 0, .int 0, .int 0, .int 0, .int 0]=ii 0 1 0 0 0 0 0:=rfl;refine One.code (k:=40+6*ndS s) hs [ii 0 1 0 0 0 0 0] (by intro x hx;simp at hx;subst hx;exact pl_1) (by simp;omega) (by unfold bO;exact hb) ?_
 ·have e1:=dp (E:=tD es) (T:=tD ts) (L:=lD S.L) (A:=S.A) (fn:=fn) (nx:=(S.nx:Int)) (ex:=(ex:Int)) (b:=b) (v:=v) (l:=[ii 0 1 0 0 0 0 0]) (to:=S.to) (ins:=S.ins) (by simp) (by first|omega|(simp[bz];omega)) (by first|omega|(simp;omega)) (by intro x hx;simp only[cy,fx,fz]at hx;rcases hx with rfl<;>exact cu ..)
  unfold fv eh;rw[cK,hk,ha];simp only[cm,Int.reduceEq,e1]
set_option maxHeartbeats 4000000 in
theorem ps5 (hs:SimP nf S) (hv:v.toList.length≤maxLen) (hk:ah (aa s 0)=5) (hfn:fn.toList.length≤maxLen) (hnf:nf=fn.toList.length) (hmem:dW fn (aB (aa s 2))=true) (hb:bO S ts (40+6*ndS s+c)):One nf (eN Q) v fn b ex s es ts S c:=by
 have r2:=hs.len;unfold bO at hb;have ha:D.agg [.int 0, .int 0, .int 23, .int 0, .int 0, .int 0, .int 0, .int 0, .int 0]=ii 0 23 0 0 0 0 0:=rfl;obtain⟨j,j1,j2,j5,j3,j4⟩:=u7 hfn (aB (aa s 2));have hj:aM .sub .i64 (-2) j = -2-j:=fp (by unfold maxLen at hfn;omega) (by omega)
 have hj0:0≤j:=by rw[hmem]at j5;simpa using j5
 refine⟨_,?_,hs.put (i:=ii 0 23 0 0 0 0 0) (p:= -2-j) (.inr (.inr ⟨rfl,by omega,by omega⟩)),bj _,by unfold bO;simp;omega⟩
 ·have e1:=NB (E:=tD es) (T:=tD ts) (L:=lD S.L) (A:=S.A) (fn:=fn) (nx:=(S.nx:Int)) (ex:=(ex:Int)) (v:=v) (b:=b) (y:=tD S.to) (l:=[ii 0 23 0 0 0 0 0]) (s:=S.ins) (by simp) (by omega)
  have e2:Jc [tD es,tD ts,lD S.L,S.A, .list (S.ins ++ [ii 0 23 0 0 0 0 0]), .int (S.nx:Int),v,fn, .int b, .int (ex:Int), .list [.int (-2-j)],tD S.to]=some [.list (S.to.map .int ++ [.int (-2-j)])]:=NC (l:=[.int (-2-j)]) (s:=S.to.map .int) (by simp) (by simp;omega)
  unfold fv eh;rw[cK,hk,ha];simp only[cm,Int.reduceEq,e1,j1,hj,e2];simp[tD]
set_option maxHeartbeats 4000000 in
theorem ps14 (hs:SimP nf S) (hv:v.toList.length≤maxLen) (hk:ah (aa s 0)=14) (hc:CtxP S.nx lp ts es ex) (hb:bO S ts (40+6*ndS s+c)):One nf (eN Q) v fn b ex s es ts S c:=by
 have r2:=hs.len;unfold bO at hb;refine⟨_,?_,hs.push (i:=jmp 0) (.inl rfl) (p:=ex) hc.x1 hc.x2,bj _,by unfold bO;simp;omega⟩
 ·have e1:=eM (E:=tD es) (T:=tD ts) (L:=lD S.L) (A:=S.A) (fn:=fn) (nx:=(S.nx:Int)) (ex:=(ex:Int)) (b:=b) (v:=v) (cc:=0) (p:=(ex:Int)) (to:=S.to) (ins:=S.ins) (by omega) (by omega)
  unfold fv eh;rw[cK,hk];simp only[cm,Int.reduceEq,e1]
set_option maxHeartbeats 4000000 in
theorem ps10 (hs:SimP nf S) (hv:v.toList.length≤maxLen) (hk:ah (aa s 0)=10) (hc:CtxP S.nx lp ts es ex) (hlp:lp=true) (hb:bO S ts (40+6*ndS s+c)):One nf (eN Q) v fn b ex s es ts S c:=by
 have r2:=hs.len;unfold bO at hb;obtain⟨l,p,h1,h2,h3⟩:=hc.e hlp;have hlen:es.length=l.length+1:=by rw[h1];simp
 have hsub:aM .sub .i64 (es.length:Int) 1=(l.length:Int):=by rw[fp (by omega) (by have:=hc.len;omega),hlen];omega
 have hin:aS (tD es) (l.length:Int)=true:=As (by omega)
 have hg:ah (ay (tD es) (l.length:Int))=(p:Int):=by rw[m8 (by omega),h1];simp
 have hc1:decide ((l.length:Int)<(es.length:Int))=true:=by simp;omega
 have hc0:decide ((0:Int)≤(l.length:Int))=true:=by simp
 refine⟨_,?_,hs.push (i:=jmp 0) (.inl rfl) (p:=p) h2 h3,bj _,by unfold bO;simp;omega⟩
 ·have e1:=eM (E:=tD es) (T:=tD ts) (L:=lD S.L) (A:=S.A) (fn:=fn) (nx:=(S.nx:Int)) (ex:=(ex:Int)) (b:=b) (v:=v) (cc:=0) (p:=(p:Int)) (to:=S.to) (ins:=S.ins) (by omega) (by omega)
  unfold fv eh;rw[cK,hk];simp only[cm,Int.reduceEq,hsub,hin,hg,fO,hc1,hc0,gC,e1]
set_option maxHeartbeats 4000000 in
theorem ps11 (hs:SimP nf S) (hv:v.toList.length≤maxLen) (hk:ah (aa s 0)=11) (hc:CtxP S.nx lp ts es ex) (hlp:lp=true) (hb:bO S ts (40+6*ndS s+c)):One nf (eN Q) v fn b ex s es ts S c:=by
 have r2:=hs.len;unfold bO at hb;obtain⟨l,p,h1,h2,h3⟩:=hc.t hlp;have hlen:ts.length=l.length+1:=by rw[h1];simp
 have hsub:aM .sub .i64 (ts.length:Int) 1=(l.length:Int):=by rw[fp (by omega) (by have:=hc.len;omega),hlen];omega
 have hin:aS (tD ts) (l.length:Int)=true:=As (by omega)
 have hg:ah (ay (tD ts) (l.length:Int))=(p:Int):=by rw[m8 (by omega),h1];simp
 have hc1:decide ((l.length:Int)<(ts.length:Int))=true:=by simp;omega
 have hc0:decide ((0:Int)≤(l.length:Int))=true:=by simp
 refine⟨_,?_,hs.push (i:=jmp 0) (.inl rfl) (p:=p) h2 h3,bj _,by unfold bO;simp;omega⟩
 ·have e1:=eM (E:=tD es) (T:=tD ts) (L:=lD S.L) (A:=S.A) (fn:=fn) (nx:=(S.nx:Int)) (ex:=(ex:Int)) (b:=b) (v:=v) (cc:=0) (p:=(p:Int)) (to:=S.to) (ins:=S.ins) (by omega) (by omega)
  unfold fv eh;rw[cK,hk];simp only[cm,Int.reduceEq,hsub,hin,hg,fO,hc1,hc0,gC,e1]
set_option maxHeartbeats 4000000 in
theorem ps12_0 (hs:SimP nf S) (hk:ah (aa s 0)=12) {p:Int} (hl:lkS S.L (aB (aa s 2))=some p) (hb:bO S ts (40+6*ndS s+c)):One nf (eN Q) v fn b ex s es ts S c:=by
 have r2:=hs.len;unfold bO at hb;obtain⟨x,hx,hxp⟩:=Zk hl;have hx1:=hs.lrng x hx;obtain⟨n,rfl⟩:∃n:Nat,p=(n:Int):=⟨p.toNat,by omega⟩
 have hn1:1≤n:=by omega
 have hn2:n≤S.nx:=by omega
 have e1:=CZ (E:=tD es) (T:=tD ts) (A:=S.A) (v:=v) (fn:=fn) (b:=b) (ex:=(ex:Int)) (nx:=(S.nx:Int)) (to:=tD S.to) (ins:= .list S.ins) hl;refine⟨_,?_,hs.push (i:=jmp 0) (.inl rfl) hn1 hn2,bj _,by unfold bO;simp;omega⟩
 ·have e3:=eM (E:=tD es) (T:=tD ts) (L:=lD S.L) (fn:=fn) (nx:=(S.nx:Int)) (ex:=(ex:Int)) (b:=b) (v:=v) (A:=S.A) (cc:=0) (p:=(n:Int)) (to:=S.to) (ins:=S.ins) (by omega) (by omega)
  unfold fv eh;rw[cK,hk];simp only[cm,Int.reduceEq,e1,e3]
set_option maxHeartbeats 4000000 in
theorem ps12_1 (hs:SimP nf S) (hk:ah (aa s 0)=12) (hl:lkS S.L (aB (aa s 2))=none) (hb:bO S ts (40+6*ndS s+c)):One nf (eN Q) v fn b ex s es ts S c:=by
 have r2:=hs.len;unfold bO at hb;have g1:=hs.up (n:=S.nx+1) (by omega)
 have g4:=g1.addLab (aB (aa s 2)) (p:=S.nx+1) (by omega) (bj _)
 have e1:=C0 (E:=tD es) (T:=tD ts) (A:=S.A) (v:=v) (fn:=fn) (b:=b) (ex:=(ex:Int)) (to:=tD S.to) (ins:= .list S.ins) (k:=S.nx) hl (by omega)
 have g5:=g4.push (i:=jmp 0) (.inl rfl) (p:=S.nx+1) (by omega) (bj _)
 refine⟨_,?_,g5,Nat.le_succ _,by unfold bO;simp;omega⟩
 ·have e3:=eM (E:=tD es) (T:=tD ts) (L:=lD (S.L ++ [(aB (aa s 2),((S.nx+1:Nat):Int))])) (fn:=fn) (nx:=((S.nx+1:Nat):Int)) (ex:=(ex:Int)) (b:=b) (v:=v) (A:=S.A) (cc:=0) (p:=((S.nx+1:Nat):Int)) (to:=S.to) (ins:=S.ins) (by omega) (by omega)
  unfold fv eh;rw[cK,hk];simp only[cm,Int.reduceEq,e1,e3]
set_option maxHeartbeats 4000000 in
theorem ps13_0 (hs:SimP nf S) (hk:ah (aa s 0)=13) {p:Int} (hl:lkS S.L (aB (aa s 2))=some p) (hb:bO S ts (40+6*ndS s+c)):One nf (eN Q) v fn b ex s es ts S c:=by
 have r2:=hs.len;unfold bO at hb;obtain⟨x,hx,hxp⟩:=Zk hl;have hx1:=hs.lrng x hx;obtain⟨n,rfl⟩:∃n:Nat,p=(n:Int):=⟨p.toNat,by omega⟩
 have hn1:1≤n:=by omega
 have hn2:n≤S.nx:=by omega
 have e1:=CZ (E:=tD es) (T:=tD ts) (A:=S.A) (v:=v) (fn:=fn) (b:=b) (ex:=(ex:Int)) (nx:=(S.nx:Int)) (to:=tD S.to) (ins:= .list S.ins) hl;refine⟨_,?_,hs.here (n:Int),bj _,by unfold bO;simp;omega⟩
 ·have e3:=fu (E:=tD es) (T:=tD ts) (L:=lD S.L) (fn:=fn) (nx:=(S.nx:Int)) (ex:=(ex:Int)) (b:=b) (v:=v) (A:=S.A) (to:=tD S.to) (ins:=S.ins) (p:=(n:Int));unfold fv eh;rw[cK,hk];simp only[cm,Int.reduceEq,e1,e3]
set_option maxHeartbeats 4000000 in
theorem ps13_1 (hs:SimP nf S) (hk:ah (aa s 0)=13) (hl:lkS S.L (aB (aa s 2))=none) (hb:bO S ts (40+6*ndS s+c)):One nf (eN Q) v fn b ex s es ts S c:=by
 have r2:=hs.len;unfold bO at hb;have g1:=hs.up (n:=S.nx+1) (by omega)
 have g4:=g1.addLab (aB (aa s 2)) (p:=S.nx+1) (by omega) (bj _)
 have e1:=C0 (E:=tD es) (T:=tD ts) (A:=S.A) (v:=v) (fn:=fn) (b:=b) (ex:=(ex:Int)) (to:=tD S.to) (ins:= .list S.ins) (k:=S.nx) hl (by omega)
 have g5:=g4.here ((S.nx+1:Nat):Int);refine⟨_,?_,g5,Nat.le_succ _,by unfold bO;simp;omega⟩
 ·have e3:=fu (E:=tD es) (T:=tD ts) (L:=lD (S.L ++ [(aB (aa s 2),((S.nx+1:Nat):Int))])) (fn:=fn) (nx:=((S.nx+1:Nat):Int)) (ex:=(ex:Int)) (b:=b) (v:=v) (A:=S.A) (to:=tD S.to) (ins:=S.ins) (p:=((S.nx+1:Nat):Int));unfold fv eh;rw[cK,hk];simp only[cm,Int.reduceEq,e1,e3]
end
end Go.Proofs.YtiojjmlccehpoaaGreat
namespace Go.Proofs.YtiojjmlccehpoaaGreat
open Go Go.AM
section
variable {Q:uAC} {nf:Nat} {v fn s:D} {b:Int} {ex:Nat} {es ts:List Int} {S:PS} {c:Nat} {lp:Bool}
set_option maxHeartbeats 2000000 in
theorem okLP {l:D} {cost:D->Nat} (hl:l.toList.length≤maxLen) (h:∀s∈l.toList,OkP nf Q v fn b ex s lp (cost s)):OkP nf (q56 Q) v fn b ex l lp ((l.toList.map cost).sum):=by
 intro es ts S c hs hc hb;have hlen:ae l=(l.toList.length:Int):=aL l
 have key:=J4 (nf:=nf) (v:=v) (fn:=fn) (b:=b) (ex:=ex) (l:=l) (es:=es) (ts:=ts) (lp:=lp)
  (stP:=Fp Q [l, .int (ae l),v,fn, .int b, .int (ex:Int)]) (cP:=Q) (cost:=cost)
  (fun i S S' hi he=>by
   unfold fv eh at he;unfold qi;have hg:ay l (i:Int)=l.toList.getD i .other:=bg _ _;rw[CK,hg,he,hlen];simp only[az,show(i:Int)<(l.toList.length:Int)by omega,be,aj,aZ hi,aq,ax,bf,bt,aC]
   rw[bk (by unfold maxLen at hl;omega)])
  (fun S=>by
   unfold qi eh;rw[CK,hlen]
   simp only[az,show¬((l.toList.length:Int)<(l.toList.length:Int))by omega,bl,aI])
  (fun s hm S c h1 h2 h3=>h s hm es ts S c h1 h2 h3)
  l.toList.length 0 S c (by omega) hs hc (by simpa using hb)
 obtain⟨S',k1,k3,k4,k5⟩:=key;refine⟨S',?_,k3,k4,k5⟩
 unfold qi eh at k1;unfold fv eh;rw[Nd,F56_eq,JE];simp only[b8]at k1;simp only[k1,aq,ax,bf,bt,aC,aj]
theorem SimP.test {S:PS} (h:SimP nf S) (v:D) (b:Int) {d:D} (hf:fm d=true) {p:Nat} (h1:1≤p) (h2:p≤S.nx):
 SimP nf {S with to:=S.to++bz (nb v b d) ++ [(p:Int)],ins:=S.ins++nb v b d ++ [jmp 1]}:=
 (h.emit (c:=nb v b d) (by
  intro x hx;unfold nb at hx;rcases cV.1 hx with hx|hx
  ·exact C3 hf x hx
  ·simp at hx;subst hx;exact Zu 0 (by omega) (by omega))).push (i:=jmp 1) (.inr rfl) h1 h2
set_option maxHeartbeats 8000000 in
theorem ps6 {k4 k5:Nat} (hs:SimP nf S) (hc:CtxP S.nx lp ts es ex) (hv:v.toList.length≤maxLen) (hk:ah (aa s 0)=6) (hw:stB s=true) (h3:(aa s 3).toList.length=1)
 (h4:OkP nf (q56 Q) v fn b ex (aa s 4) lp k4) (h5:OkP nf (q56 Q) v fn b ex (aa s 5) lp k5) (hb:bO S ts (40+6*ndS s+(k4+k5)+c)):One nf (eN Q) v fn b ex s es ts S c:=by
 have hf:fm (ay (aa s 3) 0)=true:=oz (i:=0) hw (by omega)
 rw[J1 h3]at hb;have r2:=hs.len;have hl:=Qb (v:=v) (b:=b) hf;have hin:aS (aa s 3) 0=true:=aZ (i:=0) (by omega)
 unfold bO at hb;have c1:=(hs.up (n:=S.nx+1) (by omega)).test v b hf (p:=S.nx+1) (by omega) (bj _)
 generalize hT:nb v b (ay (aa s 3) 0)=T at hl c1;generalize hd:ay (aa s 3) 0=d at *
 obtain⟨S4,d1,d3,d4,d5⟩:=h4 es ts _ (k5+20+c) c1 (hc.up (Nat.le_succ _)) (by
  unfold bO;simp[bz];omega)
 unfold bO at d5;have t2:=d3.len;have hp2:S.nx+1≤S4.nx:=d4;have P1:q49 [tD es,tD ts,lD S.L,S.A,tD S.to, .list S.ins,v,fn, .int b, .int (ex:Int), .int (S.nx:Int)]=some [.int ((S.nx+1:Nat):Int), .int ((S.nx+1:Nat):Int)]:=fi (by omega)
 have P2:=CY (E:=tD es) (T:=tD ts) (L:=lD S.L) (A:=S.A) (fn:=fn) (nx:=((S.nx+1:Nat):Int)) (ex:=(ex:Int)) (b:=b) hv hf (to:=S.to) (ins:=S.ins) (p:=((S.nx+1:Nat):Int)) (by omega) (by omega)
 have P3:q56 Q [v,fn, .int b, .int (ex:Int),aa s 4,tD es,tD ts,lD S.L,S.A,tD (S.to++bz T ++ [((S.nx+1:Nat):Int)]), .list (S.ins++T ++ [jmp 1]), .int ((S.nx+1:Nat):Int)]=some [tD es,tD ts,tD S4.to, .list S4.ins,lD S4.L,S4.A, .int (S4.nx:Int)]:=d1;rw[hT]at P2;by_cases h5e:(aa s 5).toList = []
 ·have hq5:ae (aa s 5)=0:=by rw[aL,h5e];rfl
  refine⟨_,?_,d3.here ((S.nx+1:Nat):Int),by simp only;omega,by unfold bO;simp;omega⟩
  have P4:=fu (E:=tD es) (T:=tD ts) (L:=lD S4.L) (fn:=fn) (nx:=(S4.nx:Int)) (ex:=(ex:Int)) (b:=b) (v:=v) (A:=S4.A) (to:=tD S4.to) (ins:=S4.ins) (p:=((S.nx+1:Nat):Int));unfold fv eh;rw[cK,hk];simp only[cm,Int.reduceEq,Fs];rw[PI];simp only[cm,hin,hd,hq5,P1,P2,P3,P4,fO,gC]
 ·have hq5:∃n:Nat,ae (aa s 5)=((n+1:Nat):Int):=by
   rw[aL];cases hh:(aa s 5).toList with
   |nil=>exact absurd hh h5e
   |cons x l=>exact⟨l.length,rfl⟩
  obtain⟨n5,hq5⟩:=hq5;have g1:=(d3.up (n:=S4.nx+1) (by omega)).push (i:=jmp 0) (.inl rfl) (p:=S4.nx+1) (by omega) (bj _)
  have g2:=g1.here ((S.nx+1:Nat):Int)
  obtain⟨S6,i1,i3,i4,i5⟩:=h5 es ts _ (10+c) g2 (hc.up (by simp only;omega)) (by
   unfold bO;simp;omega)
  have hn6:S4.nx+1≤S6.nx:=i4;have j1:=i3.here ((S4.nx+1:Nat):Int);unfold bO at i5;refine⟨_,?_,j1,by simp only;omega,by unfold bO;simp;omega⟩
  have P4:q49 [tD es,tD ts,lD S4.L,S4.A,tD S4.to, .list S4.ins,v,fn, .int b, .int (ex:Int), .int (S4.nx:Int)]=some [.int ((S4.nx+1:Nat):Int), .int ((S4.nx+1:Nat):Int)]:=fi (by omega)
  have P5:=eM (E:=tD es) (T:=tD ts) (L:=lD S4.L) (A:=S4.A) (fn:=fn) (nx:=((S4.nx+1:Nat):Int)) (ex:=(ex:Int)) (v:=v) (b:=b) (cc:=0) (p:=((S4.nx+1:Nat):Int)) (to:=S4.to) (ins:=S4.ins) (by omega) (by omega)
  have P6:=fu (E:=tD es) (T:=tD ts) (L:=lD S4.L) (fn:=fn) (nx:=((S4.nx+1:Nat):Int)) (ex:=(ex:Int)) (b:=b) (v:=v) (A:=S4.A) (to:=tD (S4.to ++ [((S4.nx+1:Nat):Int)])) (ins:=S4.ins ++ [jmp 0]) (p:=((S.nx+1:Nat):Int));have P7:q56 Q [v,fn, .int b, .int (ex:Int),aa s 5,tD es,tD ts,lD S4.L,dN 106 S4.A (.int ((S.nx+1:Nat):Int)) (.int ((S4.ins ++ [jmp 0]).length:Int)),tD (S4.to ++ [((S4.nx+1:Nat):Int)]), .list (S4.ins ++ [jmp 0]), .int ((S4.nx+1:Nat):Int)]=some [tD es,tD ts,tD S6.to, .list S6.ins,lD S6.L,S6.A, .int (S6.nx:Int)]:=i1;have P8:=fu (E:=tD es) (T:=tD ts) (L:=lD S6.L) (fn:=fn) (nx:=(S6.nx:Int)) (ex:=(ex:Int)) (b:=b) (v:=v) (A:=S6.A) (to:=tD S6.to) (ins:=S6.ins) (p:=((S4.nx+1:Nat):Int));unfold fv eh;rw[cK,hk];simp only[cm,Int.reduceEq,Fs];rw[PI];simp only[cm,hin,hd,hq5,show¬(((n5+1:Nat):Int)=0)by omega,P1,P2,P3,P4,P5,P6,P7,P8,fO,gC]
set_option maxHeartbeats 8000000 in
theorem ps7 {k4:Nat} (hs:SimP nf S) (hc:CtxP S.nx lp ts es ex) (hv:v.toList.length≤maxLen) (hk:ah (aa s 0)=7∨ah (aa s 0)=8) (hw:stB s=true) (h3:ah (aa s 0)=7->(aa s 3).toList.length=1)
 (h4:OkP nf (q56 Q) v fn b ex (aa s 4) true k4) (hb:bO S ts (40+6*ndS s+k4+c)):One nf (eN Q) v fn b ex s es ts S c:=by
 have r2:=hs.len;have hel:=hc.len;unfold bO at hb;have c1:=(hs.up (n:=S.nx+1+1) (by omega)).here ((S.nx+1:Nat):Int)
 have P1:q49 [tD es,tD ts,lD S.L,S.A,tD S.to, .list S.ins,v,fn, .int b, .int (ex:Int), .int (S.nx:Int)]=some [.int ((S.nx+1:Nat):Int), .int ((S.nx+1:Nat):Int)]:=fi (by omega)
 have P2:q49 [tD es,tD ts,lD S.L,S.A,tD S.to, .list S.ins,v,fn, .int b, .int (ex:Int), .int ((S.nx+1:Nat):Int)]=some [.int ((S.nx+1+1:Nat):Int), .int ((S.nx+1+1:Nat):Int)]:=fi (by omega)
 have hj:D.agg [.int 0, .int 0, .int 20, .int 2, .int 0, .int 0, .int 0, .int 0, .int 0]=jmp 0:=rfl;have hle:∀n:Nat,(0:Int)≤(n:Int):=fun n=>by omega
 have hdt:decide ((ts.length:Int)≤((ts ++ [((S.nx+1:Nat):Int)]).length:Int))=true:=by rw[decide_eq_true_iff,bM];omega
 have hde:decide ((ts.length:Int)≤((es ++ [((S.nx+1+1:Nat):Int)]).length:Int))=true:=by rw[decide_eq_true_iff,bM];omega
 have hsube:dr (tD (es ++ [((S.nx+1+1:Nat):Int)])) 0 (ts.length:Int)=tD es:=by rw[<- hel];exact Av ..
 have hsub2:dr (tD es) 0 (ts.length:Int)=tD es:=by rw[<- hel];exact gC _
 have hmt:cA ((ts ++ [((S.nx+1:Nat):Int)]).length:Int) 8=true:=bq (by simp;omega) (by omega)
 have hme:cA ((es ++ [((S.nx+1+1:Nat):Int)]).length:Int) 8=true:=bq (by simp;omega) (by omega)
 have rest:∀(T:List D) (TT:List Int),TT.length=T.length->T.length≤6*ndS s+2->
  SimP nf {S with A:=dN 106 S.A (.int ((S.nx+1:Nat):Int)) (.int (S.ins.length:Int)),nx:=S.nx+1+1,to:=S.to++TT,ins:=S.ins++T}->
  ∃(S6:PS),q56 Q [v,fn, .int b, .int (ex:Int),aa s 4,tD (es ++ [((S.nx+1+1:Nat):Int)]),tD (ts ++ [((S.nx+1:Nat):Int)]),lD S.L,dN 106 S.A (.int ((S.nx+1:Nat):Int)) (.int (S.ins.length:Int)),tD (S.to++TT), .list (S.ins++T), .int ((S.nx+1+1:Nat):Int)]=some [tD (es ++ [((S.nx+1+1:Nat):Int)]),tD (ts ++ [((S.nx+1:Nat):Int)]),tD S6.to, .list S6.ins,lD S6.L,S6.A, .int (S6.nx:Int)]
   ∧S6.ins.length≤80000000∧S6.to.length=S6.ins.length
   ∧SimP nf {S6 with to:=S6.to ++ [((S.nx+1:Nat):Int)],ins:=S6.ins ++ [jmp 0],A:=dN 106 S6.A (.int ((S.nx+1+1:Nat):Int)) (.int ((S6.ins ++ [jmp 0]).length:Int))}
   ∧S.nx≤S6.nx
   ∧bO {S6 with to:=S6.to ++ [((S.nx+1:Nat):Int)],ins:=S6.ins ++ [jmp 0],A:=dN 106 S6.A (.int ((S.nx+1+1:Nat):Int)) (.int ((S6.ins ++ [jmp 0]).length:Int))} ts c:=by
  intro T TT hTT hT hsim
  have hctx:CtxP (S.nx+1+1) true (ts ++ [((S.nx+1:Nat):Int)]) (es ++ [((S.nx+1+1:Nat):Int)]) ex:=
   ⟨fun _=>⟨ts,S.nx+1,rfl,by omega,by omega⟩,fun _=>⟨es,S.nx+1+1,rfl,by omega,by omega⟩,hc.x1,by have:=hc.x2;omega,by simp[hc.len]⟩
  obtain⟨S6,d1,d3,d4,d5⟩:=h4 _ _ _ (10+c) hsim hctx (by unfold bO;simp;omega)
  unfold bO at d5;have t2:=d3.len;have hn6:S.nx+1+1≤S6.nx:=d4;have g1:=d3.push (i:=jmp 0) (.inl rfl) (p:=S.nx+1) (by omega) (by omega)
  have g2:=g1.here ((S.nx+1+1:Nat):Int);exact⟨S6,d1,by omega,t2,g2,by omega,by unfold bO;simp at d5 ⊢;omega⟩
 rcases hk with hk|hk
 ·have h3':=h3 hk;have hf:fm (ay (aa s 3) 0)=true:=oz (i:=0) hw (by omega)
  have hnd:=J1 h3';have hl:=Qb (v:=v) (b:=b) hf;have hin:aS (aa s 3) 0=true:=aZ (i:=0) (by omega)
  have c2:=c1.test v b hf (p:=S.nx+1+1) (by omega) (by simp)
  generalize hT:nb v b (ay (aa s 3) 0)=T at hl c2;generalize hd:ay (aa s 3) 0=d at *;obtain⟨S6,k1,k4,k4',k5,k6,k7⟩:=rest (T ++ [jmp 1]) (bz T ++ [((S.nx+1+1:Nat):Int)]) (by simp[bz]) (by simp;omega) (by simpa only[dH]using c2)
  have P3:=CY (E:=tD es) (T:=tD ts) (L:=lD S.L) (A:=dN 106 S.A (.int ((S.nx+1:Nat):Int)) (.int (S.ins.length:Int))) (fn:=fn) (nx:=((S.nx+1+1:Nat):Int)) (ex:=(ex:Int)) (b:=b) hv hf (to:=S.to) (ins:=S.ins) (p:=((S.nx+1+1:Nat):Int)) (by omega) (by omega)
  rw[hT,dH S.to,dH S.ins]at P3;refine⟨_,?_,k5,k6,k7⟩
  unfold fv eh;rw[cK,hk];simp only[cm,Int.reduceEq,Ft];rw[PJ,hk]
  simp only[cm,hin,hd,P1,P2,P3,bL,FO,fO,hmt,hme,k1,hle,hj,dA,
   hdt,hde,hel,hsube,hsub2,Av,gC,
   bq (show(S6.ins ++ [jmp 0]).length≤1000000000 by simp;omega) (show 64≤1000 by omega),bq (show(S6.to ++ [((S.nx+1:Nat):Int)]).length≤1000000000 by simp;omega) (show 8≤1000 by omega)]
  done
 ·obtain⟨S6,k1,k4,k4',k5,k6,k7⟩:=rest [] [] rfl (by simp) (by simpa only[fQ]using c1)
  simp only[fQ]at k1;refine⟨_,?_,k5,k6,k7⟩
  unfold fv eh;rw[cK,hk];simp only[cm,Int.reduceEq,Ft];rw[PJ,hk]
  simp only[cm,Int.reduceEq,P1,P2,bL,FO,fO,hmt,hme,k1,hle,hj,dA,
   hdt,hde,hel,hsube,hsub2,Av,gC,
   bq (show(S6.ins ++ [jmp 0]).length≤1000000000 by simp;omega) (show 64≤1000 by omega),bq (show(S6.to ++ [((S.nx+1:Nat):Int)]).length≤1000000000 by simp;omega) (show 8≤1000 by omega)]
  done
end
end Go.Proofs.YtiojjmlccehpoaaGreat
namespace Go.Proofs.YtiojjmlccehpoaaGreat
open Go Go.AM
section
variable {Q:uAC} {nf:Nat} {v fn s:D} {b:Int} {ex:Nat} {es ts:List Int} {S:PS} {c:Nat} {lp:Bool}
set_option maxHeartbeats 8000000 in
theorem pcases4 {n:Nat} (hn:n≤64) (hq:(aa s 6).toList.length=n):∀(k i:Nat) (S:PS) (c:Nat) (ps:List Nat),i+k=n->ps.length=i->SimP nf S->bO S ts (5*k+c)->(∀p∈ps,1≤p∧p≤S.nx)->
 ∃(S':PS) (ps':List Nat),
  loW (vc Q [.int (n:Int),s,tD es,tD ts,lD S.L,S.A,v,fn, .int b, .int (ex:Int)]) [.int (i:Int),tD (tN ps),tD S.to, .list S.ins, .int (S.nx:Int)]=some [.int 0,tD (tN ps'),tD S'.to, .list S'.ins, .int (S'.nx:Int)]
  ∧S'.A=S.A∧S'.L=S.L∧SimP nf S'∧S.nx≤S'.nx∧bO S' ts c∧ps'.length=n∧(∀p∈ps',1≤p∧p≤S'.nx):=by
 intro k
 induction k with
 |zero=>
  intro i S c ps hi hps hs hb hp;obtain rfl:i=n:=by omega
  refine⟨S,ps,?_,rfl,rfl,hs,bj _,by simpa using hb,hps,hp⟩
  rw[bD,Aa];simp only[cm,show¬((i:Int)<(i:Int))by omega]
 |succ k ih=>
  intro i S c ps hi hps hs hb hp;unfold bO at hb;have r2:=hs.len
  have c1:=((hs.up (n:=S.nx+1) (by omega)).emit (c:=[csC i]) (by
   intro x hx;simp at hx;subst hx;exact pl_cs i (by omega))).push (i:=jmp 1) (.inr rfl) (p:=S.nx+1) (by omega) (bj _)
  obtain⟨S',ps',k1,k3,k4,k5,k6,k7,k8,k9⟩:=ih (i+1) _ c (ps ++ [S.nx+1]) (by omega) (by simp[hps]) c1 (by unfold bO;simp[bz];omega) (fun p hp'=>by
   rcases cV.1 hp' with hp'|hp'
   ·have:=hp p hp';simp;omega
   ·simp at hp';subst hp';simp)
  refine⟨S',ps',?_,k3,k4,k5,by simp only at k6;omega,k7,k8,k9⟩
  have e1:q49 [tD es,tD ts,lD S.L,S.A,tD S.to, .list S.ins,v,fn, .int b, .int (ex:Int), .int (S.nx:Int)]=some [.int ((S.nx+1:Nat):Int), .int ((S.nx+1:Nat):Int)]:=fi (by omega)
  have e2:=dp (E:=tD es) (T:=tD ts) (L:=lD S.L) (A:=S.A) (fn:=fn) (nx:=((S.nx+1:Nat):Int)) (ex:=(ex:Int)) (v:=v) (b:=b) (l:=[csC i]) (to:=S.to) (ins:=S.ins) (by simp) (by omega) (by omega) (by intro x hx;simp only[cy,fx,fz]at hx;subst hx;exact cu ..)
  have e3:=eM (E:=tD es) (T:=tD ts) (L:=lD S.L) (A:=S.A) (fn:=fn) (nx:=((S.nx+1:Nat):Int)) (ex:=(ex:Int)) (v:=v) (b:=b) (cc:=1) (p:=((S.nx+1:Nat):Int)) (to:=S.to++bz [csC i]) (ins:=S.ins ++ [csC i]) (by simp[bz];omega) (by simp;omega)
  have hc:D.agg [.int 0, .int (fA .u32 (i:Int)), .int 15, .int 1, .int 0, .int 0, .int 0, .int 0, .int 0]=csC i:=rfl;have hl:(tN ps ++ [((S.nx+1:Nat):Int)]).length=i+1:=by simp[Aw,hps]
  have hin:aS (tD (tN ps ++ [((S.nx+1:Nat):Int)])) (i:Int)=true:=As (by omega)
  have hg:ah (ay (tD (tN ps ++ [((S.nx+1:Nat):Int)])) (i:Int))=((S.nx+1:Nat):Int):=by
   rw[m8 (by omega)];simp[List.getD,Aw,hps]
  rw[bD,Aa,hc];simp only[cm,show(i:Int)<(n:Int)by omega,e1,FO,fO,hl,bq (show i+1≤1000000000 by omega) (show 8≤1000 by omega),e2,show(0:Int)≤(i:Int)by omega,show(i:Int)<((i+1:Nat):Int)by omega,hin,hg,e3]
  rw[bk (by omega)]
  rw[<- tN_app];exact k1
set_option maxHeartbeats 8000000 in
theorem Zy {n:Nat} {kc:D->Nat} (hn:n≤64) (hq:(aa s 6).toList.length=n) (h6:∀x∈(aa s 6).toList,OkP nf (q56 Q) v fn b ex x lp (kc x)) {ps:List Nat} (hps:ps.length=n) {pe:Nat}:
 ∀(k i:Nat) (S:PS) (c:Nat),i+k=n->SimP nf S->CtxP S.nx lp ts es ex->bO S ts ((((aa s 6).toList.drop i).map fun x=>kc x+5).sum+c)->(∀p∈ps,1≤p∧p≤S.nx)->1≤pe->pe≤S.nx->
 ∃(S':PS),
  loW (qb Q [.int (pe:Int),aa s 6, .int (n:Int),tD (tN ps),v,fn, .int b, .int (ex:Int)]) (qi i es ts S)=some (.int 0::eh es ts S')
  ∧SimP nf S'∧S.nx≤S'.nx∧bO S' ts c:=by
 intro k
 induction k with
 |zero=>
  intro i S c hi hs hc hb hp p1 p2;obtain rfl:i=n:=by omega
  rw[lE (by omega)]at hb
  refine⟨S,?_,hs,bj _,by simpa using hb⟩
  unfold qi eh;rw[bD,tI];simp only[cm,show¬((i:Int)<(i:Int))by omega]
 |succ k ih=>
  intro i S c hi hs hc hb hp p1 p2;have hlt:i<(aa s 6).toList.length:=by omega
  have hmem:=b7 hlt;rw[lC hlt,bW,fR]at hb;generalize hsum:(((aa s 6).toList.drop (i+1)).map fun x=>kc x+5).sum=K at hb
  have hg6:ay (aa s 6) (i:Int)=(aa s 6).toList[i]:=by rw[bg,getD_lt hlt]
  generalize hx:(aa s 6).toList[i]=x at hb hg6 hmem;have r2:=hs.len;unfold bO at hb;have hin1:aS (tD (tN ps)) (i:Int)=true:=As (by rw[Aw];omega)
  have hg1:ah (ay (tD (tN ps)) (i:Int))=((ps.getD i 0:Nat):Int):=by rw[m8 (by rw[Aw];omega),tN_get (by omega)]
  generalize ps.getD i 0=p at *;have a1:=hs.here (p:Int);obtain⟨S1,d1,d3,d4,d5⟩:=h6 x hmem es ts _ (5+(K+c)) a1 hc (by unfold bO;simp;omega)
  unfold bO at d5;have t2:=d3.len;have hn1:S.nx≤S1.nx:=d4;have b1:=d3.push (i:=jmp 0) (.inl rfl) (p:=pe) p1 (by omega)
  obtain⟨S',k1,k3,k4,k5⟩:=ih (i+1) _ c (by omega) b1 (hc.up hn1) (by rw[hsum];unfold bO;simp;omega) (fun q hq'=>by have:=hp q hq';simp;omega) p1 (by simp;omega)
  refine⟨S',?_,k3,by simp only at k4;omega,k5⟩
  have e1:=fu (E:=tD es) (T:=tD ts) (L:=lD S.L) (fn:=fn) (nx:=(S.nx:Int)) (ex:=(ex:Int)) (b:=b) (v:=v) (A:=S.A) (to:=tD S.to) (ins:=S.ins) (p:=(p:Int));have e2:q56 Q [v,fn, .int b, .int (ex:Int),x,tD es,tD ts,lD S.L,dN 106 S.A (.int (p:Int)) (.int (S.ins.length:Int)),tD S.to, .list S.ins, .int (S.nx:Int)]=some [tD es,tD ts,tD S1.to, .list S1.ins,lD S1.L,S1.A, .int (S1.nx:Int)]:=d1;have e3:=eM (E:=tD es) (T:=tD ts) (L:=lD S1.L) (A:=S1.A) (fn:=fn) (nx:=(S1.nx:Int)) (ex:=(ex:Int)) (v:=v) (b:=b) (cc:=0) (p:=(pe:Int)) (to:=S1.to) (ins:=S1.ins) (by omega) (by omega)
  unfold qi;rw[bD,tI];simp only[cm,show(i:Int)<(n:Int)by omega,aZ hlt,show(0:Int)≤(i:Int)by omega,fO,Aw,hps,hin1,hg1,hg6,e1,e2,e3]
  rw[bk (by omega)]
  exact k1
set_option maxHeartbeats 8000000 in
theorem ps9 {n:Nat} {kc:D->Nat} (hn:n≤64) (hq:(aa s 6).toList.length=n) (hs:SimP nf S) (hc:CtxP S.nx lp ts es ex) (hv:v.toList.length≤maxLen) (hk:ah (aa s 0)=9) (hw:stB s=true) (h3:(aa s 3).toList.length=1)
 (h6:∀x∈(aa s 6).toList,OkP nf (q56 Q) v fn b ex x lp (kc x)) (hb:bO S ts (40+6*ndS s+(5*n+((aa s 6).toList.map fun x=>kc x+5).sum)+c)):One nf (eN Q) v fn b ex s es ts S c:=by
 have hf:fm (ay (aa s 3) 0)=true:=oz (i:=0) hw (by omega)
 rw[J1 h3]at hb;have r2:=hs.len;have hl:=oy (v:=v) (b:=b) hf;have hin:aS (aa s 3) 0=true:=aZ (i:=0) (by omega)
 unfold bO at hb;have a1:=hs.emit (c:=cx v b (ay (aa s 3) 0)) (C3 hf);generalize hK:((aa s 6).toList.map fun x=>kc x+5).sum=K at hb
 generalize hT:cx v b (ay (aa s 3) 0)=T at hl a1;generalize hd:ay (aa s 3) 0=d at *;obtain⟨S1,ps,k1,k3,k4,k6,k7,k8,k9,k10⟩:=pcases4 (Q:=Q) (v:=v) (fn:=fn) (b:=b) (ex:=ex) (es:=es) (ts:=ts) hn hq n 0 _ (30+(K+c)) [] (by omega) rfl a1 (by unfold bO;simp[bz];omega) (by simp)
 unfold bO at k8;simp only at k7;have t2:=k6.len;have b1:=(k6.emit (c:=endC) (by intro x hx;simp only[endC,cy,fx,fz]at hx;rcases hx with rfl|rfl;exact J5 _ 0 (by omega) (by omega);exact pl_21)).up (n:=S1.nx+1) (by simp)
 have he:endC.length=2:=rfl
 obtain⟨S3,m1,m3,m4,m5⟩:=Zy (Q:=Q) (v:=v) (fn:=fn) (b:=b) (ex:=ex) (es:=es) (ts:=ts) (lp:=lp) (s:=s) hn hq h6 (ps:=ps) (pe:=S1.nx+1) k9 n 0 _ (5+c) (by omega) b1 (hc.up (by simp only;omega)) (by
  rw[lL,hK];unfold bO;simp[bz,he];omega) (fun p hp=>by have:=k10 p hp;simp;omega) (by omega) (bj _)
 unfold bO at m5;have u2:=m3.len;have hn3:S1.nx+1≤S3.nx:=m4;refine⟨_,?_,m3.here ((S1.nx+1:Nat):Int),by simp only;omega,by unfold bO;simp;omega⟩
 have e1:=hO (E:=tD es) (T:=tD ts) (L:=lD S.L) (A:=S.A) (fn:=fn) (nx:=(S.nx:Int)) (ex:=(ex:Int)) (b:=b) hv hf (to:=S.to) (ins:=S.ins) (by omega) (by omega)
 rw[hT]at e1;have e2:Fu Q [.int (n:Int),s,tD es,tD ts,lD S.L,S.A,v,fn, .int b, .int (ex:Int)] [.int 0, .list [],tD (S.to++bz T), .list (S.ins++T), .int (S.nx:Int)]=some [.int 0,tD (tN ps),tD S1.to, .list S1.ins, .int (S1.nx:Int)]:=by rw[CL];exact k1
 have e3:=dp (E:=tD es) (T:=tD ts) (L:=lD S.L) (A:=S.A) (fn:=fn) (nx:=(S1.nx:Int)) (ex:=(ex:Int)) (v:=v) (b:=b) (l:=endC) (to:=S1.to) (ins:=S1.ins) (by simp[endC]) (by omega) (by omega) (by intro x hx;simp only[endC,cy,fx,fz]at hx;rcases hx with rfl|rfl<;>exact cu ..)
 have e4:q49 [tD es,tD ts,lD S.L,S.A,tD (S1.to++bz endC), .list (S1.ins++endC),v,fn, .int b, .int (ex:Int), .int (S1.nx:Int)]=some [.int ((S1.nx+1:Nat):Int), .int ((S1.nx+1:Nat):Int)]:=fi (by omega)
 have e5:ve Q [.int ((S1.nx+1:Nat):Int),aa s 6, .int (n:Int),tD (tN ps),v,fn, .int b, .int (ex:Int)] [.int 0,tD es,tD ts,tD (S1.to++bz endC), .list (S1.ins++endC),lD S.L,S.A, .int ((S1.nx+1:Nat):Int)]=some [.int 0,tD es,tD ts,tD S3.to, .list S3.ins,lD S3.L,S3.A, .int (S3.nx:Int)]:=by
  rw[Ac];unfold qi eh at m1;simp only at k3 k4;simp only[b8,k3,k4]at m1;exact m1
 have e6:=fu (E:=tD es) (T:=tD ts) (L:=lD S3.L) (fn:=fn) (nx:=(S3.nx:Int)) (ex:=(ex:Int)) (b:=b) (v:=v) (A:=S3.A) (to:=tD S3.to) (ins:=S3.ins) (p:=((S1.nx+1:Nat):Int));have hec:D.list [.agg [.int 0, .int 4294967295, .int 5, .int 2, .int 0, .int 0, .int 0, .int 0, .int 0], .agg [.int 0, .int 0, .int 21, .int 0, .int 0, .int 0, .int 0, .int 0, .int 0]] = .list endC:=rfl;have hz:ae (.list [])=0:=by rw[bL];rfl
 unfold fv eh;rw[cK,hk];simp only[cm,Int.reduceEq,PK];rw[F173_eq,hec,aL (aa s 6),hq];simp only[cm,hin,hd,hz,e1,e2,e3,e4,e5,e6,fO]
end
end Go.Proofs.YtiojjmlccehpoaaGreat
namespace Go.Proofs.YtiojjmlccehpoaaGreat
open Go Go.AM
theorem OkP.le {nf Q v fn b ex s lp k k'} (h:OkP nf Q v fn b ex s lp k) (hk:k≤k'):OkP nf Q v fn b ex s lp k':=fun es ts S c hs hc hb=>by
 obtain⟨S',h1,h3,h4,h5⟩:=h es ts S ((k'-k)+c) hs hc (by unfold bO at hb ⊢;omega)
 exact⟨S',h1,h3,h4,by unfold bO at h5 ⊢;omega⟩
set_option maxHeartbeats 4000000 in
theorem Qd {Q:uAC} {nf:Nat} {v fn s:D} {b:Int} {ex:Nat} {lp:Bool} {kc:D->Nat} (hv:v.toList.length≤maxLen) (hfn:fn.toList.length≤maxLen) (hnf:nf=fn.toList.length) (hw:stB s=true) (hlp:(ah (aa s 0)=10∨ah (aa s 0)=11)->lp=true)
 (hca:(!decide (ah (aa s 0)=5)||dW fn (aB (aa s 2)))=true)
 (hk:∀x∈aW s,OkP nf (q56 Q) v fn b ex x (lp||bT s) (kc x)):OkP nf (eN Q) v fn b ex s lp (40+6*ndS s+(5*(aa s 6).toList.length+((aa s 6).toList.map fun x=>kc x+5).sum)+(kc (aa s 4)+kc (aa s 5))):=by
 intro es ts S c hs hc hb;have hh:=Zm hw;have h4:=hk (aa s 4) (by simp[aW])
 have h5:=hk (aa s 5) (by simp[aW])
 have h6:∀x∈(aa s 6).toList,OkP nf (q56 Q) v fn b ex x (lp||bT s) (kc x):=fun x hx=>hk x (by simp[aW,hx])
 have hcase:ah (aa s 0)=1∨ah (aa s 0)=2∨ah (aa s 0)=3∨ah (aa s 0)=4∨ah (aa s 0)=5∨ah (aa s 0)=6∨ah (aa s 0)=7∨ah (aa s 0)=8∨ah (aa s 0)=9∨ah (aa s 0)=10∨ah (aa s 0)=11∨ah (aa s 0)=12∨ah (aa s 0)=13∨ah (aa s 0)=14∨ah (aa s 0)=15:=by
  rcases Decidable.em (1≤ah (aa s 0)∧ah (aa s 0)≤15)with h|h
  ·omega
  ·exfalso
   unfold iD at hh;rw[if_neg (by omega),if_neg (by omega),if_neg (by omega),if_neg (by omega),if_neg (by omega),if_neg (by omega),if_neg (by omega),if_neg (by omega),if_neg (by omega),if_neg (by omega),if_neg (by omega),if_neg (by omega),if_neg (by omega),if_neg (by omega),if_neg (by omega)]at hh
   cases hh
 have hloop:∀k:Int,k≠7->k≠8->ah (aa s 0)=k->(lp||bT s)=lp:=fun k h7 h8 he=>by unfold bT;rw[he];simp[h7,h8]
 have hbS:bO S ts (40+6*ndS s+((5*(aa s 6).toList.length+((aa s 6).toList.map fun x=>kc x+5).sum+(kc (aa s 4)+kc (aa s 5)))+c)):=by unfold bO at hb ⊢;omega
 have fin:∀{k},One nf (eN Q) v fn b ex s es ts S (k+c)->One nf (eN Q) v fn b ex s es ts S c:=fun{k} ⟨S',g1,g3,g4,g5⟩=>⟨S',g1,g3,g4,by unfold bO at g5 ⊢;omega⟩
 rcases hcase with h|h|h|h|h|h|h|h|h|h|h|h|h|h|h
 ·have h3:(aa s 3).toList.length=1:=by rw[h]at hh;simp[iD]at hh;omega
  exact fin (ps1 hs hv h hw h3 hbS)
 ·have h3:(aa s 3).toList.length=2∧(ah (aa s 1)=1∨ah (aa s 1)=2∨ah (aa s 1)=4):=by rw[h]at hh;simp[iD]at hh;omega
  exact fin (ps2 hs hv h hw h3.1 h3.2 hbS)
 ·exact fin (ps3 hs hv h hbS)
 ·have h3:(aa s 3).toList.length=1:=by rw[h]at hh;simp[iD]at hh;omega
  exact fin (ps4 hs hv h hw h3 hbS)
 ·exact fin (ps5 hs hv h hfn hnf (by simpa[h]using hca) hbS)
 ·have h3:(aa s 3).toList.length=1:=by rw[h]at hh;simp[iD]at hh;omega
  rw[hloop 6 (by omega) (by omega) h]at h4 h5
  exact fin (k:=5*(aa s 6).toList.length+((aa s 6).toList.map fun x=>kc x+5).sum) (ps6 hs hc hv h hw h3 h4 h5 (by unfold bO at hb ⊢;omega))
 ·have h3:(aa s 3).toList.length=1:=by rw[h]at hh;simp[iD]at hh;omega
  have hl:(lp||bT s)=true:=by unfold bT;rw[h];simp
  rw[hl]at h4;exact fin (k:=5*(aa s 6).toList.length+((aa s 6).toList.map fun x=>kc x+5).sum) (ps7 hs hc hv (.inl h) hw (fun _=>h3) h4 (by unfold bO at hb ⊢;omega))
 ·have hl:(lp||bT s)=true:=by unfold bT;rw[h];simp
  rw[hl]at h4;exact fin (k:=5*(aa s 6).toList.length+((aa s 6).toList.map fun x=>kc x+5).sum) (ps7 hs hc hv (.inr h) hw (fun h7=>by omega) h4 (by unfold bO at hb ⊢;omega))
 ·have h3:(aa s 3).toList.length=1∧(aa s 6).toList.length≤64:=by rw[h]at hh;simp[iD]at hh;omega
  rw[hloop 9 (by omega) (by omega) h]at h6
  exact fin (k:=kc (aa s 4)+kc (aa s 5)) (ps9 (n:=(aa s 6).toList.length) (by omega) rfl hs hc hv h hw h3.1 h6 (by unfold bO at hb ⊢;omega))
 ·exact fin (ps10 hs hv h hc (hlp (.inl h)) hbS)
 ·exact fin (ps11 hs hv h hc (hlp (.inr h)) hbS)
 ·cases hl:lkS S.L (aB (aa s 2))with
  |none=>exact fin (ps12_1 hs h hl hbS)
  |some p=>exact fin (ps12_0 hs h hl hbS)
 ·cases hl:lkS S.L (aB (aa s 2))with
  |none=>exact fin (ps13_1 hs h hl hbS)
  |some p=>exact fin (ps13_0 hs h hl hbS)
 ·exact fin (ps14 hs hv h hc hbS)
 ·exact fin (ps15 hs hv h hbS)
theorem Zz {fn:D} {K:Nat} {l s:D} (h:caB fn (K+1) l=true) (hs:s∈l.toList):(!decide (ah (aa s 0)=5)||dW fn (aB (aa s 2)))=true∧∀x∈aW s,caB fn K x=true:=by
 simp only[caB,bV,bn]at h;exact h s hs
theorem okAllP {v fn:D} {b:Int} {ex:Nat} (hv:v.toList.length≤maxLen) (hfn:fn.toList.length≤maxLen):∀(K:Nat) (l:D) (lp:Bool) (N:Nat),l.size<K->K≤N->Conf PG 36 l->wfL K lp l->caB fn K l=true->OkP fn.toList.length (q56 (Ng N)) v fn b ex l lp (cst K l):=by
 intro K
 induction K with
 |zero=>intro l lp N h;omega
 |succ K ih=>
  intro l lp N h hN hc hw hca;obtain⟨N,rfl⟩:∃n,N=n+1:=⟨N-1,by omega⟩
  have hs:∀s∈l.toList,OkP fn.toList.length (Ng (N+1)) v fn b ex s lp (40+6*ndS s+(5*(aa s 6).toList.length+((aa s 6).toList.map fun x=>cst K x+5).sum)+(cst K (aa s 4)+cst K (aa s 5))):=fun s hm=>by
   obtain⟨w1,w2,w3⟩:=hw s hm;obtain⟨c1,c2⟩:=bZ hc hm;obtain⟨a1,a2⟩:=Zz hca hm;rw[Yu]
   exact Qd hv hfn rfl w1 w2 a1 fun x hx=>by
    obtain⟨k1,k2⟩:=ba c1 hx;exact ih x _ N (by omega) (by omega) k1 (w3 x hx) (a2 x hx)
  exact okLP (ce s36 hc).1 hs
end Go.Proofs.YtiojjmlccehpoaaGreat
namespace Go.Proofs.YtiojjmlccehpoaaGreat
open Go Go.AM
section
variable {v fn l:D} {b:Int} {ex:Nat} {lp:Bool}
theorem okZP {N:Nat} (hv:v.toList.length≤maxLen) (hfn:fn.toList.length≤maxLen) (hc:Conf PG 36 l) (hw:wfL (l.size+1) lp l) (hca:caB fn (l.size+1) l=true) (hN:l.size<N+1) (hs:SmQ (N+1) l) {s:D} (hm:s∈l.toList):
 OkP fn.toList.length Nh v fn b ex s lp (1000*(1+ndS s+(tot N (aa s 4)+tot N (aa s 5))+((aa s 6).toList.map (tot N)).sum)):=by
 intro es ts S c hsim hctx hb;obtain⟨w1,w2,w3⟩:=hw s hm;obtain⟨c1,c2⟩:=bZ hc hm;obtain⟨a1,a2⟩:=Zz hca hm;have g1:s.size<aY (fv v fn b ex s es ts S):=cC (by simp[fv])
 generalize hK1:aY (fv v fn b ex s es ts S)=K1 at g1;obtain⟨K1,rfl⟩:∃n,K1=n+1:=⟨K1-1,by omega⟩
 have hk:∀x∈aW s,OkP fn.toList.length (q56 (Ng K1)) v fn b ex x (lp||bT s) (cst s.size x):=fun x hx=>by
  obtain⟨k1,k2⟩:=ba c1 hx;exact okAllP hv hfn s.size x (lp||bT s) K1 k2 (by omega) k1 (wfL_irr _ _ _ _ k1 (by omega) k2 (w3 x hx)) (by rw[<- Fm fn l.size s.size x k1 (by omega) k2];exact a2 x hx)
 have hle:∀x∈aW s,cst s.size x≤1000*tot N x:=fun x hx=>by
  obtain⟨k1,k2⟩:=ba c1 hx;exact(C1 N s.size x k1 (by omega) k2 ((hs s hm).2 x hx)).2.2
 have h4:=hle (aa s 4) (by simp[aW])
 have h5:=hle (aa s 5) (by simp[aW])
 have h6:=sb (aa s 6).toList fun x hx=>hle x (by simp[aW,hx])
 rw[qj]at h6;have h70:=(hs s hm).1;have hok:=(Qd hv hfn rfl w1 w2 a1 hk).le (k':=1000*(1+ndS s+(tot N (aa s 4)+tot N (aa s 5))+((aa s 6).toList.map (tot N)).sum)) (by rw[Ax];omega)
 obtain⟨S',e1,e3,e4,e5⟩:=hok es ts S c hsim hctx hb;refine⟨S',?_,e3,e4,e5⟩
 rw[PM];simp only[hK1];rw[Yu];exact e1
set_option maxHeartbeats 2000000 in
theorem okLzP {nf:Nat} {cost:D->Nat} (hl:l.toList.length≤maxLen) (h:∀s∈l.toList,OkP nf Nh v fn b ex s lp (cost s)):OkP nf JI v fn b ex l lp ((l.toList.map cost).sum):=by
 intro es ts S c hs hc hb;have hlen:ae l=(l.toList.length:Int):=aL l
 have key:=J4 (nf:=nf) (v:=v) (fn:=fn) (b:=b) (ex:=ex) (l:=l) (es:=es) (ts:=ts) (lp:=lp)
  (stP:=qc [l, .int (ae l),v,fn, .int b, .int (ex:Int)]) (cP:=Nh) (cost:=cost)
  (fun i S S' hi he=>by
   unfold fv eh at he;unfold qi;have hg:ay l (i:Int)=l.toList.getD i .other:=bg _ _;rw[tJ,hg,he,hlen];simp only[az,show(i:Int)<(l.toList.length:Int)by omega,be,aj,aZ hi,aq,ax,bf,bt,aC]
   rw[bk (by unfold maxLen at hl;omega)])
  (fun S=>by
   unfold qi eh;rw[tJ,hlen]
   simp only[az,show¬((l.toList.length:Int)<(l.toList.length:Int))by omega,bl,aI])
  (fun s hm S c h1 h2 h3=>h s hm es ts S c h1 h2 h3)
  l.toList.length 0 S c (by omega) hs hc (by simpa using hb)
 obtain⟨S',k1,k3,k4,k5⟩:=key;refine⟨S',?_,k3,k4,k5⟩
 unfold qi eh at k1;unfold fv eh;rw[JJ,YD,Ad];simp only[b8]at k1;simp only[k1,aq,ax,bf,bt,aC,aj]
end
def GL (nf n:Nat) (x:D) (p:Int):Prop:=(p = -1∧Pln x)∨((x=jmp 0∨x=jmp 1)∧0≤p∧p<(n:Int))∨(x=ii 0 23 0 0 0 0 0∧p≤ -2∧ -2-p<(nf:Int))
theorem tL {α β γ:Type} (f:β->γ):∀(a:List α) (c:List β),a.zip (c.map f)=(a.zip c).map fun q=>(q.1,f q.2)
 | [],_=>by simp
 |_::_,[]=>by simp
 |x::a,y::c=>by simp[tL f a c]
theorem ini_pln {V:D} {b:Int} {l:List D}:∀x∈l.flatMap (nc V b),Pln x:=by
 intro x hx;obtain⟨y,_,hy⟩:=lK.1 hx;simp only[nc,cy,fx,fz]at hy;rcases hy with rfl|rfl|rfl|rfl|rfl
 ·exact J5 _ 2 (by omega) (by omega)
 ·exact Zv 2 (by omega) (by omega) (.inr (.inr rfl))
 ·exact pl_3
 ·exact pl_5b
 ·exact Zw (.inr (.inr rfl))
theorem J6 {V:D} {b:Int} {l:List D}:∀k,∀x∈lw V b l k,Pln x
 |0,x,hx=>by simp[lw]at hx
 |k+1,x,hx=>by
  simp only[lw,Ay,cV,cy]at hx;rcases hx with(rfl|hx)|hx
  ·exact pl_4 0 (by omega) (by omega)
  ·exact NF x hx
  ·exact J6 k x hx
theorem simP0 {nf:Nat} {C:List D} (hC:∀x∈C,Pln x):SimP nf {A:= .list [],L:=[],nx:=1,to:=bz C,ins:=C}:=
 {at_:=⟨fun _=>0,⟨[],rfl,fun _=>rfl⟩,fun _=>⟨Int.le_refl 0,Int.natCast_nonneg _⟩⟩,len:=Au C,
  zp:=fun q hq=>by obtain⟨h1,h2⟩:=Az hq;exact .inl ⟨h2,hC _ h1⟩
  lrng:=fun x hx=>by simp at hx}
theorem chk_ca {f v fn:D} (h:Ar f v fn=0):caB fn ((aa f 2).size+1) (aa f 2)=true:=by
 unfold Ar at h;split at h
 ·cases hc:caB fn ((aa f 2).size+1) (aa f 2)with
  |true=>rfl
  |false=>rw[hc]at h;simp[gE]at h
 ·rename_i h2;exact absurd h h2
set_option maxHeartbeats 8000000 in
theorem SJ {f v fn:D} {b:Int} (hf:Conf PG 38 f) (hv:Conf PG 26 v) (hn:Conf PG 26 fn) (zs1:v.toList.length≤40) (zs2:fn.toList.length≤70) (zs3:(aa f 1).toList.length≤300) (zs4:∃N,(aa f 2).size<N∧SmQ N (aa f 2)∧tot N (aa f 2)≤5000):
 (∃e,e≠0∧q17 [f,v,fn, .int b]=some [.list [], .list [], .int e])∨
 ∃X Y,q17 [f,v,fn, .int b]=some [.list (X ++ [ii 0 2 0 0 0 0 0]),tD (Y ++ [-1]), .int 0]∧X.length=Y.length∧X.length≤100000000∧∀q∈(X ++ [ii 0 2 0 0 0 0 0]).zip (Y ++ [-1]),GL fn.toList.length (X.length+1) q.1 q.2:=by
 have cb:Conf PG 36 (aa f 2):=by rw[bx];exact bi Jz hf
 obtain⟨N,hN,hSm,htot⟩:=zs4;obtain⟨N,rfl⟩:∃n,N=n+1:=⟨N-1,by omega⟩
 have hfit:Fit (aa f 2):=fun M hM=>by
  obtain⟨t1,t2,_⟩:=C1 (N+1) M _ cb hN hM hSm;exact⟨t1,by omega⟩
 obtain⟨c1,_⟩:=Zc hf hv hn hfit (by omega) (by omega) (by omega)
 by_cases hz:Ar f v fn=0
 ·right
  have hca:=chk_ca hz;have hml:∀n:Nat,n≤10000000->n≤maxLen:=fun n h=>by unfold maxLen;omega
  have hwf:=wf_body hz;rw[hz]at c1;have lv:=va s26 hv;have e48:=clone48 lv (by omega)
  have n1:=names17 (v:=v) (sd2:=fn) (f:=f) (n:=b) (by omega) (by omega)
  have hV:(D.list (v.toList++nms (aa f 1).toList)).toList.length≤maxLen:=by rw[tl];simp[nms];exact hml _ (by omega)
  generalize D.list (v.toList++nms (aa f 1).toList)=V at n1 hV;have i1:=ini17 (V:=V) (fn:=fn) (f:=f) (b:=b) hV (by omega)
  have hil:=ini_len V b (aa f 1).toList;have hip:∀x∈(aa f 1).toList.flatMap (nc V b),Pln x:=ini_pln;generalize (aa f 1).toList.flatMap (nc V b)=C at i1 hil hip;have hlm:=(ce s36 cb).1;have ok:=okLzP (nf:=fn.toList.length) (l:=aa f 2) (v:=V) (fn:=fn) (b:=b) (ex:=1) (lp:=false) hlm (fun s hm=>okZP (N:=N) hV (hml _ (by omega)) cb hwf hca hN hSm hm)
  rw[qj]at ok;have htot':((aa f 2).toList.map fun s=>1+ndS s+(tot N (aa s 4)+tot N (aa s 5))+((aa s 6).toList.map (tot N)).sum).sum≤5000:=by simpa only[tot]using htot
  obtain⟨S,k1,k3,k4,k5⟩:=ok [] [] _ 2000000 (simP0 hip) ⟨(fun h=>by cases h),(fun h=>by cases h),bj _,bj _,rfl⟩ (by unfold bO;simp only[cZ];omega)
  unfold bO at k5;have t2:=k3.len;have hn1:1≤S.nx:=k4;have a1:=k3.here 1;have hpl3:=C2 V b (aa f 1).toList (aa f 1).toList.length;have hpp:∀x∈lw V b (aa f 1).toList (aa f 1).toList.length,Pln x:=J6 _;generalize hP:lw V b (aa f 1).toList (aa f 1).toList.length=P at hpl3 hpp;have a2:=a1.emit hpp;obtain⟨g,hg1,hg2⟩:=a1.at_;simp only at hg1 hg2;have hsub:aM .sub .i64 (ae (aa f 1)) 1=((aa f 1).toList.length:Int)-1:=by rw[aL];exact fp (by omega) (by omega)
  refine⟨S.ins++P,(S.to++bz P).map (res g),?_,by simp[bz];omega,by simp;omega,?_⟩
  ·have e3:=first49 (V:=V) (fn:=fn) (b:=b);have e5:JI [V,fn, .int b, .int 1,aa f 2, .list [], .list [], .list [], .list [],tD (bz C), .list C, .int 1]=some [.list [], .list [],tD S.to, .list S.ins,lD S.L,S.A, .int (S.nx:Int)]:=k1;have e6:=fu (E:= .list []) (T:= .list []) (L:=lD S.L) (fn:=fn) (nx:=(S.nx:Int)) (ex:=1) (b:=b) (v:=V) (A:=S.A) (to:=tD S.to) (ins:=S.ins) (p:=1);have e7:=pop17 (E:= .list []) (T:= .list []) (L:=lD S.L) (A:=dN 106 S.A (.int 1) (.int (S.ins.length:Int))) (V:=V) (fn:=fn) (f:=f) (b:=b) (nx:=(S.nx:Int)) (ex:=1) hV (aa f 1).toList.length S.to S.ins (bj _) (by omega) (by omega)
   rw[hP]at e7;have e7':FD [.list [], .list [],lD S.L,dN 106 S.A (.int 1) (.int (S.ins.length:Int)), .int (S.nx:Int),V,fn, .int b, .int 1,f] [.int (((aa f 1).toList.length:Int)-1),tD S.to, .list S.ins]=some [.int 0,tD (S.to++bz P), .list (S.ins++P)]:=by rw[CP];exact e7
   have e8:=dp (E:= .list []) (T:= .list []) (L:=lD S.L) (A:=dN 106 S.A (.int 1) (.int (S.ins.length:Int))) (fn:=fn) (nx:=(S.nx:Int)) (ex:=1) (v:=V) (b:=b) (l:=[ii 0 2 0 0 0 0 0]) (to:=S.to++bz P) (ins:=S.ins++P) (by simp) (by simp[bz];omega) (by simp;omega) (by intro x hx;simp only[cy,fx,fz]at hx;subst hx;exact cu ..)
   have e9:q60 [.list [], .list [],lD S.L,dN 106 S.A (.int 1) (.int (S.ins.length:Int)),tD (S.to++bz P++bz [ii 0 2 0 0 0 0 0]), .list (S.ins++P ++ [ii 0 2 0 0 0 0 0]), .int (S.nx:Int),V,fn, .int b, .int 1]=some [tD ((S.to++bz P++bz [ii 0 2 0 0 0 0 0]).map (res g))]:=by
    have hi:=idx60 (E:= .list []) (T:= .list []) (L:=lD S.L) (V:=V) (fn:=fn) (ins:= .list (S.ins++P ++ [ii 0 2 0 0 0 0 0])) (b:=b) (nx:=(S.nx:Int)) (ex:=1) hg1 (S.to++bz P++bz [ii 0 2 0 0 0 0 0]) (by simp[bz];omega)
    have hz:ae (.list [])=0:=by rw[bL];rfl
    rw[Yz,F60_eq];simp only[hi,hz,aD,be,aj,aq,ax,bf,bt,nI]
   have hr2:D.list [.agg [.int 0, .int 0, .int 2, .int 0, .int 0, .int 0, .int 0, .int 0, .int 0]] = .list [ii 0 2 0 0 0 0 0]:=rfl;have hlast:(S.to++bz P++bz [ii 0 2 0 0 0 0 0]).map (res g)=(S.to++bz P).map (res g) ++ [-1]:=by rw[ll];rfl
   rw[hlast]at e9;rw[Nn,YF,c1,hr2];simp only[aq,ax,bf,bt,aC,cp,be,bX,aj,aI,e48,n1,e3,i1,e5,e6,hsub,e7',e8,e9]
  ·intro q hq;have hll:(S.ins++P).length=((S.to++bz P).map (res g)).length:=by simp[bz];omega
   rw[List.zip_append hll]at hq;rcases cV.1 hq with hq|hq
   ·rw[tL]at hq;obtain⟨q',hq',rfl⟩:=ic.1 hq;rcases a2.zp q' hq' with⟨h1,h2⟩|⟨h1,h2,h3⟩|⟨h1,h2,h3⟩
    ·exact .inl ⟨by simp only[h1];rfl,h2⟩
    ·refine .inr (.inl ⟨h1,?_⟩)
     have:=hg2 q'.2;simp only[res];rw[if_neg (by omega)]
     simp;omega
    ·refine .inr (.inr ⟨h1,?_⟩)
     simp only[res];rw[if_pos (by omega)]
     exact⟨h2,h3⟩
   ·simp at hq;subst hq;exact .inl ⟨rfl,pl_2⟩
 ·left
  refine⟨Ar f v fn,hz,?_⟩
  rw[Nn,YF,c1];simp only[aq,ax,bf,aC,cp,hz,bl,dk,aj]
end Go.Proofs.YtiojjmlccehpoaaGreat
namespace Go.Proofs.YtiojjmlccehpoaaGreat
open Go Go.AM
theorem FQ {fn X Y:D} {i:Nat} {n o f w c a b p:Int} (hx:ay X (i:Int)=ii n o f w c a b) (hq:q20 [ii n o f w c a b]=some [.bool true]) (hp:ah (ay Y (i:Int))=p) (hi:i<X.toList.length) (hj:i<Y.toList.length) (hX:X.toList.length≤1000000000) (hF:fn.toList.length≤1000000000)
 (hc:(o≠20∧o≠23∧p = -1)∨(o=20∧f=2∧0≤p∧p<(X.toList.length:Int))∨(o=23∧p≤ -2∧ -2-p<(fn.toList.length:Int))):
 Ap [fn,X,Y] [.int (i:Int)]=some (.inl [.int ((i+1:Nat):Int)]):=by
 rw[JV,hx,hp,hq,aL,aL,aZ hi,aZ hj,bk (by omega)]
 rcases hc with⟨h1,h2,rfl⟩|⟨rfl,rfl,h3,h4⟩|⟨rfl,h3,h4⟩
 ·simp[vs,cp,bI,hi,h1,h2]
 ·simp[vs,cp,bI,hi,show¬p<0 by omega,show¬(X.toList.length:Int)≤p by omega]
 ·rw[fp (by omega) (by omega)]
  simp[vs,cp,bI,hi,show¬ -2<p by omega,show¬(fn.toList.length:Int)≤ -2-p by omega]
theorem lab5 {fn:D} {X:List D} {Y:List Int} (hl:X.length=Y.length) (hX:X.length≤1000000000) (hF:fn.toList.length≤1000000000) (hg:∀q∈X.zip Y,GL fn.toList.length X.length q.1 q.2):
 loW (Ap [fn, .list X,tD Y]) [.int 0]=some [.int 0]:=by
 have key:∀k i:Nat,i+k=X.length->loW (Ap [fn, .list X,tD Y]) [.int (i:Int)]=some [.int 0]:=by
  intro k
  induction k with
  |zero=>
   intro i hi;rw[bD,JV,bL];simp only[az,show¬((i:Int)<(X.length:Int))by omega,bl,aI]
  |succ k ih=>
   intro i hi;have hlt:i<X.length:=by omega
   have hlt':i<Y.length:=by omega
   have hm:(X[i],Y[i])∈X.zip Y:=by
    have:i<(X.zip Y).length:=by simp;omega
    have:=b7 this;simpa using this
   have hx:ay (.list X) (i:Int)=X[i]:=by rw[bg];show X.getD i .other=_;rw[ne,cq hlt];rfl
   have hp:ah (ay (tD Y) (i:Int))=Y[i]:=by rw[m8 hlt',ne,cq hlt'];rfl
   have hi1:i<(D.list X).toList.length:=hlt;have hj1:i<(tD Y).toList.length:=by unfold tD;rw[tl,gP];exact hlt'
   have e:Ap [fn, .list X,tD Y] [.int (i:Int)]=some (.inl [.int ((i+1:Nat):Int)]):=by
    rcases hg _ hm with⟨h1,h2⟩|⟨h1,h2,h3⟩|⟨h1,h2,h3⟩
    ·obtain⟨⟨n,o,f,w,c,a,b,h4,h5,h6⟩,h7⟩:=h2;simp only at h1 h4 h7;rw[h4]at hx h7;exact FQ hx h7 hp hi1 hj1 hX hF (.inl ⟨h5,h6,h1⟩)
    ·simp only at h1 h2 h3;rcases h1 with h1|h1<;>rw[h1]at hx
     ·exact FQ hx (Zx 0 (by omega) (by omega)) hp hi1 hj1 hX hF (.inr (.inl ⟨rfl,rfl,h2,h3⟩))
     ·exact FQ hx (Zx 1 (by omega) (by omega)) hp hi1 hj1 hX hF (.inr (.inl ⟨rfl,rfl,h2,h3⟩))
    ·simp only at h1 h2 h3;rw[h1]at hx;exact FQ hx vl_call hp hi1 hj1 hX hF (.inr (.inr ⟨rfl,h2,h3⟩))
   rw[bD,e];exact ih (i+1) (by omega)
 exact key X.length 0 (by omega)
set_option maxHeartbeats 2000000 in
theorem law5 {f v fn:D} {b:Int} (hf:Conf PG 38 f) (hv:Conf PG 26 v) (hn:Conf PG 26 fn):q5 [f,v,fn, .int b]=some [.bool true]:=by
 obtain⟨s,h16,hs⟩:=small16 (v:=v) (fn:=fn) hf;rw[q5_eq,F5_eq,h16,q12_eq];cases s with
 |false=>simp only[aq,ax,bf,aK,bI,aj,dk]
 |true=>
  obtain⟨zs1,zs2,zs3,zs4⟩:=hs rfl;rcases SJ (b:=b) hf hv hn zs1 zs2 zs3 zs4 with⟨e,he,h17⟩|⟨X,Y,h17,h1,h2,h3⟩
  ·rw[h17];have hz:ae (.list [])=0:=by rw[bL];rfl
   simp[vs,aK,bI,cp,he,hz]
  ·have hl5:=lab5 (fn:=fn) (X:=X ++ [ii 0 2 0 0 0 0 0]) (Y:=Y ++ [-1]) (by simp[h1]) (by simp;omega) (by omega) (by simpa using h3)
   have hl5':l5_9 [fn, .list (X ++ [ii 0 2 0 0 0 0 0]),tD (Y ++ [-1])] [.int 0]=some [.int 0]:=by rw[PY];exact hl5
   have z1:ae (.list (X ++ [ii 0 2 0 0 0 0 0]))=((X.length+1:Nat):Int):=by rw[bL];simp
   have z2:ae (tD (Y ++ [-1]))=((X.length+1:Nat):Int):=by rw[fO];simp[h1]
   have z3:aM .sub .i64 ((X.length+1:Nat):Int) 1=(X.length:Int):=by rw[fp (by omega) (by omega)];omega
   have z4:aS (.list (X ++ [ii 0 2 0 0 0 0 0])) (X.length:Int)=true:=aZ (d:= .list (X ++ [ii 0 2 0 0 0 0 0])) (by rw[tl];simp)
   have z5:ay (.list (X ++ [ii 0 2 0 0 0 0 0])) (X.length:Int)=ii 0 2 0 0 0 0 0:=by rw[bg];show(X ++ [_]).getD X.length .other=_;simp[List.getD]
   have z6:¬((X.length+1:Nat):Int)=0:=by omega
   rw[h17];simp only[aq,ax,bf,bt,aK,bI,aj,bX,aI,z1,z2,z3,z4,z5,z6,hl5',bN,aC,aD,cp,be,bl,dV]
theorem sound5:aH env.P 5 S5 q5:=by rw[q5_eq];exact ey j8 SF 60 12
theorem globM {S:FunS} {p s:List D} {w:World} (hm:∃m,w.cell? ⟨0,0,none⟩=some (.int .i64 m)) (g:Nat) (cs:List AV) (h:(eV S p s).glob g=some cs):g<w.heap.size∧vX (fun b=>b<w.heap.size) w g cs:=by
 obtain⟨m,hm⟩:=hm;have hg:(eV S p s).glob g=FV g GLT:=rfl;rw[hg]at h;cases g with
 |zero=>
  have:FV 0 GLT=some [.anyI .i64]:=rfl;rw[this]at h;cases h;refine⟨?_,?_⟩
  ·by_cases h0:0<w.heap.size
   ·exact h0
   ·exfalso
    have:w.heap[0]? = none:=Array.getElem?_eq_none (by omega)
    simp[World.cell?,this]at hm
  ·refine⟨?_,fun h=>by cases h⟩
   simp only[RepAt];exact⟨⟨_,hm,by simp only[Rep];exact⟨m,rfl⟩⟩,trivial⟩
 |succ g=>exact absurd h (by have:FV (g+1) GLT=none:=rfl
                             rw[this];simp)
theorem rep26 {w:World} {E:Nat->Prop} {d:D} {v:Value} (h:RepD PG E w 26 d [v]):Rep bA E w (.rows 9 d) v:=by
 have hc:bC 8 26 d = [.rows 9 d]:=by kernel_rfl
 have:=dc (ρ:=bA) 8 26 d [v] (by kernel_rfl) h
 rw[hc]at this;simpa[RepL]using this
theorem rep22 {w:World} {E:Nat->Prop} (n:Int):Rep bA E w (.ui .u32 n) (.int .u32 n):=by simp only[Rep]
theorem top5 {d0 d1 d2:D} {n:Int} (h0:Conf PG 38 d0) (h1:Conf PG 26 d1) (h2:Conf PG 26 d2) (w:World) (hm:∃m,w.cell? ⟨0,0,none⟩=some (.int .i64 m)) {v0 v1 v2:Value}
 (r0:Rep bA (fun b=>b<w.heap.size) w (.dat 38 d0) v0) (r1:RepD PG (fun b=>b<w.heap.size) w 26 d1 [v1]) (r2:RepD PG (fun b=>b<w.heap.size) w 26 d2 [v2]):
 Calls Tryz.prog 5 #[v0,v1,v2, .int .u32 n] w fun e w'=>e = .returned (.bool true)∧RowKit.Below w.heap.size w w':=by
 refine(sound5 [] [d0,d1,d2, .int n] [.bool true] rfl (law5 h0 h1 h2) (fun b=>b<w.heap.size) w bA _ w #[v0,v1,v2, .int .u32 n] (Inv.empty w _ (fun _ h=>h) rfl rfl (globM hm))
  (RepL.cons r0 (RepL.cons (rep26 r1) (RepL.cons (rep26 r2) (RepL.cons (rep22 n) RepL.nil))))).mono ?_
 rintro e w' ⟨u,ρ',E',rfl,inv,reach,rep⟩;have hr:GW S5 [] (bdL [.bool true]) = .ub true:=rfl;rw[hr]at rep;simp only[Rep]at rep;subst rep;exact⟨rfl,⟨inv.io.1,inv.io.2.1,inv.io.2.2,reach.size,inv.old⟩⟩
end Go.Proofs.YtiojjmlccehpoaaGreat
