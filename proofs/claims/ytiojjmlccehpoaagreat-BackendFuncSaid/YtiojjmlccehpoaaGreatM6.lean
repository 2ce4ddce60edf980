/-
  Plain laws: lists of statements, and the statements that hold them: conditionals and loops.
-/
import Derived.Test.YtiojjmlccehpoaaGreatM5
set_option linter.unusedSimpArgs false
set_option linter.unusedVariables false
namespace Go.Proofs.YtiojjmlccehpoaaGreat
open Go Go.AM
def OkQ (Q Q':uAC) (v fn:D) (b:Int) (ex:Nat) (ex':Int) (s:D) (lp:Bool) (k:Nat):Prop:=
 ∀(es ts:List Int) (top end_:Int) (φ:Nat->Nat) (f:Int->Int) (S:PS) (R:RS) (c:Nat),Sim φ f S R->Ctx φ S.nx lp ts es ex top end_ ex'->Bud S R ts (k+c)->Both Q Q' v fn b ex ex' s es ts top end_ φ S R c
section
variable {Q Q':uAC} {v fn s:D} {b:Int} {ex:Nat} {ex':Int} {lp:Bool}
set_option maxHeartbeats 2000000 in
theorem okL {l:D} {cost:D->Nat} (hl:l.toList.length≤maxLen) (h:∀s∈l.toList,OkQ Q Q' v fn b ex ex' s lp (cost s)):OkQ (q56 Q) (q66 Q') v fn b ex ex' l lp ((l.toList.map cost).sum):=by
 intro es ts top end_ φ f S R c hs hc hb;have hlen:ac l=(l.toList.length:Int):=aK l
 have key:=Sb (v:=v) (fn:=fn) (b:=b) (ex:=ex) (ex':=ex') (l:=l) (es:=es) (ts:=ts) (top:=top) (end_:=end_) (lp:=lp)
  (stP:=Gi Q [l, .int (ac l),v,fn, .int b, .int (ex:Int)]) (stR:=Gr Q' [l, .int top, .int end_,v,fn, .int b, .int ex']) (cP:=Q) (cR:=Q') (cost:=cost)
  (fun i S S' hi he=>by
   unfold fT eK at he;unfold qH;have hg:ax l (i:Int)=l.toList.getD i .other:=bl _ _;rw[Dz,hg,he,hlen];simp only[ay,show(i:Int)<(l.toList.length:Int)by omega,ba,ap,aX hi,aq,aw,aU,bI,aF]
   rw[bg (by unfold maxLen at hl;omega)])
  (fun S=>by
   unfold qH eK;rw[Dz,hlen]
   simp only[ay,show¬((l.toList.length:Int)<(l.toList.length:Int))by omega,bi,aJ])
  (fun i R R' hi he=>by
   unfold fu ef at he;unfold qI;have hg:ax l (i:Int)=l.toList.getD i .other:=bl _ _;rw[sK,hg,he,hlen];simp only[ay,show(i:Int)<(l.toList.length:Int)by omega,ba,ap,aX hi,aq,aw,aU,bI,aF]
   rw[bg (by unfold maxLen at hl;omega)])
  (fun R=>by
   unfold qI ef;rw[sK,hlen]
   simp only[ay,show¬((l.toList.length:Int)<(l.toList.length:Int))by omega,bi,aJ])
  (fun s hm φ f S R c h1 h2 h3=>h s hm es ts top end_ φ f S R c h1 h2 h3)
  l.toList.length 0 φ f S R c (by omega) hs hc (by simpa using hb)
 obtain⟨φ',f',S',R',k1,k2,k3,k4,k5⟩:=key;refine⟨φ',f',S',R',?_,?_,k3,k4,k5⟩
 ·unfold qH eK at k1;unfold fT eK;rw[OC,F56_eq,KM];simp only[bV]at k1;simp only[k1,aq,aw,aU,bI,aF,ap]
 ·unfold qI ef at k2;unfold fu ef;rw[OP,F66_eq,AX];simp only[bV]at k2;simp only[k2,aq,aw,aU,bI,ap]
theorem Sd {v d:D} {b:Int} (h:fm d=true):(oO v b d).length≤6*nd d+1:=by unfold oO;have:=na (v:=v) (b:=b) h;simp;omega
theorem Sim.test {φ f S R} (h:Sim φ f S R) (v:D) (b:Int) (d:D) {p:Nat} (h1:1≤p) (h2:p≤S.nx):
 Sim φ f {S with to:=S.to++aR (oO v b d) ++ [(p:Int)],ins:=S.ins++oO v b d ++ [jmp 1]} {R with to:=R.to++aR (oO v b d) ++ [(φ p:Int)],ins:=R.ins++oO v b d ++ [jmp 1]}:=
 (h.emit (oO v b d)).push (jmp 1) h1 h2
theorem unm {φ S R φ' S' R'} (x:Ext φ S R φ' S' R') {m:Nat} (hm:m<R.pl.length) (hn:∀p,1≤p->p≤S.nx->φ p≠m):∀p,1≤p->p≤S'.nx->φ' p≠m:=fun p h1 h2=>by
 by_cases hp:p≤S.nx
 ·rw[x.old p hp];exact hn p h1 hp
 ·have:=x.new p (by omega) h2;omega
theorem Sim.take {φ f S R} (h:Sim φ f S R) {m:Nat} (hm:m<R.pl.length) (hn:∀p,1≤p->p≤S.nx->φ p≠m) (h0:R.pl.getD m 0=0):
 Sim (upN φ (S.nx+1) m) f {S with nx:=S.nx+1} R:=by
 have ho:∀p,p≤S.nx->upN φ (S.nx+1) m p=φ p:=fun p hp=>by unfold upN;rw[if_neg (by omega)]
 have hw:upN φ (S.nx+1) m (S.nx+1)=m:=by unfold upN;rw[if_pos rfl]
 refine{at_:=h.at_,ins:=h.ins,len:=h.len,to:= ?_,rng:=fun p hp=> ?_,lab:= ?_,lrng:=fun x hx=> ?_,pl:=fun p h1 h2=> ?_,inj:=fun p q p1 p2 q1 q2 e=> ?_,new:=fun p hp=>h.new p (by simp at hp;omega),fb:=h.fb}
 ·simp only[h.to];refine im fun p hp=> ?_
  rcases h.rng p hp with hp|⟨p1,p2⟩
  ·rw[oP hp,oP hp]
  ·obtain⟨k,rfl⟩:∃k:Nat,p=(k:Int):=⟨p.toNat,by omega⟩
   rw[oQ,oQ,ho k (by omega)]
 ·rcases h.rng p hp with hp|⟨p1,p2⟩
  ·exact .inl hp
  ·exact .inr ⟨p1,by simp;omega⟩
 ·simp only[h.lab];refine im fun x hx=> ?_
  have:=h.lrng x hx;rw[ho x.2.toNat (by omega)]
 ·have:=h.lrng x hx;exact⟨this.1,by simp;omega⟩
 ·simp only at h2;by_cases hp:p=S.nx+1
  ·subst hp;rw[hw,h.new _ (by omega)]
   exact⟨hm,h0⟩
  ·rw[ho p (by omega)]
   exact h.pl p h1 (by omega)
 ·simp only at p2 q2;by_cases hp:p=S.nx+1
  ·by_cases hq:q=S.nx+1
   ·omega
   ·subst hp;rw[hw,ho q (by omega)]at e
    exact absurd e.symm (hn q q1 (by omega))
  ·by_cases hq:q=S.nx+1
   ·subst hq;rw[hw,ho p (by omega)]at e
    exact absurd e (hn p p1 (by omega))
   ·rw[ho p (by omega),ho q (by omega)]at e
    exact h.inj p q p1 (by omega) q1 (by omega) e
end
end Go.Proofs.YtiojjmlccehpoaaGreat
namespace Go.Proofs.YtiojjmlccehpoaaGreat
open Go Go.AM
section
variable {Q Q':uAC} {v fn s:D} {b:Int} {ex:Nat} {ex' top end_:Int} {es ts:List Int} {φ:Nat->Nat} {f:Int->Int} {S:PS} {R:RS} {c:Nat} {lp:Bool}
theorem q66_nil {l:D} (hl:l.toList = []):q66 Q' (fu v fn b ex' l top end_ R)=some (ef R):=by
 unfold fu ef;have hlen:ac l=0:=by rw[aK,hl];rfl
 rw[OP,F66_eq,AX];simp only[];rw[bn,sK,hlen];simp only[ay,show¬((0:Int)<0)by omega,bi,aJ,aq,aw,aU,bI,ap]
theorem Ctx.up {φ φ':Nat->Nat} {nx nx':Nat} {lp ts es ex top end_ ex'} (h:Ctx φ nx lp ts es ex top end_ ex') (ho:∀p,p≤nx->φ' p=φ p) (hn:nx≤nx'):Ctx φ' nx' lp ts es ex top end_ ex':=
 ⟨fun hl=>by obtain⟨l,p,h1,h2,h3,h4⟩:=h.t hl;exact⟨l,p,h1,h2,by omega,by rw[ho p h3];exact h4⟩,
  fun hl=>by obtain⟨l,p,h1,h2,h3,h4⟩:=h.e hl;exact⟨l,p,h1,h2,by omega,by rw[ho p h3];exact h4⟩,
  h.x1,by have:=h.x2;omega,by rw[ho ex h.x2];exact h.x,h.len⟩
theorem Bud.le {S R ts} {S':PS} {R':RS} {c c':Nat} (h:Bud S R ts c) (h1:S'.ins.length+c'≤S.ins.length+c) (h2:S'.nx+c'≤S.nx+c) (h3:R'.pl.length+c'≤R.pl.length+c) (h4:S'.L.length+c'≤S.L.length+c) (h5:c'≤c):Bud S' R' ts c':=by
 unfold Bud at h ⊢;omega
set_option maxHeartbeats 8000000 in
theorem s6 {k4 k5:Nat} (hs:Sim φ f S R) (hc:Ctx φ S.nx lp ts es ex top end_ ex') (hv:v.toList.length≤maxLen) (hk:ah (aa s 0)=6) (hw:stB s=true) (h3:(aa s 3).toList.length=1)
 (h4:OkQ (q56 Q) (q66 Q') v fn b ex ex' (aa s 4) lp k4) (h5:OkQ (q56 Q) (q66 Q') v fn b ex ex' (aa s 5) lp k5) (hb:Bud S R ts (40+6*ndS s+(k4+k5)+c)):Both (eU Q) (eV Q') v fn b ex ex' s es ts top end_ φ S R c:=by
 have hf:fm (ax (aa s 3) 0)=true:=oR (i:=0) hw (by omega)
 rw[Lw h3]at hb;obtain⟨r1,r2,r3,r4⟩:=hs.tolen;have hl:=Sd (v:=v) (b:=b) hf;have hin:aS (aa s 3) 0=true:=aX (i:=0) (by omega)
 have hbb:=hb;unfold Bud at hb;generalize hT:oO v b (ax (aa s 3) 0)=T at hl;generalize hd:ax (aa s 3) 0=d at *;obtain⟨a1,a2,a3⟩:=hs.fresh;generalize hφ1:upN φ (S.nx+1) R.pl.length=φ1 at a1 a2 a3;obtain⟨b1,b2⟩:=a1.mark;have c1:=b1.test v b d (p:=S.nx+1) (by omega) (aP _)
 rw[a3,hT]at c1;have cx0:=a2.trans b2
 have hm1:∀p,1≤p->p≤S.nx+1->φ1 p≠R.pl.length+1:=fun p h1 h2=>by
  have:=(a1.pl p h1 h2).1;simp at this;omega
 obtain⟨φ2,f2,S4,R4,d1,d2,d3,d4,d5⟩:=h4 es ts top end_ φ1 f _ _ (k5+20+c) c1 (hc.up cx0.old cx0.nx) (by
  unfold Bud;simp[aR];omega)
 have dd5:=d5;unfold Bud at dd5;obtain⟨t1,t2,t3,t4⟩:=d3.tolen;have x4:Ext φ S R φ2 S4 R4:=cx0.trans ⟨d4.old,d4.nx,d4.pl,d4.new,d4.keep⟩;have hp2:S.nx+1≤S4.nx:=d4.nx;have hm0':φ2 (S.nx+1)=R.pl.length:=by rw[d4.old (S.nx+1) (aP _),a3]
 have hl2:R.pl.length+2≤R4.pl.length:=by have:=d4.pl;simp at this;omega
 have hm1':∀p,1≤p->p≤S4.nx->φ2 p≠R.pl.length+1:=unm d4 (by simp) hm1
 have h0':R4.pl.getD (R.pl.length+1) 0=0:=by
  rw[d4.keep (R.pl.length+1) (by simp) hm1]
  simp[List.getD,List.getElem?_append]
 have P1:q49 [tD es,tD ts,lD S.L,S.A,tD S.to, .list S.ins,v,fn, .int b, .int (ex:Int), .int (S.nx:Int)]=some [.int ((S.nx+1:Nat):Int), .int ((S.nx+1:Nat):Int)]:=ft (by omega)
 have P2:=DT (E:=tD es) (T:=tD ts) (L:=lD S.L) (A:=S.A) (fn:=fn) (nx:=((S.nx+1:Nat):Int)) (ex:=(ex:Int)) (b:=b) hv hf (to:=S.to) (ins:=S.ins) (p:=((S.nx+1:Nat):Int)) (by omega) (by omega)
 have P3:q56 Q [v,fn, .int b, .int (ex:Int),aa s 4,tD es,tD ts,lD S.L,S.A,tD (S.to++aR T ++ [((S.nx+1:Nat):Int)]), .list (S.ins++T ++ [jmp 1]), .int ((S.nx+1:Nat):Int)]=some [tD es,tD ts,tD S4.to, .list S4.ins,lD S4.L,S4.A, .int (S4.nx:Int)]:=d1;have R1:=gm (LB:=lD R.L) (to:=tD R.to) (l:= .list R.ins) (v:=v) (fn:=fn) (b:=b) (ex:=ex') (pl:=R.pl) (by omega)
 have R2:=gm (LB:=lD R.L) (to:=tD R.to) (l:= .list R.ins) (v:=v) (fn:=fn) (b:=b) (ex:=ex') (pl:=R.pl ++ [0]) (by simp;omega)
 have R3:=Bl (LB:=lD R.L) (PL:=tD (R.pl ++ [0] ++ [0])) (fn:=fn) (ex:=ex') (b:=b) hv hf (to:=R.to) (ins:=R.ins) (p:=(R.pl.length:Int)) (by omega) (by omega)
 have R4':q66 Q' [v,fn, .int b, .int ex',aa s 4, .int top, .int end_,lD R.L,tD (R.pl ++ [0] ++ [0]),tD (R.to++aR T ++ [(R.pl.length:Int)]), .list (R.ins++T ++ [jmp 1])]=some [lD R4.L,tD R4.pl,tD R4.to, .list R4.ins]:=d2;rw[hT]at P2 R3;have hpl1:(R.pl ++ [0]).length=R.pl.length+1:=by simp
 rw[hpl1]at R2;have e1:=d3.here (p:=S.nx+1) (by omega) hp2
 by_cases h5e:(aa s 5).toList = []
 ·
  have hq5:ac (aa s 5)=0:=by rw[aK,h5e];rfl
  have e2:=e1.mput (m:=R.pl.length+1) hm1' (R4.ins.length:Int);rw[hm0']at e1 e2
  have x5:Ext φ S R φ2 {S4 with A:=dB 106 S4.A (.int ((S.nx+1:Nat):Int)) (.int (S4.ins.length:Int))} {R4 with pl:=(R4.pl.set R.pl.length (R4.ins.length:Int)).set (R.pl.length+1) (R4.ins.length:Int)}:=
   ⟨x4.old,x4.nx,by have:=x4.pl;simpa using this,x4.new,fun m hm hn=>by
    rw[<- x4.keep m hm hn,fU _ _ (by omega),fU _ _ (by omega)]⟩
  refine⟨φ2,_,_,_,?_,?_,e2,x5,by unfold Bud;simp;omega⟩
  ·have P4:=fE (E:=tD es) (T:=tD ts) (L:=lD S4.L) (fn:=fn) (nx:=(S4.nx:Int)) (ex:=(ex:Int)) (b:=b) (v:=v) (A:=S4.A) (to:=tD S4.to) (ins:=S4.ins) (p:=((S.nx+1:Nat):Int));unfold fT eK;rw[cJ,hk];simp only[cm,Int.reduceEq,Gk];rw[Rx];simp only[cm,hin,hd,hq5,P1,P2,P3,P4,dk,gL]
  ·have R5:=dl (LB:=lD R4.L) (fn:=fn) (ex:=ex') (b:=b) (v:=v) (to:=tD R4.to) (ins:=R4.ins) (pl:=R4.pl) (m:=R.pl.length) (by omega)
   have R6:q66 Q' [v,fn, .int b, .int ex',aa s 5, .int top, .int end_,lD R4.L,tD (R4.pl.set R.pl.length (R4.ins.length:Int)),tD R4.to, .list R4.ins]=some [lD R4.L,tD (R4.pl.set R.pl.length (R4.ins.length:Int)),tD R4.to, .list R4.ins]:=q66_nil (R:={R4 with pl:=R4.pl.set R.pl.length (R4.ins.length:Int)}) h5e
   have R7:=dl (LB:=lD R4.L) (fn:=fn) (ex:=ex') (b:=b) (v:=v) (to:=tD R4.to) (ins:=R4.ins) (pl:=R4.pl.set R.pl.length (R4.ins.length:Int)) (m:=R.pl.length+1) (by simp;omega)
   unfold fu ef;rw[cK,hk];simp only[cm,Int.reduceEq,Gt];rw[RG];simp only[cm,hin,hd,hq5,R1,R2,R3,R4',show¬((0:Int)<0)by omega]
   rw[R5];simp only[cm,R6];rw[R7];simp only[cm]
 ·have hq5:∃n:Nat,ac (aa s 5)=((n+1:Nat):Int):=by
   rw[aK];cases hh:(aa s 5).toList with
   |nil=>exact absurd hh h5e
   |cons x l=>exact⟨l.length,rfl⟩
  obtain⟨n5,hq5⟩:=hq5;have f1:=d3.take (m:=R.pl.length+1) (by omega) hm1' h0'
  have ho2:∀p,p≤S4.nx->upN φ2 (S4.nx+1) (R.pl.length+1) p=φ2 p:=fun p hp=>by unfold upN;rw[if_neg (by omega)]
  have hw2:upN φ2 (S4.nx+1) (R.pl.length+1) (S4.nx+1)=R.pl.length+1:=by unfold upN;rw[if_pos rfl]
  generalize upN φ2 (S4.nx+1) (R.pl.length+1)=φ3 at *;have g1:=f1.push (jmp 0) (p:=S4.nx+1) (by omega) (aP _)
  rw[hw2]at g1;have hp13:φ3 (S.nx+1)=R.pl.length:=by rw[ho2 _ hp2,hm0']
  have g2:=g1.here (p:=S.nx+1) (by omega) (by simp;omega)
  rw[hp13]at g2
  have xo:Ext φ S R φ3 {S4 with nx:=S4.nx+1} R4:=⟨fun p hp=>by rw[ho2 p (by omega),x4.old p hp],by have:=x4.nx;simp;omega,x4.pl,fun p h1 h2=>by
   by_cases hp:p=S4.nx+1
   ·subst hp;rw[hw2];omega
   ·simp at h2;rw[ho2 p (by omega)];exact x4.new p h1 (by omega),x4.keep⟩
  obtain⟨φ4,f4,S6,R6,i1,i2,i3,i4,i5⟩:=h5 es ts top end_ φ3 _ _ _ (10+c) g2 (hc.up xo.old xo.nx) (by
   unfold Bud;simp;omega)
  have hl6:R4.pl.length≤R6.pl.length:=by have:=i4.pl;simpa using this
  have hn6:S4.nx+1≤S6.nx:=i4.nx;have hw4:φ4 (S4.nx+1)=R.pl.length+1:=by rw[i4.old (S4.nx+1) (aP _),hw2]
  have j1:=i3.here (p:=S4.nx+1) (by omega) hn6
  rw[hw4]at j1;unfold Bud at i5
  have x6:Ext φ S R φ4 S6 {R6 with pl:=R6.pl.set (R.pl.length+1) (R6.ins.length:Int)}:=
   ⟨fun p hp=>by rw[i4.old p (by simp;omega)];exact xo.old p hp,by have:=xo.nx;simp at this;omega,by have:=x4.pl;simp;omega,fun p h1 h2=>by
    by_cases hp:p≤S4.nx+1
    ·rw[i4.old p hp];exact xo.new p h1 hp
    ·have:=i4.new p (by simp;omega) h2;simp at this;omega,fun m hm hn=>by
    rw[fU _ _ (by omega),i4.keep m (by simp;omega) (fun p h1 h2=>by
     by_cases hp:p≤S.nx
     ·rw[xo.old p hp];exact hn p h1 hp
     ·have:=xo.new p (by omega) h2;omega)]
    rw[fU _ _ (by omega),x4.keep m hm hn]⟩
  refine⟨φ4,_,_,_,?_,?_,j1,⟨x6.old,x6.nx,x6.pl,x6.new,x6.keep⟩,by unfold Bud;simp;omega⟩
  ·have P4:q49 [tD es,tD ts,lD S4.L,S4.A,tD S4.to, .list S4.ins,v,fn, .int b, .int (ex:Int), .int (S4.nx:Int)]=some [.int ((S4.nx+1:Nat):Int), .int ((S4.nx+1:Nat):Int)]:=ft (by omega)
   have P5:=eR (E:=tD es) (T:=tD ts) (L:=lD S4.L) (A:=S4.A) (fn:=fn) (nx:=((S4.nx+1:Nat):Int)) (ex:=(ex:Int)) (v:=v) (b:=b) (cc:=0) (p:=((S4.nx+1:Nat):Int)) (to:=S4.to) (ins:=S4.ins) (by omega) (by omega)
   have P6:=fE (E:=tD es) (T:=tD ts) (L:=lD S4.L) (fn:=fn) (nx:=((S4.nx+1:Nat):Int)) (ex:=(ex:Int)) (b:=b) (v:=v) (A:=S4.A) (to:=tD (S4.to ++ [((S4.nx+1:Nat):Int)])) (ins:=S4.ins ++ [jmp 0]) (p:=((S.nx+1:Nat):Int));have P7:q56 Q [v,fn, .int b, .int (ex:Int),aa s 5,tD es,tD ts,lD S4.L,dB 106 S4.A (.int ((S.nx+1:Nat):Int)) (.int ((S4.ins ++ [jmp 0]).length:Int)),tD (S4.to ++ [((S4.nx+1:Nat):Int)]), .list (S4.ins ++ [jmp 0]), .int ((S4.nx+1:Nat):Int)]=some [tD es,tD ts,tD S6.to, .list S6.ins,lD S6.L,S6.A, .int (S6.nx:Int)]:=i1;have P8:=fE (E:=tD es) (T:=tD ts) (L:=lD S6.L) (fn:=fn) (nx:=(S6.nx:Int)) (ex:=(ex:Int)) (b:=b) (v:=v) (A:=S6.A) (to:=tD S6.to) (ins:=S6.ins) (p:=((S4.nx+1:Nat):Int));unfold fT eK;rw[cJ,hk];simp only[cm,Int.reduceEq,Gk];rw[Rx];simp only[cm,hin,hd,hq5,show¬(((n5+1:Nat):Int)=0)by omega,P1,P2,P3,P4,P5,P6,P7,P8,dk,gL]
  ·have R5:=dG (LB:=lD R4.L) (PL:=tD R4.pl) (fn:=fn) (ex:=ex') (b:=b) (v:=v) (cc:=0) (m:=((R.pl.length+1:Nat):Int)) (to:=R4.to) (ins:=R4.ins) (by omega) (by omega)
   have R6':=dl (LB:=lD R4.L) (fn:=fn) (ex:=ex') (b:=b) (v:=v) (to:=tD (R4.to ++ [((R.pl.length+1:Nat):Int)])) (ins:=R4.ins ++ [jmp 0]) (pl:=R4.pl) (m:=R.pl.length) (by omega)
   have R7:q66 Q' [v,fn, .int b, .int ex',aa s 5, .int top, .int end_,lD R4.L,tD (R4.pl.set R.pl.length ((R4.ins ++ [jmp 0]).length:Int)),tD (R4.to ++ [((R.pl.length+1:Nat):Int)]), .list (R4.ins ++ [jmp 0])]=some [lD R6.L,tD R6.pl,tD R6.to, .list R6.ins]:=i2;have R8:=dl (LB:=lD R6.L) (fn:=fn) (ex:=ex') (b:=b) (v:=v) (to:=tD R6.to) (ins:=R6.ins) (pl:=R6.pl) (m:=R.pl.length+1) (by omega)
   unfold fu ef;rw[cK,hk];simp only[cm,Int.reduceEq,Gt];rw[RG];simp only[cm,hin,hd,hq5,R1,R2,R3,R4',show(0:Int)<((n5+1:Nat):Int)by omega]
   rw[R5];simp only[cm];rw[R6'];simp only[cm,R7];rw[R8];simp only[cm]
theorem Bp (l:List Int) (x:Int):dA (tD (l ++ [x])) 0 (l.length:Int)=tD l:=by
 have h:∀xs:List D,(D.list xs).toList=xs:=fun _=>rfl
 rw[o6];simp[tD,D.sub,h]
set_option maxHeartbeats 8000000 in
theorem s7 {k4:Nat} (hs:Sim φ f S R) (hc:Ctx φ S.nx lp ts es ex top end_ ex') (hv:v.toList.length≤maxLen) (hk:ah (aa s 0)=7∨ah (aa s 0)=8) (hw:stB s=true) (h3:ah (aa s 0)=7->(aa s 3).toList.length=1)
 (h4:OkQ (q56 Q) (q66 Q') v fn b ex ex' (aa s 4) true k4) (hb:Bud S R ts (40+6*ndS s+k4+c)):Both (eU Q) (eV Q') v fn b ex ex' s es ts top end_ φ S R c:=by
 obtain⟨r1,r2,r3,r4⟩:=hs.tolen;have hel:=hc.len;have hbb:=hb;unfold Bud at hb;obtain⟨a1,a2,a3⟩:=hs.fresh;generalize hφ1:upN φ (S.nx+1) R.pl.length=φ1 at a1 a2 a3;obtain⟨b1,b2,b3⟩:=a1.fresh;simp only at b1 b2 b3;have hpl1:(R.pl ++ [0]).length=R.pl.length+1:=by simp
 rw[hpl1]at b1 b2 b3;generalize hφ2:upN φ1 (S.nx+1+1) (R.pl.length+1)=φ2 at b1 b2 b3;have b4:φ2 (S.nx+1)=R.pl.length:=by rw[b2.old (S.nx+1) (aP _),a3]
 have c1:=b1.here (p:=S.nx+1) (by omega) (by simp)
 rw[b4]at c1
 have cx0:Ext φ S R φ2 {S with A:=dB 106 S.A (.int ((S.nx+1:Nat):Int)) (.int (S.ins.length:Int)),nx:=S.nx+1+1} {R with pl:=(R.pl ++ [0] ++ [0]).set R.pl.length (R.ins.length:Int)}:=
  have x:=a2.trans b2
  ⟨x.old,x.nx,by simp,fun p h1 h2=>x.new p h1 h2,fun m hm hn=>by rw[fU _ _ (by omega)];exact x.keep m hm hn⟩
 have P1:q49 [tD es,tD ts,lD S.L,S.A,tD S.to, .list S.ins,v,fn, .int b, .int (ex:Int), .int (S.nx:Int)]=some [.int ((S.nx+1:Nat):Int), .int ((S.nx+1:Nat):Int)]:=ft (by omega)
 have P2:q49 [tD es,tD ts,lD S.L,S.A,tD S.to, .list S.ins,v,fn, .int b, .int (ex:Int), .int ((S.nx+1:Nat):Int)]=some [.int ((S.nx+1+1:Nat):Int), .int ((S.nx+1+1:Nat):Int)]:=ft (by omega)
 have R1:=gm (LB:=lD R.L) (to:=tD R.to) (l:= .list R.ins) (v:=v) (fn:=fn) (b:=b) (ex:=ex') (pl:=R.pl) (by omega)
 have R2:=gm (LB:=lD R.L) (to:=tD R.to) (l:= .list R.ins) (v:=v) (fn:=fn) (b:=b) (ex:=ex') (pl:=R.pl ++ [0]) (by simp;omega)
 rw[hpl1]at R2;have R3:=dl (LB:=lD R.L) (fn:=fn) (ex:=ex') (b:=b) (v:=v) (to:=tD R.to) (ins:=R.ins) (pl:=R.pl ++ [0] ++ [0]) (m:=R.pl.length) (by simp)
 have hj:D.agg [.int 0, .int 0, .int 20, .int 2, .int 0, .int 0, .int 0, .int 0, .int 0]=jmp 0:=rfl;have hle:∀n:Nat,(0:Int)≤(n:Int):=fun n=>by omega
 have hdt:decide ((ts.length:Int)≤((ts ++ [((S.nx+1:Nat):Int)]).length:Int))=true:=by rw[decide_eq_true_iff,bN];omega
 have hde:decide ((ts.length:Int)≤((es ++ [((S.nx+1+1:Nat):Int)]).length:Int))=true:=by rw[decide_eq_true_iff,bN];omega
 have hsube:dA (tD (es ++ [((S.nx+1+1:Nat):Int)])) 0 (ts.length:Int)=tD es:=by rw[<- hel];exact Bp ..
 have hsub2:dA (tD es) 0 (ts.length:Int)=tD es:=by rw[<- hel];exact gL _
 have hmt:ci ((ts ++ [((S.nx+1:Nat):Int)]).length:Int) 8=true:=aY (by simp;omega) (by omega)
 have hme:ci ((es ++ [((S.nx+1+1:Nat):Int)]).length:Int) 8=true:=aY (by simp;omega) (by omega)
 have rest:∀(T:List D) (TT:List Int) (g:List D) (gg:List Int),TT.length=T.length->gg.length=T.length->T.length≤6*ndS s+2->
  Sim φ2 (fun q=>if q=((S.nx+1:Nat):Int)then(S.ins.length:Int)else f q) {S with A:=dB 106 S.A (.int ((S.nx+1:Nat):Int)) (.int (S.ins.length:Int)),nx:=S.nx+1+1,to:=S.to++TT,ins:=S.ins++T} {R with pl:=(R.pl ++ [0] ++ [0]).set R.pl.length (R.ins.length:Int),to:=R.to++gg,ins:=R.ins++g}->
  ∃(φ':Nat->Nat) (f':Int->Int) (S6:PS) (R6:RS),q56 Q [v,fn, .int b, .int (ex:Int),aa s 4,tD (es ++ [((S.nx+1+1:Nat):Int)]),tD (ts ++ [((S.nx+1:Nat):Int)]),lD S.L,dB 106 S.A (.int ((S.nx+1:Nat):Int)) (.int (S.ins.length:Int)),tD (S.to++TT), .list (S.ins++T), .int ((S.nx+1+1:Nat):Int)]=some [tD (es ++ [((S.nx+1+1:Nat):Int)]),tD (ts ++ [((S.nx+1:Nat):Int)]),tD S6.to, .list S6.ins,lD S6.L,S6.A, .int (S6.nx:Int)]
   ∧q66 Q' [v,fn, .int b, .int ex',aa s 4, .int (R.pl.length:Int), .int ((R.pl.length+1:Nat):Int),lD R.L,tD ((R.pl ++ [0] ++ [0]).set R.pl.length (R.ins.length:Int)),tD (R.to++gg), .list (R.ins++g)]=some [lD R6.L,tD R6.pl,tD R6.to, .list R6.ins]
   ∧qy [lD R6.L,tD R6.pl,v,fn, .int b, .int ex', .int 0, .int (R.pl.length:Int),tD R6.to, .list R6.ins]=some [tD (R6.to ++ [(R.pl.length:Int)]), .list (R6.ins ++ [jmp 0])]
   ∧q67 [lD R6.L,tD (R6.to ++ [(R.pl.length:Int)]), .list (R6.ins ++ [jmp 0]),v,fn, .int b, .int ex', .int ((R.pl.length+1:Nat):Int),tD R6.pl]=some [tD (R6.pl.set (R.pl.length+1) ((R6.ins ++ [jmp 0]).length:Int))]
   ∧S6.ins.length≤80000000∧S6.to.length=S6.ins.length
   ∧Sim φ' f' {S6 with to:=S6.to ++ [((S.nx+1:Nat):Int)],ins:=S6.ins ++ [jmp 0],A:=dB 106 S6.A (.int ((S.nx+1+1:Nat):Int)) (.int ((S6.ins ++ [jmp 0]).length:Int))} {R6 with to:=R6.to ++ [(R.pl.length:Int)],ins:=R6.ins ++ [jmp 0],pl:=R6.pl.set (R.pl.length+1) ((R6.ins ++ [jmp 0]).length:Int)}
   ∧Ext φ S R φ' {S6 with to:=S6.to ++ [((S.nx+1:Nat):Int)],ins:=S6.ins ++ [jmp 0],A:=dB 106 S6.A (.int ((S.nx+1+1:Nat):Int)) (.int ((S6.ins ++ [jmp 0]).length:Int))} {R6 with to:=R6.to ++ [(R.pl.length:Int)],ins:=R6.ins ++ [jmp 0],pl:=R6.pl.set (R.pl.length+1) ((R6.ins ++ [jmp 0]).length:Int)}
   ∧Bud {S6 with to:=S6.to ++ [((S.nx+1:Nat):Int)],ins:=S6.ins ++ [jmp 0],A:=dB 106 S6.A (.int ((S.nx+1+1:Nat):Int)) (.int ((S6.ins ++ [jmp 0]).length:Int))} {R6 with to:=R6.to ++ [(R.pl.length:Int)],ins:=R6.ins ++ [jmp 0],pl:=R6.pl.set (R.pl.length+1) ((R6.ins ++ [jmp 0]).length:Int)} ts c:=by
  intro T TT g gg hTT hgg hT hsim
  have hctx:Ctx φ2 (S.nx+1+1) true (ts ++ [((S.nx+1:Nat):Int)]) (es ++ [((S.nx+1+1:Nat):Int)]) ex (R.pl.length:Int) ((R.pl.length+1:Nat):Int) ex':=
   ⟨fun _=>⟨ts,S.nx+1,rfl,by omega,by omega,by rw[b4]⟩,fun _=>⟨es,S.nx+1+1,rfl,by omega,by omega,by rw[b3]⟩,hc.x1,by have:=hc.x2;omega,by rw[cx0.old ex hc.x2];exact hc.x,by simp[hc.len]⟩
  obtain⟨φ',f',S6,R6,d1,d2,d3,d4,d5⟩:=h4 _ _ _ _ φ2 _ _ _ (10+c) hsim hctx (by unfold Bud;simp;omega)
  unfold Bud at d5;obtain⟨t1,t2,t3,t4⟩:=d3.tolen;have hn6:S.nx+1+1≤S6.nx:=d4.nx;have hl6:R.pl.length+2≤R6.pl.length:=by have:=d4.pl;simp at this;omega
  have e1:φ' (S.nx+1)=R.pl.length:=by rw[d4.old (S.nx+1) (by simp),b4]
  have e2:φ' (S.nx+1+1)=R.pl.length+1:=by rw[d4.old (S.nx+1+1) (aP _),b3]
  have g1:=d3.push (jmp 0) (p:=S.nx+1) (by omega) (by omega)
  rw[e1]at g1;have g2:=g1.here (p:=S.nx+1+1) (by omega) hn6
  rw[e2]at g2;refine⟨φ',_,S6,R6,d1,d2,?_,?_,by omega,t2,g2,?_,by unfold Bud;simp at d5 ⊢;omega⟩
  ·exact dG (LB:=lD R6.L) (PL:=tD R6.pl) (fn:=fn) (ex:=ex') (b:=b) (v:=v) (cc:=0) (m:=(R.pl.length:Int)) (to:=R6.to) (ins:=R6.ins) (by omega) (by omega)
  ·exact dl (LB:=lD R6.L) (fn:=fn) (ex:=ex') (b:=b) (v:=v) (to:=tD (R6.to ++ [(R.pl.length:Int)])) (ins:=R6.ins ++ [jmp 0]) (pl:=R6.pl) (m:=R.pl.length+1) (by omega)
  ·have x:=cx0.trans ⟨d4.old,d4.nx,d4.pl,d4.new,d4.keep⟩;exact⟨x.old,x.nx,by have:=x.pl;simpa using this,x.new,fun m hm hn=>by simp only;rw[fU _ _ (by omega)];exact x.keep m hm hn⟩
 rcases hk with hk|hk
 ·have h3':=h3 hk;have hf:fm (ax (aa s 3) 0)=true:=oR (i:=0) hw (by omega)
  have hnd:=Lw h3';have hl:=Sd (v:=v) (b:=b) hf;have hin:aS (aa s 3) 0=true:=aX (i:=0) (by omega)
  generalize hT:oO v b (ax (aa s 3) 0)=T at hl;generalize hd:ax (aa s 3) 0=d at *;have c2:=c1.test v b d (p:=S.nx+1+1) (by omega) (by simp)
  rw[b3,hT]at c2;obtain⟨φ',f',S6,R6,k1,k2,k3,k3',k4,k4',k5,k6,k7⟩:=rest (T ++ [jmp 1]) (aR T ++ [((S.nx+1+1:Nat):Int)]) (T ++ [jmp 1]) (aR T ++ [((R.pl.length+1:Nat):Int)]) (by simp[aR]) (by simp[aR]) (by simp;omega) (by simpa only[cy]using c2)
  have P3:=DT (E:=tD es) (T:=tD ts) (L:=lD S.L) (A:=dB 106 S.A (.int ((S.nx+1:Nat):Int)) (.int (S.ins.length:Int))) (fn:=fn) (nx:=((S.nx+1+1:Nat):Int)) (ex:=(ex:Int)) (b:=b) hv hf (to:=S.to) (ins:=S.ins) (p:=((S.nx+1+1:Nat):Int)) (by omega) (by omega)
  have R4:=Bl (LB:=lD R.L) (PL:=tD ((R.pl ++ [0] ++ [0]).set R.pl.length (R.ins.length:Int))) (fn:=fn) (ex:=ex') (b:=b) hv hf (to:=R.to) (ins:=R.ins) (p:=((R.pl.length+1:Nat):Int)) (by omega) (by omega)
  rw[hT,cy S.to,cy S.ins]at P3;rw[hT,cy R.to,cy R.ins]at R4;refine⟨φ',_,_,_,?_,?_,k5,k6,k7⟩
  ·unfold fT eK;rw[cJ,hk];simp only[cm,Int.reduceEq,Gl];rw[Ry,hk]
   simp only[cm,hin,hd,P1,P2,P3,bF,nb,dk,hmt,hme,k1,hle,hj,cM,
    hdt,hde,hel,hsube,hsub2,Bp,gL,
    aY (show(S6.ins ++ [jmp 0]).length≤1000000000 by simp;omega) (show 64≤1000 by omega),aY (show(S6.to ++ [((S.nx+1:Nat):Int)]).length≤1000000000 by simp;omega) (show 8≤1000 by omega)]
   done
  ·unfold fu ef;rw[cK,hk];simp only[cm,Int.reduceEq,Gu];rw[RH,hk];simp only[cm,hin,hd,R1,R2,R3,R4,k2];rw[k3];simp only[cm];rw[k3'];simp only[cm]
 ·obtain⟨φ',f',S6,R6,k1,k2,k3,k3',k4,k4',k5,k6,k7⟩:=rest [] [] [] [] rfl rfl (by simp) (by simpa only[fy]using c1)
  simp only[fy]at k1 k2;refine⟨φ',_,_,_,?_,?_,k5,k6,k7⟩
  ·unfold fT eK;rw[cJ,hk];simp only[cm,Int.reduceEq,Gl];rw[Ry,hk]
   simp only[cm,Int.reduceEq,P1,P2,bF,nb,dk,hmt,hme,k1,hle,hj,cM,
    hdt,hde,hel,hsube,hsub2,Bp,gL,
    aY (show(S6.ins ++ [jmp 0]).length≤1000000000 by simp;omega) (show 64≤1000 by omega),aY (show(S6.to ++ [((S.nx+1:Nat):Int)]).length≤1000000000 by simp;omega) (show 8≤1000 by omega)]
   done
  ·unfold fu ef;rw[cK,hk];simp only[cm,Int.reduceEq,Gu];rw[RH,hk];simp only[cm,Int.reduceEq,R1,R2,R3,k2];rw[k3];simp only[cm];rw[k3'];simp only[cm]
end
end Go.Proofs.YtiojjmlccehpoaaGreat
namespace Go.Proofs.YtiojjmlccehpoaaGreat
open Go Go.AM
def tN (l:List Nat):List Int:=l.map fun(n:Nat)=>(n:Int)
theorem tN_app (l:List Nat) (n:Nat):tN (l ++ [n])=tN l ++ [(n:Int)]:=by simp[tN]
theorem jW (l:List Nat):(tN l).length=l.length:=by simp[tN]
theorem tN_get {l:List Nat} {i:Nat} (h:i<l.length):(tN l).getD i 0=((l.getD i 0:Nat):Int):=by simp[tN,List.getD,h]
noncomputable def csC (i:Nat):D:=ii (fz .u32 (i:Int)) 15 1 0 0 0 0
section
variable {Q Q':uAC} {v fn s:D} {b:Int} {ex:Nat} {ex' top end_:Int} {es ts:List Int} {lp:Bool}
set_option maxHeartbeats 8000000 in
theorem cases4 {n:Nat} (hn:n≤1000) (hq:(aa s 6).toList.length=n):∀(k i:Nat) (φ:Nat->Nat) (f:Int->Int) (S:PS) (R:RS) (c:Nat) (ps:List Nat),i+k=n->ps.length=i->Sim φ f S R->Bud S R ts (5*k+c)->(∀p∈ps,1≤p∧p≤S.nx)->
 ∃(φ':Nat->Nat) (S':PS) (R':RS) (ps':List Nat),
  loW (vU Q [.int (n:Int),s,tD es,tD ts,lD S.L,S.A,v,fn, .int b, .int (ex:Int)]) [.int (i:Int),tD (tN ps),tD S.to, .list S.ins, .int (S.nx:Int)]=some [.int 0,tD (tN ps'),tD S'.to, .list S'.ins, .int (S'.nx:Int)]
  ∧loW (vW Q' [.int top, .int end_,s,lD R.L,v,fn, .int b, .int ex']) [.int (i:Int),tD (tN (ps.map φ)),tD R.pl,tD R.to, .list R.ins]=some [.int 0,tD (tN (ps'.map φ')),tD R'.pl,tD R'.to, .list R'.ins]
  ∧S'.A=S.A∧S'.L=S.L∧R'.L=R.L∧Sim φ' f S' R'∧Ext φ S R φ' S' R'∧Bud S' R' ts c∧ps'.length=n∧(∀p∈ps',1≤p∧p≤S'.nx):=by
 intro k
 induction k with
 |zero=>
  intro i φ f S R c ps hi hps hs hb hp;obtain rfl:i=n:=by omega
  refine⟨φ,S,R,ps,?_,?_,rfl,rfl,rfl,hs,Ext.refl,by simpa using hb,hps,hp⟩
  ·rw[bn,AR];simp only[cm,show¬((i:Int)<(i:Int))by omega]
  ·rw[bn,AY,aK,hq];simp only[cm,show¬((i:Int)<(i:Int))by omega]
 |succ k ih=>
  intro i φ f S R c ps hi hps hs hb hp;have hbb:=hb;unfold Bud at hb;obtain⟨r1,r2,r3,r4⟩:=hs.tolen;obtain⟨a1,a2,a3⟩:=hs.fresh;generalize upN φ (S.nx+1) R.pl.length=φ1 at a1 a2 a3;have c1:=(a1.emit [csC i]).push (jmp 1) (p:=S.nx+1) (by omega) (aP _)
  rw[a3]at c1;have hold:(ps ++ [S.nx+1]).map φ1=ps.map φ ++ [R.pl.length]:=by
   rw[lO,bW,gZ,a3]
   congr 1
   exact im fun p hp'=>a2.old p (hp p hp').2
  obtain⟨φ',S',R',ps',k1,k2,k3,k4,k4',k5,k6,k7,k8,k9⟩:=ih (i+1) φ1 f _ _ c (ps ++ [S.nx+1]) (by omega) (by simp[hps]) c1 (by unfold Bud;simp[aR];omega) (fun p hp'=>by
   rcases eS.1 hp' with hp'|hp'
   ·have:=hp p hp';simp;omega
   ·simp at hp';subst hp';simp)
  refine⟨φ',S',R',ps',?_,?_,k3,k4,k4',k5,a2.trans ⟨k6.old,k6.nx,k6.pl,k6.new,k6.keep⟩,k7,k8,k9⟩
  ·have e1:q49 [tD es,tD ts,lD S.L,S.A,tD S.to, .list S.ins,v,fn, .int b, .int (ex:Int), .int (S.nx:Int)]=some [.int ((S.nx+1:Nat):Int), .int ((S.nx+1:Nat):Int)]:=ft (by omega)
   have e2:=dy (E:=tD es) (T:=tD ts) (L:=lD S.L) (A:=S.A) (fn:=fn) (nx:=((S.nx+1:Nat):Int)) (ex:=(ex:Int)) (v:=v) (b:=b) (l:=[csC i]) (to:=S.to) (ins:=S.ins) (by simp) (by omega) (by omega) (by intro x hx;simp only[cU,j6,f7]at hx;subst hx;exact bp ..)
   have e3:=eR (E:=tD es) (T:=tD ts) (L:=lD S.L) (A:=S.A) (fn:=fn) (nx:=((S.nx+1:Nat):Int)) (ex:=(ex:Int)) (v:=v) (b:=b) (cc:=1) (p:=((S.nx+1:Nat):Int)) (to:=S.to++aR [csC i]) (ins:=S.ins ++ [csC i]) (by simp[aR];omega) (by simp;omega)
   have hc:D.agg [.int 0, .int (fz .u32 (i:Int)), .int 15, .int 1, .int 0, .int 0, .int 0, .int 0, .int 0]=csC i:=rfl;have hl:(tN ps ++ [((S.nx+1:Nat):Int)]).length=i+1:=by simp[jW,hps]
   have hin:aS (tD (tN ps ++ [((S.nx+1:Nat):Int)])) (i:Int)=true:=jV (by omega)
   have hg:ah (ax (tD (tN ps ++ [((S.nx+1:Nat):Int)])) (i:Int))=((S.nx+1:Nat):Int):=by
    rw[ib (by omega)];simp[List.getD,jW,hps]
   rw[bn,AR,hc];simp only[cm,show(i:Int)<(n:Int)by omega,e1,nb,dk,hl,aY (show i+1≤1000000000 by omega) (show 8≤1000 by omega),e2,show(0:Int)≤(i:Int)by omega,show(i:Int)<((i+1:Nat):Int)by omega,hin,hg,e3]
   rw[bg (by omega)]
   rw[<- tN_app];exact k1
  ·have e1:=gm (LB:=lD R.L) (to:=tD R.to) (l:= .list R.ins) (v:=v) (fn:=fn) (b:=b) (ex:=ex') (pl:=R.pl) (by omega)
   have e2:=Pi (cN (LB:=lD R.L) (PL:=tD (R.pl ++ [0])) (fn:=fn) (ex:=ex') (v:=v) (b:=b) (x:=csC i) (to:=R.to) (ins:=R.ins) (by omega) (by omega) (bp ..))
   have e3:=dG (LB:=lD R.L) (PL:=tD (R.pl ++ [0])) (fn:=fn) (ex:=ex') (b:=b) (v:=v) (cc:=1) (m:=(R.pl.length:Int)) (to:=R.to++aR [csC i]) (ins:=R.ins ++ [csC i]) (by simp[aR];omega) (by simp;omega)
   have hl:(tN (ps.map φ) ++ [(R.pl.length:Int)]).length=i+1:=by simp[jW,hps]
   have hin:aS (tD (tN (ps.map φ) ++ [(R.pl.length:Int)])) (i:Int)=true:=jV (by omega)
   have hg:ah (ax (tD (tN (ps.map φ) ++ [(R.pl.length:Int)])) (i:Int))=(R.pl.length:Int):=by
    rw[ib (by omega)];simp[List.getD,jW,hps]
   rw[bn,AY,aK,hq];simp only[cm,show(i:Int)<(n:Int)by omega,e1,nb,dk,hl,aY (show i+1≤1000000000 by omega) (show 8≤1000 by omega),e2,show(0:Int)≤(i:Int)by omega,show(i:Int)<((i+1:Nat):Int)by omega,hin,hg,e3]
   rw[bg (by omega)]
   rw[hold,tN_app]at k2;exact k2
set_option maxHeartbeats 8000000 in
theorem cases13 {n:Nat} {kc:D->Nat} (hn:n≤1000) (hq:(aa s 6).toList.length=n) (h6:∀x∈(aa s 6).toList,OkQ (q56 Q) (q66 Q') v fn b ex ex' x lp (kc x)) {ps ms:List Nat} (hps:ps.length=n) (hms:ms.length=n) {pe me:Nat}:
 ∀(k i:Nat) (φ:Nat->Nat) (f:Int->Int) (S:PS) (R:RS) (c:Nat),i+k=n->Sim φ f S R->Ctx φ S.nx lp ts es ex top end_ ex'->Bud S R ts ((((aa s 6).toList.drop i).map fun x=>kc x+5).sum+c)->(∀p∈ps,1≤p∧p≤S.nx)->ps.map φ=ms->1≤pe->pe≤S.nx->φ pe=me->
 ∃(φ':Nat->Nat) (f':Int->Int) (S':PS) (R':RS),
  loW (qx Q [.int (pe:Int),aa s 6, .int (n:Int),tD (tN ps),v,fn, .int b, .int (ex:Int)]) (qH i es ts S)=some (.int 0::eK es ts S')
  ∧loW (qA Q' [.int top, .int end_, .int (me:Int),tD (tN ms),s,v,fn, .int b, .int ex']) (qI i R)=some (.int 0::ef R')
  ∧Sim φ' f' S' R'∧Ext φ S R φ' S' R'∧Bud S' R' ts c:=by
 intro k
 induction k with
 |zero=>
  intro i φ f S R c hi hs hc hb hp hm p1 p2 hpe;obtain rfl:i=n:=by omega
  rw[iU (by omega)]at hb
  refine⟨φ,f,S,R,?_,?_,hs,Ext.refl,by simpa using hb⟩
  ·unfold qH eK;rw[bn,uu];simp only[cm,show¬((i:Int)<(i:Int))by omega]
  ·unfold qI ef;rw[bn,uw,aK,hq];simp only[cm,show¬((i:Int)<(i:Int))by omega]
 |succ k ih=>
  intro i φ f S R c hi hs hc hb hp hm p1 p2 hpe;have hlt:i<(aa s 6).toList.length:=by omega
  have hmem:=b7 hlt;rw[iT hlt,bW,fW]at hb;generalize hsum:(((aa s 6).toList.drop (i+1)).map fun x=>kc x+5).sum=K at hb
  have hg6:ax (aa s 6) (i:Int)=(aa s 6).toList[i]:=by rw[bl,getD_lt hlt]
  generalize hx:(aa s 6).toList[i]=x at hb hg6 hmem;obtain⟨r1,r2,r3,r4⟩:=hs.tolen;have hbb:=hb;unfold Bud at hb;have hpi:ps.getD i 0∈ps:=by rw[oS,cq (by omega)];simp
  have hpp:=hp _ hpi;have hmi:ms.getD i 0=φ (ps.getD i 0):=by rw[<- hm];simp[List.getD,show i<ps.length by omega]
  have hin1:aS (tD (tN ps)) (i:Int)=true:=jV (by rw[jW];omega)
  have hg1:ah (ax (tD (tN ps)) (i:Int))=((ps.getD i 0:Nat):Int):=by rw[ib (by rw[jW];omega),tN_get (by omega)]
  have hin2:aS (tD (tN ms)) (i:Int)=true:=jV (by rw[jW];omega)
  have hg2:ah (ax (tD (tN ms)) (i:Int))=((φ (ps.getD i 0):Nat):Int):=by rw[ib (by rw[jW];omega),tN_get (by omega),hmi]
  generalize ps.getD i 0=p at *;have a1:=hs.here hpp.1 hpp.2;obtain⟨φ1,f1,S1,R1,d1,d2,d3,d4,d5⟩:=h6 x hmem es ts top end_ φ _ _ _ (5+(K+c)) a1 hc (by unfold Bud;simp;omega)
  unfold Bud at d5;obtain⟨t1,t2,t3,t4⟩:=d3.tolen;have hn1:S.nx≤S1.nx:=d4.nx;have b1:=d3.push (jmp 0) (p:=pe) p1 (by omega)
  have hme:φ1 pe=me:=by rw[d4.old pe p2,hpe]
  rw[hme]at b1
  have x1:Ext φ S R φ1 {S1 with to:=S1.to ++ [(pe:Int)],ins:=S1.ins ++ [jmp 0]} {R1 with to:=R1.to ++ [(me:Int)],ins:=R1.ins ++ [jmp 0]}:=
   ⟨d4.old,d4.nx,by have:=d4.pl;simpa using this,fun q h1 h2=>by have:=d4.new q h1 h2;simpa using this,fun m hm1 hn=>by
    have:=d4.keep m (by simpa using hm1) hn
    simp only at this ⊢
    rw[this,fU _ _ (hn p hpp.1 hpp.2)]⟩
  obtain⟨φ',f',S',R',k1,k2,k3,k4,k5⟩:=ih (i+1) φ1 f1 _ _ c (by omega) b1 (hc.up d4.old d4.nx) (by rw[hsum];unfold Bud;simp;omega) (fun q hq'=>by have:=hp q hq';simp;omega) (by
   rw[<- hm];exact im fun q hq'=>d4.old q (hp q hq').2) p1 (by simp;omega) hme
  refine⟨φ',f',S',R',?_,?_,k3,x1.trans k4,k5⟩
  ·have e1:=fE (E:=tD es) (T:=tD ts) (L:=lD S.L) (fn:=fn) (nx:=(S.nx:Int)) (ex:=(ex:Int)) (b:=b) (v:=v) (A:=S.A) (to:=tD S.to) (ins:=S.ins) (p:=(p:Int));have e2:q56 Q [v,fn, .int b, .int (ex:Int),x,tD es,tD ts,lD S.L,dB 106 S.A (.int (p:Int)) (.int (S.ins.length:Int)),tD S.to, .list S.ins, .int (S.nx:Int)]=some [tD es,tD ts,tD S1.to, .list S1.ins,lD S1.L,S1.A, .int (S1.nx:Int)]:=d1;have e3:=eR (E:=tD es) (T:=tD ts) (L:=lD S1.L) (A:=S1.A) (fn:=fn) (nx:=(S1.nx:Int)) (ex:=(ex:Int)) (v:=v) (b:=b) (cc:=0) (p:=(pe:Int)) (to:=S1.to) (ins:=S1.ins) (by omega) (by omega)
   unfold qH;rw[bn,uu];simp only[cm,show(i:Int)<(n:Int)by omega,aX hlt,show(0:Int)≤(i:Int)by omega,dk,jW,hps,hin1,hg1,hg6,e1,e2,e3]
   rw[bg (by omega)]
   exact k1
  ·have e1:=dl (LB:=lD R.L) (fn:=fn) (ex:=ex') (b:=b) (v:=v) (to:=tD R.to) (ins:=R.ins) (pl:=R.pl) (m:=φ p) (hs.pl p hpp.1 hpp.2).1;have e2:q66 Q' [v,fn, .int b, .int ex',x, .int top, .int end_,lD R.L,tD (R.pl.set (φ p) (R.ins.length:Int)),tD R.to, .list R.ins]=some [lD R1.L,tD R1.pl,tD R1.to, .list R1.ins]:=d2;have e3:=dG (LB:=lD R1.L) (PL:=tD R1.pl) (fn:=fn) (ex:=ex') (b:=b) (v:=v) (cc:=0) (m:=(me:Int)) (to:=R1.to) (ins:=R1.ins) (by omega) (by omega)
   unfold qI;rw[bn,uw,aK,hq];simp only[cm,show(i:Int)<(n:Int)by omega,show(0:Int)≤(i:Int)by omega,dk,jW,hms,hin2,hg2,e1]
   rw[aX hlt];simp only[cm,hg6,e2];rw[e3];simp only[cm];rw[bg (by omega)]
   exact k2
end
end Go.Proofs.YtiojjmlccehpoaaGreat
namespace Go.Proofs.YtiojjmlccehpoaaGreat
open Go Go.AM
section
variable {Q Q':uAC} {v fn s:D} {b:Int} {ex:Nat} {ex' top end_:Int} {es ts:List Int} {φ:Nat->Nat} {f:Int->Int} {S:PS} {R:RS} {c:Nat} {lp:Bool}
noncomputable def endC:List D:=[ii 4294967295 5 2 0 0 0 0,ii 0 21 0 0 0 0 0]
set_option maxHeartbeats 8000000 in
theorem s9 {n:Nat} {kc:D->Nat} (hn:n≤1000) (hq:(aa s 6).toList.length=n) (hs:Sim φ f S R) (hc:Ctx φ S.nx lp ts es ex top end_ ex') (hv:v.toList.length≤maxLen) (hk:ah (aa s 0)=9) (hw:stB s=true) (h3:(aa s 3).toList.length=1)
 (h6:∀x∈(aa s 6).toList,OkQ (q56 Q) (q66 Q') v fn b ex ex' x lp (kc x)) (hb:Bud S R ts (40+6*ndS s+(5*n+((aa s 6).toList.map fun x=>kc x+5).sum)+c)):Both (eU Q) (eV Q') v fn b ex ex' s es ts top end_ φ S R c:=by
 have hf:fm (ax (aa s 3) 0)=true:=oR (i:=0) hw (by omega)
 rw[Lw h3]at hb;obtain⟨r1,r2,r3,r4⟩:=hs.tolen;have hl:=na (v:=v) (b:=b) hf;have hin:aS (aa s 3) 0=true:=aX (i:=0) (by omega)
 have hbb:=hb;unfold Bud at hb;generalize hK:((aa s 6).toList.map fun x=>kc x+5).sum=K at hb hbb
 generalize hT:cx v b (ax (aa s 3) 0)=T at hl;generalize hd:ax (aa s 3) 0=d at *;have a1:=hs.emit T;obtain⟨φ1,S1,R1,ps,k1,k2,k3,k4,k5,k6,k7,k8,k9,k10⟩:=cases4 (Q:=Q) (Q':=Q') (v:=v) (fn:=fn) (b:=b) (ex:=ex) (ex':=ex') (top:=top) (end_:=end_) (es:=es) (ts:=ts) hn hq n 0 φ f _ _ (30+(K+c)) [] (by omega) rfl a1 (by unfold Bud;simp[aR];omega) (by simp)
 have x1:Ext φ S R φ1 S1 R1:=⟨k7.old,k7.nx,k7.pl,k7.new,k7.keep⟩;unfold Bud at k8;obtain⟨t1,t2,t3,t4⟩:=k6.tolen;have b1:=k6.emit endC;obtain⟨b2,b3,b4⟩:=b1.fresh;simp only at b2 b3 b4;generalize upN φ1 (S1.nx+1) R1.pl.length=φ2 at b2 b3 b4;have x2:Ext φ S R φ2 {S1 with to:=S1.to++aR endC,ins:=S1.ins++endC,nx:=S1.nx+1} {R1 with to:=R1.to++aR endC,ins:=R1.ins++endC,pl:=R1.pl ++ [0]}:=x1.trans ⟨b3.old,b3.nx,b3.pl,b3.new,b3.keep⟩
 have he:endC.length=2:=rfl;have hold:(ps.map φ1)=ps.map φ2:=im fun p hp=>(b3.old p (k10 p hp).2).symm
 obtain⟨φ3,f3,S3,R3,m1,m2,m3,m4,m5⟩:=cases13 (Q:=Q) (Q':=Q') (v:=v) (fn:=fn) (b:=b) (ex:=ex) (ex':=ex') (top:=top) (end_:=end_) (es:=es) (ts:=ts) (lp:=lp) (s:=s) hn hq h6 (ps:=ps) (ms:=ps.map φ1) (pe:=S1.nx+1) (me:=R1.pl.length) k9 (by simp[k9]) n 0 φ2 f _ _ (5+c) (by omega) b2 (hc.up x2.old x2.nx) (by
  rw[l5,hK];unfold Bud;simp[aR,he];omega) (fun p hp=>by have:=k10 p hp;simp;omega) hold.symm (by omega) (aP _) b4
 unfold Bud at m5;obtain⟨u1,u2,u3,u4⟩:=m3.tolen;have hn3:S1.nx+1≤S3.nx:=m4.nx;have hl3:R1.pl.length+1≤R3.pl.length:=by have:=m4.pl;simpa using this
 have y1:φ3 (S1.nx+1)=R1.pl.length:=by rw[m4.old (S1.nx+1) (aP _),b4]
 have g1:=m3.here (p:=S1.nx+1) (by omega) hn3
 rw[y1]at g1;have x3:Ext φ S R φ3 S3 R3:=x2.trans ⟨m4.old,m4.nx,m4.pl,m4.new,m4.keep⟩;have hl1:R.pl.length≤R1.pl.length:=x1.pl
 have x4:Ext φ S R φ3 {S3 with A:=dB 106 S3.A (.int ((S1.nx+1:Nat):Int)) (.int (S3.ins.length:Int))} {R3 with pl:=R3.pl.set R1.pl.length (R3.ins.length:Int)}:=
  ⟨x3.old,x3.nx,by have:=x3.pl;simpa using this,x3.new,fun m hm hnm=>by rw[<- x3.keep m hm hnm];exact fU _ _ (by omega)⟩
 refine⟨φ3,_,_,_,?_,?_,g1,x4,by unfold Bud;simp;omega⟩
 ·have e1:=il (E:=tD es) (T:=tD ts) (L:=lD S.L) (A:=S.A) (fn:=fn) (nx:=(S.nx:Int)) (ex:=(ex:Int)) (b:=b) hv hf (to:=S.to) (ins:=S.ins) (by omega) (by omega)
  rw[hT]at e1;have e2:Gm Q [.int (n:Int),s,tD es,tD ts,lD S.L,S.A,v,fn, .int b, .int (ex:Int)] [.int 0, .list [],tD (S.to++aR T), .list (S.ins++T), .int (S.nx:Int)]=some [.int 0,tD (tN ps),tD S1.to, .list S1.ins, .int (S1.nx:Int)]:=by rw[DA];exact k1
  have e3:=dy (E:=tD es) (T:=tD ts) (L:=lD S.L) (A:=S.A) (fn:=fn) (nx:=(S1.nx:Int)) (ex:=(ex:Int)) (v:=v) (b:=b) (l:=endC) (to:=S1.to) (ins:=S1.ins) (by simp[endC]) (by omega) (by omega) (by intro x hx;simp only[endC,cU,j6,f7]at hx;rcases hx with rfl|rfl<;>exact bp ..)
  have e4:q49 [tD es,tD ts,lD S.L,S.A,tD (S1.to++aR endC), .list (S1.ins++endC),v,fn, .int b, .int (ex:Int), .int (S1.nx:Int)]=some [.int ((S1.nx+1:Nat):Int), .int ((S1.nx+1:Nat):Int)]:=ft (by omega)
  have e5:vV Q [.int ((S1.nx+1:Nat):Int),aa s 6, .int (n:Int),tD (tN ps),v,fn, .int b, .int (ex:Int)] [.int 0,tD es,tD ts,tD (S1.to++aR endC), .list (S1.ins++endC),lD S.L,S.A, .int ((S1.nx+1:Nat):Int)]=some [.int 0,tD es,tD ts,tD S3.to, .list S3.ins,lD S3.L,S3.A, .int (S3.nx:Int)]:=by
   rw[AT];unfold qH eK at m1;simp only at k3 k4;simp only[bV,k3,k4]at m1;exact m1
  have e6:=fE (E:=tD es) (T:=tD ts) (L:=lD S3.L) (fn:=fn) (nx:=(S3.nx:Int)) (ex:=(ex:Int)) (b:=b) (v:=v) (A:=S3.A) (to:=tD S3.to) (ins:=S3.ins) (p:=((S1.nx+1:Nat):Int));have hec:D.list [.agg [.int 0, .int 4294967295, .int 5, .int 2, .int 0, .int 0, .int 0, .int 0, .int 0], .agg [.int 0, .int 0, .int 21, .int 0, .int 0, .int 0, .int 0, .int 0, .int 0]] = .list endC:=rfl;have hz:ac (.list [])=0:=by rw[bF];rfl
  unfold fT eK;rw[cJ,hk];simp only[cm,Int.reduceEq,Rz];rw[F173_eq,hec,aK (aa s 6),hq];simp only[cm,hin,hd,hz,e1,e2,e3,e4,e5,e6,dk]
 ·have e1:=gn (LB:=lD R.L) (PL:=tD R.pl) (fn:=fn) (ex:=ex') (b:=b) hv hf (to:=R.to) (ins:=R.ins) (by omega) (by omega)
  rw[hT]at e1;have e2:Gv Q' [.int top, .int end_,s,lD R.L,v,fn, .int b, .int ex'] [.int 0, .list [],tD R.pl,tD (R.to++aR T), .list (R.ins++T)]=some [.int 0,tD (tN (ps.map φ1)),tD R1.pl,tD R1.to, .list R1.ins]:=by rw[DB];exact k2
  have e3:=gm (LB:=lD R.L) (to:=tD R1.to) (l:= .list R1.ins) (v:=v) (fn:=fn) (b:=b) (ex:=ex') (pl:=R1.pl) (by omega)
  have e4:=cN (LB:=lD R.L) (PL:=tD (R1.pl ++ [0])) (fn:=fn) (ex:=ex') (v:=v) (b:=b) (x:=ii 4294967295 5 2 0 0 0 0) (to:=R1.to) (ins:=R1.ins) (by omega) (by omega) (bp ..)
  have e5:=cN (LB:=lD R.L) (PL:=tD (R1.pl ++ [0])) (fn:=fn) (ex:=ex') (v:=v) (b:=b) (x:=ii 0 21 0 0 0 0 0) (to:=R1.to++aR [ii 4294967295 5 2 0 0 0 0]) (ins:=R1.ins ++ [ii 4294967295 5 2 0 0 0 0]) (by simp[aR];omega) (by simp;omega) (bp ..)
  have hcat:R1.to++aR [ii 4294967295 5 2 0 0 0 0]++aR [ii 0 21 0 0 0 0 0]=R1.to++aR endC∧R1.ins ++ [ii 4294967295 5 2 0 0 0 0] ++ [ii 0 21 0 0 0 0 0]=R1.ins++endC:=by constructor<;>simp[aR,endC]
  rw[hcat.1,hcat.2]at e5;have e6:vX Q' [.int top, .int end_, .int (R1.pl.length:Int),tD (tN (ps.map φ1)),s,v,fn, .int b, .int ex'] [.int 0,lD R.L,tD (R1.pl ++ [0]),tD (R1.to++aR endC), .list (R1.ins++endC)]=some [.int 0,lD R3.L,tD R3.pl,tD R3.to, .list R3.ins]:=by
   rw[A0];unfold qI ef at m2;simp only at k5;simp only[bV,k5]at m2;exact m2
  have e7:=dl (LB:=lD R3.L) (fn:=fn) (ex:=ex') (b:=b) (v:=v) (to:=tD R3.to) (ins:=R3.ins) (pl:=R3.pl) (m:=R1.pl.length) (by omega)
  have h5:D.agg [.int 0, .int 4294967295, .int 5, .int 2, .int 0, .int 0, .int 0, .int 0, .int 0]=ii 4294967295 5 2 0 0 0 0:=rfl;have h21:D.agg [.int 0, .int 0, .int 21, .int 0, .int 0, .int 0, .int 0, .int 0, .int 0]=ii 0 21 0 0 0 0 0:=rfl;have hz:ac (.list [])=0:=by rw[bF];rfl
  unfold fu ef;rw[cK,hk];simp only[cm,Int.reduceEq,RI];rw[F183_eq,h5,h21];simp only[cm,hin,hd,hz,e1,e2,e3,e4,e5,e6];rw[e7];simp only[cm]
end
end Go.Proofs.YtiojjmlccehpoaaGreat
namespace Go.Proofs.YtiojjmlccehpoaaGreat
open Go Go.AM
noncomputable def cst:Nat->D->Nat
 |0,_=>0
 |N+1,l=>(l.toList.map fun s=>40+6*ndS s+(5*(aa s 6).toList.length+((aa s 6).toList.map fun x=>cst N x+5).sum)+(cst N (aa s 4)+cst N (aa s 5))).sum
def wfL:Nat->Bool->D->Prop
 |0,_,_=>True
 |N+1,lp,l=>∀s∈l.toList,stB s=true∧((ah (aa s 0)=10∨ah (aa s 0)=11)->lp=true)∧∀x∈bj s,wfL N (lp||bU s) x
theorem stB_head {s:D} (h:stB s=true):iN (ah (aa s 0)) (ah (aa s 1)) (aa s 3).toList.length (aa s 4).toList.length (aa s 5).toList.length (aa s 6).toList.length (gK (aC (aa s 2))) (cD .eql (aC (aa s 2)) (ByteArray.mk #[]))=true:=by
 unfold stB at h;rw[bu]at h;exact h.1
theorem OkQ.le {Q Q' v fn b ex ex' s lp k k'} (h:OkQ Q Q' v fn b ex ex' s lp k) (hk:k≤k'):OkQ Q Q' v fn b ex ex' s lp k':=fun es ts top end_ φ f S R c hs hc hb=>by
 obtain⟨φ',f',S',R',h1,h2,h3,h4,h5⟩:=h es ts top end_ φ f S R ((k'-k)+c) hs hc (by unfold Bud at hb ⊢;omega)
 exact⟨φ',f',S',R',h1,h2,h3,h4,by unfold Bud at h5 ⊢;omega⟩
set_option maxHeartbeats 4000000 in
theorem okStmt {Q Q':uAC} {v fn s:D} {b:Int} {ex:Nat} {ex':Int} {lp:Bool} {kc:D->Nat} (hv:v.toList.length≤maxLen) (hfn:fn.toList.length≤maxLen) (hw:stB s=true) (hlp:(ah (aa s 0)=10∨ah (aa s 0)=11)->lp=true)
 (hk:∀x∈bj s,OkQ (q56 Q) (q66 Q') v fn b ex ex' x (lp||bU s) (kc x)):OkQ (eU Q) (eV Q') v fn b ex ex' s lp (40+6*ndS s+(5*(aa s 6).toList.length+((aa s 6).toList.map fun x=>kc x+5).sum)+(kc (aa s 4)+kc (aa s 5))):=by
 intro es ts top end_ φ f S R c hs hc hb;have hh:=stB_head hw;have h4:=hk (aa s 4) (by simp[bj])
 have h5:=hk (aa s 5) (by simp[bj])
 have h6:∀x∈(aa s 6).toList,OkQ (q56 Q) (q66 Q') v fn b ex ex' x (lp||bU s) (kc x):=fun x hx=>hk x (by simp[bj,hx])
 have hcase:ah (aa s 0)=1∨ah (aa s 0)=2∨ah (aa s 0)=3∨ah (aa s 0)=4∨ah (aa s 0)=5∨ah (aa s 0)=6∨ah (aa s 0)=7∨ah (aa s 0)=8∨ah (aa s 0)=9∨ah (aa s 0)=10∨ah (aa s 0)=11∨ah (aa s 0)=12∨ah (aa s 0)=13∨ah (aa s 0)=14∨ah (aa s 0)=15:=by
  rcases Decidable.em (1≤ah (aa s 0)∧ah (aa s 0)≤15)with h|h
  ·omega
  ·exfalso
   unfold iN at hh;rw[if_neg (by omega),if_neg (by omega),if_neg (by omega),if_neg (by omega),if_neg (by omega),if_neg (by omega),if_neg (by omega),if_neg (by omega),if_neg (by omega),if_neg (by omega),if_neg (by omega),if_neg (by omega),if_neg (by omega),if_neg (by omega),if_neg (by omega)]at hh
   cases hh
 have hloop:∀k:Int,k≠7->k≠8->ah (aa s 0)=k->(lp||bU s)=lp:=fun k h7 h8 he=>by unfold bU;rw[he];simp[h7,h8]
 have hbS:Bud S R ts (40+6*ndS s+((5*(aa s 6).toList.length+((aa s 6).toList.map fun x=>kc x+5).sum+(kc (aa s 4)+kc (aa s 5)))+c)):=by unfold Bud at hb ⊢;omega
 have fin:∀{k},Both (eU Q) (eV Q') v fn b ex ex' s es ts top end_ φ S R (k+c)->Both (eU Q) (eV Q') v fn b ex ex' s es ts top end_ φ S R c:=fun{k} ⟨φ',f',S',R',g1,g2,g3,g4,g5⟩=>⟨φ',f',S',R',g1,g2,g3,g4,by unfold Bud at g5 ⊢;omega⟩
 rcases hcase with h|h|h|h|h|h|h|h|h|h|h|h|h|h|h
 ·have h3:(aa s 3).toList.length=1:=by rw[h]at hh;simp[iN]at hh;omega
  exact fin (s1 hs hv h hw h3 hbS)
 ·have h3:(aa s 3).toList.length=2:=by rw[h]at hh;simp[iN]at hh;omega
  exact fin (s2 hs hv h hw h3 hbS)
 ·exact fin (s3 hs hv h hbS)
 ·have h3:(aa s 3).toList.length=1:=by rw[h]at hh;simp[iN]at hh;omega
  exact fin (s4 hs hv h hw h3 hbS)
 ·exact fin (s5 hs hv h hfn hbS)
 ·have h3:(aa s 3).toList.length=1:=by rw[h]at hh;simp[iN]at hh;omega
  rw[hloop 6 (by omega) (by omega) h]at h4 h5
  exact fin (k:=5*(aa s 6).toList.length+((aa s 6).toList.map fun x=>kc x+5).sum) (s6 hs hc hv h hw h3 h4 h5 (by unfold Bud at hb ⊢;omega))
 ·have h3:(aa s 3).toList.length=1:=by rw[h]at hh;simp[iN]at hh;omega
  have hl:(lp||bU s)=true:=by unfold bU;rw[h];simp
  rw[hl]at h4;exact fin (k:=5*(aa s 6).toList.length+((aa s 6).toList.map fun x=>kc x+5).sum) (s7 hs hc hv (.inl h) hw (fun _=>h3) h4 (by unfold Bud at hb ⊢;omega))
 ·have hl:(lp||bU s)=true:=by unfold bU;rw[h];simp
  rw[hl]at h4;exact fin (k:=5*(aa s 6).toList.length+((aa s 6).toList.map fun x=>kc x+5).sum) (s7 hs hc hv (.inr h) hw (fun h7=>by omega) h4 (by unfold Bud at hb ⊢;omega))
 ·have h3:(aa s 3).toList.length=1∧(aa s 6).toList.length≤64:=by rw[h]at hh;simp[iN]at hh;omega
  rw[hloop 9 (by omega) (by omega) h]at h6
  exact fin (k:=kc (aa s 4)+kc (aa s 5)) (s9 (n:=(aa s 6).toList.length) (by omega) rfl hs hc hv h hw h3.1 h6 (by unfold Bud at hb ⊢;omega))
 ·exact fin (s10 hs hv h hc (hlp (.inl h)) hbS)
 ·exact fin (s11 hs hv h hc (hlp (.inr h)) hbS)
 ·cases hl:lkS S.L (aC (aa s 2))with
  |none=>exact fin (s12_1 hs h hl hbS)
  |some p=>exact fin (s12_0 hs h hl hbS)
 ·cases hl:lkS S.L (aC (aa s 2))with
  |none=>exact fin (s13_1 hs h hl hbS)
  |some p=>exact fin (s13_0 hs h hl hbS)
 ·exact fin (s14 hs hv h hc hbS)
 ·exact fin (s15 hs hv h hbS)
theorem okAll {v fn:D} {b:Int} {ex:Nat} {ex':Int} (hv:v.toList.length≤maxLen) (hfn:fn.toList.length≤maxLen):∀(K:Nat) (l:D) (lp:Bool) (N M:Nat),l.size<K->K≤N->K≤M->Conf PG 36 l->wfL K lp l->OkQ (q56 (KP N)) (q66 (KX M)) v fn b ex ex' l lp (cst K l)
 ∧∀s∈l.toList,OkQ (KP N) (KX M) v fn b ex ex' s lp (40+6*ndS s+(5*(aa s 6).toList.length+((aa s 6).toList.map fun x=>cst (K-1) x+5).sum)+(cst (K-1) (aa s 4)+cst (K-1) (aa s 5))):=by
 intro K
 induction K with
 |zero=>intro l lp N M h;omega
 |succ K ih=>
  intro l lp N M h hN hM hc hw;obtain⟨N,rfl⟩:∃n,N=n+1:=⟨N-1,by omega⟩
  obtain⟨M,rfl⟩:∃n,M=n+1:=⟨M-1,by omega⟩
  have hs:∀s∈l.toList,OkQ (KP (N+1)) (KX (M+1)) v fn b ex ex' s lp (40+6*ndS s+(5*(aa s 6).toList.length+((aa s 6).toList.map fun x=>cst K x+5).sum)+(cst K (aa s 4)+cst K (aa s 5))):=fun s hm=>by
   obtain⟨w1,w2,w3⟩:=hw s hm;obtain⟨c1,c2⟩:=bZ hc hm;rw[F117_s,F123_s]
   exact okStmt hv hfn w1 w2 fun x hx=>by
    obtain⟨k1,k2⟩:=bk c1 hx;exact(ih x _ N M (by omega) (by omega) (by omega) k1 (w3 x hx)).1
  exact⟨okL (ca s36 hc).1 hs,hs⟩
theorem nc {st:List D->Option (Sum (List D) (List D))} {l:D} {cs:D->Nat} {ok:D->Prop} {B:Int} {call:D->Int->Option (List D)} (hl:l.toList.length≤maxLen)
 (hst:∀(left:Int) (i:Nat),st [.int left, .int (i:Int)]=bif az (ae .lss (i:Int) (ac l)) (ae .geq left 0) false then(bif aS l (i:Int)then(bif ao (call (ax l (i:Int)) left)then some (.inl [.int (ah (ab (call (ax l (i:Int)) left) 0)), .int (aM .add .i64 (i:Int) 1)])else none)else none)else some (.inr [.int 0, .int left]))
 (hc:∀x∈l.toList,∀left,0≤left->left≤B->∃r:Int,call x left=some [.int r]∧ -1≤r∧r≤B∧(0≤r->ok x∧(cs x:Int)+r≤left)):
 ∀(k i:Nat) (left:Int),i+k=l.toList.length-> -1≤left->left≤B->∃r:Int,loW st [.int left, .int (i:Int)]=some [.int 0, .int r]∧ -1≤r∧r≤B∧(0≤r->0≤left∧(∀x∈l.toList.drop i,ok x)∧((((l.toList.drop i).map cs).sum:Nat):Int)+r≤left):=by
 intro k
 induction k with
 |zero=>
  intro i left hi h0 h1;obtain rfl:i=l.toList.length:=by omega
  refine⟨left,?_,h0,h1,fun h=>⟨h,by rw[iU (aP _)];simp,by rw[iU (aP _)];simp⟩⟩
  rw[bn,hst,aK];simp only[ay,show¬((l.toList.length:Int)<(l.toList.length:Int))by omega,bi,bR,aJ]
 |succ k ih=>
  intro i left hi h0 h1;have hlt:i<l.toList.length:=by omega
  by_cases hn:0≤left
  ·have hg:ax l (i:Int)=l.toList[i]:=by rw[bl,getD_lt hlt]
   obtain⟨r,r1,r2,r3,r4⟩:=hc l.toList[i] (b7 hlt) left hn h1;obtain⟨r',q1,q2,q3,q4⟩:=ih (i+1) r (by omega) r2 r3
   refine⟨r',?_,q2,q3,fun h=> ?_⟩
   ·rw[bn,hst,aK,hg,r1];simp only[ay,bB,show(i:Int)<(l.toList.length:Int)by omega,hn,ba,bR,ap,aX hlt,aq,aw,aU,aF]
    rw[bg (by unfold maxLen at hl;omega)]
    exact q1
   ·obtain⟨a1,a2,a3⟩:=q4 h;obtain⟨b1,b2⟩:=r4 a1;rw[iT hlt];refine⟨hn,fun x hx=> ?_,?_⟩
    ·rcases cU.1 hx with rfl|hx
     ·exact b1
     ·exact a2 x hx
    ·rw[bW,fW];omega
  ·refine⟨left,?_,h0,h1,fun h=>absurd h hn⟩
   rw[bn,hst,aK];simp only[ay,bB,show(i:Int)<(l.toList.length:Int)by omega,hn,ba,bi,bR,ap,aJ]
theorem small38:∀(N:Nat) (e:D) (n left:Int),Conf PG 25 e->e.size<N-> -1000≤n->n≤1000->0≤left->left≤10000->∃r:Int,F38 N [e, .int n, .int left]=some [.int r]∧ -1≤r∧r≤10000∧(0≤r->True∧(nodes N e:Int)+r≤left):=by
 intro N
 induction N with
 |zero=>intro e n left _ h;omega
 |succ N ih=>
  intro e n left hc h n0 n1 l0 l1;obtain⟨m1,m2⟩:=lF (j:=4) Rl s23 hc;have ho:aa e 4=e.fld 4:=by rw[bA]
  rw[F38_s,Fb38_eq,ho,aK];simp only[ay,ck,bR,ap];by_cases h1:n<1
  ·exact⟨-1,by simp[h1],by omega,by omega,fun h=>by omega⟩
  by_cases h2:left<1
  ·exact⟨-1,by simp[h1,h2],by omega,by omega,fun h=>by omega⟩
  by_cases h3:(4:Int)<((e.fld 4).toList.length:Int)
  ·exact⟨-1,by simp[h1,h2,h3],by omega,by omega,fun h=>by omega⟩
  have hs1:aM .sub .i64 left 1=left-1:=fQ (by omega) (by omega)
  have hs2:aM .sub .i64 n 1=n-1:=fQ (by omega) (by omega)
  obtain⟨r,q1,q2,q3,q4⟩:=nc (st:=E5 (F38 N) [.int n,e]) (l:=e.fld 4) (cs:=nodes N) (ok:=fun _=>True) (B:=10000) (call:=fun x left=>F38 N [x, .int (n-1), .int left]) m1
   (fun left i=>by rw[Tu,ho,hs2]) (fun x hx left a b=>by
    have:=eQ hx
    exact ih x (n-1) left (m2 x hx) (by omega) (by omega) (by omega) a b) (e.fld 4).toList.length 0 (left-1) (by omega) (by omega) (by omega)
  refine⟨r,?_,q2,q3,fun h=>⟨trivial,?_⟩⟩
  ·simp only[bV]at q1;simp only[h1,h2,h3,bi,aJ,hs1,IP,q1,aq,aw,aU,bI,aF,ap]
  ·obtain⟨a1,_,a2⟩:=q4 h;rw[l5]at a2;simp only[nodes,opd];omega
theorem small38q {e:D} {left:Int} (hc:Conf PG 25 e) (l0:0≤left) (l1:left≤10000):∃r:Int,q38 [e, .int 70, .int left]=some [.int r]∧ -1≤r∧r≤10000∧(0≤r->True∧(nd e:Int)+r≤left):=by
 have hN:e.size<aW [e, .int 70, .int left]:=cu (by simp)
 obtain⟨r,a,b,c,d⟩:=small38 _ e 70 left hc hN (by omega) (by omega) l0 l1
 refine⟨r,by rw[XC];exact a,b,c,fun h=> ?_⟩
 have:=d h;rw[kO _ (e.size+1) e hN (by omega)]at this
 exact this
noncomputable def tot:Nat->D->Nat
 |0,_=>0
 |N+1,l=>(l.toList.map fun s=>1+ndS s+(tot N (aa s 4)+tot N (aa s 5))+((aa s 6).toList.map (tot N)).sum).sum
def SmQ:Nat->D->Prop
 |0,_=>False
 |N+1,l=>∀s∈l.toList,(aa s 6).toList.length≤70∧∀x∈bj s,SmQ N x
set_option maxHeartbeats 2000000 in
theorem small109:∀(N:Nat) (l:D) (n left:Int),Conf PG 36 l->l.size<N-> -1000≤n->n≤1000->0≤left->left≤10000->∃r:Int,qG N [l, .int n, .int left]=some [.int r]∧ -1≤r∧r≤10000∧(0≤r->SmQ N l∧(tot N l:Int)+r≤left):=by
 intro N
 induction N with
 |zero=>intro l n left _ h;omega
 |succ N ih=>
  intro l n left hc h n0 n1 l0 l1;have hlm:=(ca s36 hc).1;rw[F109_s,Fb109_eq,aK];simp only[ay,ck,bR,ap];by_cases h1:(20:Int)<(l.toList.length:Int)
  ·exact⟨-1,by simp[h1],by omega,by omega,fun h=>by omega⟩
  by_cases h2:n<1
  ·exact⟨-1,by simp[h1,h2],by omega,by omega,fun h=>by omega⟩
  have hs2:aM .sub .i64 n 1=n-1:=fQ (by omega) (by omega)
  have key:∀(k i:Nat) (left:Int),i+k=l.toList.length-> -1≤left->left≤10000->
   loW (qF (qG N) [l, .int n]) [.int left, .int (i:Int)]=some [.int 1]∨∃r:Int,loW (qF (qG N) [l, .int n]) [.int left, .int (i:Int)]=some [.int 0, .int r]∧ -1≤r∧r≤10000
    ∧(0≤r->0≤left∧(∀s∈l.toList.drop i,(aa s 6).toList.length≤70∧∀x∈bj s,SmQ N x)∧((((l.toList.drop i).map fun s=>1+ndS s+(tot N (aa s 4)+tot N (aa s 5))+((aa s 6).toList.map (tot N)).sum).sum:Nat):Int)+r≤left):=by
   intro k
   induction k with
   |zero=>
    intro i left hi h0 h1;obtain rfl:i=l.toList.length:=by omega
    refine .inr ⟨left,?_,h0,h1,fun h=>⟨h,by rw[iU (aP _)];simp,by rw[iU (aP _)];simp⟩⟩
    rw[bn,oN,aK];simp only[ay,show¬((l.toList.length:Int)<(l.toList.length:Int))by omega,bi,bR,aJ]
   |succ k ihk=>
    intro i left hi h0 h1;have hlt:i<l.toList.length:=by omega
    by_cases hn:0≤left
    ·have hg:ax l (i:Int)=l.toList[i]:=by rw[bl,getD_lt hlt]
     obtain⟨cs,ss⟩:=bZ hc (b7 hlt);rw[bn,oN,aK l,hg];rw[iT hlt];generalize l.toList[i]=s at cs ss;simp only[ay,bB,show(i:Int)<(l.toList.length:Int)by omega,hn,ba,bR,ap,aX hlt,ck,aK]
     by_cases g1:(4:Int)<((aa s 3).toList.length:Int)
     ·left;simp[g1]
     by_cases g2:(70:Int)<((aa s 6).toList.length:Int)
     ·left;simp[g1,g2]
     simp only[g1,g2,bi,aJ];have hs1:aM .sub .i64 left 1=left-1:=fQ (by omega) (by omega)
     have c4:=bk cs (x:=aa s 4) (by simp[bj])
     have c5:=bk cs (x:=aa s 5) (by simp[bj])
     have hc6:Conf PG 185 (aa s 6):=by rw[bA];exact bq Gd cs
     obtain⟨l3,e3⟩:=iM cs
     obtain⟨r2,p1,p2,p3,p4⟩:=nc (st:=qD (qG N) [l, .int n, .int (i:Int),s]) (l:=aa s 3) (cs:=nd) (ok:=fun _=>True) (B:=10000) (call:=fun x left=>q38 [x, .int 70, .int left]) l3
      (fun left i=>by rw[Lg]) (fun x hx left a b=>small38q (e3 x hx) a b) (aa s 3).toList.length 0 (left-1) (by omega) (by omega) (by omega)
     simp only[bV]at p1;rw[l5]at p4;simp only[Be,hs1,p1,hs2,aq,aw,aU,bI,aF];obtain⟨r3,t3,a1,a2,a3⟩:∃r3:Int,(fG (decide (0≤r2)) (ah (ab (qG N [aa s 4, .int (n-1), .int r2]) 0)) r2=r3∧(bif decide (0≤r2)then ao (qG N [aa s 4, .int (n-1), .int r2])else true)=true)∧ -1≤r3∧r3≤10000∧(0≤r3->0≤r2∧SmQ N (aa s 4)∧(tot N (aa s 4):Int)+r3≤r2):=by
      by_cases hr:0≤r2
      ·obtain⟨r,q1,q2,q3,q4⟩:=ih (aa s 4) (n-1) r2 c4.1 (by omega) (by omega) (by omega) hr p3
       exact⟨r,⟨by rw[q1,eC];simp[hr,aw,aF],by rw[q1];simp[hr,aq]⟩,q2,q3,fun h=>⟨hr,q4 h⟩⟩
      ·exact⟨r2,⟨by rw[eC];simp[hr],by simp[hr]⟩,p2,p3,fun h=>absurd h hr⟩
     simp only[t3,aq,ap];obtain⟨r4,t4,b1,b2,b3⟩:∃r4:Int,(fG (decide (0≤r3)) (ah (ab (qG N [aa s 5, .int (n-1), .int r3]) 0)) r3=r4∧(bif decide (0≤r3)then ao (qG N [aa s 5, .int (n-1), .int r3])else true)=true)∧ -1≤r4∧r4≤10000∧(0≤r4->0≤r3∧SmQ N (aa s 5)∧(tot N (aa s 5):Int)+r4≤r3):=by
      by_cases hr:0≤r3
      ·obtain⟨r,q1,q2,q3,q4⟩:=ih (aa s 5) (n-1) r3 c5.1 (by omega) (by omega) (by omega) hr a2
       exact⟨r,⟨by rw[q1,eC];simp[hr,aw,aF],by rw[q1];simp[hr,aq]⟩,q2,q3,fun h=>⟨hr,q4 h⟩⟩
      ·exact⟨r3,⟨by rw[eC];simp[hr],by simp[hr]⟩,a1,a2,fun h=>absurd h hr⟩
     simp only[t4,ap]
     obtain⟨r5,u1,u2,u3,u4⟩:=nc (st:=qE (qG N) [l, .int n, .int (i:Int),s]) (l:=aa s 6) (cs:=tot N) (ok:=SmQ N) (B:=10000) (call:=fun x left=>qG N [x, .int (n-1), .int left]) (ca s185 hc6).1
      (fun left i=>by rw[Lh,hs2]) (fun x hx left a b=>by
       have hk:=bk cs (x:=x) (by simp[bj,hx])
       exact ih x (n-1) left hk.1 (by omega) (by omega) (by omega) a b) (aa s 6).toList.length 0 r4 (by omega) b1 b2
     simp only[bV]at u1;rw[l5]at u4;simp only[Bf,u1,aq,aw,aU,bI,aF,ap];rw[bg (by unfold maxLen at hlm;omega)]
     rcases ihk (i+1) r5 (by omega) u2 u3 with hh|⟨r,v1,v2,v3,v4⟩
     ·exact .inl hh
     ·refine .inr ⟨r,v1,v2,v3,fun h=> ?_⟩
      obtain⟨w1,w2,w3⟩:=v4 h;obtain⟨x1,x2,x3⟩:=u4 w1;obtain⟨y1,y2,y3⟩:=b3 x1;obtain⟨z1,z2,z3⟩:=a3 y1;obtain⟨_,_,o3⟩:=p4 z1;refine⟨trivial,fun q hq=> ?_,?_⟩
      ·rcases cU.1 hq with rfl|hq
       ·refine⟨by omega,fun x hx=> ?_⟩
        unfold bj at hx;rcases cU.1 hx with rfl|hx
        ·exact z2
        rcases cU.1 hx with rfl|hx
        ·exact y2
        ·exact x2 x hx
       ·exact w2 q hq
      ·rw[bW,fW];unfold ndS at *;omega
    ·refine .inr ⟨left,?_,h0,h1,fun h=>absurd h hn⟩
     rw[bn,oN,aK];simp only[ay,bB,show(i:Int)<(l.toList.length:Int)by omega,hn,ba,bi,bR,ap,aJ]
  simp only[h1,h2,bi,aJ,DL];rcases key l.toList.length 0 left (by omega) (by omega) (by omega)with hh|⟨r,v1,v2,v3,v4⟩
  ·simp only[bV]at hh;exact⟨-1,by simp[hh,aq,aw,aF,aB],by omega,by omega,fun h=>by omega⟩
  ·simp only[bV]at v1;refine⟨r,by simp[v1,aq,aw,aF,aB],v2,v3,fun h=> ?_⟩
   obtain⟨_,w2,w3⟩:=v4 h;rw[l5]at w2 w3;exact⟨w2,w3⟩
theorem sU {α:Type} {f g:α->Nat}:∀(l:List α),(∀x∈l,f x≤g x)->(l.map f).sum≤(l.map g).sum
 | [],_=>aP _
 |x::l,h=>by
  rw[bW,bW,fW,fW];have:=h x (by simp);have:=sU l fun y hy=>h y (by simp[hy]);omega
theorem qJ {α:Type} {f:α->Nat} (k:Nat):∀(l:List α),(l.map fun x=>k*f x).sum=k*(l.map f).sum
 | []=>by simp
 |x::l=>by rw[bW,bW,fW,fW,qJ k l,Nat.mul_add]
theorem Bq {α:Type} {f:α->Nat}:∀(l:List α),(l.map fun x=>f x+5).sum=(l.map f).sum+5*l.length
 | []=>by simp
 |x::l=>by rw[bW,bW,fW,fW,Bq l,ce];omega
theorem DW:∀(N M:Nat) (l:D),Conf PG 36 l->l.size<N->l.size<M->SmQ N l->Sm M l∧cnt M l≤tot N l∧cst M l≤1000*tot N l:=by
 intro N
 induction N with
 |zero=>intro M l _ h;omega
 |succ N ih=>
  intro M l hc h1 h2 hs;obtain⟨M,rfl⟩:∃m,M=m+1:=⟨M-1,by omega⟩
  have hk:∀s∈l.toList,∀x∈bj s,Sm M x∧cnt M x≤tot N x∧cst M x≤1000*tot N x:=fun s hm x hx=>by
   obtain⟨c1,c2⟩:=bZ hc hm;obtain⟨k1,k2⟩:=bk c1 hx;exact ih M x k1 (by omega) (by omega) ((hs s hm).2 x hx)
  refine⟨fun s hm=>⟨by have:=(hs s hm).1;omega,fun x hx=>(hk s hm x hx).1⟩,?_,?_⟩
  ·simp only[cnt,tot];refine sU _ fun s hm=> ?_
   have h4:=(hk s hm (aa s 4) (by simp[bj])).2.1
   have h5:=(hk s hm (aa s 5) (by simp[bj])).2.1
   have h6:=sU (aa s 6).toList fun x hx=>(hk s hm x (by simp[bj,hx])).2.1
   unfold bj;rw[bW,bW,fW,fW];omega
  ·simp only[cst,tot];rw[<- qJ];refine sU _ fun s hm=> ?_
   have h4:=(hk s hm (aa s 4) (by simp[bj])).2.2
   have h5:=(hk s hm (aa s 5) (by simp[bj])).2.2
   have h6:=sU (aa s 6).toList fun x hx=>(hk s hm x (by simp[bj,hx])).2.2
   have h70:=(hs s hm).1;rw[qJ]at h6;rw[Bq];omega
theorem Lx {α:Type}:∀l:List α,(l.map fun _=>0).sum=0
 | []=>rfl
 |x::l=>by rw[bW,fW,Lx l]
theorem small167:∀(N:Nat) (d:D) (n left:Int),Conf PG 63 d->d.size<N-> -1000≤n->n≤1000->0≤left->left≤10000->∃r:Int,GQ N [d, .int n, .int left]=some [.int r]∧ -1≤r∧r≤10000∧(0≤r->True∧((0:Nat):Int)+r≤left):=by
 intro N
 induction N with
 |zero=>intro d n left _ h;omega
 |succ N ih=>
  intro d n left hc h n0 n1 l0 l1;obtain⟨m3,m4,c3,c4⟩:=fq hc;rw[F167_s,Fb167_eq,aK,aK];simp only[ay,ck,bR,ap];by_cases h1:n<1
  ·exact⟨-1,by simp[h1],by omega,by omega,fun h=>by omega⟩
  by_cases h2:left<1
  ·exact⟨-1,by simp[h1,h2],by omega,by omega,fun h=>by omega⟩
  by_cases h3:(12:Int)<((aa d 3).toList.length:Int)
  ·exact⟨-1,by simp[h1,h2,h3],by omega,by omega,fun h=>by omega⟩
  by_cases h4:(70:Int)<((aa d 4).toList.length:Int)
  ·exact⟨-1,by simp[h1,h2,h3,h4],by omega,by omega,fun h=>by omega⟩
  have hs1:aM .sub .i64 left 1=left-1:=fQ (by omega) (by omega)
  have hs2:aM .sub .i64 n 1=n-1:=fQ (by omega) (by omega)
  obtain⟨r,q1,q2,q3,q4⟩:=nc (st:=wa (GQ N) [.int n,d]) (l:=aa d 3) (cs:=fun _=>0) (ok:=fun _=>True) (B:=10000) (call:=fun x left=>GQ N [x, .int (n-1), .int left]) m3
   (fun left i=>by rw[O9,hs2]) (fun x hx left a b=>by
    obtain⟨k1,k2⟩:=c3 x hx
    exact ih x (n-1) left k1 (by omega) (by omega) (by omega) a b) (aa d 3).toList.length 0 (left-1) (by omega) (by omega) (by omega)
  obtain⟨r',u1,u2,u3,u4⟩:=nc (st:=wb (GQ N) [.int n,d]) (l:=aa d 4) (cs:=fun _=>0) (ok:=fun _=>True) (B:=10000) (call:=fun x left=>GQ N [reT (aa x 1), .int (n-1), .int left]) m4
   (fun left i=>by rw[Pb,hs2];rfl) (fun x hx left a b=>by
    obtain⟨k1,k2⟩:=c4 x hx;rw[eH k1]
    exact ih (aa x 1) (n-1) left k1 (by omega) (by omega) (by omega) a b) (aa d 4).toList.length 0 r (by omega) q2 q3
  simp only[bV]at q1 u1;refine⟨r',?_,u2,u3,fun h=>⟨trivial,?_⟩⟩
  ·simp only[h1,h2,h3,h4,bi,aJ,hs1,DM,DN,q1,u1,aq,aw,aU,bI,aF,ap]
  ·obtain⟨a1,_,a2⟩:=u4 h;obtain⟨_,_,b2⟩:=q4 a1;rw[Lx]at a2 b2;omega
theorem ty65 {y:D} (h:Conf PG 65 y):Conf PG 63 (aa y 1):=by rw[bA];exact bq Rn h
theorem small110 {d:D} (h:Conf PG 63 d):∃b,q110 [d, .int 70]=some [.bool b]:=by
 have hN:d.size<aW [d, .int 70, .int 3000]:=cu (by simp)
 obtain⟨r,a,_⟩:=small167 _ d 70 3000 h hN (by omega) (by omega) (by omega) (by omega)
 exact⟨_,by rw[RU,F110_eq,RT];simp only[a,aq,ap];rfl⟩
theorem small16 {f v fn:D} (hf:Conf PG 38 f):∃b,q16 [f,v,fn]=some [.bool b]∧(b=true->v.toList.length≤40∧fn.toList.length≤70∧(aa f 1).toList.length≤300∧∃N,(aa f 2).size<N∧SmQ N (aa f 2)∧tot N (aa f 2)≤5000):=by
 have cv:Conf PG 35 (aa f 1):=by rw[bA];exact bq f38_1 hf
 have cb:Conf PG 36 (aa f 2):=by rw[bA];exact bq KG hf
 obtain⟨lv,_,ev⟩:=ca s35 cv;have h46:∃b,q46 [f]=some [.bool b]∧(b=true->(aa f 1).toList.length≤300∧∃N,(aa f 2).size<N∧SmQ N (aa f 2)∧tot N (aa f 2)≤5000):=by
  have hN:(aa f 2).size<aW [aa f 2, .int 70, .int 5000]:=cu (by simp)
  obtain⟨r,a1,a2,a3,a4⟩:=small109 _ (aa f 2) 70 5000 cb hN (by omega) (by omega) (by omega) (by omega)
  have hloop:=qt (st:=Bj [f]) (n:=(aa f 1).toList.length) (p:=fun i=> !(match q110 [aa ((aa f 1).toList.getD i .other) 1, .int 70]with|some [.bool b]=>b|_=>false)) (r0:=[D.int 0]) (r1:=[.int 1]) lv
   (by
    rw[DO,aK]
    simp only[ay,show¬(((aa f 1).toList.length:Int)<((aa f 1).toList.length:Int))by omega,bi,aJ])
   (fun i hi=>by
    have hx:=ev _ (b7 hi);have hg:ax (aa f 1) (i:Int)=(aa f 1).toList.getD i .other:=bl _ _;have ht:Conf PG 63 (aa ((aa f 1).toList.getD i .other) 1):=by rw[getD_lt hi];exact ty65 hx
    obtain⟨b,hb⟩:=small110 ht;have hre:=eH ht;unfold reT at hre;rw[DO,aK,hg,hre,hb];simp only[ay,show(i:Int)<((aa f 1).toList.length:Int)by omega,ba,ap,aX hi,aq,aw,aU,aL,bO]
    rw[bg (by unfold maxLen at lv;omega)]
    cases b<;>rfl)
  rw[q46_eq,F46_eq,RR,aK];simp only[a1,aq,aw,aU,aF,ck,ay,bR,Lm];by_cases h3:(300:Int)<((aa f 1).toList.length:Int)
  ·exact⟨false,by simp[h3],fun h=>by cases h⟩
  by_cases hr:r<0
  ·exact⟨false,by simp[h3,hr],fun h=>by cases h⟩
  obtain⟨w1,w2⟩:=a4 (by omega)
  have:∃e:Int,loW (Bj [f]) [.int 0]=some [.int e]:=by
   rw[hloop];split
   ·exact⟨1,rfl⟩
   ·exact⟨0,rfl⟩
  obtain⟨e,he⟩:=this;by_cases h0:e=0
  ·exact⟨true,by simp[h3,hr,he,h0,aq,aw,aF,aB],fun _=>⟨by omega,_,hN,w1,by omega⟩⟩
  ·exact⟨false,by simp[h3,hr,he,h0,aq,aw,aF,aB],fun h=>by cases h⟩
 obtain⟨b,hb,hb2⟩:=h46;rw[q16_eq,F16_eq,hb,aK,aK];simp only[aq,aw,aU,aL,cC,bR,ap];refine⟨_,rfl,fun h=> ?_⟩
 cases b with
 |false=>simp at h
 |true=>
  simp only[ap]at h;by_cases h1:(v.toList.length:Int)≤40
  ·simp only[h1,ba,ap,cn]at h;obtain⟨c1,c2⟩:=hb2 rfl;exact⟨by omega,by omega,c1,c2⟩
  ·simp[h1]at h
theorem chk_body {f v fn:D} (h:GW f v fn=0):g9 (eJ f v.toList fn.toList) f=0:=by
 have hu:nV (eJ f v.toList fn.toList)=0:=by
  unfold GW at h;split at h
  ·assumption
  ·exact h
 have u2:(aa (eJ f v.toList fn.toList) 2).toList=lH f fn.toList:=by unfold eJ;rw[ee];rfl
 unfold nV at hu;split at hu
 ·cases hu
 split at hu
 ·cases hu
 split at hu
 ·split at hu
  ·split at hu
   ·rename_i _ h2 _ _ _;have:=mW _ _ hu 0 (aP _) (by omega)
    rw[u2]at this;exact this
   ·rename_i h3;exact absurd hu h3
  ·rename_i h3;exact absurd hu h3
 ·rename_i h3;exact absurd hu h3
theorem Pl {u f:D} (h:g9 u f=0):∀x∈flB f,stB (ec x)=true∧((ah (aa (ec x) 0)=10∨ah (aa (ec x) 0)=11)->UF x=true):=by
 intro x hx;obtain⟨j,hj,rfl⟩:=List.getElem_of_mem hx;unfold g9 at h;split at h
 ·cases h
 split at h
 ·split at h
  ·cases h
  split at h
  ·cases h
  have:=mW _ _ h j (lR _) (by omega)
  unfold plE at this;rw[getD_lt hj]at this;refine⟨KE this,fun hk=> ?_⟩
  unfold mZ at this;split at this
  ·cases this
  split at this
  ·cases this
  split at this
  ·cases this
  split at this
  ·cases this
  rename_i hb;cases hfl:UF (flB f)[j]with
  |true=>rfl
  |false=>exact absurd ⟨hk,hfl⟩ hb
 ·rename_i h3;exact absurd h h3
theorem wf_items:∀(N:Nat) (l:D) (b:Bool),(∀x∈flP N l b,stB (ec x)=true∧((ah (aa (ec x) 0)=10∨ah (aa (ec x) 0)=11)->UF x=true))->wfL N b l:=by
 intro N
 induction N with
 |zero=>intro l b _;trivial
 |succ N ih=>
  intro l b h s hs;have h0:=h (.agg [s, .bool b]) (by simp only[flP,nW];exact⟨s,hs,by simp⟩)
  rw[sG,Ox]at h0;refine⟨h0.1,h0.2,fun x hx=>ih x _ fun y hy=>h y ?_⟩
  simp only[flP,nW];exact⟨s,hs,cU.2 (.inr (nW.2 ⟨x,hx,hy⟩))⟩
theorem wf_body {f v fn:D} (h:GW f v fn=0):wfL ((aa f 2).size+1) false (aa f 2):=wf_items _ _ _ (Pl (chk_body h))
noncomputable def nms (l:List D):List D:=l.map fun x=> .str (aC (aa x 0))
theorem names17 {v sd2 f:D} {n:Int} (hv:v.toList.length≤1000) (hl:(aa f 1).toList.length≤1000):RM [sd2, .int n,aa f 1, .int (ac (aa f 1)),f] [.int 0, .list v.toList]=some [.int 0, .list (v.toList++nms (aa f 1).toList), .list []]:=by
 rw[K4];have key:∀k i:Nat,i+k=(aa f 1).toList.length->∀a:List D,a.length+k≤2000->loW (GB [sd2, .int n,aa f 1, .int (ac (aa f 1)),f]) [.int (i:Int), .list a]=some [.int 0, .list (a++nms ((aa f 1).toList.drop i)), .list []]:=by
  intro k
  induction k with
  |zero=>
   intro i hi a _;obtain rfl:i=(aa f 1).toList.length:=by omega
   rw[bn,DD,aK,iU (aP _)];simp[ay,nms]
  |succ k ih=>
   intro i hi a ha;have hlt:i<(aa f 1).toList.length:=by omega
   have hg:ax (aa f 1) (i:Int)=(aa f 1).toList[i]:=by rw[bl,getD_lt hlt]
   rw[bn,DD,aK,hg,iT hlt];generalize (aa f 1).toList[i]=x;have hm:ci (ac (bt (.list a) (.list [.str (aC (aa x 0))]))) 16=true:=by rw[cM,bF];exact aY (by simp;omega) (by omega)
   simp only[ay,show(i:Int)<((aa f 1).toList.length:Int)by omega,ba,ap,aX hlt,hm]
   rw[bg (by omega)]
   have:=ih (i+1) (by omega) (a ++ [.str (aC (aa x 0))]) (by simp;omega)
   rw[aK]at this;rw[cM,this];simp[nms]
 have:=key (aa f 1).toList.length 0 (by omega) v.toList (by omega)
 simpa using this
theorem names18 {v sd2 f:D} {n:Int} (hv:v.toList.length≤1000) (hl:(aa f 1).toList.length≤1000):RO [sd2, .int n,f] [.int 0, .list v.toList]=some [.int 0, .list (v.toList++nms (aa f 1).toList), .list []]:=by
 rw[Lb];have key:∀k i:Nat,i+k=(aa f 1).toList.length->∀a:List D,a.length+k≤2000->loW (GH [sd2, .int n,f]) [.int (i:Int), .list a]=some [.int 0, .list (a++nms ((aa f 1).toList.drop i)), .list []]:=by
  intro k
  induction k with
  |zero=>
   intro i hi a _;obtain rfl:i=(aa f 1).toList.length:=by omega
   rw[bn,DG,aK,iU (aP _)];simp[ay,nms]
  |succ k ih=>
   intro i hi a ha;have hlt:i<(aa f 1).toList.length:=by omega
   have hg:ax (aa f 1) (i:Int)=(aa f 1).toList[i]:=by rw[bl,getD_lt hlt]
   rw[bn,DG,aK (aa f 1),hg,iT hlt];generalize (aa f 1).toList[i]=x;have hm:ci (ac (bt (.list a) (.list [.str (aC (aa x 0))]))) 16=true:=by rw[cM,bF];exact aY (by simp;omega) (by omega)
   simp only[ay,show(i:Int)<((aa f 1).toList.length:Int)by omega,ba,ap,aX hlt,hm]
   rw[bg (by omega)]
   have:=ih (i+1) (by omega) (a ++ [D.str (aC (aa x 0))]) (by simp;omega)
   rw[cM,this];simp[nms]
 have:=key (aa f 1).toList.length 0 (by omega) v.toList (by omega)
 simpa using this
noncomputable def jX (V:D) (b:Int) (x:D):List D:=[ii (adN V b (aC (aa x 0))) 5 2 0 0 2 0,ii 0 16 0 4 0 0 2,ii 0 3 0 0 0 0 0,ii 0 5 1 0 0 0 0,ii 0 18 0 4 0 0 2]
noncomputable def lW (V:D) (b:Int) (x:D):List D:=ii 0 4 0 0 0 0 0::iQ V b (aC (aa x 0))
theorem iR (a c:List D):aR (a++c)=aR a++aR c:=by simp[aR]
theorem ini17 {V fn f:D} {b:Int} (hv:V.toList.length≤maxLen) (hl:(aa f 1).toList.length≤1000):GD [aa f 1, .int (ac (aa f 1)), .list [], .list [], .list [], .list [], .int 1,V,fn, .int b, .int 1,f] [.int 0, .list [], .list []]=some [.int 0,tD (aR ((aa f 1).toList.flatMap (jX V b))), .list ((aa f 1).toList.flatMap (jX V b))]:=by
 rw[DE];have key:∀k i:Nat,i+k=(aa f 1).toList.length->∀a:List D,a.length+5*k≤10000->loW (vY [aa f 1, .int (ac (aa f 1)), .list [], .list [], .list [], .list [], .int 1,V,fn, .int b, .int 1,f]) [.int (i:Int),tD (aR a), .list a]=some [.int 0,tD (aR (a++((aa f 1).toList.drop i).flatMap (jX V b))), .list (a++((aa f 1).toList.drop i).flatMap (jX V b))]:=by
  intro k
  induction k with
  |zero=>
   intro i hi a _;obtain rfl:i=(aa f 1).toList.length:=by omega
   rw[bn,A2,aK (aa f 1),iU (aP _)];simp[ay]
  |succ k ih=>
   intro i hi a ha;have hlt:i<(aa f 1).toList.length:=by omega
   have hg:ax (aa f 1) (i:Int)=(aa f 1).toList[i]:=by rw[bl,getD_lt hlt]
   rw[bn,A2,aK (aa f 1),hg,iT hlt];have hih:=ih (i+1) (by omega)
   rw[aK (aa f 1)]at hih;generalize (aa f 1).toList[i]=x;have e1:q51 [.list [], .list [], .list [], .list [],tD (aR a), .list a, .int 1,V,fn, .int b, .int 1, .str (aC (aa x 0))]=some [ii (adN V b (aC (aa x 0))) 5 2 0 0 2 0]:=DS hv
   have e2:=dy (E:= .list []) (T:= .list []) (L:= .list []) (A:= .list []) (fn:=fn) (nx:=1) (ex:=1) (v:=V) (b:=b) (l:=jX V b x) (to:=aR a) (ins:=a) (by simp[jX]) (by simp[aR];omega) (by omega) (by
    intro y hy;simp only[jX,cU,j6,f7]at hy;rcases hy with rfl|rfl|rfl|rfl|rfl<;>exact bp ..)
   have hre:D.agg [D.int (ah (aa (ii (adN V b (aC (aa x 0))) 5 2 0 0 2 0) 0)),D.int (ah (aa (ii (adN V b (aC (aa x 0))) 5 2 0 0 2 0) 1)),D.int (ah (aa (ii (adN V b (aC (aa x 0))) 5 2 0 0 2 0) 2)),D.int (ah (aa (ii (adN V b (aC (aa x 0))) 5 2 0 0 2 0) 3)),D.int (ah (aa (ii (adN V b (aC (aa x 0))) 5 2 0 0 2 0) 4)),D.int (ah (aa (ii (adN V b (aC (aa x 0))) 5 2 0 0 2 0) 5)),D.int (ah (aa (ii (adN V b (aC (aa x 0))) 5 2 0 0 2 0) 6)),D.int (ah (aa (ii (adN V b (aC (aa x 0))) 5 2 0 0 2 0) 7)),D.int (ah (aa (ii (adN V b (aC (aa x 0))) 5 2 0 0 2 0) 8))]=ii (adN V b (aC (aa x 0))) 5 2 0 0 2 0:=bp ..;have hc:D.list [ii (adN V b (aC (aa x 0))) 5 2 0 0 2 0, .agg [.int 0, .int 0, .int 16, .int 0, .int 4, .int 0, .int 0, .int 2, .int 0], .agg [.int 0, .int 0, .int 3, .int 0, .int 0, .int 0, .int 0, .int 0, .int 0], .agg [.int 0, .int 0, .int 5, .int 1, .int 0, .int 0, .int 0, .int 0, .int 0], .agg [.int 0, .int 0, .int 18, .int 0, .int 4, .int 0, .int 0, .int 2, .int 0]] = .list (jX V b x):=rfl
   simp only[ay,show(i:Int)<((aa f 1).toList.length:Int)by omega,ba,ap,aX hlt,e1,aq,aw,aU,bI,hre,hc,e2]
   rw[bg (by omega)]
   rw[<- iR];have:=hih (a++jX V b x) (by simp[jX];omega)
   rw[this,jZ];simp
 have:=key (aa f 1).toList.length 0 (by omega) [] (by simp;omega)
 simpa[tD,aR]using this
theorem ini18 {V fn f:D} {b:Int} (hv:V.toList.length≤maxLen) (hl:(aa f 1).toList.length≤1000):GJ [.list [], .list [.int 0],V,fn, .int b, .int 0,f] [.int 0, .list [], .list []]=some [.int 0,tD (aR ((aa f 1).toList.flatMap (jX V b))), .list ((aa f 1).toList.flatMap (jX V b))]:=by
 rw[DH];have key:∀k i:Nat,i+k=(aa f 1).toList.length->∀a:List D,a.length+5*k≤10000->loW (v6 [.list [], .list [.int 0],V,fn, .int b, .int 0,f]) [.int (i:Int),tD (aR a), .list a]=some [.int 0,tD (aR (a++((aa f 1).toList.drop i).flatMap (jX V b))), .list (a++((aa f 1).toList.drop i).flatMap (jX V b))]:=by
  intro k
  induction k with
  |zero=>
   intro i hi a _;obtain rfl:i=(aa f 1).toList.length:=by omega
   rw[bn,A7,aK (aa f 1),iU (aP _)];simp[ay]
  |succ k ih=>
   intro i hi a ha;have hlt:i<(aa f 1).toList.length:=by omega
   have hg:ax (aa f 1) (i:Int)=(aa f 1).toList[i]:=by rw[bl,getD_lt hlt]
   rw[bn,A7,aK (aa f 1),hg,iT hlt];have hih:=ih (i+1) (by omega)
   generalize (aa f 1).toList[i]=x;have rd:=fun(y:D) (z:List D) (hz:z.length≤20000) (hy:reb y=y)=>cN (LB:= .list []) (PL:= .list [.int 0]) (fn:=fn) (ex:=0) (v:=V) (b:=b) (x:=y) (to:=aR z) (ins:=z) (by simp[aR];omega) (by omega) hy
   have e63:q63 [.list [], .list [.int 0],V,fn, .int b, .int 0, .str (aC (aa x 0)),tD (aR a), .list a]=some [tD (aR (a ++ [ii (adN V b (aC (aa x 0))) 5 2 0 0 2 0])), .list (a ++ [ii (adN V b (aC (aa x 0))) 5 2 0 0 2 0])]:=by
    have e1:=rd (ii (adN V b (aC (aa x 0))) 5 2 0 0 2 0) a (by omega) (bp ..)
    rw[Gp,OF,(m8 hv _).2];have ha:D.agg [.int 0, .int (aM .add .u32 b (aM .mul .u32 4 (fz .u32 (idx V (aC (aa x 0)))))), .int 5, .int 2, .int 0, .int 0, .int 2, .int 0, .int 0]=ii (adN V b (aC (aa x 0))) 5 2 0 0 2 0:=rfl;simp only[aq,aw,aU,bI,aF,ap,ha,e1,iR]
   have e2:=rd (ii 0 16 0 4 0 0 2) (a ++ [ii (adN V b (aC (aa x 0))) 5 2 0 0 2 0]) (by simp;omega) (bp ..)
   have e3:=rd (ii 0 3 0 0 0 0 0) (a ++ [ii (adN V b (aC (aa x 0))) 5 2 0 0 2 0] ++ [ii 0 16 0 4 0 0 2]) (by simp;omega) (bp ..)
   have e4:=Pi (rd (ii 0 5 1 0 0 0 0) (a ++ [ii (adN V b (aC (aa x 0))) 5 2 0 0 2 0] ++ [ii 0 16 0 4 0 0 2] ++ [ii 0 3 0 0 0 0 0]) (by simp;omega) (bp ..))
   have e5:=rd (ii 0 18 0 4 0 0 2) (a ++ [ii (adN V b (aC (aa x 0))) 5 2 0 0 2 0] ++ [ii 0 16 0 4 0 0 2] ++ [ii 0 3 0 0 0 0 0] ++ [ii 0 5 1 0 0 0 0]) (by simp;omega) (bp ..)
   rw[<- iR]at e2 e3 e4 e5;have h16:D.agg [.int 0, .int 0, .int 16, .int 0, .int 4, .int 0, .int 0, .int 2, .int 0]=ii 0 16 0 4 0 0 2:=rfl;have h3:D.agg [.int 0, .int 0, .int 3, .int 0, .int 0, .int 0, .int 0, .int 0, .int 0]=ii 0 3 0 0 0 0 0:=rfl;have h18:D.agg [.int 0, .int 0, .int 18, .int 0, .int 4, .int 0, .int 0, .int 2, .int 0]=ii 0 18 0 4 0 0 2:=rfl;rw[h16,h3,h18];simp only[ay,show(i:Int)<((aa f 1).toList.length:Int)by omega,ba,ap,aX hlt,e63,e2,e3,e4,e5,aq,aw,aU,bI]
   rw[bg (by omega)]
   have:=hih (a++jX V b x) (by simp[jX];omega)
   have hcat:a ++ [ii (adN V b (aC (aa x 0))) 5 2 0 0 2 0] ++ [ii 0 16 0 4 0 0 2] ++ [ii 0 3 0 0 0 0 0] ++ [ii 0 5 1 0 0 0 0] ++ [ii 0 18 0 4 0 0 2]=a++jX V b x:=by simp[jX]
   rw[hcat,this,jZ];simp
 have:=key (aa f 1).toList.length 0 (by omega) [] (by simp;omega)
 simpa[tD,aR]using this
noncomputable def lU (V:D) (b:Int) (l:List D):Nat->List D
 |0=>[]
 |k+1=>lW V b (l.getD k .other)++lU V b l k
theorem DX (V:D) (b:Int) (l:List D):∀k,(lU V b l k).length=3*k
 |0=>rfl
 |k+1=>by simp[lU,lW,iQ,DX V b l k];omega
theorem pop17 {E T L A V fn f:D} {b nx ex:Int} (hv:V.toList.length≤maxLen):∀(k:Nat) (to:List Int) (ins:List D),k≤(aa f 1).toList.length->to.length+3*k≤89000000->ins.length+3*k≤89000000->
 loW (vZ [E,T,L,A, .int nx,V,fn, .int b, .int ex,f]) [.int ((k:Int)-1),tD to, .list ins]=some [.int 0,tD (to++aR (lU V b (aa f 1).toList k)), .list (ins++lU V b (aa f 1).toList k)]
 |0,to,ins,_,_,_=>by
  rw[bn,A4];simp[bB,lU,aR]
 |k+1,to,ins,hk,ht,hi=>by
  have hlt:k<(aa f 1).toList.length:=by omega
  have hg:ax (aa f 1) (k:Int)=(aa f 1).toList.getD k .other:=bl _ _;have ih:=pop17 hv k (to++aR (lW V b ((aa f 1).toList.getD k .other))) (ins++lW V b ((aa f 1).toList.getD k .other)) (by omega) (by simp[aR,lW,iQ];omega) (by simp[lW,iQ];omega) (E:=E) (T:=T) (L:=L) (A:=A) (V:=V) (fn:=fn) (f:=f) (b:=b) (nx:=nx) (ex:=ex)
  have hk1:(((k+1:Nat):Int)-1)=(k:Int):=by omega
  have e1:=dy (E:=E) (T:=T) (L:=L) (A:=A) (fn:=fn) (nx:=nx) (ex:=ex) (v:=V) (b:=b) (l:=[ii 0 4 0 0 0 0 0]) (to:=to) (ins:=ins) (by simp) (by omega) (by omega) (by intro x hx;simp only[cU,j6,f7]at hx;subst hx;exact bp ..)
  have e2:=m9 (E:=E) (T:=T) (L:=L) (A:=A) (fn:=fn) (nx:=nx) (ex:=ex) (b:=b) hv (n:=aC (aa ((aa f 1).toList.getD k .other) 0)) (to:=to++aR [ii 0 4 0 0 0 0 0]) (ins:=ins ++ [ii 0 4 0 0 0 0 0]) (by simp[aR];omega) (by simp;omega)
  have h4:D.list [.agg [.int 0, .int 0, .int 4, .int 0, .int 0, .int 0, .int 0, .int 0, .int 0]] = .list [ii 0 4 0 0 0 0 0]:=rfl;rw[bn,A4,hk1,hg,h4];generalize hx:(aa f 1).toList.getD k .other=x at *;have hs:aM .sub .i64 (k:Int) 1=(k:Int)-1:=fQ (by omega) (by omega)
  simp only[bB,show(0:Int)≤(k:Int)by omega,ba,ap,aX hlt,e1,aq,aw,aU,bI,e2,hs]
  have hc1:to++aR [ii 0 4 0 0 0 0 0]++aR (iQ V b (aC (aa x 0)))=to++aR (lW V b x):=by simp[aR,lW]
  have hc2:ins ++ [ii 0 4 0 0 0 0 0]++iQ V b (aC (aa x 0))=ins++lW V b x:=by simp[lW]
  rw[hc1,hc2,ih];simp only[lU,hx,iR,cy]
theorem pop18 {L PL V fn f:D} {b ex:Int} (hv:V.toList.length≤maxLen):∀(k:Nat) (to:List Int) (ins:List D),k≤(aa f 1).toList.length->to.length+3*k≤79000000->ins.length+3*k≤79000000->
 loW (v7 [L,PL,V,fn, .int b, .int ex,f]) [.int ((k:Int)-1),tD to, .list ins]=some [.int 0,tD (to++aR (lU V b (aa f 1).toList k)), .list (ins++lU V b (aa f 1).toList k)]
 |0,to,ins,_,_,_=>by
  rw[bn,A9];simp[bB,lU,aR]
 |k+1,to,ins,hk,ht,hi=>by
  have hlt:k<(aa f 1).toList.length:=by omega
  have hg:ax (aa f 1) (k:Int)=(aa f 1).toList.getD k .other:=bl _ _;have ih:=pop18 hv k (to++aR (lW V b ((aa f 1).toList.getD k .other))) (ins++lW V b ((aa f 1).toList.getD k .other)) (by omega) (by simp[aR,lW,iQ];omega) (by simp[lW,iQ];omega) (L:=L) (PL:=PL) (V:=V) (fn:=fn) (f:=f) (b:=b) (ex:=ex)
  have hk1:(((k+1:Nat):Int)-1)=(k:Int):=by omega
  have e1:=cN (LB:=L) (PL:=PL) (fn:=fn) (ex:=ex) (v:=V) (b:=b) (x:=ii 0 4 0 0 0 0 0) (to:=to) (ins:=ins) (by omega) (by omega) (bp ..)
  have e2:=sS (LB:=L) (PL:=PL) (fn:=fn) (ex:=ex) (b:=b) hv (n:=aC (aa ((aa f 1).toList.getD k .other) 0)) (to:=to++aR [ii 0 4 0 0 0 0 0]) (ins:=ins ++ [ii 0 4 0 0 0 0 0]) (by simp[aR];omega) (by simp;omega)
  have h4:D.agg [.int 0, .int 0, .int 4, .int 0, .int 0, .int 0, .int 0, .int 0, .int 0]=ii 0 4 0 0 0 0 0:=rfl;rw[bn,A9,hk1,hg,h4];generalize hx:(aa f 1).toList.getD k .other=x at *;have hs:aM .sub .i64 (k:Int) 1=(k:Int)-1:=fQ (by omega) (by omega)
  simp only[bB,show(0:Int)≤(k:Int)by omega,ba,ap,aX hlt,e1,aq,aw,aU,bI,e2,hs]
  have hc1:to++aR [ii 0 4 0 0 0 0 0]++aR (iQ V b (aC (aa x 0)))=to++aR (lW V b x):=by simp[aR,lW]
  have hc2:ins ++ [ii 0 4 0 0 0 0 0]++iQ V b (aC (aa x 0))=ins++lW V b x:=by simp[lW]
  rw[hc1,hc2,ih];simp only[lU,hx,iR,cy]
def res (f:Int->Int) (p:Int):Int:=if p<0 then p else f p
theorem idx60 {E T L A V fn:D} {ins:D} {b nx ex:Int} {f:Int->Int} (hA:AtOk A f) (to:List Int) (hto:to.length≤90000000):RK [.int (ac (tD to)),E,T,L,A,tD to,ins, .int nx,V,fn, .int b, .int ex] [.int 0, .list []]=some [.int 0,tD (to.map (res f))]:=by
 rw[KY,dk];have key:∀k i:Nat,i+k=to.length->loW (Gx [.int (to.length:Int),E,T,L,A,tD to,ins, .int nx,V,fn, .int b, .int ex]) [.int (i:Int),tD ((to.take i).map (res f))]=some [.int 0,tD (to.map (res f))]:=by
  intro k
  induction k with
  |zero=>
   intro i hi;obtain rfl:i=to.length:=by omega
   rw[bn,DC,eW (aP _)];simp only[ay,show¬((to.length:Int)<(to.length:Int))by omega,bi,aJ]
  |succ k ih=>
   intro i hi;have hlt:i<to.length:=by omega
   have ih:=ih (i+1) (by omega)
   rw[we hlt,lO,bW,gZ]at ih;have hg:ah (ax (tD to) (i:Int))=to[i]:=by rw[ib hlt,oS,cq hlt];rfl
   have hl:∀x,((to.take i).map (res f) ++ [x]).length≤1000000000:=fun x=>by simp;omega
   rw[bn,DC];simp only[hg,at_get hA,aF,ay,cC,bB,show(i:Int)<(to.length:Int)by omega,show(0:Int)≤(i:Int)by omega,ba,ap,jV hlt,dk,nb]
   rw[bg (by omega)]
   generalize to[i]=x at *;by_cases hx:0≤x
   ·have hr:res f x=f x:=by unfold res;rw[if_neg (by omega)]
    rw[hr]at ih;simp only[hx,ba,ap,aY (hl (f x)) (show 8≤1000 by omega),aB]
    exact ih
   ·have hr:res f x=x:=by unfold res;rw[if_pos (by omega)]
    rw[hr]at ih;simp only[hx,bi,aJ,ap,aY (hl x) (show 8≤1000 by omega),aB,ba]
    exact ih
 have:=key to.length 0 (by omega)
 simpa[tD]using this
theorem idx18 {L V fn ins:D} {b ex:Int} {pl:List Int} (to:List Int) (hto:to.length≤90000000) (hr:∀p∈to,p<0∨p.toNat<pl.length):GL [L,tD pl,ins,V,fn, .int b, .int ex] [.int 0,tD to]=some [.int 0,tD (to.map fun p=>if p<0 then p else pl.getD p.toNat 0)]:=by
 rw[DK];have key:∀(rest pre:List Int),pre.length+rest.length≤90000000->(∀p∈rest,p<0∨p.toNat<pl.length)->loW (v8 [L,tD pl,ins,V,fn, .int b, .int ex]) [.int (pre.length:Int),tD (pre++rest)]=some [.int 0,tD (pre++rest.map fun p=>if p<0 then p else pl.getD p.toNat 0)]:=by
  intro rest
  induction rest with
  |nil=>
   intro pre _ _;rw[bn,Bb];simp only[dk,ay,fy,show¬((pre.length:Int)<(pre.length:Int))by omega,bi,aJ,gZ]
  |cons x rest ih=>
   intro pre hl hp;have hlt:pre.length<(pre++x::rest).length:=by simp
   have hg:ah (ax (tD (pre++x::rest)) (pre.length:Int))=x:=by rw[ib hlt];simp[List.getD]
   have hlen:(pre++x::rest).length=pre.length+(rest.length+1):=by simp
   have ih:=ih (pre ++ [if x<0 then x else pl.getD x.toNat 0]) (by simp at hl ⊢;omega) (fun p h=>hp p (by simp[h]))
   rw[cy,cy]at ih;simp only[bN,ce,cZ,fV,dY,dZ]at ih;rw[bn,Bb];simp only[hg,dk,ay,cC,bB,show(pre.length:Int)<((pre++x::rest).length:Int)by omega,show(0:Int)≤(pre.length:Int)by omega,ba,ap,jV hlt]
   rw[bg (by simp at hl;omega),bW]
   by_cases hx:0≤x
   ·rw[if_neg (show¬x<0 by omega)]at ih ⊢
    have hxp:x.toNat<pl.length:=by rcases hp x (by simp)with h|h<;>omega
    obtain⟨m,rfl⟩:∃m:Nat,x=(m:Int):=⟨x.toNat,by omega⟩
    simp only[eY]at hxp ih ⊢;have hs:(pre++(m:Int)::rest).set pre.length (pl.getD m 0)=pre++pl.getD m 0::rest:=by simp
    simp only[hx,ba,ap,show(m:Int)<(pl.length:Int)by omega,jV hxp,ib hxp,set_tD,hs,dk,aB,show((pre++(m:Int)::rest).length:Int)=((pre++pl.getD m 0::rest).length:Int)by simp]
    exact ih
   ·rw[if_pos (show x<0 by omega)]at ih ⊢
    simp only[hx,bi,aJ];exact ih
 have:=key to [] (by simp;omega) hr
 simpa using this
end Go.Proofs.YtiojjmlccehpoaaGreat
namespace Go.Proofs.YtiojjmlccehpoaaGreat
open Go Go.AM
theorem wfL_irr:∀(N M:Nat) (l:D) (b:Bool),Conf PG 36 l->l.size<N->l.size<M->wfL N b l->wfL M b l:=by
 intro N
 induction N with
 |zero=>intro M l b _ h;omega
 |succ N ih=>
  intro M l b hc h1 h2 hw;obtain⟨M,rfl⟩:∃m,M=m+1:=⟨M-1,by omega⟩
  intro s hs;obtain⟨w1,w2,w3⟩:=hw s hs;obtain⟨c1,c2⟩:=bZ hc hs
  exact⟨w1,w2,fun x hx=>by
   obtain⟨k1,k2⟩:=bk c1 hx
   exact ih M x _ k1 (by omega) (by omega) (w3 x hx)⟩
section
variable {v fn l:D} {b:Int} {ex:Nat} {ex':Int} {lp:Bool}
theorem okZ {N:Nat} (hv:v.toList.length≤maxLen) (hfn:fn.toList.length≤maxLen) (hc:Conf PG 36 l) (hw:wfL (l.size+1) lp l) (hN:l.size<N+1) (hs:SmQ (N+1) l) {s:D} (hm:s∈l.toList):
 OkQ OE OR v fn b ex ex' s lp (1000*(1+ndS s+(tot N (aa s 4)+tot N (aa s 5))+((aa s 6).toList.map (tot N)).sum)):=by
 intro es ts top end_ φ f S R c hsim hctx hb;obtain⟨w1,w2,w3⟩:=hw s hm;obtain⟨c1,c2⟩:=bZ hc hm;have g1:s.size<aW (fT v fn b ex s es ts S):=cu (by simp[fT])
 have g2:s.size<aW (fu v fn b ex' s top end_ R):=cu (by simp[fu])
 generalize hK1:aW (fT v fn b ex s es ts S)=K1 at g1;generalize hK2:aW (fu v fn b ex' s top end_ R)=K2 at g2;obtain⟨K1,rfl⟩:∃n,K1=n+1:=⟨K1-1,by omega⟩
 obtain⟨K2,rfl⟩:∃n,K2=n+1:=⟨K2-1,by omega⟩
 have hk:∀x∈bj s,OkQ (q56 (KP K1)) (q66 (KX K2)) v fn b ex ex' x (lp||bU s) (cst s.size x):=fun x hx=>by
  obtain⟨k1,k2⟩:=bk c1 hx;exact(okAll hv hfn s.size x (lp||bU s) K1 K2 k2 (by omega) (by omega) k1 (wfL_irr _ _ _ _ k1 (by omega) k2 (w3 x hx))).1
 have hle:∀x∈bj s,cst s.size x≤1000*tot N x:=fun x hx=>by
  obtain⟨k1,k2⟩:=bk c1 hx;exact(DW N s.size x k1 (by omega) k2 ((hs s hm).2 x hx)).2.2
 have h4:=hle (aa s 4) (by simp[bj])
 have h5:=hle (aa s 5) (by simp[bj])
 have h6:=sU (aa s 6).toList fun x hx=>hle x (by simp[bj,hx])
 rw[qJ]at h6;have h70:=(hs s hm).1;have hok:=(okStmt hv hfn w1 w2 hk).le (k':=1000*(1+ndS s+(tot N (aa s 4)+tot N (aa s 5))+((aa s 6).toList.map (tot N)).sum)) (by rw[Bq];omega)
 obtain⟨φ',f',S',R',e1,e2,e3,e4,e5⟩:=hok es ts top end_ φ f S R c hsim hctx hb;refine⟨φ',f',S',R',?_,?_,e3,e4,e5⟩
 ·rw[RA];simp only[hK1];rw[F117_s];exact e1
 ·rw[RJ];simp only[hK2];rw[F123_s];exact e2
set_option maxHeartbeats 2000000 in
theorem okLz {cost:D->Nat} (hl:l.toList.length≤maxLen) (h:∀s∈l.toList,OkQ OE OR v fn b ex ex' s lp (cost s)):OkQ K0 K8 v fn b ex ex' l lp ((l.toList.map cost).sum):=by
 intro es ts top end_ φ f S R c hs hc hb;have hlen:ac l=(l.toList.length:Int):=aK l
 have key:=Sb (v:=v) (fn:=fn) (b:=b) (ex:=ex) (ex':=ex') (l:=l) (es:=es) (ts:=ts) (top:=top) (end_:=end_) (lp:=lp)
  (stP:=qB [l, .int (ac l),v,fn, .int b, .int (ex:Int)]) (stR:=qC [l, .int top, .int end_,v,fn, .int b, .int ex']) (cP:=OE) (cR:=OR) (cost:=cost)
  (fun i S S' hi he=>by
   unfold fT eK at he;unfold qH;have hg:ax l (i:Int)=l.toList.getD i .other:=bl _ _;rw[ux,hg,he,hlen];simp only[ay,show(i:Int)<(l.toList.length:Int)by omega,ba,ap,aX hi,aq,aw,aU,bI,aF]
   rw[bg (by unfold maxLen at hl;omega)])
  (fun S=>by
   unfold qH eK;rw[ux,hlen]
   simp only[ay,show¬((l.toList.length:Int)<(l.toList.length:Int))by omega,bi,aJ])
  (fun i R R' hi he=>by
   unfold fu ef at he;unfold qI;have hg:ax l (i:Int)=l.toList.getD i .other:=bl _ _;rw[uy,hg,he,hlen];simp only[ay,show(i:Int)<(l.toList.length:Int)by omega,ba,ap,aX hi,aq,aw,aU,bI,aF]
   rw[bg (by unfold maxLen at hl;omega)])
  (fun R=>by
   unfold qI ef;rw[uy,hlen]
   simp only[ay,show¬((l.toList.length:Int)<(l.toList.length:Int))by omega,bi,aJ])
  (fun s hm φ f S R c h1 h2 h3=>h s hm es ts top end_ φ f S R c h1 h2 h3)
  l.toList.length 0 φ f S R c (by omega) hs hc (by simpa using hb)
 obtain⟨φ',f',S',R',k1,k2,k3,k4,k5⟩:=key;refine⟨φ',f',S',R',?_,?_,k3,k4,k5⟩
 ·unfold qH eK at k1;unfold fT eK;rw[K3,F56_z_eq,A1];simp only[bV]at k1;simp only[k1,aq,aw,aU,bI,aF,ap]
 ·unfold qI ef at k2;unfold fu ef;rw[K9,F66_z_eq,A6];simp only[bV]at k2;simp only[k2,aq,aw,aU,bI,ap]
end
theorem ini_len (V:D) (b:Int) (l:List D):(l.flatMap (jX V b)).length=5*l.length:=by
 induction l with
 |nil=>rfl
 |cons x l ih=>rw[jZ,bN,ih];simp[jX];omega
theorem sim0 (C:List D):Sim (fun p=>p-1) (fun _=>0) {A:= .list [],L:=[],nx:=1,to:=aR C,ins:=C} {L:=[],pl:=[0],to:=aR C,ins:=C}:=
 {at_:=⟨[],rfl,fun _=>rfl⟩,ins:=rfl,len:=Lu C,to:=(Sa C).symm,rng:=fun p hp=> .inl (Lv hp),lab:=rfl,lrng:=fun x hx=>by simp at hx,
  pl:=fun p h1 h2=>by
   simp only at h2;obtain rfl:p=1:=by omega
   exact⟨by simp,rfl⟩
  inj:=fun p q p1 p2 q1 q2 _=>by simp only at p2 q2;omega
  new:=fun _ _=>rfl,fb:=fun _=>⟨by omega,by omega⟩}
theorem res_tr {φ f S R} (h:Sim φ f S R):S.to.map (res f)=R.to.map fun p=>if p<0 then p else R.pl.getD p.toNat 0:=by
 rw[h.to,List.map_map];refine im fun p hp=> ?_
 simp only[Function.comp];rcases h.rng p hp with hp|⟨p1,p2⟩
 ·rw[oP hp,if_pos hp];unfold res;rw[if_pos hp]
 ·obtain⟨k,rfl⟩:∃k:Nat,p=(k:Int):=⟨p.toNat,by omega⟩
  rw[oQ,if_neg (by omega)]
  unfold res;rw[if_neg (by omega)]
  have:=(h.pl k (by omega) (by omega)).2
  simp only[eY];exact this.symm
theorem tr_rng {φ f S R} (h:Sim φ f S R):∀p∈R.to,p<0∨p.toNat<R.pl.length:=by
 intro p hp;rw[h.to]at hp;obtain⟨q,hq,rfl⟩:=iv.1 hp;rcases h.rng q hq with hq|⟨p1,p2⟩
 ·exact .inl (by rw[oP hq];exact hq)
 ·obtain⟨k,rfl⟩:∃k:Nat,q=(k:Int):=⟨q.toNat,by omega⟩
  rw[oQ];exact .inr (by simp only[eY];exact(h.pl k (by omega) (by omega)).1)
theorem clone48 {v:D} (lv:D.list v.toList=v) (h:v.toList.length≤1000):q48 [v]=some [.list v.toList]:=by
 have h1:bt (.list []) v = .list v.toList:=by
  rw[nk]
  show D.list ([]++v.toList) = .list v.toList
  rw[dY]
 have h2:([v]:List D).headD .other=v:=rfl;rw[YO];unfold F48;rw[h2,h1,bF,aY (by omega) (by omega),ap]
theorem first49 {V fn:D} {b:Int}:RL [.list [], .list [],V,fn, .int b, .int 0, .int 0]=some [.int 1, .int 1]:=by
 have h:=bg (i:=0) (by omega)
 simp only[bV]at h;rw[KZ,F49_n_eq,h]
 rfl
theorem bud0 {S:PS} {R:RS} {ts:List Int} {k c:Nat} (hk:k≤5000000) (hc:c≤2000000) (h1:S.ins.length≤2000) (h2:S.nx≤10) (h3:R.pl.length≤10) (h4:S.L.length≤10) (h5:ts.length≤10):Bud S R ts (k+c):=by unfold Bud;omega
theorem ctx0 {S:PS} (h:S.nx=1):Ctx (fun p=>p-1) S.nx false [] [] 1 0 0 0:=
 ⟨(fun h=>by cases h),(fun h=>by cases h),aP _,by omega,rfl,rfl⟩
set_option maxHeartbeats 8000000 in
theorem func_eq {f v fn:D} {b:Int} (hf:Conf PG 38 f) (hv:Conf PG 26 v) (hn:Conf PG 26 fn) (s1:v.toList.length≤40) (s2:fn.toList.length≤70) (s3:(aa f 1).toList.length≤300) (s4:∃N,(aa f 2).size<N∧SmQ N (aa f 2)∧tot N (aa f 2)≤5000):
 ∃X Y e,q17 [f,v,fn, .int b]=some [.list X,tD Y, .int e]∧q18 [f,v,fn, .int b]=some [.list X,tD Y, .int e]∧X.length≤100000000∧Y.length≤100000000:=by
 have cb:Conf PG 36 (aa f 2):=by rw[bA];exact bq KG hf
 obtain⟨N,hN,hSm,htot⟩:=s4;obtain⟨N,rfl⟩:∃n,N=n+1:=⟨N-1,by omega⟩
 have hfit:Fit (aa f 2):=fun M hM=>by
  obtain⟨t1,t2,_⟩:=DW (N+1) M _ cb hN hM hSm;exact⟨t1,by omega⟩
 obtain⟨c1,c2⟩:=check_eq hf hv hn hfit (by omega) (by omega) (by omega)
 by_cases hz:GW f v fn=0
 ·have hml:∀n:Nat,n≤10000000->n≤maxLen:=fun n h=>by unfold maxLen;omega
  rw[hz]at c1 c2;have lv:=vR s26 hv;have e48:=clone48 lv (by omega)
  have n1:=names17 (v:=v) (sd2:=fn) (f:=f) (n:=b) (by omega) (by omega)
  have n2:=names18 (v:=v) (sd2:=fn) (f:=f) (n:=b) (by omega) (by omega)
  rw[lv]at n2;have hV:(D.list (v.toList++nms (aa f 1).toList)).toList.length≤maxLen:=by rw[tl];simp[nms];exact hml _ (by omega)
  generalize D.list (v.toList++nms (aa f 1).toList)=V at n1 n2 hV;have i1:=ini17 (V:=V) (fn:=fn) (f:=f) (b:=b) hV (by omega)
  have i2:=ini18 (V:=V) (fn:=fn) (f:=f) (b:=b) hV (by omega)
  have hil:=ini_len V b (aa f 1).toList;generalize (aa f 1).toList.flatMap (jX V b)=C at i1 i2 hil;have hlm:=(ca s36 cb).1;have ok:=okLz (l:=aa f 2) (v:=V) (fn:=fn) (b:=b) (ex:=1) (ex':=0) (lp:=false) hlm (fun s hm=>okZ (N:=N) hV (hml _ (by omega)) cb (wf_body hz) hN hSm hm)
  rw[qJ]at ok;have htot':((aa f 2).toList.map fun s=>1+ndS s+(tot N (aa s 4)+tot N (aa s 5))+((aa s 6).toList.map (tot N)).sum).sum≤5000:=by simpa only[tot]using htot
  obtain⟨φ,g,S,R,k1,k2,k3,k4,k5⟩:=ok [] [] 0 0 _ _ _ _ 2000000 (sim0 C) (ctx0 rfl) (bud0 (by omega) (aP _) (by simp only;omega) (by simp only;omega) (by simp only[ce,cZ];omega) (lR _) (lR _))
  unfold Bud at k5;obtain⟨t1,t2,t3,t4⟩:=k3.tolen;have hn1:1≤S.nx:=k4.nx;have hφ1:φ 1=0:=k4.old 1 (aP _);have hpl:1≤R.pl.length:=k4.pl;have a1:=k3.here (p:=1) (by omega) hn1
  rw[hφ1]at a1;have hpl3:=DX V b (aa f 1).toList (aa f 1).toList.length;generalize hP:lU V b (aa f 1).toList (aa f 1).toList.length=P at hpl3;have a2:=a1.emit (P ++ [ii 0 2 0 0 0 0 0]);have hsub:aM .sub .i64 (ac (aa f 1)) 1=((aa f 1).toList.length:Int)-1:=by rw[aK];exact fQ (by omega) (by omega)
  refine⟨S.ins++P ++ [ii 0 2 0 0 0 0 0],(S.to++aR P++aR [ii 0 2 0 0 0 0 0]).map (res fun q=>if q=((1:Nat):Int)then(S.ins.length:Int)else g q),0,?_,?_,by simp;omega,by simp[aR];omega⟩
  ·have e3:=first49 (V:=V) (fn:=fn) (b:=b);have e5:K0 [V,fn, .int b, .int 1,aa f 2, .list [], .list [], .list [], .list [],tD (aR C), .list C, .int 1]=some [.list [], .list [],tD S.to, .list S.ins,lD S.L,S.A, .int (S.nx:Int)]:=k1;have e6:=fE (E:= .list []) (T:= .list []) (L:=lD S.L) (fn:=fn) (nx:=(S.nx:Int)) (ex:=1) (b:=b) (v:=V) (A:=S.A) (to:=tD S.to) (ins:=S.ins) (p:=1);have e7:=pop17 (E:= .list []) (T:= .list []) (L:=lD S.L) (A:=dB 106 S.A (.int 1) (.int (S.ins.length:Int))) (V:=V) (fn:=fn) (f:=f) (b:=b) (nx:=(S.nx:Int)) (ex:=1) hV (aa f 1).toList.length S.to S.ins (aP _) (by omega) (by omega)
   rw[hP]at e7;have e7':GE [.list [], .list [],lD S.L,dB 106 S.A (.int 1) (.int (S.ins.length:Int)), .int (S.nx:Int),V,fn, .int b, .int 1,f] [.int (((aa f 1).toList.length:Int)-1),tD S.to, .list S.ins]=some [.int 0,tD (S.to++aR P), .list (S.ins++P)]:=by rw[DF];exact e7
   have e8:=dy (E:= .list []) (T:= .list []) (L:=lD S.L) (A:=dB 106 S.A (.int 1) (.int (S.ins.length:Int))) (fn:=fn) (nx:=(S.nx:Int)) (ex:=1) (v:=V) (b:=b) (l:=[ii 0 2 0 0 0 0 0]) (to:=S.to++aR P) (ins:=S.ins++P) (by simp) (by simp[aR];omega) (by simp;omega) (by intro x hx;simp only[cU,j6,f7]at hx;subst hx;exact bp ..)
   have e9:q60 [.list [], .list [],lD S.L,dB 106 S.A (.int 1) (.int (S.ins.length:Int)),tD (S.to++aR P++aR [ii 0 2 0 0 0 0 0]), .list (S.ins++P ++ [ii 0 2 0 0 0 0 0]), .int (S.nx:Int),V,fn, .int b, .int 1]=some [tD ((S.to++aR P++aR [ii 0 2 0 0 0 0 0]).map (res fun q=>if q=((1:Nat):Int)then(S.ins.length:Int)else g q))]:=by
    have hi:=idx60 (E:= .list []) (T:= .list []) (L:=lD S.L) (V:=V) (fn:=fn) (ins:= .list (S.ins++P ++ [ii 0 2 0 0 0 0 0])) (b:=b) (nx:=(S.nx:Int)) (ex:=1) a1.at_ (S.to++aR P++aR [ii 0 2 0 0 0 0 0]) (by simp[aR];omega)
    simp only[lZ]at hi;have hz:ac (.list [])=0:=by rw[bF];rfl
    rw[q60_eq,F60_eq];simp only[hi,hz,aB,ba,ap,aq,aw,aU,bI,lZ]
   have hr2:D.list [.agg [.int 0, .int 0, .int 2, .int 0, .int 0, .int 0, .int 0, .int 0, .int 0]] = .list [ii 0 2 0 0 0 0 0]:=rfl;rw[OX,F17_eq,c1,hr2];simp only[aq,aw,aU,bI,aF,cp,ba,bS,ap,aJ,e48,n1,e3,i1,e5,e6,hsub,e7',e8,e9]
  ·have e3:RN [V,fn, .int b, .int 0]=some [.int 0]:=by rw[K7,F62_n_eq]
   have e5:K8 [V,fn, .int b, .int 0,aa f 2, .int 0, .int 0, .list [], .list [.int 0],tD (aR C), .list C]=some [lD R.L,tD R.pl,tD R.to, .list R.ins]:=k2;have e6:=dl (LB:=lD R.L) (fn:=fn) (ex:=0) (b:=b) (v:=V) (to:=tD R.to) (ins:=R.ins) (pl:=R.pl) (m:=0) (by omega)
   simp only[bV]at e6;have e7:=pop18 (L:=lD R.L) (PL:=tD (R.pl.set 0 (R.ins.length:Int))) (V:=V) (fn:=fn) (f:=f) (b:=b) (ex:=0) hV (aa f 1).toList.length R.to R.ins (aP _) (by omega) (by omega)
   rw[hP]at e7;have e7':GK [lD R.L,tD (R.pl.set 0 (R.ins.length:Int)),V,fn, .int b, .int 0,f] [.int (((aa f 1).toList.length:Int)-1),tD R.to, .list R.ins]=some [.int 0,tD (R.to++aR P), .list (R.ins++P)]:=by rw[DJ];exact e7
   have e8:=cN (LB:=lD R.L) (PL:=tD (R.pl.set 0 (R.ins.length:Int))) (fn:=fn) (ex:=0) (v:=V) (b:=b) (x:=ii 0 2 0 0 0 0 0) (to:=R.to++aR P) (ins:=R.ins++P) (by simp[aR];omega) (by simp;omega) (bp ..)
   have e9:=idx18 (L:=lD R.L) (V:=V) (fn:=fn) (ins:= .list (R.ins++P ++ [ii 0 2 0 0 0 0 0])) (b:=b) (ex:=0) (pl:=R.pl.set 0 (R.ins.length:Int)) (R.to++aR P++aR [ii 0 2 0 0 0 0 0]) (by simp[aR];omega) (by
    have:=tr_rng a2;simp only[iR]at this;intro p hp
    exact this p (by simpa using hp))
   have e10:=res_tr a2;simp only[iR, <- List.append_assoc]at e10;rw[<- e10]at e9;simp only[k3.ins]at e5 e6 e7' e8 e9;have hr2:D.agg [.int 0, .int 0, .int 2, .int 0, .int 0, .int 0, .int 0, .int 0, .int 0]=ii 0 2 0 0 0 0 0:=rfl;have hz1:ac v=(v.toList.length:Int):=aK v;have hz2:ac (.list [])=0:=by rw[bF];rfl
   have hz3:ac (.list [.int 0])=1:=by rw[bF];rfl
   rw[O2,F18_eq,c2,hr2];simp only[aq,aw,aU,bI,aF,cp,aB,ba,bS,ap,aJ,hz1,hz2,hz3,aY (show v.toList.length≤1000000000 by omega) (show 16≤1000 by omega),n2,e3,i2,e5,e6,hsub,e7',e8,e9]
 ·refine⟨[],[],GW f v fn,?_,?_,lR _,lR _⟩
  ·rw[OX,F17_eq,c1];simp only[aq,aw,aU,aF,cp,hz,bi,df,ap]
   rfl
  ·rw[O2,F18_eq,c2];simp only[aq,aw,aU,aF,cp,hz,bi,df,ap]
   rfl
end Go.Proofs.YtiojjmlccehpoaaGreat
namespace Go.Proofs.YtiojjmlccehpoaaGreat
open Go Go.AM
theorem same15 {d:D} (h:d.toList.length≤maxLen):q15 [d,d]=some [.bool true]:=by
 have hl:=qt (st:=GS [d,d]) (n:=d.toList.length) (p:=fun _=>false) (r0:=[D.int 0]) (r1:=[.int 1]) h
  (by rw[DP,aK];simp only[ay,show¬((d.toList.length:Int)<(d.toList.length:Int))by omega,bi,aJ])
  (fun i hi=>by
   rw[DP,aK];simp only[ay,aB,show(i:Int)<(d.toList.length:Int)by omega,ba,ap,aX hi,au,bO,bS,aJ]
   rfl)
 rw[q15_eq,F15_eq,Ln];simp only[hl,cp,ba,bS,aJ];simp[aq,aw,aF,aB]
theorem same19 {d:D} (h:d.toList.length≤maxLen):q19 [d,d]=some [.bool true]:=by
 have hl:=qt (st:=GU [d,d]) (n:=d.toList.length) (p:=fun _=>false) (r0:=[D.int 0]) (r1:=[.int 1]) h
  (by rw[DQ,aK];simp only[ay,show¬((d.toList.length:Int)<(d.toList.length:Int))by omega,bi,aJ])
  (fun i hi=>by
   rw[DQ,aK];simp only[ay,cp,show(i:Int)<(d.toList.length:Int)by omega,ba,ap,aX hi,bS,aJ]
   rfl)
 rw[q19_eq,F19_eq,Lo];simp only[hl,cp,ba,bS,aJ];simp[aq,aw,aF,aB]
theorem law4 {f v fn:D} {b:Int} (hf:Conf PG 38 f) (hv:Conf PG 26 v) (hn:Conf PG 26 fn):q4 [f,v,fn, .int b]=some [.bool true]:=by
 obtain⟨s,h16,hs⟩:=small16 (v:=v) (fn:=fn) hf;rw[q4_eq,F4_eq,h16,q12_eq];cases s with
 |false=>simp only[aq,aw,aU,aL,bO,ap,df]
 |true=>
  obtain⟨s1,s2,s3,s4⟩:=hs rfl;obtain⟨X,Y,e,h17,h18,lx,ly⟩:=func_eq (b:=b) hf hv hn s1 s2 s3 s4;have e15:=same15 (d:= .list X) (by rw[tl];unfold maxLen;omega)
  have e19:=same19 (d:=tD Y) (by unfold tD;rw[tl,gY];unfold maxLen;omega)
  rw[h17,h18];simp only[aq,aw,aU,bI,aL,bO,ap,bS,aJ,e15,e19,bR,aF,aB,ba]
theorem sound4:aH env.P 4 S4 q4:=by rw[q4_eq];exact eE jt ok_tb12 60 12
theorem globM {S:FunS} {p s:List D} {w:World} (hm:∃m,w.cell? ⟨0,0,none⟩=some (.int .i64 m)) (g:Nat) (cs:List AV) (h:(eD S p s).glob g=some cs):g<w.heap.size∧wS (fun b=>b<w.heap.size) w g cs:=by
 obtain⟨m,hm⟩:=hm;have hg:(eD S p s).glob g=G4 g GLT:=rfl;rw[hg]at h;cases g with
 |zero=>
  have:G4 0 GLT=some [.anyI .i64]:=rfl;rw[this]at h;cases h;refine⟨?_,?_⟩
  ·by_cases h0:0<w.heap.size
   ·exact h0
   ·exfalso
    have:w.heap[0]? = none:=Array.getElem?_eq_none (by omega)
    simp[World.cell?,this]at hm
  ·refine⟨?_,fun h=>by cases h⟩
   simp only[RepAt];exact⟨⟨_,hm,by simp only[Rep];exact⟨m,rfl⟩⟩,trivial⟩
 |succ g=>exact absurd h (by have:G4 (g+1) GLT=none:=rfl
                             rw[this];simp)
theorem rep26 {w:World} {E:Nat->Prop} {d:D} {v:Value} (h:RepD PG E w 26 d [v]):Rep bD E w (.rows 9 d) v:=by
 have hc:bE 8 26 d = [.rows 9 d]:=by kernel_rfl
 have:=dg (ρ:=bD) 8 26 d [v] (by kernel_rfl) h
 rw[hc]at this;simpa[RepL]using this
theorem rep22 {w:World} {E:Nat->Prop} (n:Int):Rep bD E w (.ui .u32 n) (.int .u32 n):=by simp only[Rep]
theorem top4 {d0 d1 d2:D} {n:Int} (h0:Conf PG 38 d0) (h1:Conf PG 26 d1) (h2:Conf PG 26 d2) (w:World) (hm:∃m,w.cell? ⟨0,0,none⟩=some (.int .i64 m)) {v0 v1 v2:Value}
 (r0:Rep bD (fun b=>b<w.heap.size) w (.dat 38 d0) v0) (r1:RepD PG (fun b=>b<w.heap.size) w 26 d1 [v1]) (r2:RepD PG (fun b=>b<w.heap.size) w 26 d2 [v2]):
 Calls Tryz.prog 4 #[v0,v1,v2, .int .u32 n] w fun e w'=>e = .returned (.bool true)∧RowKit.Below w.heap.size w w':=by
 refine(sound4 [] [d0,d1,d2, .int n] [.bool true] rfl (law4 h0 h1 h2) (fun b=>b<w.heap.size) w bD _ w #[v0,v1,v2, .int .u32 n] (Inv.empty w _ (fun _ h=>h) rfl rfl (globM hm))
  (RepL.cons r0 (RepL.cons (rep26 r1) (RepL.cons (rep26 r2) (RepL.cons (rep22 n) RepL.nil))))).mono ?_
 rintro e w' ⟨u,ρ',E',rfl,inv,reach,rep⟩;have hr:H9 S4 [] (bdL [.bool true]) = .ub true:=rfl;rw[hr]at rep;simp only[Rep]at rep;subst rep;exact⟨rfl,⟨inv.io.1,inv.io.2.1,inv.io.2.2,reach.size,inv.old⟩⟩
end Go.Proofs.YtiojjmlccehpoaaGreat
