/-
  Plain laws: backend.check and the reference's: the same.
-/
import Derived.Test.YtiojjmlccehpoaaGreatM4
import Derived.Test.YtiojjmlccehpoaaGreatM3
set_option linter.unusedSimpArgs false
set_option linter.unusedVariables false
namespace Go.Proofs.YtiojjmlccehpoaaGreat
open Go Go.AM
theorem Zb {f:D} (h:Conf PG 38 f):D.agg [.str (aB (aa f 0)),aa f 1,aa f 2]=f:=by
 obtain⟨ds,rfl,hl⟩:=kj len38 h
 match ds,hl with
 | [a,b,c],_=>
   obtain⟨s,h0⟩:=zR (bi Yl h);obtain rfl:a = .str s:=h0;simp[dV,mC]
theorem SG {l:List D} (h:∀s∈l,Conf PG 9 s):∀x∈kZ l,Conf PG 65 x:=by
 intro x hx;obtain⟨s,hs,rfl⟩:=ic.1 hx;refine vb len65 rfl fun j hj=> ?_
 have hj':j=0∨j=1:=by omega
 rcases hj' with rfl|rfl
 ·exact⟨9,X7,JD (eA (h s hs))⟩
 ·exact⟨63,Py,conf_zT⟩
theorem CU {f:D} {l:List D} (hf:Conf PG 38 f) (h:∀s∈l,Conf PG 9 s):∀x∈la f l,x=f∨(Conf PG 38 x∧aa x 1 = .list []∧aa x 2 = .list []):=by
 intro x hx;simp only[la,cy,lK]at hx;rcases hx with rfl|⟨s,hs,hx⟩
 ·exact .inl rfl
 ·split at hx
  ·cases hx
  ·simp only[cy,fx,fz]at hx;subst hx;refine .inr ⟨vb len38 rfl fun j hj=> ?_,by rw[dV];rfl,by rw[dV];rfl⟩
   have hj':j=0∨j=1∨j=2:=by omega
   rcases hj' with rfl|rfl|rfl
   ·exact⟨9,Yl,JD (eA (h s hs))⟩
   ·exact⟨35,Ym,iE s35 (by simp) (by simp)⟩
   ·exact⟨36,Jz,iE s36 (by simp) (by simp)⟩
theorem Aq (f:D) (l:List D):(la f l).length≤1+l.length:=by
 have:∀l:List D,(l.flatMap fun s=>if(aB s).data.toList=(aB (aa f 0)).data.toList then[]else[D.agg [.str (aB s), .list [], .list []]]).length≤l.length:=fun l=>by
  induction l with
  |nil=>simp
  |cons x l ih=>
   simp only[lk,bM,cn];have:(if(aB x).data.toList=(aB (aa f 0)).data.toList then[]else[D.agg [.str (aB x), .list [], .list []]]).length≤1:=by split<;>simp
   omega
 simp only[la,cn];have:=this l;omega
theorem fit_nil:Fit (.list []):=fun N hN=>by
 cases N with
 |zero=>omega
 |succ N=>exact⟨fun s hs=>by simp[tl]at hs,by simp[cnt,tl]⟩
theorem JW {f v fn:D} (hf:Conf PG 38 f) (hv:Conf PG 26 v) (hn:Conf PG 26 fn) (hnl:fn.toList.length≤1000000):Conf PG 197 (eE f v.toList fn.toList):=by
 refine vb len197 rfl fun j hj=> ?_
 have hj':j=0∨j=1∨j=2:=by omega
 rcases hj' with rfl|rfl|rfl
 ·exact⟨35,M9,iE s35 (by unfold kZ;rw[gP];exact(ce s26 hv).1) (SG (ce s26 hv).2.2)⟩
 ·exact⟨67,Yn,iE s67 (by simp) (by simp)⟩
 ·refine⟨195,Yo,iE s195 (by have:=Aq f fn.toList;unfold maxLen;omega) fun x hx=> ?_⟩
  rcases CU hf (ce s26 hn).2.2 x hx with rfl|h
  ·exact hf
  ·exact h.1
theorem SH {f fn vs:D} (hf:Conf PG 38 f) (hnl:fn.toList.length≤1000000):
 loW (zF [fn, .int (ae fn),vs,fn,f]) [.int 0, .list [f]]=some [.int 0, .list (la f fn.toList)]∧loW (zL [fn,vs,f]) [.int 0, .list [f]]=some [.int 0, .list (la f fn.toList)]:=by
 have ln:∀i,(la f (fn.toList.take i)).length≤1000001:=fun i=>by have:=Aq f (fn.toList.take i);simp at this;omega
 have tk:∀i,i<fn.toList.length->la f (fn.toList.take (i+1))=la f (fn.toList.take i)++(if(aB (fn.toList.getD i .other)).data.toList=(aB (aa f 0)).data.toList then[]else[.agg [.str (aB (fn.toList.getD i .other)), .list [], .list []]]):=fun i hi=>by
  unfold la;rw[f8 (f:=fun s=>if(aB s).data.toList=(aB (aa f 0)).data.toList then[]else[D.agg [.str (aB s), .list [], .list []]]) hi]
  rfl
 have hc:∀a b:ByteArray,cI .neq a b = !decide (a.data.toList=b.data.toList):=fun a b=>by rw[zN];congr 1;rw[fy];simp only[gk,cl]
 constructor
 ·obtain⟨g1,g2⟩:=(de (A:=List D) (st:=zF [fn, .int (ae fn),vs,fn,f]) (n:=fn.toList.length) (enc:=fun i m=>[.int (i:Int), .list m])
   (f:=fun i m=>m++(if(aB (fn.toList.getD i .other)).data.toList=(aB (aa f 0)).data.toList then[]else[.agg [.str (aB (fn.toList.getD i .other)), .list [], .list []]])) (fin:=fun m=>[.int 0, .list m]) (I:=fun i m=>m=la f (fn.toList.take i))
   (fun m _=>by rw[Ct,aL];simp[az]) (fun i m hi hI=>by
    refine⟨?_,by rw[tk i hi,hI]⟩
    have:=ln i;rw[Ct,aL,aZ hi,bg,dA,bL,bq (by rw[hI,bM,cn,cZ];omega) (by omega),bk (by omega),hc]
    simp only[az,show(i:Int)<(fn.toList.length:Int)by omega,be,aj]
    by_cases h:(aB (fn.toList.getD i .other)).data.toList=(aB (aa f 0)).data.toList
    ·simp only[h,be,bX,aI,aX,fQ]
    ·simp only[h,bl,dk,aj,aV]) (a:=[f]) (by simp[la]))
  rw[eP (bj _)]at g2;rw[g2]at g1;simp only[b8]at g1;exact g1
 ·obtain⟨g1,g2⟩:=(de (A:=List D) (st:=zL [fn,vs,f]) (n:=fn.toList.length) (enc:=fun i m=>[.int (i:Int), .list m])
   (f:=fun i m=>m++(if(aB (fn.toList.getD i .other)).data.toList=(aB (aa f 0)).data.toList then[]else[.agg [.str (aB (fn.toList.getD i .other)), .list [], .list []]])) (fin:=fun m=>[.int 0, .list m]) (I:=fun i m=>m=la f (fn.toList.take i))
   (fun m _=>by rw[Cx,aL];simp[az]) (fun i m hi hI=>by
    refine⟨?_,by rw[tk i hi,hI]⟩
    have:=ln i;rw[Cx,aL,aZ hi,bg,dA,bL,bq (by rw[hI,bM,cn,cZ];omega) (by omega),bk (by omega),hc]
    simp only[az,show(i:Int)<(fn.toList.length:Int)by omega,be,aj]
    by_cases h:(aB (fn.toList.getD i .other)).data.toList=(aB (aa f 0)).data.toList
    ·simp only[h,be,bX,aI,aX,fQ]
    ·simp only[h,bl,dk,aj,aV]) (a:=[f]) (by simp[la]))
  rw[eP (bj _)]at g2;rw[g2]at g1;simp only[b8]at g1;exact g1
noncomputable def Ar (f v fn:D):Int:=
 if nG (eE f v.toList fn.toList)=0 then gE (caB fn ((aa f 2).size+1) (aa f 2)) 0 else nG (eE f v.toList fn.toList)
theorem Zc {f v fn:D} (hf:Conf PG 38 f) (hv:Conf PG 26 v) (hn:Conf PG 26 fn) (hfit:Fit (aa f 2)) (hfv:(aa f 1).toList.length≤1000000) (hvl:v.toList.length≤1000000) (hnl:fn.toList.length≤100000):
 q47 [f,v,fn]=some [.int (Ar f v fn)]∧q61 [f,v,fn]=some [.int (Ar f v fn)]:=by
 obtain⟨a1,a2⟩:=vars_of hvl;have hre:=Zb hf;have hu:=JW hf hv hn (by omega)
 have u0:aa (eE f v.toList fn.toList) 0 = .list (kZ v.toList):=by unfold eE;rw[dV];rfl
 have u1:aa (eE f v.toList fn.toList) 1 = .list []:=by unfold eE;rw[dV];rfl
 have u2:aa (eE f v.toList fn.toList) 2 = .list (la f fn.toList):=by unfold eE;rw[dV];rfl
 obtain⟨e1,e2⟩:=unit_eq hu (fun x hx=>by
  rw[u2,tl]at hx;rcases CU hf (ce s26 hn).2.2 x hx with rfl|⟨_,h1,h2⟩
  ·exact⟨hfit,hfv⟩
  ·rw[h1,h2];exact⟨fit_nil,by simp[tl]⟩) (by rw[u0,tl];unfold kZ;rw[gP];exact hvl) (by rw[u1,tl];simp) (by rw[u2,tl];have:=Aq f fn.toList;omega)
 have hfm:fn.toList.length≤maxLen:=by unfold maxLen;omega
 have cb:Conf PG 36 (aa f 2):=by rw[bx];exact bi Jz hf
 have hN1:(aa f 2).size<aY [fn,aa f 2, .int 0]:=cC (by simp)
 have hN2:(aa f 2).size<aY [aa f 2,fn]:=cC (by simp)
 have v1:=Na hfm _ _ 0 cb hN1;have v2:=Nb hfm _ _ cb hN2;rw[Fm fn _ ((aa f 2).size+1) _ cb hN1 (by omega)]at v1
 rw[Fm fn _ ((aa f 2).size+1) _ cb hN2 (by omega)]at v2
 obtain⟨l1,l2⟩:=SH (vs:= .list (kZ v.toList)) (fn:=fn) hf (by omega)
 constructor
 ·rw[Xt,F47_eq,a1,hre];simp only[I6,aq,ax,bf,bt,l1,aj,bL,cn,cZ];have hu':D.agg [.list (kZ v.toList), .list [], .list (la f fn.toList)]=eE f v.toList fn.toList:=rfl;rw[hu',e1,Xq];simp only[v1,aq,ax,bf,aC,aj,cp,aD];unfold Ar;by_cases hz:nG (eE f v.toList fn.toList)=0
  ·simp[hz]
  ·simp[hz]
 ·rw[XE,F61_eq,a2,hre];simp only[Jb,aq,ax,bf,bt,l2,aj,bL,cn,cZ];have hu':D.agg [.list (kZ v.toList), .list [], .list (la f fn.toList)]=eE f v.toList fn.toList:=rfl;rw[hu',e2,Pl];simp only[v2,aq,ax,bf,aC,aK,bI,aj,cp,aD,bN];unfold Ar;by_cases hz:nG (eE f v.toList fn.toList)=0
  ·cases caB fn ((aa f 2).size+1) (aa f 2)<;>simp[hz,gE]
  ·simp[hz]
end Go.Proofs.YtiojjmlccehpoaaGreat
namespace Go.Proofs.YtiojjmlccehpoaaGreat
noncomputable section
open Go Go.AM
theorem PZ (xs:List D) (j:Nat):aa (.agg xs) j=xs.getD j .other:=by rw[bx];rfl
def reb (x:D):D:= .agg [.int (ah (aa x 0)), .int (ah (aa x 1)), .int (ah (aa x 2)), .int (ah (aa x 3)), .int (ah (aa x 4)), .int (ah (aa x 5)), .int (ah (aa x 6)), .int (ah (aa x 7)), .int (ah (aa x 8))]
theorem reb_agg (a0 a1 a2 a3 a4 a5 a6 a7 a8:Int):reb (.agg [.int a0, .int a1, .int a2, .int a3, .int a4, .int a5, .int a6, .int a7, .int a8]) = .agg [.int a0, .int a1, .int a2, .int a3, .int a4, .int a5, .int a6, .int a7, .int a8]:=by
 simp only[reb,PZ,bf,bt,aC]
def neg (l:List D):List D:=l.map fun _=> .int (-1)
theorem P0 (a b:List D):neg (a++b)=neg a++neg b:=by simp[neg]
theorem neg_len (a:List D):(neg a).length=a.length:=by simp[neg]
theorem NB {E T L A fn:D} {nx ex:Int} {v y:D} {b:Int} {l s:List D} (hl:l.length≤10) (hs:s.length≤200000000):R8 [E,T,L,A,y, .int nx,v,fn, .int b, .int ex, .list l, .list s]=some [.list (s++l)]:=by
 rw[Po,F114_eq];simp only[dA,bL];rw[bq (by simp;omega) (by omega)]
 rfl
theorem NC {E T L A fn:D} {nx ex:Int} {v y:D} {b:Int} {l s:List D} (hl:l.length≤10) (hs:s.length≤200000000):Jc [E,T,L,A,y, .int nx,v,fn, .int b, .int ex, .list l, .list s]=some [.list (s++l)]:=by
 rw[Pn,F115_eq];simp only[dA,bL];rw[bq (by simp;omega) (by omega)]
 rfl
theorem emitq {E T L A fn:D} {nx ex:Int} {v:D} {b:Int} {l t s:List D} (hl:l.length≤10) (ht:t.length≤100000000) (hs:s.length≤100000000) (hr:∀x∈l,reb x=x):q50 [E,T,L,A, .int nx,v,fn, .int b, .int ex, .list l, .list t, .list s]=some [.list (t++neg l), .list (s++l)]:=by
 have key:∀k i:Nat,i+k=l.length->loW (Fa [.list l, .int (ae (.list l)),E,T,L,A, .int nx,v,fn, .int b, .int ex]) [.int i, .list (t++neg (l.take i)), .list (s++l.take i)]=some [.int 0, .list (t++neg l), .list (s++l)]:=by
  intro k
  induction k with
  |zero=>
   intro i hi;rw[bD,Cy,bL,az,eP (by omega)]
   simp only[show¬((i:Int)<l.length)by omega,bl,aI]
  |succ k ih=>
   intro i hi;have hlt:i<l.length:=by omega
   have hlt':i<(D.list l).toList.length:=hlt;have hg:ay (.list l) (i:Int)=l[i]:=by rw[bg];simp[D.toList,List.getD,hlt];rfl
   have hx:=hr l[i] (b7 hlt);unfold reb at hx;have h1:(s++l.take i).length≤200000000:=by simp;omega
   have h2:(t++neg (l.take i)).length≤200000000:=by simp[neg];omega
   rw[bD,Cy,bL,az,hg,hx,aZ hlt']
   simp only[show((i:Int)<l.length)by omega,be,aj,NB (E:=E) (T:=T) (L:=L) (A:=A) (fn:=fn) (nx:=nx) (ex:=ex) (l:=[l[i]]) (s:=s++l.take i) (by simp) h1,aq,ax,bf,
    NC (E:=E) (T:=T) (L:=L) (A:=A) (fn:=fn) (nx:=nx) (ex:=ex) (l:=[D.int (-1)]) (s:=t++neg (l.take i)) (by simp) h2]
   rw[bk (by omega)]
   have e1:s++l.take i ++ [l[i]]=s++l.take (i+1):=by rw[dH,vj hlt];rfl
   have e2:t++neg (l.take i) ++ [D.int (-1)]=t++neg (l.take (i+1)):=by rw[dH,vj hlt,P0];rfl
   rw[e1,e2];have:=ih (i+1) (by omega)
   rw[bL]at this;exact this
 have h0:=key l.length 0 (by omega)
 simp only[nJ,neg,jH,fQ,b8]at h0;have e:Pp [.list l, .int (ae (.list l)),E,T,L,A, .int nx,v,fn, .int b, .int ex] [.int 0, .list t, .list s]=some [.int 0, .list (t++neg l), .list (s++l)]:=by rw[Jd];exact h0
 rw[XK,F50_eq,e];simp only[aq,ax,bf,bt,aj]
def idx (v:D) (s:ByteArray):Int:=ah (ac (A3 [v, .str s]) 0)
theorem JX {v:D} (hv:v.toList.length≤maxLen) (s:ByteArray):A3 [v, .str s]=some [.int (idx v s)]∧Xu [v, .str s]=some [.int (idx v s)]:=by
 obtain⟨j,h1,h2,_⟩:=u7 hv s;have:idx v s=j:=by unfold idx;rw[h1,ax,bf,aC]
 rw[this];exact⟨h1,h2⟩
def arO (o:Int):Int:=if o=3 then 6 else if o=4 then 7 else if o=5 then 11 else if o=6 then 8 else if o=7 then 9 else if o=8 then 10 else if o=9 then 12 else if o=10 then 13 else 14
def ccO (o:Int):Int:=if o=12 then 1 else if o=13 then 2 else if o=14 then 3 else 7
def tK (o:Int):List D:=if o≤11 then[.agg [.int 0, .int 0, .int (arO o), .int 0, .int 0, .int 0, .int 0, .int 1, .int 0]]else
 [.agg [.int 0, .int 0, .int 15, .int 0, .int 0, .int 0, .int 0, .int 1, .int 0], .agg [.int 0, .int 0, .int 25, .int 0, .int 0, .int (ccO o), .int 0, .int 0, .int 0]]
theorem ar_spec {o:Int} (h:3≤o∧o≤15):∃a,q103 [.int o]=some [.int a, .bool (decide (o≤11))]∧(o≤11->a=arO o):=by
 have h:o=3∨o=4∨o=5∨o=6∨o=7∨o=8∨o=9∨o=10∨o=11∨o=12∨o=13∨o=14∨o=15:=by omega
 rw[Pq,F103_eq];refine⟨if o≤11 then arO o else 0,?_,fun h=>if_pos h⟩
 rcases h with rfl|rfl|rfl|rfl|rfl|rfl|rfl|rfl|rfl|rfl|rfl|rfl|rfl<;>simp[aD,arO]
theorem cc_spec {o:Int} (h:12≤o∧o≤15):q104 [.int o]=some [.int (ccO o)]:=by
 have h:o=12∨o=13∨o=14∨o=15:=by omega
 rw[Pr,F104_eq];rcases h with rfl|rfl|rfl|rfl<;>simp[aD,ccO]
def nodes:Nat->D->Nat
 |0,_=>0
 |N+1,d=>1+((opd d).map (nodes N)).sum
abbrev ii (imm op form width cc a b:Int):D:= .agg [.int 0, .int imm, .int op, .int form, .int width, .int cc, .int a, .int b, .int 0]
theorem cu (imm op form width cc a b:Int):reb (ii imm op form width cc a b)=ii imm op form width cc a b:=reb_agg ..
def adrV (v:D) (b:Int) (d:D):Int:=aM .add .u32 b (aM .mul .u32 4 (fA .u32 (idx v (aB (d.fld 2)))))
def shf (d:D):Int:=fA .u32 (aM .sub .i64 32 (aM .mul .i64 8 (ah (d.fld 3))))
def unary (d:D):List D:=
 if ah (d.fld 0)=16 then[ii 0 15 1 0 0 0 0,ii 0 25 0 0 1 0 0]
 else if ah (d.fld 0)=17 then[ii 0 5 0 0 0 1 0,ii 0 5 1 0 0 0 0,ii 0 7 0 0 0 0 1]
 else if ah (d.fld 0)=18 then[ii 0 16 0 (ah (d.fld 3)) 0 0 0]
 else[ii (shf d) 12 1 0 0 0 0,ii (shf d) 14 1 0 0 0 0]
def code (v:D) (b:Int):Nat->D->List D
 |0,_=>[]
 |N+1,d=>
  if ah (d.fld 0)=1 then[ii (ah (d.fld 1)) 5 2 0 0 0 0]
  else if ah (d.fld 0)=2 then[ii (adrV v b d) 5 2 0 0 2 0,ii 0 16 0 4 0 0 2]
  else if ah (d.fld 0)≤15 then code v b N (ay (d.fld 4) 0) ++ [ii 0 3 0 0 0 0 0]++code v b N (ay (d.fld 4) 1) ++ [ii 0 5 0 0 0 1 0,ii 0 4 0 0 0 0 0]++tK (ah (d.fld 0))
  else code v b N (ay (d.fld 4) 0)++unary d
theorem lc {d:D} (h:head d=true):(ah (d.fld 0)=1∧(opd d).length=0)∨(ah (d.fld 0)=2∧(opd d).length=0)∨((3≤ah (d.fld 0)∧ah (d.fld 0)≤15)∧(opd d).length=2)∨
 ((ah (d.fld 0)=16∨ah (d.fld 0)=17∨ah (d.fld 0)=18∨ah (d.fld 0)=19)∧(opd d).length=1):=by
 have hz:ae (d.fld 4)=((opd d).length:Int):=by rw[aL];rfl
 unfold head Jm at h;rw[hz]at h;generalize ah (d.fld 0)=o at h ⊢;generalize (opd d).length=z at h ⊢
 repeat' split at h
 all_goals first|(cases h;done)|(simp only[bn,cl]at h;omega)
theorem gN {d:D} {i:Nat} (h:i<(opd d).length):aS (d.fld 4) (i:Int)=true∧ay (d.fld 4) (i:Int)∈opd d:=by
 have h':i<(d.fld 4).toList.length:=h;refine⟨aZ h',?_⟩
 rw[bg,getD_lt h'];exact b7 h'
theorem CV {N:Nat} {d:D} (h:(opd d).length=2):nodes (N+1) d=1+(nodes N (ay (d.fld 4) 0)+nodes N (ay (d.fld 4) 1)):=by
 have e0:=bg (d.fld 4) 0;have e1:=bg (d.fld 4) 1;simp only[b8,nI]at e0 e1;unfold opd at h;simp only[nodes,opd,e0,e1]
 match hl:(d.fld 4).toList,h with
 | [x,y],_=>simp
theorem CW {N:Nat} {d:D} (h:(opd d).length=1):nodes (N+1) d=1+nodes N (ay (d.fld 4) 0):=by
 have e0:=bg (d.fld 4) 0;simp only[b8]at e0;unfold opd at h;simp only[nodes,opd,e0]
 match hl:(d.fld 4).toList,h with
 | [x],_=>simp
theorem Zd (o:Int):(tK o).length≤2:=by unfold tK;split<;>simp
theorem SI (d:D):(unary d).length≤3:=by unfold unary;(repeat' split)<;>simp
theorem qh (v:D) (b:Int):∀(N:Nat) (d:D),fmd N d=true->(code v b N d).length≤6*nodes N d:=by
 intro N
 induction N with
 |zero=>intro d h;simp[code]
 |succ N ih=>
  intro d h;simp only[fmd,bn,bV]at h;rcases lc h.1 with⟨ho,hz⟩|⟨ho,hz⟩|⟨ho,hz⟩|⟨ho,hz⟩
  ·simp only[code,ho,aX,nodes];simp;omega
  ·simp only[code,ho,aX,nodes];simp;omega
  ·have a:=ih _ (h.2 _ (gN (i:=0) (by omega)).2)
   have b':=ih _ (h.2 _ (gN (i:=1) (by omega)).2)
   simp only[b8,nI]at a b';have:=Zd (ah (d.fld 0));rw[CV hz];simp only[code,show¬ah (d.fld 0)=1 by omega,show¬ah (d.fld 0)=2 by omega,ho.2,aX,aV,bM,cn,cZ]
   omega
  ·have a:=ih _ (h.2 _ (gN (i:=0) (by omega)).2)
   simp only[b8]at a;have:=SI d;rw[CW hz];simp only[code,show¬ah (d.fld 0)=1 by omega,show¬ah (d.fld 0)=2 by omega,show¬ah (d.fld 0)≤15 by omega,aX,aV,bM]
   omega
theorem fld_ag (xs:List D) (j:Nat):(D.agg xs).fld j=xs.getD j .other:=by rw[<- bx,PZ]
theorem emc {E T L A fn:D} {nx ex:Int} {v:D} {b:Int} {t s c l:List D} (hl:l.length≤10) (ht:t.length+c.length≤100000000) (hs:s.length+c.length≤100000000) (hr:∀x∈l,reb x=x):
 q50 [E,T,L,A, .int nx,v,fn, .int b, .int ex, .list l, .list (t++neg c), .list (s++c)]=some [.list (t++neg (c++l)), .list (s++(c++l))]:=by
 rw[emitq hl (by simp[neg_len];omega) (by simp;omega) hr,dH,dH,P0]
theorem em1 {E T L A fn:D} {nx ex:Int} {v x:D} {b:Int} {t s c:List D} (ht:t.length+c.length≤100000000) (hs:s.length+c.length≤100000000) (hr:reb x=x):
 q50 [E,T,L,A, .int nx,v,fn, .int b, .int ex, .list [x], .list (t++neg c), .list (s++c)]=some [.list (t++neg (c ++ [x])), .list (s++(c ++ [x]))]:=emc (by simp) ht hs (by simp[hr])
theorem em2 {E T L A fn:D} {nx ex:Int} {v x y:D} {b:Int} {t s c:List D} (ht:t.length+c.length≤100000000) (hs:s.length+c.length≤100000000) (hr:reb x=x) (hr':reb y=y):
 q50 [E,T,L,A, .int nx,v,fn, .int b, .int ex, .list [x,y], .list (t++neg c), .list (s++c)]=some [.list (t++neg (c ++ [x,y])), .list (s++(c ++ [x,y]))]:=emc (by simp) ht hs (by simp[hr,hr'])
theorem em3 {E T L A fn:D} {nx ex:Int} {v x y z:D} {b:Int} {t s c:List D} (ht:t.length+c.length≤100000000) (hs:s.length+c.length≤100000000) (hr:reb x=x) (hr':reb y=y) (hr'':reb z=z):
 q50 [E,T,L,A, .int nx,v,fn, .int b, .int ex, .list [x,y,z], .list (t++neg c), .list (s++c)]=some [.list (t++neg (c ++ [x,y,z])), .list (s++(c ++ [x,y,z]))]:=emc (by simp) ht hs (by simp[hr,hr',hr''])
set_option maxHeartbeats 1000000 in
theorem expr42 {E T L A fn:D} {nx ex:Int} {v:D} (hv:v.toList.length≤maxLen) (b:Int):∀(N:Nat) (d:D) (t s c:List D),fmd N d=true->t.length+c.length+6*nodes N d≤90000000->s.length+c.length+6*nodes N d≤90000000->
 F42 N [E,T,L,A, .int nx,v,fn, .int b, .int ex,d, .list (t++neg c), .list (s++c)]=some [.list (t++neg (c++code v b N d)), .list (s++(c++code v b N d))]:=by
 intro N
 induction N with
 |zero=>intro d t s c h;cases h
 |succ N ih=>
  intro d t s c h ht hs;simp only[fmd,bn,bV]at h;rw[F42_s,Fb42_eq];simp only[bx];rcases lc h.1 with⟨ho,hz⟩|⟨ho,hz⟩|⟨ho,hz⟩|⟨ho,hz⟩
  ·have e:=em1 (E:=E) (T:=T) (L:=L) (A:=A) (fn:=fn) (nx:=nx) (ex:=ex) (v:=v) (b:=b) (t:=t) (s:=s) (c:=c) (by omega) (by omega) (cu (ah (d.fld 1)) 5 2 0 0 0 0)
   simp only[code,ho,aD,be,aj,aX,e,aq,ax,bf,bt]
  ·have h51:q51 [E,T,L,A, .list (t++neg c), .list (s++c), .int nx,v,fn, .int b, .int ex, .str (aB (d.fld 2))]=some [ii (adrV v b d) 5 2 0 0 2 0]:=by
    rw[MW,XL,(JX hv _).1];simp only[aq,ax,bf,aC,aj];rfl
   have e:=em2 (E:=E) (T:=T) (L:=L) (A:=A) (fn:=fn) (nx:=nx) (ex:=ex) (v:=v) (b:=b) (t:=t) (s:=s) (c:=c) (by omega) (by omega) (cu (adrV v b d) 5 2 0 0 2 0) (cu 0 16 0 4 0 0 2)
   simp only[code,ho,aD,show¬(2:Int)=1 by omega,be,bl,aj,aI,aX,aV,h51,aq,ax,bf,bt,fld_ag,aC,e]
  ·obtain⟨i0,m0⟩:=gN (d:=d) (i:=0) (by omega)
   obtain⟨i1,m1⟩:=gN (d:=d) (i:=1) (by omega)
   simp only[b8,nI]at i0 m0 i1 m1;have hn:=CV (N:=N) hz;have l0:=qh v b N _ (h.2 _ m0);have l1:=qh v b N _ (h.2 _ m1);have e0:=ih (ay (d.fld 4) 0) t s c (h.2 _ m0) (by omega) (by omega)
   have ep:=em1 (E:=E) (T:=T) (L:=L) (A:=A) (fn:=fn) (nx:=nx) (ex:=ex) (v:=v) (b:=b) (t:=t) (s:=s) (c:=c++code v b N (ay (d.fld 4) 0)) (by simp;omega) (by simp;omega) (cu 0 3 0 0 0 0 0)
   have e1:=ih (ay (d.fld 4) 1) t s (c++code v b N (ay (d.fld 4) 0) ++ [ii 0 3 0 0 0 0 0]) (h.2 _ m1) (by simp;omega) (by simp;omega)
   have em:=em2 (E:=E) (T:=T) (L:=L) (A:=A) (fn:=fn) (nx:=nx) (ex:=ex) (v:=v) (b:=b) (t:=t) (s:=s) (c:=c++code v b N (ay (d.fld 4) 0) ++ [ii 0 3 0 0 0 0 0]++code v b N (ay (d.fld 4) 1)) (by simp;omega) (by simp;omega) (cu 0 5 0 0 0 1 0) (cu 0 4 0 0 0 0 0)
   obtain⟨a,ha,ha'⟩:=ar_spec ho;have hc:code v b (N+1) d=code v b N (ay (d.fld 4) 0) ++ [ii 0 3 0 0 0 0 0]++code v b N (ay (d.fld 4) 1) ++ [ii 0 5 0 0 0 1 0,ii 0 4 0 0 0 0 0]++tK (ah (d.fld 0)):=by
    simp only[code,show¬ah (d.fld 0)=1 by omega,show¬ah (d.fld 0)=2 by omega,ho.2,aX,aV]
   rw[hc];generalize ah (d.fld 0)=o at *;have n1:¬o=1:=by omega
   have n2:¬o=2:=by omega
   have n16:¬o=16:=by omega
   have n17:¬o=17:=by omega
   have n18:¬o=18:=by omega
   have n19:¬o=19:=by omega
   by_cases h11:o≤11
   ·have et:=em1 (E:=E) (T:=T) (L:=L) (A:=A) (fn:=fn) (nx:=nx) (ex:=ex) (v:=v) (b:=b) (t:=t) (s:=s) (c:=c++code v b N (ay (d.fld 4) 0) ++ [ii 0 3 0 0 0 0 0]++code v b N (ay (d.fld 4) 1) ++ [ii 0 5 0 0 0 1 0,ii 0 4 0 0 0 0 0]) (by simp;omega) (by simp;omega) (cu 0 a 0 0 0 0 1)
    simp only[aD,n1,n2,n16,n17,n18,n19,i0,i1,bl,aI,aj,e0,aq,ax,bf,bt,ep,e1,em,ha,aK,aC,h11,be,et];simp only[tK,h11,aX, <- ha' h11,dH]
   ·have et:=em2 (E:=E) (T:=T) (L:=L) (A:=A) (fn:=fn) (nx:=nx) (ex:=ex) (v:=v) (b:=b) (t:=t) (s:=s) (c:=c++code v b N (ay (d.fld 4) 0) ++ [ii 0 3 0 0 0 0 0]++code v b N (ay (d.fld 4) 1) ++ [ii 0 5 0 0 0 1 0,ii 0 4 0 0 0 0 0]) (by simp;omega) (by simp;omega) (cu 0 15 0 0 0 0 1) (cu 0 25 0 0 (ccO o) 0 0)
    simp only[aD,n1,n2,n16,n17,n18,n19,i0,i1,bl,aI,aj,e0,aq,ax,bf,bt,ep,e1,em,ha,aK,aC,h11,cc_spec (show 12≤o∧o≤15 by omega),et]
    simp only[tK,h11,aV,dH]
  ·obtain⟨i0,m0⟩:=gN (d:=d) (i:=0) (by omega)
   simp only[b8]at i0 m0;have hn:=CW (N:=N) hz;have l0:=qh v b N _ (h.2 _ m0);have e0:=ih (ay (d.fld 4) 0) t s c (h.2 _ m0) (by omega) (by omega)
   have hc:code v b (N+1) d=code v b N (ay (d.fld 4) 0)++unary d:=by
    simp only[code,show¬ah (d.fld 0)=1 by omega,show¬ah (d.fld 0)=2 by omega,show¬ah (d.fld 0)≤15 by omega,aX,aV]
   rw[hc];rcases ho with ho|ho|ho|ho
   ·have e:=em2 (E:=E) (T:=T) (L:=L) (A:=A) (fn:=fn) (nx:=nx) (ex:=ex) (v:=v) (b:=b) (t:=t) (s:=s) (c:=c++code v b N (ay (d.fld 4) 0)) (by simp;omega) (by simp;omega) (cu 0 15 1 0 0 0 0) (cu 0 25 0 0 1 0 0)
    have hu:unary d = [ii 0 15 1 0 0 0 0,ii 0 25 0 0 1 0 0]:=by simp[unary,ho]
    rw[hu];simp only[aD,ho,i0,bl,be,aI,aj,e0,aq,ax,bf,bt,e,show¬(16:Int)=1 by omega,show¬(16:Int)=2 by omega,dH]
   ·have e:=em3 (E:=E) (T:=T) (L:=L) (A:=A) (fn:=fn) (nx:=nx) (ex:=ex) (v:=v) (b:=b) (t:=t) (s:=s) (c:=c++code v b N (ay (d.fld 4) 0)) (by simp;omega) (by simp;omega) (cu 0 5 0 0 0 1 0) (cu 0 5 1 0 0 0 0) (cu 0 7 0 0 0 0 1)
    have hu:unary d = [ii 0 5 0 0 0 1 0,ii 0 5 1 0 0 0 0,ii 0 7 0 0 0 0 1]:=by simp[unary,ho]
    rw[hu];simp only[aD,ho,i0,bl,be,aI,aj,e0,aq,ax,bf,bt,e,show¬(17:Int)=1 by omega,show¬(17:Int)=2 by omega,show¬(17:Int)=16 by omega,dH]
   ·have e:=em1 (E:=E) (T:=T) (L:=L) (A:=A) (fn:=fn) (nx:=nx) (ex:=ex) (v:=v) (b:=b) (t:=t) (s:=s) (c:=c++code v b N (ay (d.fld 4) 0)) (by simp;omega) (by simp;omega) (cu 0 16 0 (ah (d.fld 3)) 0 0 0)
    have hu:unary d = [ii 0 16 0 (ah (d.fld 3)) 0 0 0]:=by simp[unary,ho]
    rw[hu];simp only[aD,ho,i0,bl,be,aI,aj,e0,aq,ax,bf,bt,e,show¬(18:Int)=1 by omega,show¬(18:Int)=2 by omega,show¬(18:Int)=16 by omega,show¬(18:Int)=17 by omega,dH]
   ·have e:=em2 (E:=E) (T:=T) (L:=L) (A:=A) (fn:=fn) (nx:=nx) (ex:=ex) (v:=v) (b:=b) (t:=t) (s:=s) (c:=c++code v b N (ay (d.fld 4) 0)) (by simp;omega) (by simp;omega) (cu (shf d) 12 1 0 0 0 0) (cu (shf d) 14 1 0 0 0 0)
    have hu:unary d = [ii (shf d) 12 1 0 0 0 0,ii (shf d) 14 1 0 0 0 0]:=by simp[unary,ho]
    rw[hu];have hsh:fA .u32 (aM .sub .i64 32 (aM .mul .i64 8 (ah (d.fld 3))))=shf d:=rfl;simp only[aD,ho,i0,bl,be,aI,aj,e0,aq,ax,bf,bt,hsh,e,show¬(19:Int)=1 by omega,show¬(19:Int)=2 by omega,show¬(19:Int)=16 by omega,show¬(19:Int)=17 by omega,show¬(19:Int)=18 by omega,dH]
set_option maxHeartbeats 1000000 in
end
end Go.Proofs.YtiojjmlccehpoaaGreat
namespace Go.Proofs.YtiojjmlccehpoaaGreat
noncomputable section
open Go Go.AM
def mI (L:List (Int×Int)):D:= .list (L.map fun p=> .agg [.int p.1, .int p.2])
def lkI (L:List (Int×Int)) (o:Int):Option Int:=(L.find? fun p=>decide (p.1=o)).map (·.2)
theorem P9 (a:Int):kvD 106 (.int a) = .int .i64 a:=by kernel_rfl
theorem keyI (a b:Int):c6 (.int .i64 a) (.int .i64 b)=decide (b=a):=by
 show(a==b)=decide (b=a)
 by_cases h:a=b
 ·subst h;simp
 ·rw[decide_eq_false fun e=>h e.symm];simpa using h
theorem findI (o:Int) (L:List (Int×Int)):nl 106 (.int o) (L.map fun p=>D.agg [.int p.1, .int p.2])=(lkI L o).map .int:=by
 induction L with
 |nil=>rfl
 |cons p L ih=>
  unfold nl lkI at ih ⊢;rw[bW,ni,ni];have h:c6 (kvD 106 (.int o)) (kvD 106 ((D.agg [.int p.1, .int p.2]).fld 0))=decide (p.1=o):=by
   show c6 (kvD 106 (.int o)) (kvD 106 (.int p.1))=_
   rw[P9,P9,keyI]
  rw[h];cases decide (p.1=o)with
  |true=>rfl
  |false=>exact ih
def ND (L:List (Int×Int)) (o x:Int):List (Int×Int):=match L with
 | []=>[(o,x)]
 |p::r=>if p.1=o then(o,x)::r else p::ND r o x
theorem Ze (o x:Int):∀L:List (Int×Int),AB 106 (.int o) (.int x) (L.map fun p=>D.agg [.int p.1, .int p.2])=(ND L o x).map fun p=>D.agg [.int p.1, .int p.2]
 | []=>rfl
 |p::L=>by
  have hk:c6 (kvD 106 (.int o)) (kvD 106 ((D.agg [.int p.1, .int p.2]).fld 0))=decide (p.1=o):=by
   show c6 (kvD 106 (.int o)) (kvD 106 (.int p.1))=_
   rw[P9,P9,keyI]
  rw[bW,AB,hk,ND];by_cases h:p.1=o
  ·rw[decide_eq_true h,aj,if_pos h];rfl
  ·rw[decide_eq_false h,aI,if_neg h,Ze o x L];rfl
theorem Zf (o x p:Int):∀L:List (Int×Int),lkI (ND L o x) p=if p=o then some x else lkI L p
 | []=>by
   unfold ND lkI;by_cases h:p=o
   ·subst h;simp
   ·rw[if_neg h];simp[List.find?,show¬o=p from fun e=>h e.symm]
 |q::L=>by
  have ih:=Zf o x p L;unfold ND;unfold lkI at ih ⊢;by_cases hq:q.1=o
  ·rw[if_pos hq,ni,ni];by_cases h:p=o
   ·subst h;simp
   ·rw[if_neg h];simp[show¬o=p from fun e=>h e.symm,show¬q.1=p from fun e=>h (by rw[<- e,hq])]
  ·rw[if_neg hq,ni,ni];by_cases hp:q.1=p
   ·rw[if_neg (fun e=>hq (by rw[hp,e]))];simp[hp]
   ·simp only[hp,bl];exact ih
def JY (A:D) (f:Int->Int):Prop:=∃L,A=mI L∧∀p,(lkI L p).getD 0=f p
theorem at_get {A:D} {f:Int->Int} (h:JY A f) (p:Int):lr 106 (.int 0) A (.int p) = .int (f p):=by
 obtain⟨L,rfl,hf⟩:=h;have:lr=vJ:=ai _;rw[this];unfold vJ mI;simp only[D.toList];rw[findI, <- hf p];cases lkI L p<;>rfl
theorem Zg {A:D} {f:Int->Int} (h:JY A f) (p x:Int):JY (dN 106 A (.int p) (.int x)) (fun q=>if q=p then x else f q):=by
 obtain⟨L,rfl,hf⟩:=h;refine⟨ND L p x,?_,fun q=> ?_⟩
 ·have:dN=fun kT m k v=> .list (AB kT k v m.toList):=ai _
  rw[this];unfold mI;simp only[D.toList];rw[Ze]
 ·rw[Zf];by_cases h:q=p
  ·simp[h]
  ·simp[h,hf]
abbrev tZ:=List (ByteArray×Int)
def lD (L:tZ):D:= .list (L.map fun p=> .agg [.str p.1, .int p.2])
def lkS (L:tZ) (n:ByteArray):Option Int:=(L.find? fun p=>decide (p.1.data.toList=n.data.toList)).map (·.2)
theorem u9:PG.underlying 9=some .string:=by kernel_rfl
theorem kv9 (s:ByteArray):kvD 9 (.str s) = .string s:=by unfold kvD;rw[u9];rfl
theorem keyS (a b:ByteArray):c6 (Value.string a) (Value.string b)=decide (b.data.toList=a.data.toList):=by
 show(a.data==b.data)=_
 rw[fy];simp only[gk,cl];exact⟨fun e=>by rw[e],fun e=>Array.ext' e.symm⟩
theorem findS (n:ByteArray) (L:tZ):nl 9 (.str n) (L.map fun p=>D.agg [.str p.1, .int p.2])=(lkS L n).map .int:=by
 induction L with
 |nil=>rfl
 |cons p L ih=>
  unfold nl lkS at ih ⊢;rw[bW,ni,ni];have h:c6 (kvD 9 (.str n)) (kvD 9 ((D.agg [.str p.1, .int p.2]).fld 0))=decide (p.1.data.toList=n.data.toList):=by
   show c6 (kvD 9 (.str n)) (kvD 9 (.str p.1))=_
   rw[kv9,kv9,keyS]
  rw[h];cases decide (p.1.data.toList=n.data.toList)with
  |true=>rfl
  |false=>exact ih
theorem hasS (L:tZ) (n:ByteArray):sw 9 (lD L) (.str n)=(lkS L n).isSome:=by
 have:sw=F0:=ai _;rw[this];unfold F0 lD;simp only[D.toList];rw[findS];cases lkS L n<;>rfl
theorem getS (L:tZ) (n:ByteArray):lr 9 (.int 0) (lD L) (.str n) = .int ((lkS L n).getD 0):=by
 have:lr=vJ:=ai _;rw[this];unfold vJ lD;simp only[D.toList];rw[findS];cases lkS L n<;>rfl
theorem JZ (n:ByteArray) (x:Int):∀L:tZ,lkS L n=none->AB 9 (.str n) (.int x) (L.map fun p=>D.agg [.str p.1, .int p.2])=(L ++ [(n,x)]).map fun p=>D.agg [.str p.1, .int p.2]
 | [],_=>rfl
 |p::L,h=>by
  have hk:c6 (kvD 9 (.str n)) (kvD 9 ((D.agg [.str p.1, .int p.2]).fld 0))=decide (p.1.data.toList=n.data.toList):=by
   show c6 (kvD 9 (.str n)) (kvD 9 (.str p.1))=_
   rw[kv9,kv9,keyS]
  unfold lkS at h;rw[ni]at h;cases hd:decide (p.1.data.toList=n.data.toList)with
  |true=>rw[hd]at h;simp at h
  |false=>
   rw[hd]at h;rw[bW,AB,hk,hd,aI,JZ n x L h];rfl
theorem putS {L:tZ} {n:ByteArray} (x:Int) (h:lkS L n=none):dN 9 (lD L) (.str n) (.int x)=lD (L ++ [(n,x)]):=by
 have:dN=fun kT m k v=> .list (AB kT k v m.toList):=ai _
 rw[this];unfold lD;simp only[D.toList];rw[JZ n x L h]
def tD (l:List Int):D:= .list (l.map .int)
def bz (c:List D):List Int:=c.map fun _=> -1
theorem Zh (l:List Int) (c:List D):D.list (l.map .int++neg c)=tD (l++bz c):=by simp[tD,neg,bz]
def jmp (cc:Int):D:=ii 0 20 2 0 cc 0 0
section
variable {E T L A v fn:D} {nx b ex:Int}
theorem fi {to ins:D} {n:Nat} (h:n≤1000000000):q49 [E,T,L,A,to,ins,v,fn, .int b, .int ex, .int (n:Int)]=some [.int ((n+1:Nat):Int), .int ((n+1:Nat):Int)]:=by
 rw[MX,F49_eq,bk (by omega)]
theorem fu {to:D} {ins:List D} {p:Int}:q57 [E,T,L,to, .list ins, .int nx,v,fn, .int b, .int ex, .int p,A]=some [dN 106 A (.int p) (.int (ins.length:Int))]:=by
 rw[XS,F57_eq,bL]
theorem eM {cc p:Int} {to:List Int} {ins:List D} (ht:to.length≤90000000) (hi:ins.length≤90000000):
 zM [E,T,L,A, .int nx,v,fn, .int b, .int ex, .int cc, .int p,tD to, .list ins]=some [tD (to ++ [p]), .list (ins ++ [jmp cc])]:=by
 have e1:=NB (E:=E) (T:=T) (L:=L) (A:=A) (fn:=fn) (nx:=nx) (ex:=ex) (v:=v) (b:=b) (y:=tD to) (l:=[jmp cc]) (s:=ins) (by simp) (by omega)
 have e2:=NC (E:=E) (T:=T) (L:=L) (A:=A) (fn:=fn) (nx:=nx) (ex:=ex) (v:=v) (b:=b) (y:= .list (ins ++ [jmp cc])) (l:=[.int p]) (s:=to.map .int) (by simp) (by simp;omega)
 have hj:D.agg [.int 0, .int 0, .int 20, .int 2, .int 0, .int cc, .int 0, .int 0, .int 0]=jmp cc:=rfl;rw[Pt,F174_eq,hj,e1];have e2':Jc [E,T,L,A, .list (ins ++ [jmp cc]), .int nx,v,fn, .int b, .int ex, .list [.int p],tD to]=some [.list (to.map .int ++ [.int p])]:=e2;simp only[aq,ax,bf,aj,e2'];simp[tD]
theorem dp {l ins:List D} {to:List Int} (hl:l.length≤10) (ht:to.length≤90000000) (hi:ins.length≤90000000) (hr:∀x∈l,reb x=x):
 q50 [E,T,L,A, .int nx,v,fn, .int b, .int ex, .list l,tD to, .list ins]=some [tD (to++bz l), .list (ins++l)]:=by
 have:=emitq (E:=E) (T:=T) (L:=L) (A:=A) (fn:=fn) (nx:=nx) (ex:=ex) (v:=v) (b:=b) (l:=l) (t:=to.map .int) (s:=ins) hl (by simp;omega) (by omega) hr
 rw[Zh]at this;exact this
def adN (v:D) (b:Int) (n:ByteArray):Int:=aM .add .u32 b (aM .mul .u32 4 (fA .u32 (idx v n)))
theorem CX (hv:v.toList.length≤maxLen) {to ins:D} {n:ByteArray}:q51 [E,T,L,A,to,ins, .int nx,v,fn, .int b, .int ex, .str n]=some [ii (adN v b n) 5 2 0 0 2 0]:=by
 rw[MW,XL,(JX hv _).1];simp only[aq,ax,bf,aC,aj];rfl
def lB (v:D) (b:Int) (n:ByteArray):List D:=[ii (adN v b n) 5 2 0 0 2 0,ii 0 18 0 4 0 0 2]
theorem mK (hv:v.toList.length≤maxLen) {n:ByteArray} {ins:List D} {to:List Int} (ht:to.length≤90000000) (hi:ins.length≤90000000):
 q59 [E,T,L,A, .int nx,v,fn, .int b, .int ex, .str n,tD to, .list ins]=some [tD (to++bz (lB v b n)), .list (ins++lB v b n)]:=by
 have e:=dp (E:=E) (T:=T) (L:=L) (A:=A) (fn:=fn) (nx:=nx) (ex:=ex) (v:=v) (b:=b) (l:=lB v b n) (to:=to) (ins:=ins) (by simp[lB]) ht hi (by
  intro x hx;simp only[lB,cy,fx,fz]at hx;rcases hx with rfl|rfl<;>exact cu ..)
 have hre:D.agg [D.int (ah (aa (ii (adN v b n) 5 2 0 0 2 0) 0)),D.int (ah (aa (ii (adN v b n) 5 2 0 0 2 0) 1)),D.int (ah (aa (ii (adN v b n) 5 2 0 0 2 0) 2)),D.int (ah (aa (ii (adN v b n) 5 2 0 0 2 0) 3)),D.int (ah (aa (ii (adN v b n) 5 2 0 0 2 0) 4)),D.int (ah (aa (ii (adN v b n) 5 2 0 0 2 0) 5)),D.int (ah (aa (ii (adN v b n) 5 2 0 0 2 0) 6)),D.int (ah (aa (ii (adN v b n) 5 2 0 0 2 0) 7)),D.int (ah (aa (ii (adN v b n) 5 2 0 0 2 0) 8))]=ii (adN v b n) 5 2 0 0 2 0:=cu ..;rw[XV,F59_eq,CX hv];simp only[aq,ax,bf,aj,hre];have hs:D.list [ii (adN v b n) 5 2 0 0 2 0,D.agg [.int 0, .int 0, .int 18, .int 0, .int 4, .int 0, .int 0, .int 2, .int 0]] = .list (lB v b n):=rfl;rw[hs];simp only[e,aq,ax,bf,bt,aj]
theorem Zi (v:D) (b:Int):∀(N M:Nat) (d:D),fmd N d=true->fmd M d=true->code v b N d=code v b M d:=by
 intro N
 induction N with
 |zero=>intro M d h;cases h
 |succ N ih=>
  intro M d h1 h2;cases M with
  |zero=>cases h2
  |succ M=>
   simp only[fmd,bn,bV]at h1 h2;rcases lc h1.1 with⟨ho,hz⟩|⟨ho,hz⟩|⟨ho,hz⟩|⟨ho,hz⟩
   ·simp[code,ho]
   ·simp[code,ho]
   ·have m0:=(gN (d:=d) (i:=0) (by omega)).2
    have m1:=(gN (d:=d) (i:=1) (by omega)).2
    simp only[b8,nI]at m0 m1;simp only[code,ih M _ (h1.2 _ m0) (h2.2 _ m0),ih M _ (h1.2 _ m1) (h2.2 _ m1)]
   ·have m0:=(gN (d:=d) (i:=0) (by omega)).2
    simp only[b8]at m0;simp only[code,show¬ah (d.fld 0)≤15 by omega,aV,ih M _ (h1.2 _ m0) (h2.2 _ m0)]
theorem r9:∀(N M:Nat) (d:D),d.size<N->d.size<M->nodes N d=nodes M d:=by
 intro N
 induction N with
 |zero=>intro M d h;omega
 |succ N ih=>
  intro M d h1 h2;cases M with
  |zero=>omega
  |succ M=>
   simp only[nodes]
   congr 2
   apply lF;intro x hx;have:=mD hx;exact ih M x (by omega) (by omega)
def cx (v:D) (b:Int) (d:D):List D:=code v b (d.size+1) d
def nd (d:D):Nat:=nodes (d.size+1) d
theorem oy {d:D} (h:fm d=true):(cx v b d).length≤6*nd d:=qh v b _ d h
theorem fm_at {d:D} {N:Nat} (h:fm d=true) (hN:d.size<N):fmd N d=true:=by rw[<- h];exact Fg _ _ d hN (by omega)
theorem hO (hv:v.toList.length≤maxLen) {d:D} {ins:List D} {to:List Int} (hf:fm d=true) (ht:to.length+6*nd d≤90000000) (hi:ins.length+6*nd d≤90000000):
 q42 [E,T,L,A, .int nx,v,fn, .int b, .int ex,d,tD to, .list ins]=some [tD (to++bz (cx v b d)), .list (ins++cx v b d)]:=by
 have hN:d.size<aY [E,T,L,A, .int nx,v,fn, .int b, .int ex,d,tD to, .list ins]:=cC (by simp)
 generalize hK:aY [E,T,L,A, .int nx,v,fn, .int b, .int ex,d,tD to, .list ins]=K at hN
 have e:=expr42 (E:=E) (T:=T) (L:=L) (A:=A) (fn:=fn) (nx:=nx) (ex:=ex) hv b K d (to.map .int) ins [] (fm_at hf hN)
  (by rw[r9 K (d.size+1) d hN (by omega)];simp;unfold nd at ht;omega) (by rw[r9 K (d.size+1) d hN (by omega)];simp;unfold nd at hi;omega)
 rw[Zi v b K (d.size+1) d (fm_at hf hN) hf]at e;simp only[gj,neg,jH,fQ]at e;rw[XR];simp only[hK];have h1:D.list (to.map .int++(code v b (d.size+1) d).map fun _=>D.int (-1))=tD (to++bz (cx v b d)):=Zh to (cx v b d)
 rw[h1]at e;exact e
def nb (v:D) (b:Int) (d:D):List D:=cx v b d ++ [ii 0 15 1 0 0 0 0]
theorem CY (hv:v.toList.length≤maxLen) {d:D} {ins:List D} {to:List Int} {p:Int} (hf:fm d=true) (ht:to.length+6*nd d+10≤90000000) (hi:ins.length+6*nd d+10≤90000000):
 R9 [E,T,L,A, .int nx,v,fn, .int b, .int ex,d, .int p,tD to, .list ins]=some [tD (to++bz (nb v b d) ++ [p]), .list (ins++nb v b d ++ [jmp 1])]:=by
 have hl:=oy (v:=v) (b:=b) hf;have e:=hO (E:=E) (T:=T) (L:=L) (A:=A) (fn:=fn) (nx:=nx) (ex:=ex) (b:=b) hv hf (to:=to) (ins:=ins) (by omega) (by omega)
 have e2:=dp (E:=E) (T:=T) (L:=L) (A:=A) (fn:=fn) (nx:=nx) (ex:=ex) (v:=v) (b:=b) (l:=[ii 0 15 1 0 0 0 0]) (to:=to++bz (cx v b d)) (ins:=ins++cx v b d) (by simp) (by simp[bz];omega) (by simp;omega) (by intro x hx;simp at hx;subst hx;exact cu ..)
 have e3:=eM (E:=E) (T:=T) (L:=L) (A:=A) (fn:=fn) (nx:=nx) (ex:=ex) (v:=v) (b:=b) (cc:=1) (p:=p) (to:=to++bz (cx v b d)++bz [ii 0 15 1 0 0 0 0]) (ins:=ins++cx v b d ++ [ii 0 15 1 0 0 0 0]) (by simp[bz];omega) (by simp;omega)
 have hc:D.list [.agg [.int 0, .int 0, .int 15, .int 1, .int 0, .int 0, .int 0, .int 0, .int 0]] = .list [ii 0 15 1 0 0 0 0]:=rfl;rw[Fc,F225_eq,e,hc];simp only[aq,ax,bf,bt,aj,e2,e3];simp[nb,bz]
theorem CZ {to ins:D} {ls:tZ} {n:ByteArray} {p:Int} (h:lkS ls n=some p):XY [E,T,A,to,ins,v,fn, .int b, .int ex, .str n,lD ls, .int nx]=some [.int p,lD ls, .int nx]:=by
 rw[Fd,Pv,hasS,h,getS,h];simp[bI,aC]
theorem C0 {to ins:D} {ls:tZ} {n:ByteArray} {k:Nat} (h:lkS ls n=none) (hk:k≤1000000000):XY [E,T,A,to,ins,v,fn, .int b, .int ex, .str n,lD ls, .int (k:Int)]=some [.int ((k+1:Nat):Int),lD (ls ++ [(n,((k+1:Nat):Int))]), .int ((k+1:Nat):Int)]:=by
 rw[Fd,Pv,hasS,h,fi hk];simp only[aq,ax,bf,bt,aC,putS _ h,bI,Option.isSome_none,dk,aj]
end
end
end Go.Proofs.YtiojjmlccehpoaaGreat
namespace Go.Proofs.YtiojjmlccehpoaaGreat
open Go Go.AM
theorem fO (l:List Int):ae (tD l)=(l.length:Int):=by rw[aL];simp[tD,D.toList]
theorem get_tD {l:List Int} {i:Nat}:ay (tD l) (i:Int)=(l.map D.int).getD i .other:=by rw[bg];rfl
theorem FO (l:List Int) (e:Int):bG (tD l) (.list [.int e])=tD (l ++ [e]):=by unfold tD;rw[dA];simp
theorem As {l:List Int} {i:Nat} (h:i<l.length):aS (tD l) (i:Int)=true:=aZ (d:=tD l) (by simpa[tD,D.toList]using h)
theorem m8 {l:List Int} {i:Nat} (h:i<l.length):ah (ay (tD l) (i:Int))=l.getD i 0:=by
 rw[get_tD];simp[List.getD,h,aC]
section
variable {LB PL v fn:D} {b ex:Int}
end
end Go.Proofs.YtiojjmlccehpoaaGreat
namespace Go.Proofs.YtiojjmlccehpoaaGreat
open Go Go.AM
structure PS where
 A:D
 L:tZ
 nx:Nat
 to:List Int
 ins:List D
structure RS where
 L:tZ
 pl:List Int
 to:List Int
 ins:List D
def tr (φ:Nat->Nat) (p:Int):Int:=if p<0 then p else(φ p.toNat:Int)
structure Sim (φ:Nat->Nat) (f:Int->Int) (S:PS) (R:RS):Prop where
 at_:JY S.A f
 ins:R.ins=S.ins
 len:S.to.length=S.ins.length
 to:R.to=S.to.map (tr φ)
 rng:∀p∈S.to,p<0∨(1≤p∧p≤(S.nx:Int))
 lab:R.L=S.L.map fun x=>(x.1,(φ x.2.toNat:Int))
 lrng:∀x∈S.L,1≤x.2∧x.2≤(S.nx:Int)
 pl:∀p:Nat,1≤p->p≤S.nx->φ p<R.pl.length∧R.pl.getD (φ p) 0=f (p:Int)
 inj:∀p q:Nat,1≤p->p≤S.nx->1≤q->q≤S.nx->φ p=φ q->p=q
 new:∀p:Nat,S.nx<p->f (p:Int)=0
 fb:∀p,0≤f p∧f p≤(S.ins.length:Int)
structure Ext (φ:Nat->Nat) (S:PS) (R:RS) (φ':Nat->Nat) (S':PS) (R':RS):Prop where
 old:∀p,p≤S.nx->φ' p=φ p
 nx:S.nx≤S'.nx
 pl:R.pl.length≤R'.pl.length
 new:∀p,S.nx<p->p≤S'.nx->R.pl.length≤φ' p
 keep:∀m,m<R.pl.length->(∀p,1≤p->p≤S.nx->φ p≠m)->R'.pl.getD m 0=R.pl.getD m 0
theorem Ext.refl {φ S R}:Ext φ S R φ S R:=⟨fun _ _=>rfl,bj _,bj _,fun _ h h'=>by omega,fun _ _ _=>rfl⟩
theorem Ext.trans {φ S R φ' S' R' φ'' S'' R''} (a:Ext φ S R φ' S' R') (b:Ext φ' S' R' φ'' S'' R''):Ext φ S R φ'' S'' R'':=
 ⟨fun p h=>by rw[b.old p (by have:=a.nx;omega),a.old p h],by have:=a.nx;have:=b.nx;omega,by have:=a.pl;have:=b.pl;omega,fun p h h'=>by
  by_cases hp:p≤S'.nx
  ·rw[b.old p hp];exact a.new p h hp
  ·have:=b.new p (by omega) h';have:=a.pl;omega,fun m hm hn=>by
  rw[b.keep m (by have:=a.pl;omega) (fun p h1 h2=>by
   by_cases hp:p≤S.nx
   ·rw[a.old p hp];exact hn p h1 hp
   ·have:=a.new p (by omega) h2;omega),a.keep m hm hn]⟩
theorem J0 (l:List Int) (x:List Int) {m:Nat} (h:m<l.length):(l++x).getD m 0=l.getD m 0:=by simp[List.getD,List.getElem?_append,h]
theorem FP {φ:Nat->Nat} {p:Int} (h:p<0):tr φ p=p:=if_pos h
theorem At {φ:Nat->Nat} {p:Nat}:tr φ (p:Int)=(φ p:Int):=by unfold tr;rw[if_neg (by omega)];simp
theorem tr_negs {φ:Nat->Nat} (l:List D):(bz l).map (tr φ)=bz l:=by simp[bz,tr]
theorem Au (l:List D):(bz l).length=l.length:=by simp[bz]
theorem Zj {l:List D} {p:Int} (h:p∈bz l):p<0:=by simp[bz]at h;omega
theorem Sim.emit {φ f S R} (h:Sim φ f S R) (c:List D):Sim φ f {S with to:=S.to++bz c,ins:=S.ins++c} {R with to:=R.to++bz c,ins:=R.ins++c}:=
 {at_:=h.at_,ins:=by simp[h.ins],len:=by simp[h.len,Au],to:=by simp[h.to,tr_negs],
  rng:=fun p hp=>by
   rcases cV.1 hp with hp|hp
   ·exact h.rng p hp
   ·exact .inl (Zj hp)
  lab:=h.lab,lrng:=h.lrng,pl:=h.pl,inj:=h.inj,new:=h.new,fb:=fun p=>⟨(h.fb p).1,by have:=(h.fb p).2;simp;omega⟩}
theorem Sim.push {φ f S R} (h:Sim φ f S R) (i:D) {p:Nat} (h1:1≤p) (h2:p≤S.nx):Sim φ f {S with to:=S.to ++ [(p:Int)],ins:=S.ins ++ [i]} {R with to:=R.to ++ [(φ p:Int)],ins:=R.ins ++ [i]}:=
 {at_:=h.at_,ins:=by simp[h.ins],len:=by simp[h.len],to:=by simp[h.to,At],
  rng:=fun q hq=>by
   rcases cV.1 hq with hq|hq
   ·exact h.rng q hq
   ·simp at hq;subst hq;exact .inr ⟨by omega,by simpa using h2⟩
  lab:=h.lab,lrng:=h.lrng,pl:=h.pl,inj:=h.inj,new:=h.new,fb:=fun p=>⟨(h.fb p).1,by have:=(h.fb p).2;simp;omega⟩}
def upN (φ:Nat->Nat) (k m:Nat):Nat->Nat:=fun p=>if p=k then m else φ p
theorem Sim.fresh {φ f S R} (h:Sim φ f S R):Sim (upN φ (S.nx+1) R.pl.length) f {S with nx:=S.nx+1} {R with pl:=R.pl ++ [0]}∧Ext φ S R (upN φ (S.nx+1) R.pl.length) {S with nx:=S.nx+1} {R with pl:=R.pl ++ [0]}∧upN φ (S.nx+1) R.pl.length (S.nx+1)=R.pl.length:=by
 have ho:∀p,p≤S.nx->upN φ (S.nx+1) R.pl.length p=φ p:=fun p hp=>by unfold upN;rw[if_neg (by omega)]
 have hn:upN φ (S.nx+1) R.pl.length (S.nx+1)=R.pl.length:=by unfold upN;rw[if_pos rfl]
 refine⟨{at_:=h.at_,ins:=h.ins,len:=h.len,to:= ?_,rng:=fun p hp=> ?_,lab:= ?_,lrng:=fun x hx=> ?_,pl:=fun p h1 h2=> ?_,inj:=fun p q p1 p2 q1 q2 e=> ?_,new:=fun p hp=>h.new p (by simp at hp;omega),fb:=h.fb},⟨ho,by simp,by simp,fun p h1 h2=> ?_,fun m hm _=>J0 _ _ hm⟩,hn⟩
 ·simp only[h.to];refine lF fun p hp=> ?_
  rcases h.rng p hp with hp|⟨p1,p2⟩
  ·rw[FP hp,FP hp]
  ·obtain⟨k,rfl⟩:∃k:Nat,p=(k:Int):=⟨p.toNat,by omega⟩
   rw[At,At,ho k (by omega)]
 ·rcases h.rng p hp with hp|⟨p1,p2⟩
  ·exact .inl hp
  ·exact .inr ⟨p1,by simp;omega⟩
 ·simp only[h.lab];refine lF fun x hx=> ?_
  have:=h.lrng x hx;rw[ho x.2.toNat (by omega)]
 ·have:=h.lrng x hx;exact⟨this.1,by simp;omega⟩
 ·simp only at h2;by_cases hp:p=S.nx+1
  ·subst hp;rw[hn,h.new _ (by omega)]
   simp
  ·rw[ho p (by omega)]
   have:=h.pl p h1 (by omega)
   refine⟨by simp;omega,?_⟩
   rw[<- this.2];simp[List.getD,List.getElem?_append,this.1]
 ·simp only at p2 q2;by_cases hp:p=S.nx+1
  ·by_cases hq:q=S.nx+1
   ·omega
   ·subst hp;rw[hn,ho q (by omega)]at e
    have:=(h.pl q q1 (by omega)).1;omega
  ·by_cases hq:q=S.nx+1
   ·subst hq;rw[hn,ho p (by omega)]at e
    have:=(h.pl p p1 (by omega)).1;omega
   ·rw[ho p (by omega),ho q (by omega)]at e
    exact h.inj p q p1 (by omega) q1 (by omega) e
 ·simp only at h2;have:p=S.nx+1:=by omega
  subst this;rw[hn];exact bj _
theorem Sim.mark {φ f S R} (h:Sim φ f S R):Sim φ f S {R with pl:=R.pl ++ [0]}∧Ext φ S R φ S {R with pl:=R.pl ++ [0]}:=
 have hpl:∀p:Nat,1≤p->p≤S.nx->φ p<(R.pl ++ [0]).length∧(R.pl ++ [0]).getD (φ p) 0=f (p:Int):=fun p h1 h2=>by
  have:=h.pl p h1 h2;refine⟨by simp;omega,?_⟩
  rw[<- this.2];simp[List.getD,List.getElem?_append,this.1]
 ⟨{h with pl:=hpl},⟨fun _ _=>rfl,bj _,by simp,fun _ h h'=>by omega,fun m hm _=>J0 _ _ hm⟩⟩
theorem Sim.here {φ f S R} (h:Sim φ f S R) {p:Nat} (h1:1≤p) (h2:p≤S.nx):
 Sim φ (fun q=>if q=(p:Int)then(S.ins.length:Int)else f q) {S with A:=dN 106 S.A (.int (p:Int)) (.int (S.ins.length:Int))} {R with pl:=R.pl.set (φ p) (R.ins.length:Int)}:=
 {at_:=Zg h.at_ _ _,ins:=h.ins,len:=h.len,to:=h.to,rng:=h.rng,lab:=h.lab,lrng:=h.lrng,
  pl:=fun q q1 q2=>by
   have hq:=h.pl q q1 q2;refine⟨by simp[hq.1],?_⟩
   by_cases e:q=p
   ·subst e;rw[if_pos rfl, <- h.ins];simp[List.getD,hZ,hq.1]
   ·have:φ q≠φ p:=fun he=>e (h.inj q p q1 q2 h1 h2 he)
    rw[if_neg (by omega), <- hq.2]
    simp[List.getD,hZ,this.symm]
  inj:=h.inj,
  new:=fun q hq=>by
   rw[if_neg (by simp at hq;omega)];exact h.new q hq
  fb:=fun q=>by
   by_cases e:q=(p:Int)
   ·simp only[e,aX];omega
   ·simp only[e,aV];exact h.fb q}
theorem Zk {L:tZ} {n:ByteArray} {p:Int} (h:lkS L n=some p):∃x∈L,x.2=p:=by
 unfold lkS at h;cases hf:L.find? (fun p=>decide (p.1.data.toList=n.data.toList))with
 |none=>rw[hf]at h;cases h
 |some x=>rw[hf]at h;simp at h;exact⟨x,List.mem_of_find?_eq_some hf,h⟩
theorem Sim.addLab {φ f S R} (h:Sim φ f S R) (n:ByteArray) {p:Nat} (h1:1≤p) (h2:p≤S.nx):Sim φ f {S with L:=S.L ++ [(n,(p:Int))]} {R with L:=R.L ++ [(n,(φ p:Int))]}:=
 have hl:∀x∈S.L ++ [(n,(p:Int))],1≤x.2∧x.2≤(S.nx:Int):=fun x hx=>by
  rcases cV.1 hx with hx|hx
  ·exact h.lrng x hx
  ·simp at hx;subst hx;exact⟨by simp;omega,by simp;omega⟩
 {h with lab:=by simp[h.lab],lrng:=hl}
def Bud (S:PS) (R:RS) (ts:List Int) (c:Nat):Prop:=S.ins.length+c≤80000000∧S.nx+c≤80000000∧R.pl.length+c≤80000000∧S.L.length+c≤80000000∧ts.length+c≤80000000
structure Ctx (φ:Nat->Nat) (nx:Nat) (lp:Bool) (ts es:List Int) (ex:Nat) (top end_ ex':Int):Prop where
 t:lp=true->∃l p,ts=l ++ [((p:Nat):Int)]∧1≤p∧p≤nx∧top=(φ p:Int)
 e:lp=true->∃l p,es=l ++ [((p:Nat):Int)]∧1≤p∧p≤nx∧end_=(φ p:Int)
 x1:1≤ex
 x2:ex≤nx
 x:ex'=(φ ex:Int)
 len:es.length=ts.length
theorem Ctx.ext {φ S R φ' S' R' lp ts es ex top end_ ex'} (h:Ctx φ S.nx lp ts es ex top end_ ex') (x:Ext φ S R φ' S' R'):Ctx φ' S'.nx lp ts es ex top end_ ex':=
 ⟨fun hl=>by obtain⟨l,p,h1,h2,h3,h4⟩:=h.t hl;exact⟨l,p,h1,h2,by have:=x.nx;omega,by rw[x.old p h3];exact h4⟩,
  fun hl=>by obtain⟨l,p,h1,h2,h3,h4⟩:=h.e hl;exact⟨l,p,h1,h2,by have:=x.nx;omega,by rw[x.old p h3];exact h4⟩,
  h.x1,by have:=x.nx;have:=h.x2;omega,by rw[x.old ex h.x2];exact h.x,h.len⟩
def fv (v fn:D) (b:Int) (ex:Nat) (s:D) (es ts:List Int) (S:PS):List D:=[v,fn, .int b, .int (ex:Int),s,tD es,tD ts,lD S.L,S.A,tD S.to, .list S.ins, .int (S.nx:Int)]
def eh (es ts:List Int) (S:PS):List D:=[tD es,tD ts,tD S.to, .list S.ins,lD S.L,S.A, .int (S.nx:Int)]
def argR (v fn:D) (b ex':Int) (s:D) (top end_:Int) (R:RS):List D:=[v,fn, .int b, .int ex',s, .int top, .int end_,lD R.L,tD R.pl,tD R.to, .list R.ins]
def resR (R:RS):List D:=[lD R.L,tD R.pl,tD R.to, .list R.ins]
def qi (i:Nat) (es ts:List Int) (S:PS):List D:=[.int (i:Int),tD es,tD ts,tD S.to, .list S.ins,lD S.L,S.A, .int (S.nx:Int)]
end Go.Proofs.YtiojjmlccehpoaaGreat
namespace Go.Proofs.YtiojjmlccehpoaaGreat
open Go Go.AM
theorem Qa (l:List Int):dr (tD l) 0 (ae (tD l))=tD l:=by
 have h:(D.list (l.map .int)).toList=l.map .int:=rfl;rw[oI,fO];simp[tD,D.sub,h,eP]
theorem gC (l:List Int):dr (tD l) 0 (l.length:Int)=tD l:=by rw[<- fO,Qa]
set_option linter.defProp false in
def cm:=And.intro @aD<|And.intro @cJ<|And.intro @az<|And.intro @b9<|And.intro @bN<|And.intro @be<|And.intro @bl<|And.intro @aj.{1}<|And.intro @aI.{1}<|And.intro @aq<|And.intro @ax<|And.intro @aC<|And.intro (@bf D)<|And.intro (@bt D)<|And.intro @Qa @gC
def Both (Q Q':uAC) (v fn:D) (b:Int) (ex:Nat) (ex':Int) (s:D) (es ts:List Int) (top end_:Int) (φ:Nat->Nat) (S:PS) (R:RS) (c:Nat):Prop:=
 ∃φ' f' S' R',Q (fv v fn b ex s es ts S)=some (eh es ts S')∧Q' (argR v fn b ex' s top end_ R)=some (resR R')∧Sim φ' f' S' R'∧Ext φ S R φ' S' R'∧Bud S' R' ts c
theorem Ext.same {φ S R} {S':PS} {R':RS} (h:S'.nx=S.nx) (h':R'.pl=R.pl):Ext φ S R φ S' R':=
 ⟨fun _ _=>rfl,by omega,by rw[h'];exact bj _,fun _ h1 h2=>by omega,fun _ _ _=>by rw[h']⟩
theorem Zl (l:List Int) {m n:Nat} (x:Int) (h:n≠m):(l.set n x).getD m 0=l.getD m 0:=by simp[List.getD,hZ,h]
theorem Ext.here {φ S R} {S':PS} {R':RS} {p:Nat} {x:Int} (h:S'.nx=S.nx) (h1:1≤p) (h2:p≤S.nx) (h':R'.pl=R.pl.set (φ p) x):Ext φ S R φ S' R':=
 ⟨fun _ _=>rfl,by omega,by rw[h'];simp,fun _ h1 h2=>by omega,fun m _ hn=>by rw[h'];exact Zl _ _ (hn p h1 h2)⟩
theorem Both.code {Q Q' v fn b ex ex' s es ts top end_ φ f S R c} {k:Nat} (hs:Sim φ f S R) (l:List D) (hl:l.length≤k) (hb:Bud S R ts (k+c))
 (h1:Q (fv v fn b ex s es ts S)=some (eh es ts {S with to:=S.to++bz l,ins:=S.ins++l})) (h2:Q' (argR v fn b ex' s top end_ R)=some (resR {R with to:=R.to++bz l,ins:=R.ins++l})):Both Q Q' v fn b ex ex' s es ts top end_ φ S R c:=
 ⟨φ,f,_,_,h1,h2,hs.emit l,Ext.same rfl rfl,by unfold Bud at hb ⊢;simp;omega⟩
noncomputable def ndS (s:D):Nat:=((aa s 3).toList.map nd).sum
theorem J1 {s:D} (h:(aa s 3).toList.length=1):ndS s=nd (ay (aa s 3) 0):=by
 have e:=bg (d:=aa s 3) (i:=0);simp only[b8]at e;unfold ndS;rw[e]
 match hd:(aa s 3).toList,h with
 | [x],_=>simp
theorem ndS_2 {s:D} (h:(aa s 3).toList.length=2):ndS s=nd (ay (aa s 3) 0)+nd (ay (aa s 3) 1):=by
 have e:=bg (d:=aa s 3) (i:=0);have e':=bg (d:=aa s 3) (i:=1);simp only[b8,nI]at e e';unfold ndS;rw[e,e']
 match hd:(aa s 3).toList,h with
 | [x,y],_=>simp
theorem oz {s:D} (h:stB s=true) {i:Nat} (hi:i<(aa s 3).toList.length):fm (ay (aa s 3) (i:Int))=true:=by
 rw[bg,getD_lt hi];exact M7 h _ (b7 hi)
section
variable {Q Q':uAC} {v fn s:D} {b:Int} {ex:Nat} {ex' top end_:Int} {es ts:List Int} {φ:Nat->Nat} {f:Int->Int} {S:PS} {R:RS} {c:Nat} {lp:Bool}
set_option maxHeartbeats 4000000 in
set_option maxHeartbeats 4000000 in
set_option maxHeartbeats 4000000 in
set_option maxHeartbeats 4000000 in
set_option maxHeartbeats 4000000 in
set_option maxHeartbeats 4000000 in
set_option maxHeartbeats 4000000 in
set_option maxHeartbeats 4000000 in
set_option maxHeartbeats 4000000 in
set_option maxHeartbeats 4000000 in
set_option maxHeartbeats 4000000 in
set_option maxHeartbeats 4000000 in
set_option maxHeartbeats 4000000 in
end
end Go.Proofs.YtiojjmlccehpoaaGreat
