/-
  Plain laws: backend.check and the reference's: the same.
-/
import Derived.Test.YtiojjmlccehpoaaGreatM4
import Derived.Test.YtiojjmlccehpoaaGreatM3
set_option linter.unusedSimpArgs false
set_option linter.unusedVariables false
namespace Go.Proofs.YtiojjmlccehpoaaGreat
open Go Go.AM
theorem conf_reF {f:D} (h:Conf PG 38 f):D.agg [.str (aC (aa f 0)),aa f 1,aa f 2]=f:=by
 obtain⟨ds,rfl,hl⟩:=kL len38 h
 match ds,hl with
 | [a,b,c],_=>
   obtain⟨s,h0⟩:=AF (bq f38_0 h);obtain rfl:a = .str s:=h0;simp[ee,lE]
theorem U8 {l:List D} (h:∀s∈l,Conf PG 9 s):∀x∈lG l,Conf PG 65 x:=by
 intro x hx;obtain⟨s,hs,rfl⟩:=iv.1 hx;refine vS len65 rfl fun j hj=> ?_
 have hj':j=0∨j=1:=by omega
 rcases hj' with rfl|rfl
 ·exact⟨9,f65_0,KL (eF (h s hs))⟩
 ·exact⟨63,Rn,conf_zT⟩
theorem DR {f:D} {l:List D} (hf:Conf PG 38 f) (h:∀s∈l,Conf PG 9 s):∀x∈lH f l,x=f∨(Conf PG 38 x∧aa x 1 = .list []∧aa x 2 = .list []):=by
 intro x hx;simp only[lH,cU,nW]at hx;rcases hx with rfl|⟨s,hs,hx⟩
 ·exact .inl rfl
 ·split at hx
  ·cases hx
  ·simp only[cU,j6,f7]at hx;subst hx;refine .inr ⟨vS len38 rfl fun j hj=> ?_,by rw[ee];rfl,by rw[ee];rfl⟩
   have hj':j=0∨j=1∨j=2:=by omega
   rcases hj' with rfl|rfl|rfl
   ·exact⟨9,f38_0,KL (eF (h s hs))⟩
   ·exact⟨35,f38_1,iO s35 (by simp) (by simp)⟩
   ·exact⟨36,KG,iO s36 (by simp) (by simp)⟩
theorem Bk (f:D) (l:List D):(lH f l).length≤1+l.length:=by
 have:∀l:List D,(l.flatMap fun s=>if(aC s).data.toList=(aC (aa f 0)).data.toList then[]else[D.agg [.str (aC s), .list [], .list []]]).length≤l.length:=fun l=>by
  induction l with
  |nil=>simp
  |cons x l ih=>
   simp only[jZ,bN,ce];have:(if(aC x).data.toList=(aC (aa f 0)).data.toList then[]else[D.agg [.str (aC x), .list [], .list []]]).length≤1:=by split<;>simp
   omega
 simp only[lH,ce];have:=this l;omega
theorem fit_nil:Fit (.list []):=fun N hN=>by
 cases N with
 |zero=>omega
 |succ N=>exact⟨fun s hs=>by simp[tl]at hs,by simp[cnt,tl]⟩
theorem Lp {f v fn:D} (hf:Conf PG 38 f) (hv:Conf PG 26 v) (hn:Conf PG 26 fn) (hnl:fn.toList.length≤1000000):Conf PG 197 (eJ f v.toList fn.toList):=by
 refine vS len197 rfl fun j hj=> ?_
 have hj':j=0∨j=1∨j=2:=by omega
 rcases hj' with rfl|rfl|rfl
 ·exact⟨35,Oy,iO s35 (by unfold lG;rw[gY];exact(ca s26 hv).1) (U8 (ca s26 hv).2.2)⟩
 ·exact⟨67,f197_1,iO s67 (by simp) (by simp)⟩
 ·refine⟨195,f197_2,iO s195 (by have:=Bk f fn.toList;unfold maxLen;omega) fun x hx=> ?_⟩
  rcases DR hf (ca s26 hn).2.2 x hx with rfl|h
  ·exact hf
  ·exact h.1
theorem U9 {f fn vs:D} (hf:Conf PG 38 f) (hnl:fn.toList.length≤1000000):
 loW (Au [fn, .int (ac fn),vs,fn,f]) [.int 0, .list [f]]=some [.int 0, .list (lH f fn.toList)]∧loW (AA [fn,vs,f]) [.int 0, .list [f]]=some [.int 0, .list (lH f fn.toList)]:=by
 have ln:∀i,(lH f (fn.toList.take i)).length≤1000001:=fun i=>by have:=Bk f (fn.toList.take i);simp at this;omega
 have tk:∀i,i<fn.toList.length->lH f (fn.toList.take (i+1))=lH f (fn.toList.take i)++(if(aC (fn.toList.getD i .other)).data.toList=(aC (aa f 0)).data.toList then[]else[.agg [.str (aC (fn.toList.getD i .other)), .list [], .list []]]):=fun i hi=>by
  unfold lH;rw[gk (f:=fun s=>if(aC s).data.toList=(aC (aa f 0)).data.toList then[]else[D.agg [.str (aC s), .list [], .list []]]) hi]
  rfl
 have hc:∀a b:ByteArray,cD .neq a b = !decide (a.data.toList=b.data.toList):=fun a b=>by rw[AC];congr 1;rw[fx];simp only[fZ,cn]
 constructor
 ·obtain⟨g1,g2⟩:=(dj (A:=List D) (st:=Au [fn, .int (ac fn),vs,fn,f]) (n:=fn.toList.length) (enc:=fun i m=>[.int (i:Int), .list m])
   (f:=fun i m=>m++(if(aC (fn.toList.getD i .other)).data.toList=(aC (aa f 0)).data.toList then[]else[.agg [.str (aC (fn.toList.getD i .other)), .list [], .list []]])) (fin:=fun m=>[.int 0, .list m]) (I:=fun i m=>m=lH f (fn.toList.take i))
   (fun m _=>by rw[Di,aK];simp[ay]) (fun i m hi hI=>by
    refine⟨?_,by rw[tk i hi,hI]⟩
    have:=ln i;rw[Di,aK,aX hi,bl,cM,bF,aY (by rw[hI,bN,ce,cZ];omega) (by omega),bg (by omega),hc]
    simp only[ay,show(i:Int)<(fn.toList.length:Int)by omega,ba,ap]
    by_cases h:(aC (fn.toList.getD i .other)).data.toList=(aC (aa f 0)).data.toList
    ·simp only[h,ba,bS,aJ,be,fy]
    ·simp only[h,bi,df,ap,bb]) (a:=[f]) (by simp[lH]))
  rw[eW (aP _)]at g2;rw[g2]at g1;simp only[bV]at g1;exact g1
 ·obtain⟨g1,g2⟩:=(dj (A:=List D) (st:=AA [fn,vs,f]) (n:=fn.toList.length) (enc:=fun i m=>[.int (i:Int), .list m])
   (f:=fun i m=>m++(if(aC (fn.toList.getD i .other)).data.toList=(aC (aa f 0)).data.toList then[]else[.agg [.str (aC (fn.toList.getD i .other)), .list [], .list []]])) (fin:=fun m=>[.int 0, .list m]) (I:=fun i m=>m=lH f (fn.toList.take i))
   (fun m _=>by rw[Dm,aK];simp[ay]) (fun i m hi hI=>by
    refine⟨?_,by rw[tk i hi,hI]⟩
    have:=ln i;rw[Dm,aK,aX hi,bl,cM,bF,aY (by rw[hI,bN,ce,cZ];omega) (by omega),bg (by omega),hc]
    simp only[ay,show(i:Int)<(fn.toList.length:Int)by omega,ba,ap]
    by_cases h:(aC (fn.toList.getD i .other)).data.toList=(aC (aa f 0)).data.toList
    ·simp only[h,ba,bS,aJ,be,fy]
    ·simp only[h,bi,df,ap,bb]) (a:=[f]) (by simp[lH]))
  rw[eW (aP _)]at g2;rw[g2]at g1;simp only[bV]at g1;exact g1
noncomputable def GW (f v fn:D):Int:=
 if nV (eJ f v.toList fn.toList)=0 then gE (caB fn ((aa f 2).size+1) (aa f 2)) 0 else nV (eJ f v.toList fn.toList)
theorem check_eq {f v fn:D} (hf:Conf PG 38 f) (hv:Conf PG 26 v) (hn:Conf PG 26 fn) (hfit:Fit (aa f 2)) (hfv:(aa f 1).toList.length≤1000000) (hvl:v.toList.length≤1000000) (hnl:fn.toList.length≤100000):
 q47 [f,v,fn]=some [.int (GW f v fn)]∧q61 [f,v,fn]=some [.int (GW f v fn)]:=by
 obtain⟨a1,a2⟩:=vars_of hvl;have hre:=conf_reF hf;have hu:=Lp hf hv hn (by omega)
 have u0:aa (eJ f v.toList fn.toList) 0 = .list (lG v.toList):=by unfold eJ;rw[ee];rfl
 have u1:aa (eJ f v.toList fn.toList) 1 = .list []:=by unfold eJ;rw[ee];rfl
 have u2:aa (eJ f v.toList fn.toList) 2 = .list (lH f fn.toList):=by unfold eJ;rw[ee];rfl
 obtain⟨e1,e2⟩:=unit_eq hu (fun x hx=>by
  rw[u2,tl]at hx;rcases DR hf (ca s26 hn).2.2 x hx with rfl|⟨_,h1,h2⟩
  ·exact⟨hfit,hfv⟩
  ·rw[h1,h2];exact⟨fit_nil,by simp[tl]⟩) (by rw[u0,tl];unfold lG;rw[gY];exact hvl) (by rw[u1,tl];simp) (by rw[u2,tl];have:=Bk f fn.toList;omega)
 have hfm:fn.toList.length≤maxLen:=by unfold maxLen;omega
 have cb:Conf PG 36 (aa f 2):=by rw[bA];exact bq KG hf
 have hN1:(aa f 2).size<aW [fn,aa f 2, .int 0]:=cu (by simp)
 have hN2:(aa f 2).size<aW [aa f 2,fn]:=cu (by simp)
 have v1:=Oz hfm _ _ 0 cb hN1;have v2:=OA hfm _ _ cb hN2;rw[Rv fn _ ((aa f 2).size+1) _ cb hN1 (by omega)]at v1
 rw[Rv fn _ ((aa f 2).size+1) _ cb hN2 (by omega)]at v2
 obtain⟨l1,l2⟩:=U9 (vs:= .list (lG v.toList)) (fn:=fn) hf (by omega)
 constructor
 ·rw[ZD,F47_eq,a1,hre];simp only[Kc,aq,aw,aU,bI,l1,ap,bF,ce,cZ];have hu':D.agg [.list (lG v.toList), .list [], .list (lH f fn.toList)]=eJ f v.toList fn.toList:=rfl;rw[hu',e1,ZA];simp only[v1,aq,aw,aU,aF,ap,cp,aB];unfold GW;by_cases hz:nV (eJ f v.toList fn.toList)=0
  ·simp[hz]
  ·simp[hz]
 ·rw[ZN,F61_eq,a2,hre];simp only[Ki,aq,aw,aU,bI,l2,ap,bF,ce,cZ];have hu':D.agg [.list (lG v.toList), .list [], .list (lH f fn.toList)]=eJ f v.toList fn.toList:=rfl;rw[hu',e2,Q9];simp only[v2,aq,aw,aU,aF,aL,bO,ap,cp,aB,bR];unfold GW;by_cases hz:nV (eJ f v.toList fn.toList)=0
  ·cases caB fn ((aa f 2).size+1) (aa f 2)<;>simp[hz,gE]
  ·simp[hz]
end Go.Proofs.YtiojjmlccehpoaaGreat
namespace Go.Proofs.YtiojjmlccehpoaaGreat
noncomputable section
open Go Go.AM
theorem RZ (xs:List D) (j:Nat):aa (.agg xs) j=xs.getD j .other:=by rw[bA];rfl
def reb (x:D):D:= .agg [.int (ah (aa x 0)), .int (ah (aa x 1)), .int (ah (aa x 2)), .int (ah (aa x 3)), .int (ah (aa x 4)), .int (ah (aa x 5)), .int (ah (aa x 6)), .int (ah (aa x 7)), .int (ah (aa x 8))]
theorem GX (a0 a1 a2 a3 a4 a5 a6 a7 a8:Int):reb (.agg [.int a0, .int a1, .int a2, .int a3, .int a4, .int a5, .int a6, .int a7, .int a8]) = .agg [.int a0, .int a1, .int a2, .int a3, .int a4, .int a5, .int a6, .int a7, .int a8]:=by
 simp only[reb,RZ,aU,bI,aF]
def neg (l:List D):List D:=l.map fun _=> .int (-1)
theorem wc (a b:List D):neg (a++b)=neg a++neg b:=by simp[neg]
theorem GY (a:List D):(neg a).length=a.length:=by simp[neg]
theorem GZ {LB PL fn:D} {ex:Int} {v x:D} {b:Int} {t s:List D} (ht:t.length≤100000000) (hs:s.length≤100000000) (hr:reb x=x):q64 [LB,PL,v,fn, .int b, .int ex,x, .list t, .list s]=some [.list (t ++ [.int (-1)]), .list (s ++ [x])]:=by
 rw[q64_eq,F64_eq];simp only[cM,bF];have e:D.agg [.int (ah (aa x 0)), .int (ah (aa x 1)), .int (ah (aa x 2)), .int (ah (aa x 3)), .int (ah (aa x 4)), .int (ah (aa x 5)), .int (ah (aa x 6)), .int (ah (aa x 7)), .int (ah (aa x 8))]=x:=hr;rw[e,aY (by simp;omega) (by omega),aY (by simp;omega) (by omega)]
 rfl
theorem Pg {E T L A fn:D} {nx ex:Int} {v y:D} {b:Int} {l s:List D} (hl:l.length≤10) (hs:s.length≤200000000):Uo [E,T,L,A,y, .int nx,v,fn, .int b, .int ex, .list l, .list s]=some [.list (s++l)]:=by
 rw[Rc,F114_eq];simp only[cM,bF];rw[aY (by simp;omega) (by omega)]
 rfl
theorem Ph {E T L A fn:D} {nx ex:Int} {v y:D} {b:Int} {l s:List D} (hl:l.length≤10) (hs:s.length≤200000000):Kj [E,T,L,A,y, .int nx,v,fn, .int b, .int ex, .list l, .list s]=some [.list (s++l)]:=by
 rw[Rb,F115_eq];simp only[cM,bF];rw[aY (by simp;omega) (by omega)]
 rfl
theorem emitq {E T L A fn:D} {nx ex:Int} {v:D} {b:Int} {l t s:List D} (hl:l.length≤10) (ht:t.length≤100000000) (hs:s.length≤100000000) (hr:∀x∈l,reb x=x):q50 [E,T,L,A, .int nx,v,fn, .int b, .int ex, .list l, .list t, .list s]=some [.list (t++neg l), .list (s++l)]:=by
 have key:∀k i:Nat,i+k=l.length->loW (F5 [.list l, .int (ac (.list l)),E,T,L,A, .int nx,v,fn, .int b, .int ex]) [.int i, .list (t++neg (l.take i)), .list (s++l.take i)]=some [.int 0, .list (t++neg l), .list (s++l)]:=by
  intro k
  induction k with
  |zero=>
   intro i hi;rw[bn,Dn,bF,ay,eW (by omega)]
   simp only[show¬((i:Int)<l.length)by omega,bi,aJ]
  |succ k ih=>
   intro i hi;have hlt:i<l.length:=by omega
   have hlt':i<(D.list l).toList.length:=hlt;have hg:ax (.list l) (i:Int)=l[i]:=by rw[bl];simp[D.toList,List.getD,hlt];rfl
   have hx:=hr l[i] (b7 hlt);unfold reb at hx;have h1:(s++l.take i).length≤200000000:=by simp;omega
   have h2:(t++neg (l.take i)).length≤200000000:=by simp[neg];omega
   rw[bn,Dn,bF,ay,hg,hx,aX hlt']
   simp only[show((i:Int)<l.length)by omega,ba,ap,Pg (E:=E) (T:=T) (L:=L) (A:=A) (fn:=fn) (nx:=nx) (ex:=ex) (l:=[l[i]]) (s:=s++l.take i) (by simp) h1,aq,aw,aU,
    Ph (E:=E) (T:=T) (L:=L) (A:=A) (fn:=fn) (nx:=nx) (ex:=ex) (l:=[D.int (-1)]) (s:=t++neg (l.take i)) (by simp) h2]
   rw[bg (by omega)]
   have e1:s++l.take i ++ [l[i]]=s++l.take (i+1):=by rw[cy,we hlt];rfl
   have e2:t++neg (l.take i) ++ [D.int (-1)]=t++neg (l.take (i+1)):=by rw[cy,we hlt,wc];rfl
   rw[e1,e2];have:=ih (i+1) (by omega)
   rw[bF]at this;exact this
 have h0:=key l.length 0 (by omega)
 simp only[nY,neg,gZ,fy,bV]at h0;have e:Rd [.list l, .int (ac (.list l)),E,T,L,A, .int nx,v,fn, .int b, .int ex] [.int 0, .list t, .list s]=some [.int 0, .list (t++neg l), .list (s++l)]:=by rw[Kk];exact h0
 rw[ZT,F50_eq,e];simp only[aq,aw,aU,bI,ap]
def idx (v:D) (s:ByteArray):Int:=ah (ab (BU [v, .str s]) 0)
theorem m8 {v:D} (hv:v.toList.length≤maxLen) (s:ByteArray):BU [v, .str s]=some [.int (idx v s)]∧Ke [v, .str s]=some [.int (idx v s)]:=by
 obtain⟨j,h1,h2,_⟩:=vQ hv s;have:idx v s=j:=by unfold idx;rw[h1,aw,aU,aF]
 rw[this];exact⟨h1,h2⟩
def arO (o:Int):Int:=if o=3 then 6 else if o=4 then 7 else if o=5 then 11 else if o=6 then 8 else if o=7 then 9 else if o=8 then 10 else if o=9 then 12 else if o=10 then 13 else 14
def ccO (o:Int):Int:=if o=12 then 1 else if o=13 then 2 else if o=14 then 3 else 7
def ek (o:Int):List D:=if o≤11 then[.agg [.int 0, .int 0, .int (arO o), .int 0, .int 0, .int 0, .int 0, .int 1, .int 0]]else
 [.agg [.int 0, .int 0, .int 15, .int 0, .int 0, .int 0, .int 0, .int 1, .int 0], .agg [.int 0, .int 0, .int 25, .int 0, .int 0, .int (ccO o), .int 0, .int 0, .int 0]]
theorem ar_spec {o:Int} (h:3≤o∧o≤15):∃a,q103 [.int o]=some [.int a, .bool (decide (o≤11))]∧(o≤11->a=arO o):=by
 have h:o=3∨o=4∨o=5∨o=6∨o=7∨o=8∨o=9∨o=10∨o=11∨o=12∨o=13∨o=14∨o=15:=by omega
 rw[Re,F103_eq];refine⟨if o≤11 then arO o else 0,?_,fun h=>if_pos h⟩
 rcases h with rfl|rfl|rfl|rfl|rfl|rfl|rfl|rfl|rfl|rfl|rfl|rfl|rfl<;>simp[aB,arO]
theorem cc_spec {o:Int} (h:12≤o∧o≤15):q104 [.int o]=some [.int (ccO o)]:=by
 have h:o=12∨o=13∨o=14∨o=15:=by omega
 rw[Rf,F104_eq];rcases h with rfl|rfl|rfl|rfl<;>simp[aB,ccO]
theorem two_spec {LB PL fn:D} {ex:Int} {v:D} {b o:Int} {t s:List D} (h:3≤o∧o≤15) (ht:t.length≤99000000) (hs:s.length≤99000000):UQ [LB,PL,v,fn, .int b, .int ex, .int o, .list t, .list s]=some [.list (t++neg (ek o)), .list (s++ek o)]:=by
 have one:∀a:Int,q64 [LB,PL,v,fn, .int b, .int ex, .agg [.int 0, .int 0, .int a, .int 0, .int 0, .int 0, .int 0, .int 1, .int 0], .list t, .list s]=some [.list (t ++ [.int (-1)]), .list (s ++ [.agg [.int 0, .int 0, .int a, .int 0, .int 0, .int 0, .int 0, .int 1, .int 0]])]:=fun a=>GZ (by omega) (by omega) (GX ..)
 have two:∀(c:Int) (t s:List D),t.length≤100000000->s.length≤100000000->q64 [LB,PL,v,fn, .int b, .int ex, .agg [.int 0, .int 0, .int 25, .int 0, .int 0, .int c, .int 0, .int 0, .int 0], .list t, .list s]=some [.list (t ++ [.int (-1)]), .list (s ++ [.agg [.int 0, .int 0, .int 25, .int 0, .int 0, .int c, .int 0, .int 0, .int 0]])]:=fun c t s h1 h2=>GZ h1 h2 (GX ..)
 rw[RD];have hs':∀k:Nat,o=k->k<20->F108 [LB,PL,v,fn, .int b, .int ex, .int o, .list t, .list s]=mM m6 108 m7 1 k [LB,PL,v,fn, .int b, .int ex] [.int o, .list t, .list s]:=fun k hk hm=>Te k hk hm
 have h:o=3∨o=4∨o=5∨o=6∨o=7∨o=8∨o=9∨o=10∨o=11∨o=12∨o=13∨o=14∨o=15:=by omega
 rcases h with rfl|rfl|rfl|rfl|rfl|rfl|rfl|rfl|rfl|rfl|rfl|rfl|rfl
 ·rw[hs' 3 rfl (by omega)];erw [K108_3];rw[one];simp[aq,aw,ek,arO,neg]
 ·rw[hs' 4 rfl (by omega)];erw [K108_4];rw[one];simp[aq,aw,ek,arO,neg]
 ·rw[hs' 5 rfl (by omega)];erw [K108_5];rw[one];simp[aq,aw,ek,arO,neg]
 ·rw[hs' 6 rfl (by omega)];erw [K108_6];rw[one];simp[aq,aw,ek,arO,neg]
 ·rw[hs' 7 rfl (by omega)];erw [K108_7];rw[one];simp[aq,aw,ek,arO,neg]
 ·rw[hs' 8 rfl (by omega)];erw [K108_8];rw[one];simp[aq,aw,ek,arO,neg]
 ·rw[hs' 9 rfl (by omega)];erw [K108_9];rw[one];simp[aq,aw,ek,arO,neg]
 ·rw[hs' 10 rfl (by omega)];erw [K108_10];rw[one];simp[aq,aw,ek,arO,neg]
 ·rw[hs' 11 rfl (by omega)];erw [K108_11];rw[one];simp[aq,aw,ek,arO,neg]
 ·rw[hs' 12 rfl (by omega)];erw [K108_12];rw[one];simp only[aq,aw,aU,bI,ap];rw[two _ _ _ (by simp;omega) (by simp;omega)];simp[aq,aw,ek,ccO,neg]
 ·rw[hs' 13 rfl (by omega)];erw [K108_13];rw[one];simp only[aq,aw,aU,bI,ap];rw[two _ _ _ (by simp;omega) (by simp;omega)];simp[aq,aw,ek,ccO,neg]
 ·rw[hs' 14 rfl (by omega)];erw [K108_14];rw[one];simp only[aq,aw,aU,bI,ap];rw[two _ _ _ (by simp;omega) (by simp;omega)];simp[aq,aw,ek,ccO,neg]
 ·rw[hs' 15 rfl (by omega)];erw [K108_15];rw[one];simp only[aq,aw,aU,bI,ap];rw[two _ _ _ (by simp;omega) (by simp;omega)];simp[aq,aw,ek,ccO,neg]
def nodes:Nat->D->Nat
 |0,_=>0
 |N+1,d=>1+((opd d).map (nodes N)).sum
abbrev ii (imm op form width cc a b:Int):D:= .agg [.int 0, .int imm, .int op, .int form, .int width, .int cc, .int a, .int b, .int 0]
theorem bp (imm op form width cc a b:Int):reb (ii imm op form width cc a b)=ii imm op form width cc a b:=GX ..
def Lq (v:D) (b:Int) (d:D):Int:=aM .add .u32 b (aM .mul .u32 4 (fz .u32 (idx v (aC (d.fld 2)))))
def shf (d:D):Int:=fz .u32 (aM .sub .i64 32 (aM .mul .i64 8 (ah (d.fld 3))))
def unary (d:D):List D:=
 if ah (d.fld 0)=16 then[ii 0 15 1 0 0 0 0,ii 0 25 0 0 1 0 0]
 else if ah (d.fld 0)=17 then[ii 0 5 0 0 0 1 0,ii 0 5 1 0 0 0 0,ii 0 7 0 0 0 0 1]
 else if ah (d.fld 0)=18 then[ii 0 16 0 (ah (d.fld 3)) 0 0 0]
 else[ii (shf d) 12 1 0 0 0 0,ii (shf d) 14 1 0 0 0 0]
def code (v:D) (b:Int):Nat->D->List D
 |0,_=>[]
 |N+1,d=>
  if ah (d.fld 0)=1 then[ii (ah (d.fld 1)) 5 2 0 0 0 0]
  else if ah (d.fld 0)=2 then[ii (Lq v b d) 5 2 0 0 2 0,ii 0 16 0 4 0 0 2]
  else if ah (d.fld 0)≤15 then code v b N (ax (d.fld 4) 0) ++ [ii 0 3 0 0 0 0 0]++code v b N (ax (d.fld 4) 1) ++ [ii 0 5 0 0 0 1 0,ii 0 4 0 0 0 0 0]++ek (ah (d.fld 0))
  else code v b N (ax (d.fld 4) 0)++unary d
theorem lI {d:D} (h:head d=true):(ah (d.fld 0)=1∧(opd d).length=0)∨(ah (d.fld 0)=2∧(opd d).length=0)∨((3≤ah (d.fld 0)∧ah (d.fld 0)≤15)∧(opd d).length=2)∨
 ((ah (d.fld 0)=16∨ah (d.fld 0)=17∨ah (d.fld 0)=18∨ah (d.fld 0)=19)∧(opd d).length=1):=by
 have hz:ac (d.fld 4)=((opd d).length:Int):=by rw[aK];rfl
 unfold head Rm at h;rw[hz]at h;generalize ah (d.fld 0)=o at h ⊢;generalize (opd d).length=z at h ⊢
 repeat' split at h
 all_goals first|(cases h;done)|(simp only[bu,cn]at h;omega)
theorem gV {d:D} {i:Nat} (h:i<(opd d).length):aS (d.fld 4) (i:Int)=true∧ax (d.fld 4) (i:Int)∈opd d:=by
 have h':i<(d.fld 4).toList.length:=h;refine⟨aX h',?_⟩
 rw[bl,getD_lt h'];exact b7 h'
theorem sQ {N:Nat} {d:D} (h:(opd d).length=2):nodes (N+1) d=1+(nodes N (ax (d.fld 4) 0)+nodes N (ax (d.fld 4) 1)):=by
 have e0:=bl (d.fld 4) 0;have e1:=bl (d.fld 4) 1;simp only[bV,lZ]at e0 e1;unfold opd at h;simp only[nodes,opd,e0,e1]
 match hl:(d.fld 4).toList,h with
 | [x,y],_=>simp
theorem sR {N:Nat} {d:D} (h:(opd d).length=1):nodes (N+1) d=1+nodes N (ax (d.fld 4) 0):=by
 have e0:=bl (d.fld 4) 0;simp only[bV]at e0;unfold opd at h;simp only[nodes,opd,e0]
 match hl:(d.fld 4).toList,h with
 | [x],_=>simp
theorem tail_len (o:Int):(ek o).length≤2:=by unfold ek;split<;>simp
theorem Va (d:D):(unary d).length≤3:=by unfold unary;(repeat' split)<;>simp
theorem iP (v:D) (b:Int):∀(N:Nat) (d:D),fmd N d=true->(code v b N d).length≤6*nodes N d:=by
 intro N
 induction N with
 |zero=>intro d h;simp[code]
 |succ N ih=>
  intro d h;simp only[fmd,bu,bX]at h;rcases lI h.1 with⟨ho,hz⟩|⟨ho,hz⟩|⟨ho,hz⟩|⟨ho,hz⟩
  ·simp only[code,ho,be,nodes];simp;omega
  ·simp only[code,ho,be,nodes];simp;omega
  ·have a:=ih _ (h.2 _ (gV (i:=0) (by omega)).2)
   have b':=ih _ (h.2 _ (gV (i:=1) (by omega)).2)
   simp only[bV,lZ]at a b';have:=tail_len (ah (d.fld 0));rw[sQ hz];simp only[code,show¬ah (d.fld 0)=1 by omega,show¬ah (d.fld 0)=2 by omega,ho.2,be,bb,bN,ce,cZ]
   omega
  ·have a:=ih _ (h.2 _ (gV (i:=0) (by omega)).2)
   simp only[bV]at a;have:=Va d;rw[sR hz];simp only[code,show¬ah (d.fld 0)=1 by omega,show¬ah (d.fld 0)=2 by omega,show¬ah (d.fld 0)≤15 by omega,be,bb,bN]
   omega
theorem fld_ag (xs:List D) (j:Nat):(D.agg xs).fld j=xs.getD j .other:=by rw[<- bA,RZ]
theorem emc {E T L A fn:D} {nx ex:Int} {v:D} {b:Int} {t s c l:List D} (hl:l.length≤10) (ht:t.length+c.length≤100000000) (hs:s.length+c.length≤100000000) (hr:∀x∈l,reb x=x):
 q50 [E,T,L,A, .int nx,v,fn, .int b, .int ex, .list l, .list (t++neg c), .list (s++c)]=some [.list (t++neg (c++l)), .list (s++(c++l))]:=by
 rw[emitq hl (by simp[GY];omega) (by simp;omega) hr,cy,cy,wc]
theorem em1 {E T L A fn:D} {nx ex:Int} {v x:D} {b:Int} {t s c:List D} (ht:t.length+c.length≤100000000) (hs:s.length+c.length≤100000000) (hr:reb x=x):
 q50 [E,T,L,A, .int nx,v,fn, .int b, .int ex, .list [x], .list (t++neg c), .list (s++c)]=some [.list (t++neg (c ++ [x])), .list (s++(c ++ [x]))]:=emc (by simp) ht hs (by simp[hr])
theorem em2 {E T L A fn:D} {nx ex:Int} {v x y:D} {b:Int} {t s c:List D} (ht:t.length+c.length≤100000000) (hs:s.length+c.length≤100000000) (hr:reb x=x) (hr':reb y=y):
 q50 [E,T,L,A, .int nx,v,fn, .int b, .int ex, .list [x,y], .list (t++neg c), .list (s++c)]=some [.list (t++neg (c ++ [x,y])), .list (s++(c ++ [x,y]))]:=emc (by simp) ht hs (by simp[hr,hr'])
theorem em3 {E T L A fn:D} {nx ex:Int} {v x y z:D} {b:Int} {t s c:List D} (ht:t.length+c.length≤100000000) (hs:s.length+c.length≤100000000) (hr:reb x=x) (hr':reb y=y) (hr'':reb z=z):
 q50 [E,T,L,A, .int nx,v,fn, .int b, .int ex, .list [x,y,z], .list (t++neg c), .list (s++c)]=some [.list (t++neg (c ++ [x,y,z])), .list (s++(c ++ [x,y,z]))]:=emc (by simp) ht hs (by simp[hr,hr',hr''])
theorem adc {LB PL fn:D} {ex:Int} {v x:D} {b:Int} {t s c:List D} (ht:t.length+c.length≤100000000) (hs:s.length+c.length≤100000000) (hr:reb x=x):
 q64 [LB,PL,v,fn, .int b, .int ex,x, .list (t++neg c), .list (s++c)]=some [.list (t++neg (c ++ [x])), .list (s++(c ++ [x]))]:=by
 rw[GZ (by simp[GY];omega) (by simp;omega) hr,cy,cy,wc];rfl
theorem twc {LB PL fn:D} {ex:Int} {v:D} {b o:Int} {t s c:List D} (h:3≤o∧o≤15) (ht:t.length+c.length≤99000000) (hs:s.length+c.length≤99000000):
 UQ [LB,PL,v,fn, .int b, .int ex, .int o, .list (t++neg c), .list (s++c)]=some [.list (t++neg (c++ek o)), .list (s++(c++ek o))]:=by
 rw[two_spec h (by simp[GY];omega) (by simp;omega),cy,cy,wc]
set_option maxHeartbeats 1000000 in
theorem expr42 {E T L A fn:D} {nx ex:Int} {v:D} (hv:v.toList.length≤maxLen) (b:Int):∀(N:Nat) (d:D) (t s c:List D),fmd N d=true->t.length+c.length+6*nodes N d≤90000000->s.length+c.length+6*nodes N d≤90000000->
 F42 N [E,T,L,A, .int nx,v,fn, .int b, .int ex,d, .list (t++neg c), .list (s++c)]=some [.list (t++neg (c++code v b N d)), .list (s++(c++code v b N d))]:=by
 intro N
 induction N with
 |zero=>intro d t s c h;cases h
 |succ N ih=>
  intro d t s c h ht hs;simp only[fmd,bu,bX]at h;rw[F42_s,Fb42_eq];simp only[bA];rcases lI h.1 with⟨ho,hz⟩|⟨ho,hz⟩|⟨ho,hz⟩|⟨ho,hz⟩
  ·have e:=em1 (E:=E) (T:=T) (L:=L) (A:=A) (fn:=fn) (nx:=nx) (ex:=ex) (v:=v) (b:=b) (t:=t) (s:=s) (c:=c) (by omega) (by omega) (bp (ah (d.fld 1)) 5 2 0 0 0 0)
   simp only[code,ho,aB,ba,ap,be,e,aq,aw,aU,bI]
  ·have h51:q51 [E,T,L,A, .list (t++neg c), .list (s++c), .int nx,v,fn, .int b, .int ex, .str (aC (d.fld 2))]=some [ii (Lq v b d) 5 2 0 0 2 0]:=by
    rw[Oh,ZU,(m8 hv _).1];simp only[aq,aw,aU,aF,ap];rfl
   have e:=em2 (E:=E) (T:=T) (L:=L) (A:=A) (fn:=fn) (nx:=nx) (ex:=ex) (v:=v) (b:=b) (t:=t) (s:=s) (c:=c) (by omega) (by omega) (bp (Lq v b d) 5 2 0 0 2 0) (bp 0 16 0 4 0 0 2)
   simp only[code,ho,aB,show¬(2:Int)=1 by omega,ba,bi,ap,aJ,be,bb,h51,aq,aw,aU,bI,fld_ag,aF,e]
  ·obtain⟨i0,m0⟩:=gV (d:=d) (i:=0) (by omega)
   obtain⟨i1,m1⟩:=gV (d:=d) (i:=1) (by omega)
   simp only[bV,lZ]at i0 m0 i1 m1;have hn:=sQ (N:=N) hz;have l0:=iP v b N _ (h.2 _ m0);have l1:=iP v b N _ (h.2 _ m1);have e0:=ih (ax (d.fld 4) 0) t s c (h.2 _ m0) (by omega) (by omega)
   have ep:=em1 (E:=E) (T:=T) (L:=L) (A:=A) (fn:=fn) (nx:=nx) (ex:=ex) (v:=v) (b:=b) (t:=t) (s:=s) (c:=c++code v b N (ax (d.fld 4) 0)) (by simp;omega) (by simp;omega) (bp 0 3 0 0 0 0 0)
   have e1:=ih (ax (d.fld 4) 1) t s (c++code v b N (ax (d.fld 4) 0) ++ [ii 0 3 0 0 0 0 0]) (h.2 _ m1) (by simp;omega) (by simp;omega)
   have em:=em2 (E:=E) (T:=T) (L:=L) (A:=A) (fn:=fn) (nx:=nx) (ex:=ex) (v:=v) (b:=b) (t:=t) (s:=s) (c:=c++code v b N (ax (d.fld 4) 0) ++ [ii 0 3 0 0 0 0 0]++code v b N (ax (d.fld 4) 1)) (by simp;omega) (by simp;omega) (bp 0 5 0 0 0 1 0) (bp 0 4 0 0 0 0 0)
   obtain⟨a,ha,ha'⟩:=ar_spec ho;have hc:code v b (N+1) d=code v b N (ax (d.fld 4) 0) ++ [ii 0 3 0 0 0 0 0]++code v b N (ax (d.fld 4) 1) ++ [ii 0 5 0 0 0 1 0,ii 0 4 0 0 0 0 0]++ek (ah (d.fld 0)):=by
    simp only[code,show¬ah (d.fld 0)=1 by omega,show¬ah (d.fld 0)=2 by omega,ho.2,be,bb]
   rw[hc];generalize ah (d.fld 0)=o at *;have n1:¬o=1:=by omega
   have n2:¬o=2:=by omega
   have n16:¬o=16:=by omega
   have n17:¬o=17:=by omega
   have n18:¬o=18:=by omega
   have n19:¬o=19:=by omega
   by_cases h11:o≤11
   ·have et:=em1 (E:=E) (T:=T) (L:=L) (A:=A) (fn:=fn) (nx:=nx) (ex:=ex) (v:=v) (b:=b) (t:=t) (s:=s) (c:=c++code v b N (ax (d.fld 4) 0) ++ [ii 0 3 0 0 0 0 0]++code v b N (ax (d.fld 4) 1) ++ [ii 0 5 0 0 0 1 0,ii 0 4 0 0 0 0 0]) (by simp;omega) (by simp;omega) (bp 0 a 0 0 0 0 1)
    simp only[aB,n1,n2,n16,n17,n18,n19,i0,i1,bi,aJ,ap,e0,aq,aw,aU,bI,ep,e1,em,ha,aL,aF,h11,ba,et];simp only[ek,h11,be, <- ha' h11,cy]
   ·have et:=em2 (E:=E) (T:=T) (L:=L) (A:=A) (fn:=fn) (nx:=nx) (ex:=ex) (v:=v) (b:=b) (t:=t) (s:=s) (c:=c++code v b N (ax (d.fld 4) 0) ++ [ii 0 3 0 0 0 0 0]++code v b N (ax (d.fld 4) 1) ++ [ii 0 5 0 0 0 1 0,ii 0 4 0 0 0 0 0]) (by simp;omega) (by simp;omega) (bp 0 15 0 0 0 0 1) (bp 0 25 0 0 (ccO o) 0 0)
    simp only[aB,n1,n2,n16,n17,n18,n19,i0,i1,bi,aJ,ap,e0,aq,aw,aU,bI,ep,e1,em,ha,aL,aF,h11,cc_spec (show 12≤o∧o≤15 by omega),et]
    simp only[ek,h11,bb,cy]
  ·obtain⟨i0,m0⟩:=gV (d:=d) (i:=0) (by omega)
   simp only[bV]at i0 m0;have hn:=sR (N:=N) hz;have l0:=iP v b N _ (h.2 _ m0);have e0:=ih (ax (d.fld 4) 0) t s c (h.2 _ m0) (by omega) (by omega)
   have hc:code v b (N+1) d=code v b N (ax (d.fld 4) 0)++unary d:=by
    simp only[code,show¬ah (d.fld 0)=1 by omega,show¬ah (d.fld 0)=2 by omega,show¬ah (d.fld 0)≤15 by omega,be,bb]
   rw[hc];rcases ho with ho|ho|ho|ho
   ·have e:=em2 (E:=E) (T:=T) (L:=L) (A:=A) (fn:=fn) (nx:=nx) (ex:=ex) (v:=v) (b:=b) (t:=t) (s:=s) (c:=c++code v b N (ax (d.fld 4) 0)) (by simp;omega) (by simp;omega) (bp 0 15 1 0 0 0 0) (bp 0 25 0 0 1 0 0)
    have hu:unary d = [ii 0 15 1 0 0 0 0,ii 0 25 0 0 1 0 0]:=by simp[unary,ho]
    rw[hu];simp only[aB,ho,i0,bi,ba,aJ,ap,e0,aq,aw,aU,bI,e,show¬(16:Int)=1 by omega,show¬(16:Int)=2 by omega,cy]
   ·have e:=em3 (E:=E) (T:=T) (L:=L) (A:=A) (fn:=fn) (nx:=nx) (ex:=ex) (v:=v) (b:=b) (t:=t) (s:=s) (c:=c++code v b N (ax (d.fld 4) 0)) (by simp;omega) (by simp;omega) (bp 0 5 0 0 0 1 0) (bp 0 5 1 0 0 0 0) (bp 0 7 0 0 0 0 1)
    have hu:unary d = [ii 0 5 0 0 0 1 0,ii 0 5 1 0 0 0 0,ii 0 7 0 0 0 0 1]:=by simp[unary,ho]
    rw[hu];simp only[aB,ho,i0,bi,ba,aJ,ap,e0,aq,aw,aU,bI,e,show¬(17:Int)=1 by omega,show¬(17:Int)=2 by omega,show¬(17:Int)=16 by omega,cy]
   ·have e:=em1 (E:=E) (T:=T) (L:=L) (A:=A) (fn:=fn) (nx:=nx) (ex:=ex) (v:=v) (b:=b) (t:=t) (s:=s) (c:=c++code v b N (ax (d.fld 4) 0)) (by simp;omega) (by simp;omega) (bp 0 16 0 (ah (d.fld 3)) 0 0 0)
    have hu:unary d = [ii 0 16 0 (ah (d.fld 3)) 0 0 0]:=by simp[unary,ho]
    rw[hu];simp only[aB,ho,i0,bi,ba,aJ,ap,e0,aq,aw,aU,bI,e,show¬(18:Int)=1 by omega,show¬(18:Int)=2 by omega,show¬(18:Int)=16 by omega,show¬(18:Int)=17 by omega,cy]
   ·have e:=em2 (E:=E) (T:=T) (L:=L) (A:=A) (fn:=fn) (nx:=nx) (ex:=ex) (v:=v) (b:=b) (t:=t) (s:=s) (c:=c++code v b N (ax (d.fld 4) 0)) (by simp;omega) (by simp;omega) (bp (shf d) 12 1 0 0 0 0) (bp (shf d) 14 1 0 0 0 0)
    have hu:unary d = [ii (shf d) 12 1 0 0 0 0,ii (shf d) 14 1 0 0 0 0]:=by simp[unary,ho]
    rw[hu];have hsh:fz .u32 (aM .sub .i64 32 (aM .mul .i64 8 (ah (d.fld 3))))=shf d:=rfl;simp only[aB,ho,i0,bi,ba,aJ,ap,e0,aq,aw,aU,bI,hsh,e,show¬(19:Int)=1 by omega,show¬(19:Int)=2 by omega,show¬(19:Int)=16 by omega,show¬(19:Int)=17 by omega,show¬(19:Int)=18 by omega,cy]
theorem Pi {LB PL v fn X Y X' Y':D} {b ex op a n:Int} (h:q64 [LB,PL,v,fn, .int b, .int ex,ii n op 1 0 0 a 0,X,Y]=some [X',Y']):q65 [LB,PL,v,fn, .int b, .int ex, .int op, .int a, .int n,X,Y]=some [X',Y']:=by
 rw[q65_eq,F65_eq];have h':q64 [LB,PL,v,fn, .int b, .int ex, .agg [.int 0, .int n, .int op, .int 1, .int 0, .int 0, .int a, .int 0, .int 0],X,Y]=some [X',Y']:=h;simp only[h',aq,aw,aU,bI,ap]
set_option maxHeartbeats 1000000 in
theorem expr45 {LB PL fn:D} {ex:Int} {v:D} (hv:v.toList.length≤maxLen) (b:Int):∀(N:Nat) (d:D) (t s c:List D),fmd N d=true->t.length+c.length+6*nodes N d≤90000000->s.length+c.length+6*nodes N d≤90000000->
 F45 N [LB,PL,v,fn, .int b, .int ex,d, .list (t++neg c), .list (s++c)]=some [.list (t++neg (c++code v b N d)), .list (s++(c++code v b N d))]:=by
 intro N
 induction N with
 |zero=>intro d t s c h;cases h
 |succ N ih=>
  intro d t s c h ht hs;simp only[fmd,bu,bX]at h;rw[F45_s,Fb45_eq];simp only[bA];rcases lI h.1 with⟨ho,hz⟩|⟨ho,hz⟩|⟨ho,hz⟩|⟨ho,hz⟩
  ·have e:=adc (LB:=LB) (PL:=PL) (fn:=fn) (ex:=ex) (v:=v) (b:=b) (t:=t) (s:=s) (c:=c) (by omega) (by omega) (bp (ah (d.fld 1)) 5 2 0 0 0 0)
   simp only[code,ho,aB,ba,ap,be,e,aq,aw,aU,bI]
  ·have e:=adc (LB:=LB) (PL:=PL) (fn:=fn) (ex:=ex) (v:=v) (b:=b) (t:=t) (s:=s) (c:=c) (by omega) (by omega) (bp (Lq v b d) 5 2 0 0 2 0)
   have e':=adc (LB:=LB) (PL:=PL) (fn:=fn) (ex:=ex) (v:=v) (b:=b) (t:=t) (s:=s) (c:=c ++ [ii (Lq v b d) 5 2 0 0 2 0]) (by simp;omega) (by simp;omega) (bp 0 16 0 4 0 0 2)
   have h63:q63 [LB,PL,v,fn, .int b, .int ex, .str (aC (d.fld 2)), .list (t++neg c), .list (s++c)]=some [.list (t++neg (c ++ [ii (Lq v b d) 5 2 0 0 2 0])), .list (s++(c ++ [ii (Lq v b d) 5 2 0 0 2 0]))]:=by
    rw[Gp,OF,(m8 hv _).2];have ha:aM .add .u32 b (aM .mul .u32 4 (fz .u32 (idx v (aC (d.fld 2)))))=Lq v b d:=rfl;simp only[aq,aw,aU,bI,aF,ap,ha,e]
   simp only[code,ho,aB,show¬(2:Int)=1 by omega,ba,bi,ap,aJ,be,bb,h63,aq,aw,aU,bI,e',cy,fV,dY]
  ·obtain⟨i0,m0⟩:=gV (d:=d) (i:=0) (by omega)
   obtain⟨i1,m1⟩:=gV (d:=d) (i:=1) (by omega)
   simp only[bV,lZ]at i0 m0 i1 m1;have hn:=sQ (N:=N) hz;have l0:=iP v b N _ (h.2 _ m0);have l1:=iP v b N _ (h.2 _ m1);have e0:=ih (ax (d.fld 4) 0) t s c (h.2 _ m0) (by omega) (by omega)
   have ep:=adc (LB:=LB) (PL:=PL) (fn:=fn) (ex:=ex) (v:=v) (b:=b) (t:=t) (s:=s) (c:=c++code v b N (ax (d.fld 4) 0)) (by simp;omega) (by simp;omega) (bp 0 3 0 0 0 0 0)
   have e1:=ih (ax (d.fld 4) 1) t s (c++code v b N (ax (d.fld 4) 0) ++ [ii 0 3 0 0 0 0 0]) (h.2 _ m1) (by simp;omega) (by simp;omega)
   have em:=adc (LB:=LB) (PL:=PL) (fn:=fn) (ex:=ex) (v:=v) (b:=b) (t:=t) (s:=s) (c:=c++code v b N (ax (d.fld 4) 0) ++ [ii 0 3 0 0 0 0 0]++code v b N (ax (d.fld 4) 1)) (by simp;omega) (by simp;omega) (bp 0 5 0 0 0 1 0)
   have em':=adc (LB:=LB) (PL:=PL) (fn:=fn) (ex:=ex) (v:=v) (b:=b) (t:=t) (s:=s) (c:=c++code v b N (ax (d.fld 4) 0) ++ [ii 0 3 0 0 0 0 0]++code v b N (ax (d.fld 4) 1) ++ [ii 0 5 0 0 0 1 0]) (by simp;omega) (by simp;omega) (bp 0 4 0 0 0 0 0)
   have et:=twc (LB:=LB) (PL:=PL) (fn:=fn) (ex:=ex) (v:=v) (b:=b) (t:=t) (s:=s) (c:=c++code v b N (ax (d.fld 4) 0) ++ [ii 0 3 0 0 0 0 0]++code v b N (ax (d.fld 4) 1) ++ [ii 0 5 0 0 0 1 0] ++ [ii 0 4 0 0 0 0 0]) ho (by simp;omega) (by simp;omega)
   have hc:code v b (N+1) d=code v b N (ax (d.fld 4) 0) ++ [ii 0 3 0 0 0 0 0]++code v b N (ax (d.fld 4) 1) ++ [ii 0 5 0 0 0 1 0,ii 0 4 0 0 0 0 0]++ek (ah (d.fld 0)):=by
    simp only[code,show¬ah (d.fld 0)=1 by omega,show¬ah (d.fld 0)=2 by omega,ho.2,be,bb]
   rw[hc];generalize ah (d.fld 0)=o at *;have n1:¬o=1:=by omega
   have n2:¬o=2:=by omega
   have n16:¬o=16:=by omega
   have n17:¬o=17:=by omega
   have n18:¬o=18:=by omega
   have n19:¬o=19:=by omega
   simp only[aB,n1,n2,n16,n17,n18,n19,i0,i1,bi,aJ,ap,e0,aq,aw,aU,bI,ep,e1,em,em',et];simp only[cy,fV,dY]
  ·obtain⟨i0,m0⟩:=gV (d:=d) (i:=0) (by omega)
   simp only[bV]at i0 m0;have hn:=sR (N:=N) hz;have l0:=iP v b N _ (h.2 _ m0);have e0:=ih (ax (d.fld 4) 0) t s c (h.2 _ m0) (by omega) (by omega)
   have hc:code v b (N+1) d=code v b N (ax (d.fld 4) 0)++unary d:=by
    simp only[code,show¬ah (d.fld 0)=1 by omega,show¬ah (d.fld 0)=2 by omega,show¬ah (d.fld 0)≤15 by omega,be,bb]
   rw[hc]
   have ad:∀(l:List D) (x:D),l.length≤3->reb x=x->q64 [LB,PL,v,fn, .int b, .int ex,x, .list (t++neg (c++code v b N (ax (d.fld 4) 0)++l)), .list (s++(c++code v b N (ax (d.fld 4) 0)++l))]=some [.list (t++neg (c++code v b N (ax (d.fld 4) 0)++l ++ [x])), .list (s++(c++code v b N (ax (d.fld 4) 0)++l ++ [x]))]:=
    fun l x hl hr=>adc (by simp;omega) (by simp;omega) hr
   have ad0:∀(x:D),reb x=x->q64 [LB,PL,v,fn, .int b, .int ex,x, .list (t++neg (c++code v b N (ax (d.fld 4) 0))), .list (s++(c++code v b N (ax (d.fld 4) 0)))]=some [.list (t++neg (c++code v b N (ax (d.fld 4) 0) ++ [x])), .list (s++(c++code v b N (ax (d.fld 4) 0) ++ [x]))]:=
    fun x hr=>adc (by simp;omega) (by simp;omega) hr
   rcases ho with ho|ho|ho|ho
   ·have e:=ad0 _ (bp 0 15 1 0 0 0 0);have e':=ad [ii 0 15 1 0 0 0 0] _ (by simp) (bp 0 25 0 0 1 0 0)
    have hu:unary d = [ii 0 15 1 0 0 0 0,ii 0 25 0 0 1 0 0]:=by simp[unary,ho]
    rw[hu];have se:=Pi e;simp only[aB,ho,i0,bi,ba,aJ,ap,e0,aq,aw,aU,bI,se,e,e',show¬(16:Int)=1 by omega,show¬(16:Int)=2 by omega]
    simp only[cy,fV,dY]
   ·have e:=ad0 _ (bp 0 5 0 0 0 1 0);have e':=ad [ii 0 5 0 0 0 1 0] _ (by simp) (bp 0 5 1 0 0 0 0)
    have e'':=adc (LB:=LB) (PL:=PL) (fn:=fn) (ex:=ex) (v:=v) (b:=b) (t:=t) (s:=s) (c:=c++code v b N (ax (d.fld 4) 0) ++ [ii 0 5 0 0 0 1 0] ++ [ii 0 5 1 0 0 0 0]) (by simp;omega) (by simp;omega) (bp 0 7 0 0 0 0 1)
    have hu:unary d = [ii 0 5 0 0 0 1 0,ii 0 5 1 0 0 0 0,ii 0 7 0 0 0 0 1]:=by simp[unary,ho]
    rw[hu];have se:=Pi e';simp only[aB,ho,i0,bi,ba,aJ,ap,e0,aq,aw,aU,bI,se,e,e',e'',show¬(17:Int)=1 by omega,show¬(17:Int)=2 by omega,show¬(17:Int)=16 by omega]
    simp only[cy,fV,dY]
   ·have e:=ad0 _ (bp 0 16 0 (ah (d.fld 3)) 0 0 0);have hu:unary d = [ii 0 16 0 (ah (d.fld 3)) 0 0 0]:=by simp[unary,ho]
    rw[hu];simp only[aB,ho,i0,bi,ba,aJ,ap,e0,aq,aw,aU,bI,e,show¬(18:Int)=1 by omega,show¬(18:Int)=2 by omega,show¬(18:Int)=16 by omega,show¬(18:Int)=17 by omega]
    simp only[cy,fV,dY]
   ·have e:=ad0 _ (bp (shf d) 12 1 0 0 0 0);have e':=ad [ii (shf d) 12 1 0 0 0 0] _ (by simp) (bp (shf d) 14 1 0 0 0 0)
    have hu:unary d = [ii (shf d) 12 1 0 0 0 0,ii (shf d) 14 1 0 0 0 0]:=by simp[unary,ho]
    rw[hu];have se:=Pi e;have se':=Pi e';have hsh:fz .u32 (aM .sub .i64 32 (aM .mul .i64 8 (ah (d.fld 3))))=shf d:=rfl;simp only[aB,ho,i0,bi,ba,aJ,ap,e0,aq,aw,aU,bI,se,se',hsh,e,e',show¬(19:Int)=1 by omega,show¬(19:Int)=2 by omega,show¬(19:Int)=16 by omega,show¬(19:Int)=17 by omega,show¬(19:Int)=18 by omega]
    simp only[cy,fV,dY]
end
end Go.Proofs.YtiojjmlccehpoaaGreat
namespace Go.Proofs.YtiojjmlccehpoaaGreat
noncomputable section
open Go Go.AM
def mI (L:List (Int×Int)):D:= .list (L.map fun p=> .agg [.int p.1, .int p.2])
def lkI (L:List (Int×Int)) (o:Int):Option Int:=(L.find? fun p=>decide (p.1=o)).map (·.2)
theorem R0 (a:Int):kvD 106 (.int a) = .int .i64 a:=by kernel_rfl
theorem keyI (a b:Int):dc (.int .i64 a) (.int .i64 b)=decide (b=a):=by
 show(a==b)=decide (b=a)
 by_cases h:a=b
 ·subst h;simp
 ·rw[decide_eq_false fun e=>h e.symm];simpa using h
theorem findI (o:Int) (L:List (Int×Int)):nF 106 (.int o) (L.map fun p=>D.agg [.int p.1, .int p.2])=(lkI L o).map .int:=by
 induction L with
 |nil=>rfl
 |cons p L ih=>
  unfold nF lkI at ih ⊢;rw[bW,j7,j7];have h:dc (kvD 106 (.int o)) (kvD 106 ((D.agg [.int p.1, .int p.2]).fld 0))=decide (p.1=o):=by
   show dc (kvD 106 (.int o)) (kvD 106 (.int p.1))=_
   rw[R0,R0,keyI]
  rw[h];cases decide (p.1=o)with
  |true=>rfl
  |false=>exact ih
def Pj (L:List (Int×Int)) (o x:Int):List (Int×Int):=match L with
 | []=>[(o,x)]
 |p::r=>if p.1=o then(o,x)::r else p::Pj r o x
theorem putI_D (o x:Int):∀L:List (Int×Int),Bt 106 (.int o) (.int x) (L.map fun p=>D.agg [.int p.1, .int p.2])=(Pj L o x).map fun p=>D.agg [.int p.1, .int p.2]
 | []=>rfl
 |p::L=>by
  have hk:dc (kvD 106 (.int o)) (kvD 106 ((D.agg [.int p.1, .int p.2]).fld 0))=decide (p.1=o):=by
   show dc (kvD 106 (.int o)) (kvD 106 (.int p.1))=_
   rw[R0,R0,keyI]
  rw[bW,Bt,hk,Pj];by_cases h:p.1=o
  ·rw[decide_eq_true h,ap,if_pos h];rfl
  ·rw[decide_eq_false h,aJ,if_neg h,putI_D o x L];rfl
theorem lk_put (o x p:Int):∀L:List (Int×Int),lkI (Pj L o x) p=if p=o then some x else lkI L p
 | []=>by
   unfold Pj lkI;by_cases h:p=o
   ·subst h;simp
   ·rw[if_neg h];simp[List.find?,show¬o=p from fun e=>h e.symm]
 |q::L=>by
  have ih:=lk_put o x p L;unfold Pj;unfold lkI at ih ⊢;by_cases hq:q.1=o
  ·rw[if_pos hq,j7,j7];by_cases h:p=o
   ·subst h;simp
   ·rw[if_neg h];simp[show¬o=p from fun e=>h e.symm,show¬q.1=p from fun e=>h (by rw[<- e,hq])]
  ·rw[if_neg hq,j7,j7];by_cases hp:q.1=p
   ·rw[if_neg (fun e=>hq (by rw[hp,e]))];simp[hp]
   ·simp only[hp,bi];exact ih
def AtOk (A:D) (f:Int->Int):Prop:=∃L,A=mI L∧∀p,(lkI L p).getD 0=f p
theorem at_get {A:D} {f:Int->Int} (h:AtOk A f) (p:Int):lS 106 (.int 0) A (.int p) = .int (f p):=by
 obtain⟨L,rfl,hf⟩:=h;have:lS=wF:=am _;rw[this];unfold wF mI;simp only[D.toList];rw[findI, <- hf p];cases lkI L p<;>rfl
theorem at_put {A:D} {f:Int->Int} (h:AtOk A f) (p x:Int):AtOk (dB 106 A (.int p) (.int x)) (fun q=>if q=p then x else f q):=by
 obtain⟨L,rfl,hf⟩:=h;refine⟨Pj L p x,?_,fun q=> ?_⟩
 ·have:dB=fun kT m k v=> .list (Bt kT k v m.toList):=am _
  rw[this];unfold mI;simp only[D.toList];rw[putI_D]
 ·rw[lk_put];by_cases h:q=p
  ·simp[h]
  ·simp[h,hf]
abbrev nA:=List (ByteArray×Int)
def lD (L:nA):D:= .list (L.map fun p=> .agg [.str p.1, .int p.2])
def lkS (L:nA) (n:ByteArray):Option Int:=(L.find? fun p=>decide (p.1.data.toList=n.data.toList)).map (·.2)
theorem u9:PG.underlying 9=some .string:=by kernel_rfl
theorem kv9 (s:ByteArray):kvD 9 (.str s) = .string s:=by unfold kvD;rw[u9];rfl
theorem keyS (a b:ByteArray):dc (Value.string a) (Value.string b)=decide (b.data.toList=a.data.toList):=by
 show(a.data==b.data)=_
 rw[fx];simp only[fZ,cn];exact⟨fun e=>by rw[e],fun e=>Array.ext' e.symm⟩
theorem findS (n:ByteArray) (L:nA):nF 9 (.str n) (L.map fun p=>D.agg [.str p.1, .int p.2])=(lkS L n).map .int:=by
 induction L with
 |nil=>rfl
 |cons p L ih=>
  unfold nF lkS at ih ⊢;rw[bW,j7,j7];have h:dc (kvD 9 (.str n)) (kvD 9 ((D.agg [.str p.1, .int p.2]).fld 0))=decide (p.1.data.toList=n.data.toList):=by
   show dc (kvD 9 (.str n)) (kvD 9 (.str p.1))=_
   rw[kv9,kv9,keyS]
  rw[h];cases decide (p.1.data.toList=n.data.toList)with
  |true=>rfl
  |false=>exact ih
theorem hasS (L:nA) (n:ByteArray):te 9 (lD L) (.str n)=(lkS L n).isSome:=by
 have:te=G9:=am _;rw[this];unfold G9 lD;simp only[D.toList];rw[findS];cases lkS L n<;>rfl
theorem getS (L:nA) (n:ByteArray):lS 9 (.int 0) (lD L) (.str n) = .int ((lkS L n).getD 0):=by
 have:lS=wF:=am _;rw[this];unfold wF lD;simp only[D.toList];rw[findS];cases lkS L n<;>rfl
theorem Lr (n:ByteArray) (x:Int):∀L:nA,lkS L n=none->Bt 9 (.str n) (.int x) (L.map fun p=>D.agg [.str p.1, .int p.2])=(L ++ [(n,x)]).map fun p=>D.agg [.str p.1, .int p.2]
 | [],_=>rfl
 |p::L,h=>by
  have hk:dc (kvD 9 (.str n)) (kvD 9 ((D.agg [.str p.1, .int p.2]).fld 0))=decide (p.1.data.toList=n.data.toList):=by
   show dc (kvD 9 (.str n)) (kvD 9 (.str p.1))=_
   rw[kv9,kv9,keyS]
  unfold lkS at h;rw[j7]at h;cases hd:decide (p.1.data.toList=n.data.toList)with
  |true=>rw[hd]at h;simp at h
  |false=>
   rw[hd]at h;rw[bW,Bt,hk,hd,aJ,Lr n x L h];rfl
theorem putS {L:nA} {n:ByteArray} (x:Int) (h:lkS L n=none):dB 9 (lD L) (.str n) (.int x)=lD (L ++ [(n,x)]):=by
 have:dB=fun kT m k v=> .list (Bt kT k v m.toList):=am _
 rw[this];unfold lD;simp only[D.toList];rw[Lr n x L h]
def tD (l:List Int):D:= .list (l.map .int)
def aR (c:List D):List Int:=c.map fun _=> -1
theorem Pk (l:List Int) (c:List D):D.list (l.map .int++neg c)=tD (l++aR c):=by simp[tD,neg,aR]
def jmp (cc:Int):D:=ii 0 20 2 0 cc 0 0
section
variable {E T L A v fn:D} {nx b ex:Int}
theorem ft {to ins:D} {n:Nat} (h:n≤1000000000):q49 [E,T,L,A,to,ins,v,fn, .int b, .int ex, .int (n:Int)]=some [.int ((n+1:Nat):Int), .int ((n+1:Nat):Int)]:=by
 rw[Oi,F49_eq,bg (by omega)]
theorem fE {to:D} {ins:List D} {p:Int}:q57 [E,T,L,to, .list ins, .int nx,v,fn, .int b, .int ex, .int p,A]=some [dB 106 A (.int p) (.int (ins.length:Int))]:=by
 rw[Z1,F57_eq,bF]
theorem eR {cc p:Int} {to:List Int} {ins:List D} (ht:to.length≤90000000) (hi:ins.length≤90000000):
 AB [E,T,L,A, .int nx,v,fn, .int b, .int ex, .int cc, .int p,tD to, .list ins]=some [tD (to ++ [p]), .list (ins ++ [jmp cc])]:=by
 have e1:=Pg (E:=E) (T:=T) (L:=L) (A:=A) (fn:=fn) (nx:=nx) (ex:=ex) (v:=v) (b:=b) (y:=tD to) (l:=[jmp cc]) (s:=ins) (by simp) (by omega)
 have e2:=Ph (E:=E) (T:=T) (L:=L) (A:=A) (fn:=fn) (nx:=nx) (ex:=ex) (v:=v) (b:=b) (y:= .list (ins ++ [jmp cc])) (l:=[.int p]) (s:=to.map .int) (by simp) (by simp;omega)
 have hj:D.agg [.int 0, .int 0, .int 20, .int 2, .int 0, .int cc, .int 0, .int 0, .int 0]=jmp cc:=rfl;rw[Rh,F174_eq,hj,e1];have e2':Kj [E,T,L,A, .list (ins ++ [jmp cc]), .int nx,v,fn, .int b, .int ex, .list [.int p],tD to]=some [.list (to.map .int ++ [.int p])]:=e2;simp only[aq,aw,aU,ap,e2'];simp[tD]
theorem dy {l ins:List D} {to:List Int} (hl:l.length≤10) (ht:to.length≤90000000) (hi:ins.length≤90000000) (hr:∀x∈l,reb x=x):
 q50 [E,T,L,A, .int nx,v,fn, .int b, .int ex, .list l,tD to, .list ins]=some [tD (to++aR l), .list (ins++l)]:=by
 have:=emitq (E:=E) (T:=T) (L:=L) (A:=A) (fn:=fn) (nx:=nx) (ex:=ex) (v:=v) (b:=b) (l:=l) (t:=to.map .int) (s:=ins) hl (by simp;omega) (by omega) hr
 rw[Pk]at this;exact this
def adN (v:D) (b:Int) (n:ByteArray):Int:=aM .add .u32 b (aM .mul .u32 4 (fz .u32 (idx v n)))
theorem DS (hv:v.toList.length≤maxLen) {to ins:D} {n:ByteArray}:q51 [E,T,L,A,to,ins, .int nx,v,fn, .int b, .int ex, .str n]=some [ii (adN v b n) 5 2 0 0 2 0]:=by
 rw[Oh,ZU,(m8 hv _).1];simp only[aq,aw,aU,aF,ap];rfl
def iQ (v:D) (b:Int) (n:ByteArray):List D:=[ii (adN v b n) 5 2 0 0 2 0,ii 0 18 0 4 0 0 2]
theorem m9 (hv:v.toList.length≤maxLen) {n:ByteArray} {ins:List D} {to:List Int} (ht:to.length≤90000000) (hi:ins.length≤90000000):
 q59 [E,T,L,A, .int nx,v,fn, .int b, .int ex, .str n,tD to, .list ins]=some [tD (to++aR (iQ v b n)), .list (ins++iQ v b n)]:=by
 have e:=dy (E:=E) (T:=T) (L:=L) (A:=A) (fn:=fn) (nx:=nx) (ex:=ex) (v:=v) (b:=b) (l:=iQ v b n) (to:=to) (ins:=ins) (by simp[iQ]) ht hi (by
  intro x hx;simp only[iQ,cU,j6,f7]at hx;rcases hx with rfl|rfl<;>exact bp ..)
 have hre:D.agg [D.int (ah (aa (ii (adN v b n) 5 2 0 0 2 0) 0)),D.int (ah (aa (ii (adN v b n) 5 2 0 0 2 0) 1)),D.int (ah (aa (ii (adN v b n) 5 2 0 0 2 0) 2)),D.int (ah (aa (ii (adN v b n) 5 2 0 0 2 0) 3)),D.int (ah (aa (ii (adN v b n) 5 2 0 0 2 0) 4)),D.int (ah (aa (ii (adN v b n) 5 2 0 0 2 0) 5)),D.int (ah (aa (ii (adN v b n) 5 2 0 0 2 0) 6)),D.int (ah (aa (ii (adN v b n) 5 2 0 0 2 0) 7)),D.int (ah (aa (ii (adN v b n) 5 2 0 0 2 0) 8))]=ii (adN v b n) 5 2 0 0 2 0:=bp ..;rw[Z4,F59_eq,DS hv];simp only[aq,aw,aU,ap,hre];have hs:D.list [ii (adN v b n) 5 2 0 0 2 0,D.agg [.int 0, .int 0, .int 18, .int 0, .int 4, .int 0, .int 0, .int 2, .int 0]] = .list (iQ v b n):=rfl;rw[hs];simp only[e,aq,aw,aU,bI,ap]
theorem Ls (v:D) (b:Int):∀(N M:Nat) (d:D),fmd N d=true->fmd M d=true->code v b N d=code v b M d:=by
 intro N
 induction N with
 |zero=>intro M d h;cases h
 |succ N ih=>
  intro M d h1 h2;cases M with
  |zero=>cases h2
  |succ M=>
   simp only[fmd,bu,bX]at h1 h2;rcases lI h1.1 with⟨ho,hz⟩|⟨ho,hz⟩|⟨ho,hz⟩|⟨ho,hz⟩
   ·simp[code,ho]
   ·simp[code,ho]
   ·have m0:=(gV (d:=d) (i:=0) (by omega)).2
    have m1:=(gV (d:=d) (i:=1) (by omega)).2
    simp only[bV,lZ]at m0 m1;simp only[code,ih M _ (h1.2 _ m0) (h2.2 _ m0),ih M _ (h1.2 _ m1) (h2.2 _ m1)]
   ·have m0:=(gV (d:=d) (i:=0) (by omega)).2
    simp only[bV]at m0;simp only[code,show¬ah (d.fld 0)≤15 by omega,bb,ih M _ (h1.2 _ m0) (h2.2 _ m0)]
theorem kO:∀(N M:Nat) (d:D),d.size<N->d.size<M->nodes N d=nodes M d:=by
 intro N
 induction N with
 |zero=>intro M d h;omega
 |succ N ih=>
  intro M d h1 h2;cases M with
  |zero=>omega
  |succ M=>
   simp only[nodes]
   congr 2
   apply im;intro x hx;have:=mU hx;exact ih M x (by omega) (by omega)
def cx (v:D) (b:Int) (d:D):List D:=code v b (d.size+1) d
def nd (d:D):Nat:=nodes (d.size+1) d
theorem na {d:D} (h:fm d=true):(cx v b d).length≤6*nd d:=iP v b _ d h
theorem R9 {d:D} {N:Nat} (h:fm d=true) (hN:d.size<N):fmd N d=true:=by rw[<- h];exact Gb _ _ d hN (by omega)
theorem il (hv:v.toList.length≤maxLen) {d:D} {ins:List D} {to:List Int} (hf:fm d=true) (ht:to.length+6*nd d≤90000000) (hi:ins.length+6*nd d≤90000000):
 q42 [E,T,L,A, .int nx,v,fn, .int b, .int ex,d,tD to, .list ins]=some [tD (to++aR (cx v b d)), .list (ins++cx v b d)]:=by
 have hN:d.size<aW [E,T,L,A, .int nx,v,fn, .int b, .int ex,d,tD to, .list ins]:=cu (by simp)
 generalize hK:aW [E,T,L,A, .int nx,v,fn, .int b, .int ex,d,tD to, .list ins]=K at hN
 have e:=expr42 (E:=E) (T:=T) (L:=L) (A:=A) (fn:=fn) (nx:=nx) (ex:=ex) hv b K d (to.map .int) ins [] (R9 hf hN)
  (by rw[kO K (d.size+1) d hN (by omega)];simp;unfold nd at ht;omega) (by rw[kO K (d.size+1) d hN (by omega)];simp;unfold nd at hi;omega)
 rw[Ls v b K (d.size+1) d (R9 hf hN) hf]at e;simp only[dY,neg,gZ,fy]at e;rw[Z0];simp only[hK];have h1:D.list (to.map .int++(code v b (d.size+1) d).map fun _=>D.int (-1))=tD (to++aR (cx v b d)):=Pk to (cx v b d)
 rw[h1]at e;exact e
def oO (v:D) (b:Int) (d:D):List D:=cx v b d ++ [ii 0 15 1 0 0 0 0]
theorem DT (hv:v.toList.length≤maxLen) {d:D} {ins:List D} {to:List Int} {p:Int} (hf:fm d=true) (ht:to.length+6*nd d+10≤90000000) (hi:ins.length+6*nd d+10≤90000000):
 Up [E,T,L,A, .int nx,v,fn, .int b, .int ex,d, .int p,tD to, .list ins]=some [tD (to++aR (oO v b d) ++ [p]), .list (ins++oO v b d ++ [jmp 1])]:=by
 have hl:=na (v:=v) (b:=b) hf;have e:=il (E:=E) (T:=T) (L:=L) (A:=A) (fn:=fn) (nx:=nx) (ex:=ex) (b:=b) hv hf (to:=to) (ins:=ins) (by omega) (by omega)
 have e2:=dy (E:=E) (T:=T) (L:=L) (A:=A) (fn:=fn) (nx:=nx) (ex:=ex) (v:=v) (b:=b) (l:=[ii 0 15 1 0 0 0 0]) (to:=to++aR (cx v b d)) (ins:=ins++cx v b d) (by simp) (by simp[aR];omega) (by simp;omega) (by intro x hx;simp at hx;subst hx;exact bp ..)
 have e3:=eR (E:=E) (T:=T) (L:=L) (A:=A) (fn:=fn) (nx:=nx) (ex:=ex) (v:=v) (b:=b) (cc:=1) (p:=p) (to:=to++aR (cx v b d)++aR [ii 0 15 1 0 0 0 0]) (ins:=ins++cx v b d ++ [ii 0 15 1 0 0 0 0]) (by simp[aR];omega) (by simp;omega)
 have hc:D.list [.agg [.int 0, .int 0, .int 15, .int 1, .int 0, .int 0, .int 0, .int 0, .int 0]] = .list [ii 0 15 1 0 0 0 0]:=rfl;rw[F7,F225_eq,e,hc];simp only[aq,aw,aU,bI,ap,e2,e3];simp[oO,aR]
theorem DU {to ins:D} {ls:nA} {n:ByteArray} {p:Int} (h:lkS ls n=some p):Z7 [E,T,A,to,ins,v,fn, .int b, .int ex, .str n,lD ls, .int nx]=some [.int p,lD ls, .int nx]:=by
 rw[F8,Rj,hasS,h,getS,h];simp[bO,aF]
theorem DV {to ins:D} {ls:nA} {n:ByteArray} {k:Nat} (h:lkS ls n=none) (hk:k≤1000000000):Z7 [E,T,A,to,ins,v,fn, .int b, .int ex, .str n,lD ls, .int (k:Int)]=some [.int ((k+1:Nat):Int),lD (ls ++ [(n,((k+1:Nat):Int))]), .int ((k+1:Nat):Int)]:=by
 rw[F8,Rj,hasS,h,ft hk];simp only[aq,aw,aU,bI,aF,putS _ h,bO,Option.isSome_none,df,ap]
end
end
end Go.Proofs.YtiojjmlccehpoaaGreat
namespace Go.Proofs.YtiojjmlccehpoaaGreat
open Go Go.AM
theorem set_tD (l:List Int) (t:Nat) (e:Int):Bs (tD l) (t:Int) (.int e)=tD (l.set t e):=by
 rw[Py];simp[D.upd,tD,D.toList,List.map_set]
theorem dk (l:List Int):ac (tD l)=(l.length:Int):=by rw[aK];simp[tD,D.toList]
theorem get_tD {l:List Int} {i:Nat}:ax (tD l) (i:Int)=(l.map D.int).getD i .other:=by rw[bl];rfl
theorem nb (l:List Int) (e:Int):bt (tD l) (.list [.int e])=tD (l ++ [e]):=by unfold tD;rw[cM];simp
theorem jV {l:List Int} {i:Nat} (h:i<l.length):aS (tD l) (i:Int)=true:=aX (d:=tD l) (by simpa[tD,D.toList]using h)
theorem ib {l:List Int} {i:Nat} (h:i<l.length):ah (ax (tD l) (i:Int))=l.getD i 0:=by
 rw[get_tD];simp[List.getD,h,aF]
section
variable {LB PL v fn:D} {b ex:Int}
theorem gm {to l:D} {pl:List Int} (h:pl.length≤90000000):q62 [LB,to,l,v,fn, .int b, .int ex,tD pl]=some [.int (pl.length:Int),tD (pl ++ [0])]:=by
 rw[q62_eq,F62_eq,nb,dk];have:(pl ++ [0]).length=pl.length+1:=by simp
 rw[this,aY (by omega) (by omega),fQ (by omega) (by omega)]
 simp only[ap]
 congr 3
 omega
theorem dl {to:D} {ins:List D} {pl:List Int} {m:Nat} (h:m<pl.length):q67 [LB,to, .list ins,v,fn, .int b, .int ex, .int (m:Int),tD pl]=some [tD (pl.set m (ins.length:Int))]:=by
 rw[q67_eq,F67_eq,dk,jV h,bF,set_tD,dk];simp[cC,ay,aB,h]
theorem dG {cc m:Int} {to:List Int} {ins:List D} (ht:to.length≤90000000) (hi:ins.length≤90000000):
 qy [LB,PL,v,fn, .int b, .int ex, .int cc, .int m,tD to, .list ins]=some [tD (to ++ [m]), .list (ins ++ [jmp cc])]:=by
 have hj:D.agg [.int 0, .int 0, .int 20, .int 2, .int 0, .int cc, .int 0, .int 0, .int 0]=jmp cc:=rfl;rw[RB,F184_eq,hj,nb,cM,bF,dk,aY (by simp;omega) (by omega),aY (by simp;omega) (by omega)]
 rfl
theorem cN {x:D} {to:List Int} {ins:List D} (ht:to.length≤90000000) (hi:ins.length≤90000000) (hr:reb x=x):
 q64 [LB,PL,v,fn, .int b, .int ex,x,tD to, .list ins]=some [tD (to++aR [x]), .list (ins ++ [x])]:=by
 have:=GZ (LB:=LB) (PL:=PL) (fn:=fn) (ex:=ex) (v:=v) (b:=b) (x:=x) (t:=to.map .int) (s:=ins) (by simp;omega) (by omega) hr
 simpa[tD,aR]using this
theorem sS (hv:v.toList.length≤maxLen) {n:ByteArray} {ins:List D} {to:List Int} (ht:to.length≤80000000) (hi:ins.length≤80000000):
 q68 [LB,PL,v,fn, .int b, .int ex, .str n,tD to, .list ins]=some [tD (to++aR (iQ v b n)), .list (ins++iQ v b n)]:=by
 have e1:=cN (LB:=LB) (PL:=PL) (fn:=fn) (ex:=ex) (v:=v) (b:=b) (x:=ii (adN v b n) 5 2 0 0 2 0) (to:=to) (ins:=ins) (by omega) (by omega) (bp ..)
 have e2:=cN (LB:=LB) (PL:=PL) (fn:=fn) (ex:=ex) (v:=v) (b:=b) (x:=ii 0 18 0 4 0 0 2) (to:=to++aR [ii (adN v b n) 5 2 0 0 2 0]) (ins:=ins ++ [ii (adN v b n) 5 2 0 0 2 0]) (by simp[aR];omega) (by simp;omega) (bp ..)
 have e63:q63 [LB,PL,v,fn, .int b, .int ex, .str n,tD to, .list ins]=some [tD (to++aR [ii (adN v b n) 5 2 0 0 2 0]), .list (ins ++ [ii (adN v b n) 5 2 0 0 2 0])]:=by
  rw[Gp,OF,(m8 hv _).2];have ha:D.agg [.int 0, .int (aM .add .u32 b (aM .mul .u32 4 (fz .u32 (idx v n)))), .int 5, .int 2, .int 0, .int 0, .int 2, .int 0, .int 0]=ii (adN v b n) 5 2 0 0 2 0:=rfl;simp only[aq,aw,aU,bI,aF,ap,ha,e1]
 have hs:D.agg [.int 0, .int 0, .int 18, .int 0, .int 4, .int 0, .int 0, .int 2, .int 0]=ii 0 18 0 4 0 0 2:=rfl;rw[q68_eq,F68_eq,e63,hs];simp only[aq,aw,aU,bI,ap,e2];simp[iQ,aR]
theorem gn (hv:v.toList.length≤maxLen) {d:D} {ins:List D} {to:List Int} (hf:fm d=true) (ht:to.length+6*nd d≤90000000) (hi:ins.length+6*nd d≤90000000):
 q45 [LB,PL,v,fn, .int b, .int ex,d,tD to, .list ins]=some [tD (to++aR (cx v b d)), .list (ins++cx v b d)]:=by
 have hN:d.size<aW [LB,PL,v,fn, .int b, .int ex,d,tD to, .list ins]:=cu (by simp)
 generalize hK:aW [LB,PL,v,fn, .int b, .int ex,d,tD to, .list ins]=K at hN
 have e:=expr45 (LB:=LB) (PL:=PL) (fn:=fn) (ex:=ex) hv b K d (to.map .int) ins [] (R9 hf hN)
  (by rw[kO K (d.size+1) d hN (by omega)];simp;unfold nd at ht;omega) (by rw[kO K (d.size+1) d hN (by omega)];simp;unfold nd at hi;omega)
 rw[Ls v b K (d.size+1) d (R9 hf hN) hf]at e;simp only[dY,neg,gZ,fy]at e;rw[q45_eq];simp only[hK];have h1:D.list (to.map .int++(code v b (d.size+1) d).map fun _=>D.int (-1))=tD (to++aR (cx v b d)):=Pk to (cx v b d)
 rw[h1]at e;exact e
theorem Bl (hv:v.toList.length≤maxLen) {d:D} {ins:List D} {to:List Int} {p:Int} (hf:fm d=true) (ht:to.length+6*nd d+10≤90000000) (hi:ins.length+6*nd d+10≤90000000):
 q230 [LB,PL,v,fn, .int b, .int ex,d, .int p,tD to, .list ins]=some [tD (to++aR (oO v b d) ++ [p]), .list (ins++oO v b d ++ [jmp 1])]:=by
 have hl:=na (v:=v) (b:=b) hf;have e:=gn (LB:=LB) (PL:=PL) (fn:=fn) (ex:=ex) (b:=b) hv hf (to:=to) (ins:=ins) (by omega) (by omega)
 have e2:=Pi (cN (LB:=LB) (PL:=PL) (fn:=fn) (ex:=ex) (v:=v) (b:=b) (x:=ii 0 15 1 0 0 0 0) (to:=to++aR (cx v b d)) (ins:=ins++cx v b d) (by simp[aR];omega) (by simp;omega) (bp ..))
 have e3:=dG (LB:=LB) (PL:=PL) (fn:=fn) (ex:=ex) (v:=v) (b:=b) (cc:=1) (m:=p) (to:=to++aR (cx v b d)++aR [ii 0 15 1 0 0 0 0]) (ins:=ins++cx v b d ++ [ii 0 15 1 0 0 0 0]) (by simp[aR];omega) (by simp;omega)
 rw[RE,F230_eq,e];simp only[aq,aw,aU,bI,ap,e2,e3];simp[oO,aR]
theorem findL {to l:D} {ls:nA} {pl:D} {n:ByteArray} (hl:ls.length≤90000000):loW (qz [.str n,lD ls,pl,to,l,v,fn, .int b, .int ex]) [.int 0]=some (match lkS ls n with|some p=>[.int 1, .int p]|none=>[.int 0]):=by
 have key:∀k i:Nat,i+k=ls.length->loW (qz [.str n,lD ls,pl,to,l,v,fn, .int b, .int ex]) [.int (i:Int)]=some (match lkS (ls.drop i) n with|some p=>[.int 1, .int p]|none=>[.int 0]):=by
  intro k
  induction k with
  |zero=>
   intro i hi;rw[bn,AU,iU (by omega)]
   have:ac (lD ls)=(ls.length:Int):=by rw[aK];simp[lD,D.toList]
   rw[this];simp[ay,show¬((i:Int)<(ls.length:Int))by omega,lkS]
  |succ k ih=>
   intro i hi;have hlt:i<ls.length:=by omega
   have h1:ac (lD ls)=(ls.length:Int):=by rw[aK];simp[lD,D.toList]
   have h2:ax (lD ls) (i:Int) = .agg [.str ls[i].1, .int ls[i].2]:=by rw[bl];simp[lD,D.toList,List.getD,hlt]
   have h3:aS (lD ls) (i:Int)=true:=aX (d:=lD ls) (by simpa[lD,D.toList]using hlt)
   have f0:aa (.agg [.str ls[i].1, .int ls[i].2]) 0 = .str ls[i].1:=by rw[ee];rfl
   have f1:aa (.agg [.str ls[i].1, .int ls[i].2]) 1 = .int ls[i].2:=by rw[ee];rfl
   rw[bn,AU,h1,h2,h3,f0,f1,lE,aF,d9,iT hlt];simp only[ay,cC,show((i:Int)<(ls.length:Int))by omega,show(0:Int)≤(i:Int)by omega,ba,ap]
   have hb:(ls[i].1.data.toList==n.data.toList)=decide (ls[i].1.data.toList=n.data.toList):=by rw[fx];simp only[fZ,cn]
   rw[hb];unfold lkS;rw[j7];cases decide (ls[i].1.data.toList=n.data.toList)with
   |true=>simp
   |false=>
    simp only[aJ];rw[bg (by omega)]
    have:=ih (i+1) (by omega)
    unfold lkS at this;exact this
 have:=key ls.length 0 (by omega)
 simpa using this
theorem Bm {to l:D} {ls:nA} {n:ByteArray} {p:Int} (hl:ls.length≤90000000) (h:lkS ls n=some p):q185 [v,fn, .int b, .int ex, .str n,lD ls,PL,to,l]=some [.int p,lD ls,PL,to,l]:=by
 rw[Gq,RF,sJ];simp only[findL hl,h,aq,aw,aU,bI,aF,aB,ap];simp
theorem Bn {to l:D} {ls:nA} {n:ByteArray} {pl:List Int} (hl:ls.length≤80000000) (hp:pl.length≤90000000) (h:lkS ls n=none):q185 [v,fn, .int b, .int ex, .str n,lD ls,tD pl,to,l]=some [.int (pl.length:Int),lD (ls ++ [(n,(pl.length:Int))]),tD (pl ++ [0]),to,l]:=by
 rw[Gq,RF,sJ];have ha:bt (lD ls) (.list [.agg [.str n, .int (pl.length:Int)]])=lD (ls ++ [(n,(pl.length:Int))]):=by unfold lD;rw[cM];simp
 have hq:ac (lD (ls ++ [(n,(pl.length:Int))]))=((ls.length+1:Nat):Int):=by rw[aK];simp[lD,D.toList]
 simp only[findL (show ls.length≤90000000 by omega),h,aq,aw,aU,bI,aF,aB,ap,gm hp,ha,hq,aY (show ls.length+1≤1000000000 by omega) (show 24≤1000 by omega),ba]
end
end Go.Proofs.YtiojjmlccehpoaaGreat
namespace Go.Proofs.YtiojjmlccehpoaaGreat
open Go Go.AM
structure PS where
 A:D
 L:nA
 nx:Nat
 to:List Int
 ins:List D
structure RS where
 L:nA
 pl:List Int
 to:List Int
 ins:List D
def tr (φ:Nat->Nat) (p:Int):Int:=if p<0 then p else(φ p.toNat:Int)
structure Sim (φ:Nat->Nat) (f:Int->Int) (S:PS) (R:RS):Prop where
 at_:AtOk S.A f
 ins:R.ins=S.ins
 len:S.to.length=S.ins.length
 to:R.to=S.to.map (tr φ)
 rng:∀p∈S.to,p<0∨(1≤p∧p≤(S.nx:Int))
 lab:R.L=S.L.map fun x=>(x.1,(φ x.2.toNat:Int))
 lrng:∀x∈S.L,1≤x.2∧x.2≤(S.nx:Int)
 pl:∀p:Nat,1≤p->p≤S.nx->φ p<R.pl.length∧R.pl.getD (φ p) 0=f (p:Int)
 inj:∀p q:Nat,1≤p->p≤S.nx->1≤q->q≤S.nx->φ p=φ q->p=q
 new:∀p:Nat,S.nx<p->f (p:Int)=0
 fb:∀p,0≤f p∧f p≤(S.ins.length:Int)
structure Ext (φ:Nat->Nat) (S:PS) (R:RS) (φ':Nat->Nat) (S':PS) (R':RS):Prop where
 old:∀p,p≤S.nx->φ' p=φ p
 nx:S.nx≤S'.nx
 pl:R.pl.length≤R'.pl.length
 new:∀p,S.nx<p->p≤S'.nx->R.pl.length≤φ' p
 keep:∀m,m<R.pl.length->(∀p,1≤p->p≤S.nx->φ p≠m)->R'.pl.getD m 0=R.pl.getD m 0
theorem Ext.refl {φ S R}:Ext φ S R φ S R:=⟨fun _ _=>rfl,aP _,aP _,fun _ h h'=>by omega,fun _ _ _=>rfl⟩
theorem Ext.trans {φ S R φ' S' R' φ'' S'' R''} (a:Ext φ S R φ' S' R') (b:Ext φ' S' R' φ'' S'' R''):Ext φ S R φ'' S'' R'':=
 ⟨fun p h=>by rw[b.old p (by have:=a.nx;omega),a.old p h],by have:=a.nx;have:=b.nx;omega,by have:=a.pl;have:=b.pl;omega,fun p h h'=>by
  by_cases hp:p≤S'.nx
  ·rw[b.old p hp];exact a.new p h hp
  ·have:=b.new p (by omega) h';have:=a.pl;omega,fun m hm hn=>by
  rw[b.keep m (by have:=a.pl;omega) (fun p h1 h2=>by
   by_cases hp:p≤S.nx
   ·rw[a.old p hp];exact hn p h1 hp
   ·have:=a.new p (by omega) h2;omega),a.keep m hm hn]⟩
theorem Lt (l:List Int) (x:List Int) {m:Nat} (h:m<l.length):(l++x).getD m 0=l.getD m 0:=by simp[List.getD,List.getElem?_append,h]
theorem oP {φ:Nat->Nat} {p:Int} (h:p<0):tr φ p=p:=if_pos h
theorem oQ {φ:Nat->Nat} {p:Nat}:tr φ (p:Int)=(φ p:Int):=by unfold tr;rw[if_neg (by omega)];simp
theorem Sa {φ:Nat->Nat} (l:List D):(aR l).map (tr φ)=aR l:=by simp[aR,tr]
theorem Lu (l:List D):(aR l).length=l.length:=by simp[aR]
theorem Lv {l:List D} {p:Int} (h:p∈aR l):p<0:=by simp[aR]at h;omega
theorem Sim.emit {φ f S R} (h:Sim φ f S R) (c:List D):Sim φ f {S with to:=S.to++aR c,ins:=S.ins++c} {R with to:=R.to++aR c,ins:=R.ins++c}:=
 {at_:=h.at_,ins:=by simp[h.ins],len:=by simp[h.len,Lu],to:=by simp[h.to,Sa],
  rng:=fun p hp=>by
   rcases eS.1 hp with hp|hp
   ·exact h.rng p hp
   ·exact .inl (Lv hp)
  lab:=h.lab,lrng:=h.lrng,pl:=h.pl,inj:=h.inj,new:=h.new,fb:=fun p=>⟨(h.fb p).1,by have:=(h.fb p).2;simp;omega⟩}
theorem Sim.push {φ f S R} (h:Sim φ f S R) (i:D) {p:Nat} (h1:1≤p) (h2:p≤S.nx):Sim φ f {S with to:=S.to ++ [(p:Int)],ins:=S.ins ++ [i]} {R with to:=R.to ++ [(φ p:Int)],ins:=R.ins ++ [i]}:=
 {at_:=h.at_,ins:=by simp[h.ins],len:=by simp[h.len],to:=by simp[h.to,oQ],
  rng:=fun q hq=>by
   rcases eS.1 hq with hq|hq
   ·exact h.rng q hq
   ·simp at hq;subst hq;exact .inr ⟨by omega,by simpa using h2⟩
  lab:=h.lab,lrng:=h.lrng,pl:=h.pl,inj:=h.inj,new:=h.new,fb:=fun p=>⟨(h.fb p).1,by have:=(h.fb p).2;simp;omega⟩}
theorem Sim.pushN {φ f S R} (h:Sim φ f S R) (i:D) {p:Int} (h1:p<0):Sim φ f {S with to:=S.to ++ [p],ins:=S.ins ++ [i]} {R with to:=R.to ++ [p],ins:=R.ins ++ [i]}:=
 {at_:=h.at_,ins:=by simp[h.ins],len:=by simp[h.len],to:=by simp[h.to,oP h1],
  rng:=fun q hq=>by
   rcases eS.1 hq with hq|hq
   ·exact h.rng q hq
   ·simp at hq;subst hq;exact .inl h1
  lab:=h.lab,lrng:=h.lrng,pl:=h.pl,inj:=h.inj,new:=h.new,fb:=fun p=>⟨(h.fb p).1,by have:=(h.fb p).2;simp;omega⟩}
def upN (φ:Nat->Nat) (k m:Nat):Nat->Nat:=fun p=>if p=k then m else φ p
theorem Sim.fresh {φ f S R} (h:Sim φ f S R):Sim (upN φ (S.nx+1) R.pl.length) f {S with nx:=S.nx+1} {R with pl:=R.pl ++ [0]}∧Ext φ S R (upN φ (S.nx+1) R.pl.length) {S with nx:=S.nx+1} {R with pl:=R.pl ++ [0]}∧upN φ (S.nx+1) R.pl.length (S.nx+1)=R.pl.length:=by
 have ho:∀p,p≤S.nx->upN φ (S.nx+1) R.pl.length p=φ p:=fun p hp=>by unfold upN;rw[if_neg (by omega)]
 have hn:upN φ (S.nx+1) R.pl.length (S.nx+1)=R.pl.length:=by unfold upN;rw[if_pos rfl]
 refine⟨{at_:=h.at_,ins:=h.ins,len:=h.len,to:= ?_,rng:=fun p hp=> ?_,lab:= ?_,lrng:=fun x hx=> ?_,pl:=fun p h1 h2=> ?_,inj:=fun p q p1 p2 q1 q2 e=> ?_,new:=fun p hp=>h.new p (by simp at hp;omega),fb:=h.fb},⟨ho,by simp,by simp,fun p h1 h2=> ?_,fun m hm _=>Lt _ _ hm⟩,hn⟩
 ·simp only[h.to];refine im fun p hp=> ?_
  rcases h.rng p hp with hp|⟨p1,p2⟩
  ·rw[oP hp,oP hp]
  ·obtain⟨k,rfl⟩:∃k:Nat,p=(k:Int):=⟨p.toNat,by omega⟩
   rw[oQ,oQ,ho k (by omega)]
 ·rcases h.rng p hp with hp|⟨p1,p2⟩
  ·exact .inl hp
  ·exact .inr ⟨p1,by simp;omega⟩
 ·simp only[h.lab];refine im fun x hx=> ?_
  have:=h.lrng x hx;rw[ho x.2.toNat (by omega)]
 ·have:=h.lrng x hx;exact⟨this.1,by simp;omega⟩
 ·simp only at h2;by_cases hp:p=S.nx+1
  ·subst hp;rw[hn,h.new _ (by omega)]
   simp
  ·rw[ho p (by omega)]
   have:=h.pl p h1 (by omega)
   refine⟨by simp;omega,?_⟩
   rw[<- this.2];simp[List.getD,List.getElem?_append,this.1]
 ·simp only at p2 q2;by_cases hp:p=S.nx+1
  ·by_cases hq:q=S.nx+1
   ·omega
   ·subst hp;rw[hn,ho q (by omega)]at e
    have:=(h.pl q q1 (by omega)).1;omega
  ·by_cases hq:q=S.nx+1
   ·subst hq;rw[hn,ho p (by omega)]at e
    have:=(h.pl p p1 (by omega)).1;omega
   ·rw[ho p (by omega),ho q (by omega)]at e
    exact h.inj p q p1 (by omega) q1 (by omega) e
 ·simp only at h2;have:p=S.nx+1:=by omega
  subst this;rw[hn];exact aP _
theorem Sim.mark {φ f S R} (h:Sim φ f S R):Sim φ f S {R with pl:=R.pl ++ [0]}∧Ext φ S R φ S {R with pl:=R.pl ++ [0]}:=
 have hpl:∀p:Nat,1≤p->p≤S.nx->φ p<(R.pl ++ [0]).length∧(R.pl ++ [0]).getD (φ p) 0=f (p:Int):=fun p h1 h2=>by
  have:=h.pl p h1 h2;refine⟨by simp;omega,?_⟩
  rw[<- this.2];simp[List.getD,List.getElem?_append,this.1]
 ⟨{h with pl:=hpl},⟨fun _ _=>rfl,aP _,by simp,fun _ h h'=>by omega,fun m hm _=>Lt _ _ hm⟩⟩
theorem Sim.here {φ f S R} (h:Sim φ f S R) {p:Nat} (h1:1≤p) (h2:p≤S.nx):
 Sim φ (fun q=>if q=(p:Int)then(S.ins.length:Int)else f q) {S with A:=dB 106 S.A (.int (p:Int)) (.int (S.ins.length:Int))} {R with pl:=R.pl.set (φ p) (R.ins.length:Int)}:=
 {at_:=at_put h.at_ _ _,ins:=h.ins,len:=h.len,to:=h.to,rng:=h.rng,lab:=h.lab,lrng:=h.lrng,
  pl:=fun q q1 q2=>by
   have hq:=h.pl q q1 q2;refine⟨by simp[hq.1],?_⟩
   by_cases e:q=p
   ·subst e;rw[if_pos rfl, <- h.ins];simp[List.getD,gX,hq.1]
   ·have:φ q≠φ p:=fun he=>e (h.inj q p q1 q2 h1 h2 he)
    rw[if_neg (by omega), <- hq.2]
    simp[List.getD,gX,this.symm]
  inj:=h.inj,
  new:=fun q hq=>by
   rw[if_neg (by simp at hq;omega)];exact h.new q hq
  fb:=fun q=>by
   by_cases e:q=(p:Int)
   ·simp only[e,be];omega
   ·simp only[e,bb];exact h.fb q}
theorem Sim.mput {φ f S R} (h:Sim φ f S R) {m:Nat} (hm:∀p,1≤p->p≤S.nx->φ p≠m) (x:Int):Sim φ f S {R with pl:=R.pl.set m x}:=
 have hpl:∀p:Nat,1≤p->p≤S.nx->φ p<(R.pl.set m x).length∧(R.pl.set m x).getD (φ p) 0=f (p:Int):=fun q q1 q2=>by
  have hq:=h.pl q q1 q2;refine⟨by simp[hq.1],?_⟩
  rw[<- hq.2];simp[List.getD,gX,(hm q q1 q2).symm]
 {h with pl:=hpl}
theorem Bo (φ:Nat->Nat) (n:ByteArray):∀L:nA,lkS (L.map fun x=>(x.1,(φ x.2.toNat:Int))) n=(lkS L n).map fun p=>(φ p.toNat:Int)
 | []=>rfl
 |x::L=>by
  have ih:=Bo φ n L;unfold lkS at ih ⊢;rw[bW,j7,j7];simp only;cases decide (x.1.data.toList=n.data.toList)with
  |true=>rfl
  |false=>exact ih
theorem lk_mem {L:nA} {n:ByteArray} {p:Int} (h:lkS L n=some p):∃x∈L,x.2=p:=by
 unfold lkS at h;cases hf:L.find? (fun p=>decide (p.1.data.toList=n.data.toList))with
 |none=>rw[hf]at h;cases h
 |some x=>rw[hf]at h;simp at h;exact⟨x,List.mem_of_find?_eq_some hf,h⟩
theorem Sim.addLab {φ f S R} (h:Sim φ f S R) (n:ByteArray) {p:Nat} (h1:1≤p) (h2:p≤S.nx):Sim φ f {S with L:=S.L ++ [(n,(p:Int))]} {R with L:=R.L ++ [(n,(φ p:Int))]}:=
 have hl:∀x∈S.L ++ [(n,(p:Int))],1≤x.2∧x.2≤(S.nx:Int):=fun x hx=>by
  rcases eS.1 hx with hx|hx
  ·exact h.lrng x hx
  ·simp at hx;subst hx;exact⟨by simp;omega,by simp;omega⟩
 {h with lab:=by simp[h.lab],lrng:=hl}
def Bud (S:PS) (R:RS) (ts:List Int) (c:Nat):Prop:=S.ins.length+c≤80000000∧S.nx+c≤80000000∧R.pl.length+c≤80000000∧S.L.length+c≤80000000∧ts.length+c≤80000000
structure Ctx (φ:Nat->Nat) (nx:Nat) (lp:Bool) (ts es:List Int) (ex:Nat) (top end_ ex':Int):Prop where
 t:lp=true->∃l p,ts=l ++ [((p:Nat):Int)]∧1≤p∧p≤nx∧top=(φ p:Int)
 e:lp=true->∃l p,es=l ++ [((p:Nat):Int)]∧1≤p∧p≤nx∧end_=(φ p:Int)
 x1:1≤ex
 x2:ex≤nx
 x:ex'=(φ ex:Int)
 len:es.length=ts.length
theorem Ctx.ext {φ S R φ' S' R' lp ts es ex top end_ ex'} (h:Ctx φ S.nx lp ts es ex top end_ ex') (x:Ext φ S R φ' S' R'):Ctx φ' S'.nx lp ts es ex top end_ ex':=
 ⟨fun hl=>by obtain⟨l,p,h1,h2,h3,h4⟩:=h.t hl;exact⟨l,p,h1,h2,by have:=x.nx;omega,by rw[x.old p h3];exact h4⟩,
  fun hl=>by obtain⟨l,p,h1,h2,h3,h4⟩:=h.e hl;exact⟨l,p,h1,h2,by have:=x.nx;omega,by rw[x.old p h3];exact h4⟩,
  h.x1,by have:=x.nx;have:=h.x2;omega,by rw[x.old ex h.x2];exact h.x,h.len⟩
def fT (v fn:D) (b:Int) (ex:Nat) (s:D) (es ts:List Int) (S:PS):List D:=[v,fn, .int b, .int (ex:Int),s,tD es,tD ts,lD S.L,S.A,tD S.to, .list S.ins, .int (S.nx:Int)]
def eK (es ts:List Int) (S:PS):List D:=[tD es,tD ts,tD S.to, .list S.ins,lD S.L,S.A, .int (S.nx:Int)]
def fu (v fn:D) (b ex':Int) (s:D) (top end_:Int) (R:RS):List D:=[v,fn, .int b, .int ex',s, .int top, .int end_,lD R.L,tD R.pl,tD R.to, .list R.ins]
def ef (R:RS):List D:=[lD R.L,tD R.pl,tD R.to, .list R.ins]
def qH (i:Nat) (es ts:List Int) (S:PS):List D:=[.int (i:Int),tD es,tD ts,tD S.to, .list S.ins,lD S.L,S.A, .int (S.nx:Int)]
def qI (i:Nat) (R:RS):List D:=[.int (i:Int),lD R.L,tD R.pl,tD R.to, .list R.ins]
theorem Sb {v fn:D} {b:Int} {ex:Nat} {ex':Int} {l:D} {es ts:List Int} {top end_:Int} {lp:Bool} {stP stR:List D->Option (Sum (List D) (List D))} {cP cR:uAC} {cost:D->Nat}
 (hP:∀i S S',i<l.toList.length->cP (fT v fn b ex (l.toList.getD i .other) es ts S)=some (eK es ts S')->stP (qH i es ts S)=some (.inl (qH (i+1) es ts S')))
 (hP0:∀S,stP (qH l.toList.length es ts S)=some (.inr (.int 0::eK es ts S)))
 (hR:∀i R R',i<l.toList.length->cR (fu v fn b ex' (l.toList.getD i .other) top end_ R)=some (ef R')->stR (qI i R)=some (.inl (qI (i+1) R')))
 (hR0:∀R,stR (qI l.toList.length R)=some (.inr (.int 0::ef R)))
 (hs:∀s∈l.toList,∀φ f S R c,Sim φ f S R->Ctx φ S.nx lp ts es ex top end_ ex'->Bud S R ts (cost s+c)->∃φ' f' S' R',cP (fT v fn b ex s es ts S)=some (eK es ts S')∧cR (fu v fn b ex' s top end_ R)=some (ef R')∧Sim φ' f' S' R'∧Ext φ S R φ' S' R'∧Bud S' R' ts c):
 ∀(k i:Nat) φ f S R c,i+k=l.toList.length->Sim φ f S R->Ctx φ S.nx lp ts es ex top end_ ex'->Bud S R ts (((l.toList.drop i).map cost).sum+c)->∃φ' f' S' R',loW stP (qH i es ts S)=some (.int 0::eK es ts S')∧loW stR (qI i R)=some (.int 0::ef R')∧Sim φ' f' S' R'∧Ext φ S R φ' S' R'∧Bud S' R' ts c:=by
 intro k
 induction k with
 |zero=>
  intro i φ f S R c hi hsim hctx hb;obtain rfl:i=l.toList.length:=by omega
  rw[iU (aP _)]at hb;exact⟨φ,f,S,R,by rw[bn,hP0],by rw[bn,hR0],hsim,Ext.refl,by simpa using hb⟩
 |succ k ih=>
  intro i φ f S R c hi hsim hctx hb;have hlt:i<l.toList.length:=by omega
  rw[iT hlt,bW,fW,nD]at hb;have hm:l.toList.getD i .other=l.toList[i]:=getD_lt hlt;obtain⟨φ1,f1,S1,R1,p1,r1,s1,x1,b1⟩:=hs l.toList[i] (b7 hlt) φ f S R _ hsim hctx hb;rw[<- hm]at p1 r1;obtain⟨φ2,f2,S2,R2,p2,r2,s2,x2,b2⟩:=ih (i+1) φ1 f1 S1 R1 c (by omega) s1 (hctx.ext x1) b1
  refine⟨φ2,f2,S2,R2,?_,?_,s2,x1.trans x2,b2⟩
  ·rw[bn,hP i S S1 hlt p1];exact p2
  ·rw[bn,hR i R R1 hlt r1];exact r2
end Go.Proofs.YtiojjmlccehpoaaGreat
namespace Go.Proofs.YtiojjmlccehpoaaGreat
open Go Go.AM
theorem Sc (l:List Int):dA (tD l) 0 (ac (tD l))=tD l:=by
 have h:(D.list (l.map .int)).toList=l.map .int:=rfl;rw[o6,dk];simp[tD,D.sub,h,eW]
theorem gL (l:List Int):dA (tD l) 0 (l.length:Int)=tD l:=by rw[<- dk,Sc]
set_option linter.defProp false in
def cm:=And.intro @aB<|And.intro @cC<|And.intro @ay<|And.intro @ck<|And.intro @bR<|And.intro @ba<|And.intro @bi<|And.intro @ap.{1}<|And.intro @aJ.{1}<|And.intro @aq<|And.intro @aw<|And.intro @aF<|And.intro (@aU D)<|And.intro (@bI D)<|And.intro @Sc @gL
def Both (Q Q':uAC) (v fn:D) (b:Int) (ex:Nat) (ex':Int) (s:D) (es ts:List Int) (top end_:Int) (φ:Nat->Nat) (S:PS) (R:RS) (c:Nat):Prop:=
 ∃φ' f' S' R',Q (fT v fn b ex s es ts S)=some (eK es ts S')∧Q' (fu v fn b ex' s top end_ R)=some (ef R')∧Sim φ' f' S' R'∧Ext φ S R φ' S' R'∧Bud S' R' ts c
theorem Ext.same {φ S R} {S':PS} {R':RS} (h:S'.nx=S.nx) (h':R'.pl=R.pl):Ext φ S R φ S' R':=
 ⟨fun _ _=>rfl,by omega,by rw[h'];exact aP _,fun _ h1 h2=>by omega,fun _ _ _=>by rw[h']⟩
theorem fU (l:List Int) {m n:Nat} (x:Int) (h:n≠m):(l.set n x).getD m 0=l.getD m 0:=by simp[List.getD,gX,h]
theorem Ext.here {φ S R} {S':PS} {R':RS} {p:Nat} {x:Int} (h:S'.nx=S.nx) (h1:1≤p) (h2:p≤S.nx) (h':R'.pl=R.pl.set (φ p) x):Ext φ S R φ S' R':=
 ⟨fun _ _=>rfl,by omega,by rw[h'];simp,fun _ h1 h2=>by omega,fun m _ hn=>by rw[h'];exact fU _ _ (hn p h1 h2)⟩
theorem Both.code {Q Q' v fn b ex ex' s es ts top end_ φ f S R c} {k:Nat} (hs:Sim φ f S R) (l:List D) (hl:l.length≤k) (hb:Bud S R ts (k+c))
 (h1:Q (fT v fn b ex s es ts S)=some (eK es ts {S with to:=S.to++aR l,ins:=S.ins++l})) (h2:Q' (fu v fn b ex' s top end_ R)=some (ef {R with to:=R.to++aR l,ins:=R.ins++l})):Both Q Q' v fn b ex ex' s es ts top end_ φ S R c:=
 ⟨φ,f,_,_,h1,h2,hs.emit l,Ext.same rfl rfl,by unfold Bud at hb ⊢;simp;omega⟩
noncomputable def ndS (s:D):Nat:=((aa s 3).toList.map nd).sum
theorem Lw {s:D} (h:(aa s 3).toList.length=1):ndS s=nd (ax (aa s 3) 0):=by
 have e:=bl (d:=aa s 3) (i:=0);simp only[bV]at e;unfold ndS;rw[e]
 match hd:(aa s 3).toList,h with
 | [x],_=>simp
theorem ndS_2 {s:D} (h:(aa s 3).toList.length=2):ndS s=nd (ax (aa s 3) 0)+nd (ax (aa s 3) 1):=by
 have e:=bl (d:=aa s 3) (i:=0);have e':=bl (d:=aa s 3) (i:=1);simp only[bV,lZ]at e e';unfold ndS;rw[e,e']
 match hd:(aa s 3).toList,h with
 | [x,y],_=>simp
theorem oR {s:D} (h:stB s=true) {i:Nat} (hi:i<(aa s 3).toList.length):fm (ax (aa s 3) (i:Int))=true:=by
 rw[bl,getD_lt hi];exact Ow h _ (b7 hi)
theorem Sim.tolen {φ f S R} (h:Sim φ f S R):R.to.length=S.ins.length∧S.to.length=S.ins.length∧R.ins.length=S.ins.length∧R.L.length=S.L.length:=by
 refine⟨by rw[h.to];simp[h.len],h.len,by rw[h.ins],by rw[h.lab];simp⟩
section
variable {Q Q':uAC} {v fn s:D} {b:Int} {ex:Nat} {ex' top end_:Int} {es ts:List Int} {φ:Nat->Nat} {f:Int->Int} {S:PS} {R:RS} {c:Nat} {lp:Bool}
set_option maxHeartbeats 4000000 in
theorem s1 (hs:Sim φ f S R) (hv:v.toList.length≤maxLen) (hk:ah (aa s 0)=1) (hw:stB s=true) (h3:(aa s 3).toList.length=1) (hb:Bud S R ts (40+6*ndS s+c)):Both (eU Q) (eV Q') v fn b ex ex' s es ts top end_ φ S R c:=by
 have hf:fm (ax (aa s 3) 0)=true:=oR (i:=0) hw (by omega)
 rw[Lw h3]at hb;obtain⟨r1,r2,r3,r4⟩:=hs.tolen;unfold Bud at hb;have hl:=na (v:=v) (b:=b) hf;have hin:aS (aa s 3) 0=true:=aX (i:=0) (by omega)
 refine Both.code (k:=40+6*nd (ax (aa s 3) 0)) hs (cx v b (ax (aa s 3) 0)++iQ v b (aC (aa s 2))) (by simp[iQ];omega) (by unfold Bud;exact hb) ?_ ?_
 ·have e1:=il (E:=tD es) (T:=tD ts) (L:=lD S.L) (A:=S.A) (fn:=fn) (nx:=(S.nx:Int)) (ex:=(ex:Int)) (b:=b) hv hf (to:=S.to) (ins:=S.ins) (by omega) (by omega)
  have e2:=m9 (E:=tD es) (T:=tD ts) (L:=lD S.L) (A:=S.A) (fn:=fn) (nx:=(S.nx:Int)) (ex:=(ex:Int)) (b:=b) hv (n:=aC (aa s 2)) (to:=S.to++aR (cx v b (ax (aa s 3) 0))) (ins:=S.ins++cx v b (ax (aa s 3) 0)) (by simp[aR];omega) (by simp;omega)
  unfold fT eK;rw[cJ,hk];simp only[cm,hin,e1,e2];simp[aR]
 ·have e1:=gn (LB:=lD R.L) (PL:=tD R.pl) (fn:=fn) (ex:=ex') (b:=b) hv hf (to:=R.to) (ins:=R.ins) (by omega) (by omega)
  have e2:=sS (LB:=lD R.L) (PL:=tD R.pl) (fn:=fn) (ex:=ex') (b:=b) hv (n:=aC (aa s 2)) (to:=R.to++aR (cx v b (ax (aa s 3) 0))) (ins:=R.ins++cx v b (ax (aa s 3) 0)) (by simp[aR];omega) (by simp;omega)
  unfold fu ef;rw[cK,hk];simp only[cm,hin,e1,e2];simp[aR]
set_option maxHeartbeats 4000000 in
theorem s4 (hs:Sim φ f S R) (hv:v.toList.length≤maxLen) (hk:ah (aa s 0)=4) (hw:stB s=true) (h3:(aa s 3).toList.length=1) (hb:Bud S R ts (40+6*ndS s+c)):Both (eU Q) (eV Q') v fn b ex ex' s es ts top end_ φ S R c:=by
 have hf:fm (ax (aa s 3) 0)=true:=oR (i:=0) hw (by omega)
 rw[Lw h3]at hb;obtain⟨r1,r2,r3,r4⟩:=hs.tolen;unfold Bud at hb;have hl:=na (v:=v) (b:=b) hf;have hin:aS (aa s 3) 0=true:=aX (i:=0) (by omega)
 have ha:D.agg [.int 0, .int 0, .int 27, .int 0, .int 0, .int 0, .int 0, .int 0, .int 0]=ii 0 27 0 0 0 0 0:=rfl;refine Both.code (k:=40+6*nd (ax (aa s 3) 0)) hs (cx v b (ax (aa s 3) 0) ++ [ii 0 27 0 0 0 0 0]) (by simp;omega) (by unfold Bud;exact hb) ?_ ?_
 ·have e1:=il (E:=tD es) (T:=tD ts) (L:=lD S.L) (A:=S.A) (fn:=fn) (nx:=(S.nx:Int)) (ex:=(ex:Int)) (b:=b) hv hf (to:=S.to) (ins:=S.ins) (by omega) (by omega)
  have e2:=dy (E:=tD es) (T:=tD ts) (L:=lD S.L) (A:=S.A) (fn:=fn) (nx:=(S.nx:Int)) (ex:=(ex:Int)) (b:=b) (v:=v) (l:=[ii 0 27 0 0 0 0 0]) (to:=S.to++aR (cx v b (ax (aa s 3) 0))) (ins:=S.ins++cx v b (ax (aa s 3) 0)) (by simp) (by first|omega|(simp[aR];omega)) (by first|omega|(simp;omega)) (by intro x hx;simp only[cU,j6,f7]at hx;rcases hx with rfl<;>exact bp ..)
  unfold fT eK;rw[cJ,hk,ha];simp only[cm,Int.reduceEq,hin,e1,e2];simp[aR]
 ·have e1:=gn (LB:=lD R.L) (PL:=tD R.pl) (fn:=fn) (ex:=ex') (b:=b) hv hf (to:=R.to) (ins:=R.ins) (by omega) (by omega)
  have e2:=cN (LB:=lD R.L) (PL:=tD R.pl) (fn:=fn) (ex:=ex') (b:=b) (v:=v) (x:=ii 0 27 0 0 0 0 0) (to:=R.to++aR (cx v b (ax (aa s 3) 0))) (ins:=R.ins++cx v b (ax (aa s 3) 0)) (by first|omega|(simp[aR];omega)) (by first|omega|(simp;omega)) (bp ..)
  unfold fu ef;rw[cK,hk,ha];simp only[cm,Int.reduceEq,hin,e1,e2];simp[aR]
set_option maxHeartbeats 4000000 in
theorem s2 (hs:Sim φ f S R) (hv:v.toList.length≤maxLen) (hk:ah (aa s 0)=2) (hw:stB s=true) (h3:(aa s 3).toList.length=2) (hb:Bud S R ts (40+6*ndS s+c)):Both (eU Q) (eV Q') v fn b ex ex' s es ts top end_ φ S R c:=by
 have hf:fm (ax (aa s 3) 0)=true:=oR (i:=0) hw (by omega)
 have hf1:fm (ax (aa s 3) 1)=true:=oR (i:=1) hw (by omega)
 rw[ndS_2 h3]at hb;obtain⟨r1,r2,r3,r4⟩:=hs.tolen;unfold Bud at hb;have hl:=na (v:=v) (b:=b) hf;have hin:aS (aa s 3) 0=true:=aX (i:=0) (by omega)
 have hl1:=na (v:=v) (b:=b) hf1;have hin1:aS (aa s 3) 1=true:=aX (i:=1) (by omega)
 have ha:D.agg [.int 0, .int 0, .int 3, .int 0, .int 0, .int 0, .int 0, .int 0, .int 0]=ii 0 3 0 0 0 0 0:=rfl;have hb4:D.agg [.int 0, .int 0, .int 4, .int 0, .int 0, .int 0, .int 2, .int 0, .int 0]=ii 0 4 0 0 0 2 0:=rfl;have hc:D.agg [.int 0, .int 0, .int 18, .int 0, .int (ah (aa s 1)), .int 0, .int 0, .int 2, .int 0]=ii 0 18 0 (ah (aa s 1)) 0 0 2:=rfl;refine Both.code (k:=40+6*(nd (ax (aa s 3) 0)+nd (ax (aa s 3) 1))) hs (cx v b (ax (aa s 3) 0) ++ [ii 0 3 0 0 0 0 0]++cx v b (ax (aa s 3) 1) ++ [ii 0 4 0 0 0 2 0,ii 0 18 0 (ah (aa s 1)) 0 0 2]) (by simp;omega) (by unfold Bud;exact hb) ?_ ?_
 ·have e1:=il (E:=tD es) (T:=tD ts) (L:=lD S.L) (A:=S.A) (fn:=fn) (nx:=(S.nx:Int)) (ex:=(ex:Int)) (b:=b) hv hf (to:=S.to) (ins:=S.ins) (by omega) (by omega)
  have e2:=dy (E:=tD es) (T:=tD ts) (L:=lD S.L) (A:=S.A) (fn:=fn) (nx:=(S.nx:Int)) (ex:=(ex:Int)) (b:=b) (v:=v) (l:=[ii 0 3 0 0 0 0 0]) (to:=S.to++aR (cx v b (ax (aa s 3) 0))) (ins:=S.ins++cx v b (ax (aa s 3) 0)) (by simp) (by first|omega|(simp[aR];omega)) (by first|omega|(simp;omega)) (by intro x hx;simp only[cU,j6,f7]at hx;rcases hx with rfl<;>exact bp ..)
  have e3:=il (E:=tD es) (T:=tD ts) (L:=lD S.L) (A:=S.A) (fn:=fn) (nx:=(S.nx:Int)) (ex:=(ex:Int)) (b:=b) hv hf1 (to:=S.to++aR (cx v b (ax (aa s 3) 0))++aR [ii 0 3 0 0 0 0 0]) (ins:=S.ins++cx v b (ax (aa s 3) 0) ++ [ii 0 3 0 0 0 0 0]) (by simp[aR];omega) (by simp;omega)
  have e4:=dy (E:=tD es) (T:=tD ts) (L:=lD S.L) (A:=S.A) (fn:=fn) (nx:=(S.nx:Int)) (ex:=(ex:Int)) (b:=b) (v:=v) (l:=[ii 0 4 0 0 0 2 0,ii 0 18 0 (ah (aa s 1)) 0 0 2]) (to:=S.to++aR (cx v b (ax (aa s 3) 0))++aR [ii 0 3 0 0 0 0 0]++aR (cx v b (ax (aa s 3) 1))) (ins:=S.ins++cx v b (ax (aa s 3) 0) ++ [ii 0 3 0 0 0 0 0]++cx v b (ax (aa s 3) 1)) (by simp) (by first|omega|(simp[aR];omega)) (by first|omega|(simp;omega)) (by intro x hx;simp only[cU,j6,f7]at hx;rcases hx with rfl|rfl<;>exact bp ..)
  unfold fT eK;rw[cJ,hk,ha,hb4,hc];simp only[cm,Int.reduceEq,hin,hin1,e1,e2,e3,e4];simp[aR]
 ·have e1:=gn (LB:=lD R.L) (PL:=tD R.pl) (fn:=fn) (ex:=ex') (b:=b) hv hf (to:=R.to) (ins:=R.ins) (by omega) (by omega)
  have e2:=cN (LB:=lD R.L) (PL:=tD R.pl) (fn:=fn) (ex:=ex') (b:=b) (v:=v) (x:=ii 0 3 0 0 0 0 0) (to:=R.to++aR (cx v b (ax (aa s 3) 0))) (ins:=R.ins++cx v b (ax (aa s 3) 0)) (by first|omega|(simp[aR];omega)) (by first|omega|(simp;omega)) (bp ..)
  have e3:=gn (LB:=lD R.L) (PL:=tD R.pl) (fn:=fn) (ex:=ex') (b:=b) hv hf1 (to:=R.to++aR (cx v b (ax (aa s 3) 0))++aR [ii 0 3 0 0 0 0 0]) (ins:=R.ins++cx v b (ax (aa s 3) 0) ++ [ii 0 3 0 0 0 0 0]) (by simp[aR];omega) (by simp;omega)
  have e4:=cN (LB:=lD R.L) (PL:=tD R.pl) (fn:=fn) (ex:=ex') (b:=b) (v:=v) (x:=ii 0 4 0 0 0 2 0) (to:=R.to++aR (cx v b (ax (aa s 3) 0))++aR [ii 0 3 0 0 0 0 0]++aR (cx v b (ax (aa s 3) 1))) (ins:=R.ins++cx v b (ax (aa s 3) 0) ++ [ii 0 3 0 0 0 0 0]++cx v b (ax (aa s 3) 1)) (by first|omega|(simp[aR];omega)) (by first|omega|(simp;omega)) (bp ..)
  have e5:=cN (LB:=lD R.L) (PL:=tD R.pl) (fn:=fn) (ex:=ex') (b:=b) (v:=v) (x:=ii 0 18 0 (ah (aa s 1)) 0 0 2) (to:=R.to++aR (cx v b (ax (aa s 3) 0))++aR [ii 0 3 0 0 0 0 0]++aR (cx v b (ax (aa s 3) 1))++aR [ii 0 4 0 0 0 2 0]) (ins:=R.ins++cx v b (ax (aa s 3) 0) ++ [ii 0 3 0 0 0 0 0]++cx v b (ax (aa s 3) 1) ++ [ii 0 4 0 0 0 2 0]) (by first|omega|(simp[aR];omega)) (by first|omega|(simp;omega)) (bp ..)
  unfold fu ef;rw[cK,hk,ha,hb4,hc];simp only[cm,Int.reduceEq,hin,hin1,e1,e2,e3,e4,e5];simp[aR]
set_option maxHeartbeats 4000000 in
theorem s3 (hs:Sim φ f S R) (hv:v.toList.length≤maxLen) (hk:ah (aa s 0)=3) (hb:Bud S R ts (40+6*ndS s+c)):Both (eU Q) (eV Q') v fn b ex ex' s es ts top end_ φ S R c:=by
 obtain⟨r1,r2,r3,r4⟩:=hs.tolen;unfold Bud at hb;have ha:D.agg [.int 0, .int 0, .int 26, .int 0, .int 0, .int 0, .int 0, .int 0, .int 0]=ii 0 26 0 0 0 0 0:=rfl;refine Both.code (k:=40+6*ndS s) hs ([ii 0 26 0 0 0 0 0]++iQ v b (aC (aa s 2))) (by simp[iQ];omega) (by unfold Bud;exact hb) ?_ ?_
 ·have e1:=dy (E:=tD es) (T:=tD ts) (L:=lD S.L) (A:=S.A) (fn:=fn) (nx:=(S.nx:Int)) (ex:=(ex:Int)) (b:=b) (v:=v) (l:=[ii 0 26 0 0 0 0 0]) (to:=S.to) (ins:=S.ins) (by simp) (by first|omega|(simp[aR];omega)) (by first|omega|(simp;omega)) (by intro x hx;simp only[cU,j6,f7]at hx;rcases hx with rfl<;>exact bp ..)
  have e2:=m9 (E:=tD es) (T:=tD ts) (L:=lD S.L) (A:=S.A) (fn:=fn) (nx:=(S.nx:Int)) (ex:=(ex:Int)) (b:=b) hv (n:=aC (aa s 2)) (to:=S.to++aR [ii 0 26 0 0 0 0 0]) (ins:=S.ins ++ [ii 0 26 0 0 0 0 0]) (by simp[aR];omega) (by simp;omega)
  unfold fT eK;rw[cJ,hk,ha];simp only[cm,Int.reduceEq,e1,e2];simp[aR]
 ·have e1:=cN (LB:=lD R.L) (PL:=tD R.pl) (fn:=fn) (ex:=ex') (b:=b) (v:=v) (x:=ii 0 26 0 0 0 0 0) (to:=R.to) (ins:=R.ins) (by first|omega|(simp[aR];omega)) (by first|omega|(simp;omega)) (bp ..)
  have e2:=sS (LB:=lD R.L) (PL:=tD R.pl) (fn:=fn) (ex:=ex') (b:=b) hv (n:=aC (aa s 2)) (to:=R.to++aR [ii 0 26 0 0 0 0 0]) (ins:=R.ins ++ [ii 0 26 0 0 0 0 0]) (by simp[aR];omega) (by simp;omega)
  unfold fu ef;rw[cK,hk,ha];simp only[cm,Int.reduceEq,e1,e2];simp[aR]
set_option maxHeartbeats 4000000 in
theorem s15 (hs:Sim φ f S R) (hv:v.toList.length≤maxLen) (hk:ah (aa s 0)=15) (hb:Bud S R ts (40+6*ndS s+c)):Both (eU Q) (eV Q') v fn b ex ex' s es ts top end_ φ S R c:=by
 obtain⟨r1,r2,r3,r4⟩:=hs.tolen;unfold Bud at hb;have ha:D.agg [.int 0, .int 0, .int 1, .int 0, .int 0, .int 0, .int 0, .int 0, .int 0]=ii 0 1 0 0 0 0 0:=rfl;refine Both.code (k:=40+6*ndS s) hs [ii 0 1 0 0 0 0 0] (by simp;omega) (by unfold Bud;exact hb) ?_ ?_
 ·have e1:=dy (E:=tD es) (T:=tD ts) (L:=lD S.L) (A:=S.A) (fn:=fn) (nx:=(S.nx:Int)) (ex:=(ex:Int)) (b:=b) (v:=v) (l:=[ii 0 1 0 0 0 0 0]) (to:=S.to) (ins:=S.ins) (by simp) (by first|omega|(simp[aR];omega)) (by first|omega|(simp;omega)) (by intro x hx;simp only[cU,j6,f7]at hx;rcases hx with rfl<;>exact bp ..)
  unfold fT eK;rw[cJ,hk,ha];simp only[cm,Int.reduceEq,e1]
 ·have e1:=cN (LB:=lD R.L) (PL:=tD R.pl) (fn:=fn) (ex:=ex') (b:=b) (v:=v) (x:=ii 0 1 0 0 0 0 0) (to:=R.to) (ins:=R.ins) (by first|omega|(simp[aR];omega)) (by first|omega|(simp;omega)) (bp ..)
  unfold fu ef;rw[cK,hk,ha];simp only[cm,Int.reduceEq,e1]
set_option maxHeartbeats 4000000 in
theorem s5 (hs:Sim φ f S R) (hv:v.toList.length≤maxLen) (hk:ah (aa s 0)=5) (hfn:fn.toList.length≤maxLen) (hb:Bud S R ts (40+6*ndS s+c)):Both (eU Q) (eV Q') v fn b ex ex' s es ts top end_ φ S R c:=by
 obtain⟨r1,r2,r3,r4⟩:=hs.tolen;unfold Bud at hb;have ha:D.agg [.int 0, .int 0, .int 23, .int 0, .int 0, .int 0, .int 0, .int 0, .int 0]=ii 0 23 0 0 0 0 0:=rfl;obtain⟨j,j1,j2,_,j3,j4⟩:=vQ hfn (aC (aa s 2));have hj:aM .sub .i64 (-2) j = -2-j:=fQ (by unfold maxLen at hfn;omega) (by omega)
 have hneg: -2-j<0:=by omega
 refine⟨φ,f,_,_,?_,?_,hs.pushN (ii 0 23 0 0 0 0 0) hneg,Ext.same rfl rfl,by unfold Bud;simp;omega⟩
 ·have e1:=Pg (E:=tD es) (T:=tD ts) (L:=lD S.L) (A:=S.A) (fn:=fn) (nx:=(S.nx:Int)) (ex:=(ex:Int)) (v:=v) (b:=b) (y:=tD S.to) (l:=[ii 0 23 0 0 0 0 0]) (s:=S.ins) (by simp) (by omega)
  have e2:Kj [tD es,tD ts,lD S.L,S.A, .list (S.ins ++ [ii 0 23 0 0 0 0 0]), .int (S.nx:Int),v,fn, .int b, .int (ex:Int), .list [.int (-2-j)],tD S.to]=some [.list (S.to.map .int ++ [.int (-2-j)])]:=Ph (l:=[.int (-2-j)]) (s:=S.to.map .int) (by simp) (by simp;omega)
  unfold fT eK;rw[cJ,hk,ha];simp only[cm,Int.reduceEq,e1,j1,hj,e2];simp[tD]
 ·unfold fu ef;rw[cK,hk,ha];simp only[cm,Int.reduceEq,j2,hj,nb,dk,cM,bF,aY (show(R.ins ++ [ii 0 23 0 0 0 0 0]).length≤1000000000 by simp;omega) (show 64≤1000 by omega),aY (show(R.to ++ [-2-j]).length≤1000000000 by simp;omega) (show 8≤1000 by omega)]
set_option maxHeartbeats 4000000 in
theorem s14 (hs:Sim φ f S R) (hv:v.toList.length≤maxLen) (hk:ah (aa s 0)=14) (hc:Ctx φ S.nx lp ts es ex top end_ ex') (hb:Bud S R ts (40+6*ndS s+c)):Both (eU Q) (eV Q') v fn b ex ex' s es ts top end_ φ S R c:=by
 obtain⟨r1,r2,r3,r4⟩:=hs.tolen;unfold Bud at hb;obtain rfl:=hc.x;refine⟨φ,f,_,_,?_,?_,hs.push (jmp 0) (p:=ex) hc.x1 hc.x2,Ext.same rfl rfl,by unfold Bud;simp;omega⟩
 ·have e1:=eR (E:=tD es) (T:=tD ts) (L:=lD S.L) (A:=S.A) (fn:=fn) (nx:=(S.nx:Int)) (ex:=(ex:Int)) (b:=b) (v:=v) (cc:=0) (p:=(ex:Int)) (to:=S.to) (ins:=S.ins) (by omega) (by omega)
  unfold fT eK;rw[cJ,hk];simp only[cm,Int.reduceEq,e1]
 ·have e1:=dG (LB:=lD R.L) (PL:=tD R.pl) (fn:=fn) (ex:=(φ ex:Int)) (b:=b) (v:=v) (cc:=0) (m:=(φ ex:Int)) (to:=R.to) (ins:=R.ins) (by omega) (by omega)
  unfold fu ef;rw[cK,hk];simp only[cm,Int.reduceEq,e1]
set_option maxHeartbeats 4000000 in
theorem s10 (hs:Sim φ f S R) (hv:v.toList.length≤maxLen) (hk:ah (aa s 0)=10) (hc:Ctx φ S.nx lp ts es ex top end_ ex') (hlp:lp=true) (hb:Bud S R ts (40+6*ndS s+c)):Both (eU Q) (eV Q') v fn b ex ex' s es ts top end_ φ S R c:=by
 obtain⟨r1,r2,r3,r4⟩:=hs.tolen;unfold Bud at hb;obtain⟨l,p,h1,h2,h3,h4⟩:=hc.e hlp;subst h4;have hlen:es.length=l.length+1:=by rw[h1];simp
 have hsub:aM .sub .i64 (es.length:Int) 1=(l.length:Int):=by rw[fQ (by omega) (by have:=hc.len;omega),hlen];omega
 have hin:aS (tD es) (l.length:Int)=true:=jV (by omega)
 have hg:ah (ax (tD es) (l.length:Int))=(p:Int):=by rw[ib (by omega),h1];simp
 have hc1:decide ((l.length:Int)<(es.length:Int))=true:=by simp;omega
 have hc0:decide ((0:Int)≤(l.length:Int))=true:=by simp
 refine⟨φ,f,_,_,?_,?_,hs.push (jmp 0) (p:=p) h2 h3,Ext.same rfl rfl,by unfold Bud;simp;omega⟩
 ·have e1:=eR (E:=tD es) (T:=tD ts) (L:=lD S.L) (A:=S.A) (fn:=fn) (nx:=(S.nx:Int)) (ex:=(ex:Int)) (b:=b) (v:=v) (cc:=0) (p:=(p:Int)) (to:=S.to) (ins:=S.ins) (by omega) (by omega)
  unfold fT eK;rw[cJ,hk];simp only[cm,Int.reduceEq,hsub,hin,hg,dk,hc1,hc0,gL,e1]
 ·have e1:=dG (LB:=lD R.L) (PL:=tD R.pl) (fn:=fn) (ex:=ex') (b:=b) (v:=v) (cc:=0) (m:=(φ p:Int)) (to:=R.to) (ins:=R.ins) (by omega) (by omega)
  unfold fu ef;rw[cK,hk];simp only[cm,Int.reduceEq,e1]
set_option maxHeartbeats 4000000 in
theorem s11 (hs:Sim φ f S R) (hv:v.toList.length≤maxLen) (hk:ah (aa s 0)=11) (hc:Ctx φ S.nx lp ts es ex top end_ ex') (hlp:lp=true) (hb:Bud S R ts (40+6*ndS s+c)):Both (eU Q) (eV Q') v fn b ex ex' s es ts top end_ φ S R c:=by
 obtain⟨r1,r2,r3,r4⟩:=hs.tolen;unfold Bud at hb;obtain⟨l,p,h1,h2,h3,h4⟩:=hc.t hlp;subst h4;have hlen:ts.length=l.length+1:=by rw[h1];simp
 have hsub:aM .sub .i64 (ts.length:Int) 1=(l.length:Int):=by rw[fQ (by omega) (by have:=hc.len;omega),hlen];omega
 have hin:aS (tD ts) (l.length:Int)=true:=jV (by omega)
 have hg:ah (ax (tD ts) (l.length:Int))=(p:Int):=by rw[ib (by omega),h1];simp
 have hc1:decide ((l.length:Int)<(ts.length:Int))=true:=by simp;omega
 have hc0:decide ((0:Int)≤(l.length:Int))=true:=by simp
 refine⟨φ,f,_,_,?_,?_,hs.push (jmp 0) (p:=p) h2 h3,Ext.same rfl rfl,by unfold Bud;simp;omega⟩
 ·have e1:=eR (E:=tD es) (T:=tD ts) (L:=lD S.L) (A:=S.A) (fn:=fn) (nx:=(S.nx:Int)) (ex:=(ex:Int)) (b:=b) (v:=v) (cc:=0) (p:=(p:Int)) (to:=S.to) (ins:=S.ins) (by omega) (by omega)
  unfold fT eK;rw[cJ,hk];simp only[cm,Int.reduceEq,hsub,hin,hg,dk,hc1,hc0,gL,e1]
 ·have e1:=dG (LB:=lD R.L) (PL:=tD R.pl) (fn:=fn) (ex:=ex') (b:=b) (v:=v) (cc:=0) (m:=(φ p:Int)) (to:=R.to) (ins:=R.ins) (by omega) (by omega)
  unfold fu ef;rw[cK,hk];simp only[cm,Int.reduceEq,e1]
set_option maxHeartbeats 4000000 in
theorem s12_0 (hs:Sim φ f S R) (hk:ah (aa s 0)=12) {p:Int} (hl:lkS S.L (aC (aa s 2))=some p) (hb:Bud S R ts (40+6*ndS s+c)):Both (eU Q) (eV Q') v fn b ex ex' s es ts top end_ φ S R c:=by
 obtain⟨r1,r2,r3,r4⟩:=hs.tolen;unfold Bud at hb;obtain⟨x,hx,hxp⟩:=lk_mem hl;have hx1:=hs.lrng x hx;obtain⟨n,rfl⟩:∃n:Nat,p=(n:Int):=⟨p.toNat,by omega⟩
 have hn1:1≤n:=by omega
 have hn2:n≤S.nx:=by omega
 have hl':lkS R.L (aC (aa s 2))=some (φ n:Int):=by rw[hs.lab,Bo,hl];simp
 have e1:=DU (E:=tD es) (T:=tD ts) (A:=S.A) (v:=v) (fn:=fn) (b:=b) (ex:=(ex:Int)) (nx:=(S.nx:Int)) (to:=tD S.to) (ins:= .list S.ins) hl;have e2:=Bm (PL:=tD R.pl) (v:=v) (fn:=fn) (b:=b) (ex:=ex') (to:=tD R.to) (l:= .list R.ins) (by omega) hl'
 refine⟨_,_,_,_,?_,?_,(hs.push (jmp 0) hn1 hn2),Ext.same rfl rfl,by unfold Bud;simp;omega⟩
 ·have e3:=eR (E:=tD es) (T:=tD ts) (L:=lD S.L) (fn:=fn) (nx:=(S.nx:Int)) (ex:=(ex:Int)) (b:=b) (v:=v) (A:=S.A) (cc:=0) (p:=(n:Int)) (to:=S.to) (ins:=S.ins) (by omega) (by omega)
  unfold fT eK;rw[cJ,hk];simp only[cm,Int.reduceEq,e1,e3]
 ·have e3:=dG (LB:=lD R.L) (fn:=fn) (ex:=ex') (b:=b) (v:=v) (PL:=tD R.pl) (cc:=0) (m:=(φ n:Int)) (to:=R.to) (ins:=R.ins) (by omega) (by omega)
  unfold fu ef;rw[cK,hk];simp only[cm,Int.reduceEq,e2,e3]
set_option maxHeartbeats 4000000 in
theorem s12_1 (hs:Sim φ f S R) (hk:ah (aa s 0)=12) (hl:lkS S.L (aC (aa s 2))=none) (hb:Bud S R ts (40+6*ndS s+c)):Both (eU Q) (eV Q') v fn b ex ex' s es ts top end_ φ S R c:=by
 obtain⟨r1,r2,r3,r4⟩:=hs.tolen;unfold Bud at hb;have hl':lkS R.L (aC (aa s 2))=none:=by rw[hs.lab,Bo,hl];rfl
 obtain⟨g1,g2,g3⟩:=hs.fresh;have g4:=g1.addLab (aC (aa s 2)) (p:=S.nx+1) (by omega) (aP _)
 rw[g3]at g4;have e1:=DV (E:=tD es) (T:=tD ts) (A:=S.A) (v:=v) (fn:=fn) (b:=b) (ex:=(ex:Int)) (to:=tD S.to) (ins:= .list S.ins) (k:=S.nx) hl (by omega)
 have e2:=Bn (v:=v) (fn:=fn) (b:=b) (ex:=ex') (to:=tD R.to) (l:= .list R.ins) (pl:=R.pl) (by omega) (by omega) hl'
 have g5:=g4.push (jmp 0) (p:=S.nx+1) (by omega) (aP _)
 rw[g3]at g5;refine⟨_,_,_,_,?_,?_,g5,⟨g2.old,g2.nx,g2.pl,g2.new,g2.keep⟩,by unfold Bud;simp;omega⟩
 ·have e3:=eR (E:=tD es) (T:=tD ts) (L:=lD (S.L ++ [(aC (aa s 2),((S.nx+1:Nat):Int))])) (fn:=fn) (nx:=((S.nx+1:Nat):Int)) (ex:=(ex:Int)) (b:=b) (v:=v) (A:=S.A) (cc:=0) (p:=((S.nx+1:Nat):Int)) (to:=S.to) (ins:=S.ins) (by omega) (by omega)
  unfold fT eK;rw[cJ,hk];simp only[cm,Int.reduceEq,e1,e3]
 ·have e3:=dG (LB:=lD (R.L ++ [(aC (aa s 2),(R.pl.length:Int))])) (fn:=fn) (ex:=ex') (b:=b) (v:=v) (PL:=tD (R.pl ++ [0])) (cc:=0) (m:=(R.pl.length:Int)) (to:=R.to) (ins:=R.ins) (by omega) (by omega)
  unfold fu ef;rw[cK,hk];simp only[cm,Int.reduceEq,e2,e3]
set_option maxHeartbeats 4000000 in
theorem s13_0 (hs:Sim φ f S R) (hk:ah (aa s 0)=13) {p:Int} (hl:lkS S.L (aC (aa s 2))=some p) (hb:Bud S R ts (40+6*ndS s+c)):Both (eU Q) (eV Q') v fn b ex ex' s es ts top end_ φ S R c:=by
 obtain⟨r1,r2,r3,r4⟩:=hs.tolen;unfold Bud at hb;obtain⟨x,hx,hxp⟩:=lk_mem hl;have hx1:=hs.lrng x hx;obtain⟨n,rfl⟩:∃n:Nat,p=(n:Int):=⟨p.toNat,by omega⟩
 have hn1:1≤n:=by omega
 have hn2:n≤S.nx:=by omega
 have hl':lkS R.L (aC (aa s 2))=some (φ n:Int):=by rw[hs.lab,Bo,hl];simp
 have e1:=DU (E:=tD es) (T:=tD ts) (A:=S.A) (v:=v) (fn:=fn) (b:=b) (ex:=(ex:Int)) (nx:=(S.nx:Int)) (to:=tD S.to) (ins:= .list S.ins) hl;have e2:=Bm (PL:=tD R.pl) (v:=v) (fn:=fn) (b:=b) (ex:=ex') (to:=tD R.to) (l:= .list R.ins) (by omega) hl'
 refine⟨_,_,_,_,?_,?_,(hs.here hn1 hn2),Ext.here rfl hn1 hn2 rfl,by unfold Bud;simp;omega⟩
 ·have e3:=fE (E:=tD es) (T:=tD ts) (L:=lD S.L) (fn:=fn) (nx:=(S.nx:Int)) (ex:=(ex:Int)) (b:=b) (v:=v) (A:=S.A) (to:=tD S.to) (ins:=S.ins) (p:=(n:Int));unfold fT eK;rw[cJ,hk];simp only[cm,Int.reduceEq,e1,e3]
 ·have e3:=dl (LB:=lD R.L) (fn:=fn) (ex:=ex') (b:=b) (v:=v) (to:=tD R.to) (ins:=R.ins) (pl:=R.pl) (m:=φ n) (by exact(hs.pl n hn1 hn2).1)
  unfold fu ef;rw[cK,hk];simp only[cm,Int.reduceEq,e2,e3]
set_option maxHeartbeats 4000000 in
theorem s13_1 (hs:Sim φ f S R) (hk:ah (aa s 0)=13) (hl:lkS S.L (aC (aa s 2))=none) (hb:Bud S R ts (40+6*ndS s+c)):Both (eU Q) (eV Q') v fn b ex ex' s es ts top end_ φ S R c:=by
 obtain⟨r1,r2,r3,r4⟩:=hs.tolen;unfold Bud at hb;have hl':lkS R.L (aC (aa s 2))=none:=by rw[hs.lab,Bo,hl];rfl
 obtain⟨g1,g2,g3⟩:=hs.fresh;have g4:=g1.addLab (aC (aa s 2)) (p:=S.nx+1) (by omega) (aP _)
 rw[g3]at g4;have e1:=DV (E:=tD es) (T:=tD ts) (A:=S.A) (v:=v) (fn:=fn) (b:=b) (ex:=(ex:Int)) (to:=tD S.to) (ins:= .list S.ins) (k:=S.nx) hl (by omega)
 have e2:=Bn (v:=v) (fn:=fn) (b:=b) (ex:=ex') (to:=tD R.to) (l:= .list R.ins) (pl:=R.pl) (by omega) (by omega) hl'
 have g5:=g4.here (p:=S.nx+1) (by omega) (aP _)
 rw[g3]at g5;refine⟨_,_,_,_,?_,?_,g5,g2.trans (Ext.here rfl (p:=S.nx+1) (by omega) (aP _) (by rw[g3])),by unfold Bud;simp;omega⟩
 ·have e3:=fE (E:=tD es) (T:=tD ts) (L:=lD (S.L ++ [(aC (aa s 2),((S.nx+1:Nat):Int))])) (fn:=fn) (nx:=((S.nx+1:Nat):Int)) (ex:=(ex:Int)) (b:=b) (v:=v) (A:=S.A) (to:=tD S.to) (ins:=S.ins) (p:=((S.nx+1:Nat):Int));unfold fT eK;rw[cJ,hk];simp only[cm,Int.reduceEq,e1,e3]
 ·have e3:=dl (LB:=lD (R.L ++ [(aC (aa s 2),(R.pl.length:Int))])) (fn:=fn) (ex:=ex') (b:=b) (v:=v) (to:=tD R.to) (ins:=R.ins) (pl:=(R.pl ++ [0])) (m:=R.pl.length) (by simp)
  unfold fu ef;rw[cK,hk];simp only[cm,Int.reduceEq,e2,e3]
end
end Go.Proofs.YtiojjmlccehpoaaGreat
