/-
  Plain laws: what is not known, unveiled; loops over numbers.
-/
import Derived.Test.YtfdedgmlafelaaaGreatDoorAmS
import Derived.Test.YtfdedgmlafelaaaGreatDoorM1
import Derived.Test.YtfdedgmlafelaaaGreatDoorM2
import Derived.Test.YtfdedgmlafelaaaGreatDoorRows
import Derived.Test.YtfdedgmlafelaaaGreatDoorC1
import Derived.Deep.DeepHandedRow
import Derived.Lib.LaidTab
import Derived.MakeChecks
import Derived.LaidSub
import Derived.FnData
set_option linter.unusedSimpArgs false
set_option linter.unusedVariables false
namespace Go.AM
theorem am (r:List D):uZZ (some r)=true:=by rw[tS];rfl
theorem L1:uZZ none=false:=by rw[tS];rfl
theorem ax (r:List D) (j:Nat):ar (some r) j=r.getD j .other:=by rw[AU];rfl
theorem aC (n:Int):ah (.int n)=n:=by rw[dM];rfl
theorem aO (b:Bool):aJ (.bool b)=b:=by rw[fX];rfl
theorem al (a b:Int):ae .lss a b=decide (a<b):=by rw[bG];rfl
theorem aV (a b:Int):ae .leq a b=decide (a≤b):=by rw[bG];rfl
theorem bP (a b:Int):ae .gtr a b=decide (b<a):=by rw[bG];rfl
theorem be (a b:Int):ae .geq a b=decide (b≤a):=by rw[bG];rfl
theorem au (a b:Int):ae .eql a b=decide (a=b):=by rw[bG];simp only[dK];cases h:decide (a=b)<;>simp_all
theorem bo (a b:Int):ae .neq a b = !decide (a=b):=by rw[bG];simp only[dK,bne];cases h:decide (a=b)<;>simp_all
theorem aU (c a b:Bool):aA c a b=bif c then a else b:=by rw[nn]
theorem bt (a:Bool):ca a = !a:=by rw[q3]
theorem aD (d:D):ai d=(d.toList.length:Int):=by rw[dw];rfl
theorem Th (d:D) (i:Int):aI d i=(decide (0≤i)&&decide (i<d.toList.length)):=by rw[kW];rfl
theorem bf (d:D) (i:Nat):ay d (i:Int)=d.toList.getD i .other:=by rw[kV];simp[D.get]
theorem aP {d:D} {i:Nat} (h:i<d.toList.length):aI d (i:Int)=true:=by rw[Th];simp;omega
def srch {R:Type} (f:Nat->Option R) (r0:R):Nat->Nat->R
 |_,0=>r0
 |i,k+1=>match f i with
  |none=>srch f r0 (i+1) k
  |some r=>r
theorem getD_lt {xs:List D} {i:Nat} (h:i<xs.length):xs.getD i .other=xs[i]:=by simp[List.getD,h]
theorem aT {i:Nat} (h:i<9223372036854775807):aQ .add .i64 (i:Int) 1=((i+1:Nat):Int):=by
 rw[yF (by omega) (by omega)];omega
theorem eZ {st:List D->Option (Sum (List D) (List D))} {l:D} {c:D->Option (List D)} {p:D->Bool} {r1:Int->List D} {r0:List D}
 (hst:∀i:Int,st [.int i]=bif ae .lss i (ai l)then bif aI l i then bif uZZ (c (ay l i))then bif aJ (ar (c (ay l i)) 0)then some (.inr (r1 i))else some (.inl [.int (aQ .add .i64 i 1)])else none else none else some (.inr r0))
 (hl:l.toList.length≤maxLen) (hc:∀x∈l.toList,c x=some [.bool (p x)]):
 (loW st [.int 0]=some r0∧l.toList.any p=false)∨∃i:Nat,loW st [.int 0]=some (r1 i)∧l.toList.any p=true:=by
 unfold maxLen at hl;have key:∀k i:Nat,i+k=l.toList.length->(loW st [.int i]=some r0∧(l.toList.drop i).any p=false)∨∃j:Nat,loW st [.int i]=some (r1 j)∧(l.toList.drop i).any p=true:=by
  intro k
  induction k with
  |zero=>
   intro i hi
   left
   rw[aH,hst,al,aD,List.drop_of_length_le (by omega)]
   simp[show¬((i:Int)<l.toList.length)by omega]
  |succ k ih=>
   intro i hi;have hlt:i<l.toList.length:=by omega
   rw[aH,hst,al,aD,aP hlt,bf,getD_lt hlt,hc _ (List.getElem_mem hlt),List.drop_eq_getElem_cons hlt];simp only[show((i:Int)<l.toList.length)by omega,decide_true,cond_true,am,ax,List.getD_cons_zero,aO,List.any_cons]
   cases hp:p l.toList[i]with
   |true=>exact .inr ⟨i,rfl,by simp⟩
   |false=>
    simp only[cond_false,Bool.false_or];rw[aT (by omega)]
    exact ih (i+1) (by omega)
 have:=key l.toList.length 0 (by omega)
 simpa using this
theorem iT {d:D} {j:Nat} {x:D} (h:x∈(d.fld j).toList):x.size<d.size:=by
 cases d with
 |agg xs=>
  simp only[D.fld,List.getD]at h;cases hx:xs[j]? with
  |none=>rw[hx]at h;simp[D.toList]at h
  |some y=>
   rw[hx]at h;simp only[Option.getD_some]at h;have h1:=er hx;cases y with
   |list ys=>
    simp only[D.toList]at h;obtain⟨i,hi⟩:=List.getElem?_of_mem h
    have h2:=er hi;simp only[D.size]at h1 ⊢;omega
   |_=>simp[D.toList]at h
 |_=>simp[D.fld,D.toList]at h
end Go.AM
namespace Go.Proofs.YtfdedgmlafelaaaGreatDoor
open Go Go.AM
theorem bQ (xs:List D):ai (.list xs)=(xs.length:Int):=by rw[aD];rfl
theorem jE {n z:Nat} (hn:n≤100000) (hz:z≤100):bF (n:Int) z=true:=by
 rw[gK];unfold qI;have h:(n:Int)*z≤100000*100:=by
  have h1:n*z≤100000*100:=Nat.mul_le_mul hn hz;have h2:((n*z:Nat):Int)=(n:Int)*(z:Int):=by simp
  omega
 simp;omega
theorem pt:∀xs:List D,xs.length≤D.sizes xs
 | []=>by simp[D.sizes]
 |x::xs=>by
  have:=pt xs;have:=D.size_pos x;simp only[D.sizes,List.length_cons];omega
theorem FZ (d:D):d.toList.length≤d.size:=by
 cases d<;>simp only[D.toList,D.size,List.length_nil]<;>first|omega|skip
 all_goals (rename_i xs;have:=pt xs;omega)
theorem Ti (d:D) (j:Nat):(d.fld j).size≤d.size:=by
 cases d with
 |agg xs=>
  simp only[D.fld,List.getD];cases hx:xs[j]? with
  |none=>simp[D.size]
  |some x=>have:=er hx;simp only[Option.getD_some,D.size];omega
 |_=>simp[D.fld,D.size]
theorem OB {d x:D} (h:x∈d.toList):x.size≤d.size:=by
 cases d<;>simp only[D.toList]at h<;>first|(cases h;done)|skip
 all_goals (obtain⟨i,hi⟩:=List.getElem?_of_mem h;have:=er hi;simp only[D.size];omega)
theorem F0 (l:List D):2≤bE l:=by
 induction l with
 |nil=>simp[bE]
 |cons x l ih=>simp only[bE];omega
theorem wt_ge (d:D):d.size≤d.wt∨∃m,d = .int m:=by
 cases d<;>simp[D.wt]
theorem e8 {d:D} {l:List D} (h:d∈l):d.size<bE l:=by
 induction l with
 |nil=>cases h
 |cons x l ih=>
  simp only[bE];rcases List.mem_cons.1 h with rfl|h
  ·have:=F0 l;rcases wt_ge d with h|⟨m,rfl⟩
   ·omega
   ·simp[D.size];omega
  ·have:=ih h;omega
def lim:Nat:=100000000
theorem kI {j:Nat} {d:D} (h:d.size≤lim):(d.fld j).toList.length≤maxLen∧∀x∈(d.fld j).toList,x.size≤lim:=by
 have h1:=Ti d j;have h2:=FZ (d.fld j);refine⟨by unfold maxLen;unfold lim at h;omega,fun x hx=> ?_⟩
 have:=OB hx;omega
theorem F1 {Q:uAC} {l:D} {n:Int} {p:D->Bool} (hl:l.toList.length≤maxLen) (hc:∀x∈l.toList,N0 Q [x, .int n]=some [.bool (p x)]):kE Q [l, .int n]=some [.bool (l.toList.any p)]:=by
 rw[qs,Fh,qr,Ff,lS];rcases eZ (st:=gX Q [l, .int n, .int (ai l)]) (c:=fun x=>N0 Q [x, .int n]) (r1:=fun i=>[.int 1, .int i]) (r0:=[.int 0]) (fun i=>uN Q l n (ai l) i) hl hc with⟨h1,h2⟩|⟨i,h1,h2⟩
 ·simp[h1,h2,am,ax,aC,au,be]
 ·simp[h1,h2,am,ax,aC,au,be]
def kJ:Nat->D->Int->Bool
 |0,_,_=>false
 |N+1,d,n=>decide (n<1)||(d.fld 4).toList.any fun x=>kJ N x (n-1)
theorem pu:∀(N:Nat) (d:D) (n:Int),d.size≤lim->d.size<N-> -9223372036854775808≤n->n≤9223372036854775807->Fp N [d, .int n]=some [.bool (kJ N d n)]∧F98 N [d, .int n]=some [.bool (!kJ N d n)]:=by
 intro N
 induction N with
 |zero=>intro d n _ h;omega
 |succ N ih=>
  intro d n hd hs h0 h1;obtain⟨hl,hx⟩:=kI hd;rw[F144_s,F98_s,RU,Fb98_eq];by_cases hn:n<1
  ·simp[al,be,hn,aU,kJ,show¬1≤n by omega]
  ·have hsub:aQ .sub .i64 n 1=n-1:=qf (by omega) (by omega)
   have hel:∀x∈(d.fld 4).toList,Fp N [x, .int (n-1)]=some [.bool (kJ N x (n-1))]∧F98 N [x, .int (n-1)]=some [.bool (!kJ N x (n-1))]:=
    fun x hm=>ih x (n-1) (hx x hm) (by have:=iT hm;omega) (by omega) (by omega)
   have h82:∀x∈(d.fld 4).toList,N0 (F98 N) [x, .int n]=some [.bool (kJ N x (n-1))]:=fun x hm=>by
    rw[LF,F129_eq,hsub,(hel x hm).2];simp[am,ax,aO,bt]
   have hcon:=F1 (n:=n) hl h82;rw[yU,aZ,hcon]
   have hloop:=eZ (st:=rp (Fp N) [.int n,d]) (l:=d.fld 4) (c:=fun x=>Fp N [x, .int (n-1)]) (p:=fun x=>kJ N x (n-1)) (r1:=fun _=>[.int 1]) (r0:=[.int 0])
    (fun i=>by rw[I4,hsub,aZ]) hl (fun x hm=>(hel x hm).1)
   rcases hloop with⟨h3,h4⟩|⟨i,h3,h4⟩
   ·simp[h3,h4,al,be,hn,show 1≤n by omega,am,ax,aC,aO,bt,au,aU,kJ]
   ·simp[h3,h4,al,be,hn,show 1≤n by omega,am,ax,aC,aO,bt,au,aU,kJ]
theorem F2 {Q:uAC} {l:D} {p:D->Bool} (hl:l.toList.length≤maxLen) (hc:∀x∈l.toList,N1 Q [x]=some [.bool (p x)]):nO Q [l]=some [.bool (l.toList.any p)]:=by
 rw[qu,Fl,qt,Fj,lT];rcases eZ (st:=gY Q [l, .int (ai l)]) (c:=fun x=>N1 Q [x]) (r1:=fun i=>[.int 1, .int i]) (r0:=[.int 0]) (fun i=>uQ Q l (ai l) i) hl hc with⟨h1,h2⟩|⟨i,h1,h2⟩
 ·simp[h1,h2,am,ax,aC,au,be]
 ·simp[h1,h2,am,ax,aC,au,be]
theorem F3 (v:Int):Rx [.int v]=some [.bool (decide (0≤v)&&decide (v<65536))]:=by
 rw[LC,F123_eq];simp only[aU,be,al];cases h:decide (0≤v)<;>simp
theorem vQ (v:Int):Rr [.int v]=some [.bool (decide (0≤v)&&decide (v<65536))]:=by
 rw[Ba,LA];simp only[aU,be,al];cases h:decide (0≤v)<;>simp
theorem qA (v:Int):RA [.int v]=some [.bool (decide (v=1)||decide (v=2)||decide (v=4))]:=by
 rw[LD,F124_eq];simp only[aU,au];cases h:decide (v=1)<;>cases h2:decide (v=2)<;>simp
theorem lq:∀(N:Nat) (d:D),d.size≤lim->d.size<N->∃b,F99 N [d]=some [.bool b]∧lI N [d]=some [.bool b]:=by
 intro N
 induction N with
 |zero=>intro d _ h;omega
 |succ N ih=>
  intro d hd hs;obtain⟨hl,hx⟩:=kI hd;have hel:∀x∈(d.fld 4).toList,∃b,F99 N [x]=some [.bool b]∧lI N [x]=some [.bool b]:=fun x hm=>ih x (hx x hm) (by have:=iT hm;omega)
  let p:D->Bool:=fun x=>match F99 N [x]with|some [.bool b]=> !b|_=>false
  have h85:∀x∈(d.fld 4).toList,N1 (F99 N) [x]=some [.bool (p x)]:=fun x hm=>by
   obtain⟨b,h1,h2⟩:=hel x hm;rw[LH,F130_eq];simp[p,h1,am,ax,aO,bt]
  have hcon:=F2 hl h85;rw[F99_s,I6,Fb99_eq,uX];rw[pb,aZ,hcon]
  have hloop:=eZ (st:=nP (lI N) [d]) (l:=d.fld 4) (c:=fun x=>(lI N [x]).map fun r=>[.bool (ca (aJ (r.getD 0 .other)))]) (p:=p) (r1:=fun _=>[.int 1]) (r0:=[.int 0])
   (fun i=>by
    rw[uV,aZ];cases hq:lI N [ay (d.fld 4) i]with
    |none=>simp[L1]
    |some r=>simp[am,ax,aO]) hl (fun x hm=>by
    obtain⟨b,h1,h2⟩:=hel x hm
    simp[h1,h2,p,aO,bt])
  generalize (d.fld 4).toList.any p=an at *;simp only[F3,vQ,qA,am,ax,List.getD_cons_zero,aO,bt,au,be,aV,aU,decide_true,cond_true];generalize ah (d.fld 0)=o;generalize ah (d.fld 1)=n;generalize ah (d.fld 2)=v;generalize ah (d.fld 3)=w;generalize ai (d.fld 4)=z;rcases hloop with⟨h3,rfl⟩|⟨i,h3,rfl⟩
  ·simp only[h3,am,ax,List.getD_cons_zero,aC,decide_true,cond_true,Bool.cond_self];by_cases e1:o=1
   ·subst e1;simp<;>grind
   by_cases e2:o=2
   ·subst e2;simp<;>grind
   by_cases e16:o=16
   ·subst e16;simp<;>grind
   by_cases e17:o=17
   ·subst e17;simp<;>grind
   by_cases e18:o=18
   ·subst e18;simp<;>grind
   by_cases e19:o=19
   ·subst e19;simp<;>grind
   simp[e1,e2,e16,e17,e18,e19]<;>grind
  ·simp only[h3,am,ax,List.getD_cons_zero,aC,decide_true,cond_true,Bool.cond_self];by_cases e1:o=1
   ·subst e1;simp
   by_cases e2:o=2
   ·subst e2;simp<;>grind
   by_cases e16:o=16
   ·subst e16;simp
   by_cases e17:o=17
   ·subst e17;simp
   by_cases e18:o=18
   ·subst e18;simp<;>grind
   by_cases e19:o=19
   ·subst e19;simp<;>grind
   simp[e1,e2,e16,e17,e18,e19]<;>grind
def bV (e:D->Int):List D->Int
 | []=>0
 |x::xs=>if e x=0 then bV e xs else e x
def cf (n:Int):List D:=if n=0 then[.int 0]else[.int 1, .int n]
theorem lu {st:List D->Option (Sum (List D) (List D))} {l:D} {c:D->Option (List D)} {e:D->Int}
 (hst:∀i:Int,st [.int i]=bif ae .lss i (ai l)then bif aI l i then bif uZZ (c (ay l i))then bif ae .neq (ah (ar (c (ay l i)) 0)) 0 then some (.inr [.int 1, .int (ah (ar (c (ay l i)) 0))])else some (.inl [.int (aQ .add .i64 i 1)])else none else none else some (.inr [.int 0]))
 (hl:l.toList.length≤maxLen) (hc:∀x∈l.toList,c x=some [.int (e x)]):loW st [.int 0]=some (cf (bV e l.toList)):=by
 unfold maxLen at hl;have key:∀k i:Nat,i+k=l.toList.length->loW st [.int i]=some (cf (bV e (l.toList.drop i))):=by
  intro k
  induction k with
  |zero=>
   intro i hi;rw[aH,hst,al,aD,List.drop_of_length_le (by omega)]
   simp[show¬((i:Int)<l.toList.length)by omega,bV,cf]
  |succ k ih=>
   intro i hi;have hlt:i<l.toList.length:=by omega
   rw[aH,hst,al,aD,aP hlt,bf,getD_lt hlt,hc _ (List.getElem_mem hlt),List.drop_eq_getElem_cons hlt];simp only[show((i:Int)<l.toList.length)by omega,decide_true,cond_true,am,ax,List.getD_cons_zero,aC,bo,bV]
   by_cases he:e l.toList[i]=0
   ·simp only[he,decide_true,Bool.not_true,cond_false,if_true];rw[aT (by omega)]
    exact ih (i+1) (by omega)
   ·simp only[he,decide_false,Bool.not_false,cond_true,if_false];rw[cf,if_neg he]
 have:=key l.toList.length 0 (by omega)
 simpa using this
theorem eG {n:Int}:ae .eql (ah (ar (some (cf n)) 0)) 0=decide (n=0):=by
 unfold cf;split<;>simp[ax,aC,au, *]
theorem iU {n:Int} (h:n≠0):ah (ar (some (cf n)) 1)=n:=by
 unfold cf;rw[if_neg h];simp[ax,aC]
theorem OC (c:Bool) (x y:Option (List D)):uZZ (bif c then x else y)=bif c then uZZ x else uZZ y:=by cases c<;>rfl
theorem Tj (c:Bool) (x y:Option (List D)) (j:Nat):ar (bif c then x else y) j=bif c then ar x j else ar y j:=by cases c<;>rfl
theorem Tk (c:Bool) (x y:D):ah (bif c then x else y)=bif c then ah x else ah y:=by cases c<;>rfl
theorem OD (c:Bool) (x y:D):aJ (bif c then x else y)=bif c then aJ x else aJ y:=by cases c<;>rfl
theorem int_bif (c:Bool) (x y:Int):(bif c then some [D.int x]else some [D.int y])=some [D.int (bif c then x else y)]:=by cases c<;>rfl
noncomputable def dH (d:D):Int:=ah (ar (F59 [d]) 0)
theorem Tl (d:D) (n:Int):d.size<bE [d, .int n]∧d.size<bE [d]:=by
 simp only[bE];have:d.size≤d.wt∨∃m,d = .int m:=by
  cases d<;>simp[D.wt]
 rcases this with h|⟨m,rfl⟩
 ·omega
 ·simp[D.size];omega
theorem lw {d:D} (hd:d.size≤lim):F59 [d]=some [.int (dH d)]∧R5 [d]=some [.int (dH d)]:=by
 obtain⟨h1,h2⟩:=Tl d 64;obtain⟨a,b⟩:=pu (bE [d, .int 64]) d 64 hd h1 (by omega) (by omega)
 obtain⟨c,f1,f2⟩:=lq (bE [d]) d hd h2;have key:∃e,F59 [d]=some [.int e]∧R5 [d]=some [.int e]:=by
  rw[F59_eq,Bj,RM,rq,RS,rt];simp only[a,b,f1,f2,am,ax,List.getD_cons_zero,aO,bt,cond_true];cases kJ (bE [d, .int 64]) d 64<;>cases c<;>simp
 obtain⟨e,h1,h2⟩:=key;have:dH d=e:=by unfold dH;rw[h1];simp[ax,aC]
 rw[this];exact⟨h1,h2⟩
noncomputable def kK (d:D):Int:=ah (ar (F50 [d]) 0)
theorem rJ (d:D) (hd:d.size≤lim):(d.fld 6).toList.length≤maxLen∧∀x∈(d.fld 6).toList,x.size≤lim:=kI hd
theorem rK {d:D} (hd:d.size≤lim):F50 [d]=some [.int (kK d)]∧F72 [d]=some [.int (kK d)]:=by
 obtain⟨hl,hx⟩:=rJ d hd;have key:∃e,F50 [d]=some [.int e]∧F72 [d]=some [.int e]:=by
  have h1:=lu (st:=Bk [aa d 6, .int (ai (aa d 6)),d]) (l:=d.fld 6) (c:=fun x=>q59 [x]) (e:=dH) (fun i=>by rw[N9,aZ]) hl (fun x hm=>by rw[R4];exact(lw (hx x hm)).1)
  have h2:=lu (st:=pc [d]) (l:=d.fld 6) (c:=fun x=>N8 [x]) (e:=dH) (fun i=>by rw[pd,aZ]) hl (fun x hm=>by rw[rz];exact(lw (hx x hm)).2)
  rw[F50_eq,I9,Ft,nQ];simp only[h1,h2];generalize bV dH (d.fld 6).toList=fe;simp only[RD,ro,RG,LE,Ba,F93_eq,Bb,F94_eq,F112_eq,F3,vQ,qA,LA,eG,OC,Tj,Tk,OD,am,ax,List.getD_cons_zero,aC,aO,bt,aU,au,bo,al,bP,be,aV,Bool.cond_self,cond_true];generalize ah (ar (some (cf fe)) 1)=fe1;simp only[int_bif];refine⟨_,rfl,?_⟩
  congr 3
  generalize ah (aa d 0)=o;generalize ah (aa d 1)=v;generalize ah (aa d 2)=w;generalize ah (aa d 3)=nx;generalize ah (aa d 4)=el;generalize ah (aa d 5)=tg;generalize ai (aa d 6)=ne;generalize ai (aa d 7)=nc;by_cases a1:o=1
  ·subst a1;simp;grind
  by_cases a2:o=2
  ·subst a2;simp;grind
  by_cases a3:o=3
  ·subst a3;simp;grind
  by_cases a4:o=4
  ·subst a4;simp;grind
  by_cases a5:o=5
  ·subst a5;simp;grind
  by_cases a6:o=6
  ·subst a6;simp;grind
  by_cases a7:o=7
  ·subst a7;simp;grind
  by_cases a8:o=8
  ·subst a8;simp;grind
  by_cases a9:o=9
  ·subst a9;simp;grind
  by_cases a10:o=10
  ·subst a10;simp;grind
  simp[a1,a2,a3,a4,a5,a6,a7,a8,a9,a10];grind
 obtain⟨e,h1,h2⟩:=key;have:kK d=e:=by unfold kK;rw[h1];simp[ax,aC]
 rw[this];exact⟨h1,h2⟩
end Go.Proofs.YtfdedgmlafelaaaGreatDoor
namespace Go.Proofs.YtfdedgmlafelaaaGreatDoor
noncomputable section
open Go Go.AM
theorem bW (xs:List D):(D.list xs).toList=xs:=rfl
theorem mB (a b:Bool):bL a b=(a&&b):=by rw[mY]
theorem vR {st:List D->Option (Sum (List D) (List D))} {n:Nat} {p:Nat->Bool} {r1:Nat->List D} {r0:List D} (hn:n≤maxLen)
 (h1:∀i:Nat,i<n->st [.int i]=bif p i then some (.inr (r1 i))else some (.inl [.int (aQ .add .i64 i 1)])) (h0:st [.int n]=some (.inr r0)):
 (loW st [.int 0]=some r0∧∀i,i<n->p i=false)∨∃i,i<n∧p i=true∧(∀j,j<i->p j=false)∧loW st [.int 0]=some (r1 i):=by
 unfold maxLen at hn;have key:∀k i:Nat,i+k=n->(∀j,j<i->p j=false)->(loW st [.int i]=some r0∧∀i,i<n->p i=false)∨∃i',i'<n∧p i'=true∧(∀j,j<i'->p j=false)∧loW st [.int i]=some (r1 i'):=by
  intro k
  induction k with
  |zero=>
   intro i hi hp;obtain rfl:i=n:=by omega
   exact .inl ⟨by rw[aH,h0],hp⟩
  |succ k ih=>
   intro i hi hp;have hlt:i<n:=by omega
   rw[aH,h1 i hlt];cases hc:p i with
   |true=>exact .inr ⟨i,hlt,hc,hp,rfl⟩
   |false=>
    simp only[cond_false];rw[aT (by omega)]
    exact ih (i+1) (by omega) fun j hj=>by
     by_cases h:j=i
     ·subst h;exact hc
     ·exact hp j (by omega)
 exact key n 0 (by omega) (fun j hj=>absurd hj (Nat.not_lt_zero _))
def xQ (e:Nat->Int):Nat->Nat->Int
 |_,0=>0
 |i,k+1=>if e i=0 then xQ e (i+1) k else e i
theorem JB {st:List D->Option (Sum (List D) (List D))} {n:Nat} {e:Nat->Int} (hn:n≤maxLen)
 (h1:∀i:Nat,i<n->st [.int i]=if e i=0 then some (.inl [.int (aQ .add .i64 i 1)])else some (.inr [.int 1, .int (e i)]))
 (h0:st [.int n]=some (.inr [.int 0])):loW st [.int 0]=some (cf (xQ e 0 n)):=by
 unfold maxLen at hn;have key:∀k i:Nat,i+k=n->loW st [.int i]=some (cf (xQ e i k)):=by
  intro k
  induction k with
  |zero=>
   intro i hi;obtain rfl:i=n:=by omega
   rw[aH,h0];simp[xQ,cf]
  |succ k ih=>
   intro i hi;have hlt:i<n:=by omega
   rw[aH,h1 i hlt];by_cases he:e i=0
   ·simp only[he,if_true,xQ];rw[aT (by omega)]
    exact ih (i+1) (by omega)
   ·simp only[he,if_false,xQ];rw[cf,if_neg he]
 exact key n 0 (by omega)
theorem contG {st:List D->Option (Sum (List D) (List D))} {l:D} {c:D->Option (List D)} {p:D->Bool}
 (hst:∀i:Int,st [.int i]=bif ae .lss i (ai l)then bif aI l i then bif uZZ (c (ay l i))then bif aJ (ar (c (ay l i)) 0)then some (.inr [.int 1, .int i])else some (.inl [.int (aQ .add .i64 i 1)])else none else none else some (.inr [.int 0]))
 (hl:l.toList.length≤maxLen) (hc:∀x∈l.toList,c x=some [.bool (p x)]):
 ∃k:Int,(bif uZZ (loW st [.int 0])then bif ae .eql (ah (ar (loW st [.int 0]) 0)) 0 then some [D.int (-1)]else some [.int (ah (ar (loW st [.int 0]) 1))]else none)=some [.int k]∧decide (0≤k)=l.toList.any p:=by
 rcases eZ (r1:=fun i=>[.int 1, .int i]) hst hl hc with⟨h1,h2⟩|⟨i,h1,h2⟩
 ·exact⟨-1,by simp[h1,am,ax,aC,au],by rw[h2];rfl⟩
 ·exact⟨i,by simp[h1,am,ax,aC,au],by rw[h2];simp⟩
theorem take_any {p:D->Bool} {xs:List D} {i:Nat} (hi:i≤xs.length):(xs.take i).any p=true↔∃k,k<i∧p (xs.getD k .other)=true:=by
 rw[List.any_eq_true];constructor
 ·rintro⟨x,hx,hp⟩;obtain⟨k,hk,rfl⟩:=List.getElem_of_mem hx;simp only[List.length_take]at hk;refine⟨k,by omega,?_⟩
  rw[List.getElem_take]at hp;rw[getD_lt (by omega)];exact hp
 ·rintro⟨k,hk,hp⟩;rw[getD_lt (by omega)]at hp
  exact⟨_,List.mem_take_iff_getElem.2 ⟨k,by omega,rfl⟩,hp⟩
theorem Tm (d:D) (i:Nat):(cj d 0 (i:Int)).toList=d.toList.take i:=by rw[ji];simp[D.sub,D.toList]
def lJ (d:D):Bool:=decide (6≤ah (aa d 0))&&decide (ah (aa d 0)≤10)
theorem Tn (d:D):q90 [d]=some [.bool (lJ d)]:=by
 rw[Ru,F90_eq];simp only[aU,be,aV,lJ];cases decide (6≤ah (aa d 0))<;>simp
theorem term_r (d:D):q109 [d]=some [.bool (lJ d)]:=by
 rw[LB,F109_eq];simp only[aU,be,aV,lJ];cases decide (6≤ah (aa d 0))<;>simp
theorem F5 {l:D} (hl:l.toList.length≤maxLen):Bp [l]=some [.bool (l.toList.any lJ)]:=by
 obtain⟨k,h1,h2⟩:=contG (st:=jw [l, .int (ai l)]) (c:=fun x=>q90 [x]) (p:=lJ) (fun i=>by rw[xM]) hl (fun x _=>Tn x)
 rw[yV,Oa,uZ,Ja,nR,h1];simp only[am,cond_true,ax,List.getD_cons_zero,aC,be,h2]
def outside (n:Int) (x:D):Bool:=decide (ah x<0)||decide (n≤ah x)
theorem OE (x g:D):q92 [.int (ah x),g]=some [.bool (outside (ai (aa g 1)) x)]:=by
 rw[Sf,F92_eq];simp only[aU,al,be,outside];cases decide (ah x<0)<;>simp
theorem F6 {l g:D} (hl:l.toList.length≤maxLen):Bt [l,g]=some [.bool (l.toList.any (outside (ai (aa g 1))))]:=by
 obtain⟨k,h1,h2⟩:=contG (st:=jx [l,g, .int (ai l)]) (c:=fun x=>q92 [.int (ah x),g]) (p:=outside (ai (aa g 1))) (fun i=>by rw[xN]) hl (fun x _=>OE x g)
 rw[yW,Ob,u6,Jd,nS,h1];simp only[am,cond_true,ax,List.getD_cons_zero,aC,be,h2]
def iV (s:D):List D:=
 if ah (aa s 0)=6 then[.int (ah (aa s 3))]else if ah (aa s 0)=7 then[.int (ah (aa s 3)), .int (ah (aa s 4))]else if ah (aa s 0)=8 then(aa s 7).toList else[]
theorem To (s:D):∃X,q89 [s]=some [X]∧X.toList=iV s:=by
 rw[Si,F89_eq];simp only[au,iV];by_cases h6:ah (aa s 0)=6
 ·simp[h6,bW]
 by_cases h7:ah (aa s 0)=7
 ·simp[h7,bW]
 by_cases h8:ah (aa s 0)=8
 ·simp[h8]
 simp[h6,h7,h8,bW]
def bp (b:D):D:=ay (aa b 1) (((aa b 1).toList.length-1:Nat):Int)
theorem iW {l:D} (h:l.toList.length≠0) (hl:l.toList.length≤maxLen):aQ .sub .i64 (ai l) 1=((l.toList.length-1:Nat):Int):=by
 unfold maxLen at hl;rw[aD,qf (by omega) (by omega)];omega
theorem Tp {b:D} (h:(aa b 1).toList.length≠0) (hl:(aa b 1).toList.length≤maxLen) (hm:(aa (bp b) 7).toList.length≤lim):∃X,q22 [b]=some [X]∧X.toList=iV (bp b):=by
 rw[Sh,F22_eq,iW h hl,aP (by omega)]
 simp only[au,iV,aD];rw[show ay (aa b 1) (((aa b 1).toList.length-1:Nat):Int)=bp b from rfl]
 have h0:¬(((aa b 1).toList.length:Int)=0):=by omega
 simp only[h0,decide_false,cond_false,cond_true];by_cases h6:ah (aa (bp b) 0)=6
 ·simp[h6,bW]
 by_cases h7:ah (aa (bp b) 0)=7
 ·simp[h7,bW]
 by_cases h8:ah (aa (bp b) 0)=8
 ·have hq:q53 [aa (bp b) 7]=some [bN (.list []) (aa (bp b) 7)]:=by
   rw[Bu];unfold F53;have:bN (.list []) (aa (bp b) 7) = .list (aa (bp b) 7).toList:=by rw[dj];simp[D.app,bW]
   simp only[List.headD_cons,this,aD,bW];rw[gK];have hr:qI ((aa (bp b) 7).toList.length:Int) 8=true:=by
    simp[qI];have hlim:lim=100000000:=rfl;omega
   rw[hr];rfl
  have ha:(bN (.list []) (aa (bp b) 7)).toList=(aa (bp b) 7).toList:=by rw[dj];simp[D.app,bW]
  simp[h8,hq,am,ax,ha]
 simp[h6,h7,h8,bW]
theorem jF (d:D):d.toList.length<d.size:=by
 cases d with
 |list xs=>have:=pt xs;simp only[D.toList,D.size];omega
 |_=>simp only[D.toList,D.size,List.length_nil];omega
theorem eH (d:D) (j:Nat):(aa d j).size≤d.size:=by
 rw[aZ];cases d with
 |agg xs=>
  simp only[D.fld,List.getD];cases h:xs[j]? with
  |none=>simp[D.size]
  |some y=>have:=er h;simp only[Option.getD_some,D.size];omega
 |_=>simp[D.fld,D.size]
theorem BU {l x:D} (h:x∈l.toList):x.size≤l.size:=by
 cases l with
 |list xs=>
  simp only[D.toList]at h;obtain⟨i,hi⟩:=List.getElem?_of_mem h
  have:=er hi;simp only[D.size];omega
 |_=>simp[D.toList]at h
theorem get_mem {l:D} {i:Nat} (h:i<l.toList.length):ay l i∈l.toList:=by
 rw[bf,getD_lt h];exact List.getElem_mem h
theorem cb {j:Nat} {d:D} (h:d.size≤lim):(aa d j).toList.length≤maxLen∧∀x∈(aa d j).toList,x.size≤lim:=by rw[aZ];exact kI h
theorem BV (a b:Bool):g8 a b=(a==b):=by rw[kX]
def JC:List D->Int->Int
 | [],s=>s
 |x::xs,s=>JC xs (aQ .add .i64 s (ai (aa x 1)))
theorem BW {st:List D->Option (Sum (List D) (List D))} {l:D}
 (hst:∀s i:Int,st [.int s, .int i]=bif ae .lss i (ai l)then bif aI l i then some (.inl [.int (aQ .add .i64 s (ai (aa (ay l i) 1))), .int (aQ .add .i64 i 1)])else none else some (.inr [.int 0, .int s]))
 (hl:l.toList.length≤maxLen):loW st [.int 0, .int 0]=some [.int 0, .int (JC l.toList 0)]:=by
 unfold maxLen at hl;have key:∀k i:Nat,∀s:Int,i+k=l.toList.length->loW st [.int s, .int i]=some [.int 0, .int (JC (l.toList.drop i) s)]:=by
  intro k
  induction k with
  |zero=>
   intro i s hi;rw[aH,hst,al,aD,List.drop_of_length_le (by omega)]
   simp[show¬((i:Int)<l.toList.length)by omega,JC]
  |succ k ih=>
   intro i s hi;have hlt:i<l.toList.length:=by omega
   rw[aH,hst,al,aP hlt,bf,getD_lt hlt,List.drop_eq_getElem_cons hlt,show decide ((i:Int)<ai l)=true by rw[aD];simp;omega]
   simp only[cond_true,JC];rw[aT (by omega)]
   exact ih (i+1) _ (by omega)
 exact key l.toList.length 0 0 (by omega)
def BX (n:Int) (b:D):Bool:=
 decide ((aa b 1).toList.length=0)||(!lJ (bp b)||((aa b 1).toList.take ((aa b 1).toList.length-1)).any lJ||(iV (bp b)).any (outside n))
theorem d9 {b:D} (h:(aa b 1).toList.length≠0):bp b∈(aa b 1).toList:=get_mem (by omega)
theorem kL {s:D} (hs:s.size≤lim):(iV s).length≤maxLen:=by
 unfold iV;split
 ·simp[maxLen]
 ·split
  ·simp[maxLen]
  ·split
   ·exact(cb hs).1
   ·simp[maxLen]
theorem F7 {b:D} {n:Int} (hb:b.size≤lim):q71 [b, .int n]=some [.bool (!BX n b)]:=by
 obtain⟨hl,hx⟩:=cb hb;rw[Sv,F71_eq];unfold BX;by_cases h0:(aa b 1).toList.length=0
 ·simp[au,aD,h0]
 have hi:=iW h0 hl
 have hloop:=vR (st:=BA [.int n,b]) (n:=(aa b 1).toList.length) (p:=fun i=> !(lJ (ay (aa b 1) i)==decide (i=(aa b 1).toList.length-1))) (r1:=fun _=>[.int 1]) (r0:=[.int 0]) hl
  (fun i hlt=>by
   rw[y0,hi,aP hlt,term_r,show ae .lss (i:Int) (ai (aa b 1))=true by rw[al,aD];simp;omega]
   simp only[cond_true,am,ax,List.getD_cons_zero,aO,bt,au,BV]
   congr 3
   simp only[Int.natCast_inj])
  (by rw[y0,show ae .lss ((aa b 1).toList.length:Int) (ai (aa b 1))=false by rw[al,aD];simp];rfl)
 obtain⟨X,hX,hXl⟩:=To (bp b);have hT:=kL (hx _ (d9 h0))
 have hloop2:=vR (st:=rE [.int n,X]) (n:=X.toList.length) (p:=fun i=>outside n (X.toList.getD i .other)) (r1:=fun _=>[.int 1]) (r0:=[.int 0]) (by rw[hXl];exact hT)
  (fun i hlt=>by
   rw[ve,aP hlt,show ae .lss (i:Int) (ai X)=true by rw[al,aD];simp;omega,bf]
   simp only[cond_true,al,be,aU,outside]
   cases decide (ah (X.toList.getD i .other)<0)<;>simp)
  (by rw[ve,show ae .lss (X.toList.length:Int) (ai X)=false by rw[al,aD];simp];rfl)
 rw[FA,y3,hi,aP (by omega)]
 rw[show ay (aa b 1) (((aa b 1).toList.length-1:Nat):Int)=bp b from rfl,hX]
 have hn0:ae .eql (ai (aa b 1)) 0=false:=by rw[au,aD];simp;intro h;exact h0 (by rw[h];rfl)
 simp only[hn0,cond_false,cond_true,am,ax,List.getD_cons_zero,decide_eq_false h0,Bool.false_or];have hlast:ay (aa b 1) (((aa b 1).toList.length-1:Nat):Int)=bp b:=rfl;rcases hloop with⟨h1,h2⟩|⟨i,hlt,hp,_,h1⟩
 ·have ht:lJ (bp b)=true:=by
   have:=h2 ((aa b 1).toList.length-1) (by omega)
   simp only[hlast,decide_true,Bool.not_eq_false',beq_iff_eq]at this;exact this
  have ha:((aa b 1).toList.take ((aa b 1).toList.length-1)).any lJ=false:=by
   rw[<- Bool.not_eq_true,take_any (by omega)]
   rintro⟨k,hk,hp⟩;have:=h2 k (by omega)
   rw[bf,hp]at this;simp[show¬k=(aa b 1).toList.length-1 by omega]at this
  simp only[h1,am,ax,List.getD_cons_zero,aC,au,decide_true,cond_true,ht,ha,Bool.not_true,Bool.false_or];rw[<- hXl];rcases hloop2 with⟨h3,h4⟩|⟨i,hlt,hp,_,h3⟩
  ·have:X.toList.any (outside n)=false:=by
    rw[<- Bool.not_eq_true];intro h;obtain⟨x,hx,hp⟩:=List.any_eq_true.1 h;obtain⟨k,hk,rfl⟩:=List.getElem_of_mem hx;have:=h4 k hk;rw[getD_lt hk,hp]at this;cases this
   simp[h3,am,ax,aC,this]
  ·have:X.toList.any (outside n)=true:=by
    rw[getD_lt hlt]at hp;exact List.any_eq_true.2 ⟨_,List.getElem_mem hlt,hp⟩
   simp[h3,am,ax,aC,this]
 ·have hbad:(!lJ (bp b)||((aa b 1).toList.take ((aa b 1).toList.length-1)).any lJ)=true:=by
   by_cases he:i=(aa b 1).toList.length-1
   ·subst he;simp only[hlast,decide_true]at hp;have:lJ (bp b)=false:=by simpa using hp
    rw[this];rfl
   ·have ht:lJ (ay (aa b 1) i)=true:=by simpa[he]using hp
    have:((aa b 1).toList.take ((aa b 1).toList.length-1)).any lJ=true:=(take_any (by omega)).2 ⟨i,by omega,by rw[<- bf];exact ht⟩
    rw[this];simp
  simp only[h1,am,ax,List.getD_cons_zero,aC,au,cond_true,hbad,Bool.true_or,Bool.not_true]
  rfl
theorem Tr {g:D} {i:Nat} {n:Int} (hi:i<(aa g 1).toList.length) (hb:(ay (aa g 1) i).size≤lim) (hg:(ay (aa g 1) i).size≤lim) (hn:n=ai (aa g 1)):
 u9 [aa g 1, .int n,g] [.int i]=bif BX n (ay (aa g 1) i)then some (.inr [.int 1])else some (.inl [.int (aQ .add .i64 i 1)]):=by
 subst hn;rw[yX,show ae .lss (i:Int) (ai (aa g 1))=true by(rw[al,aD];simp;omega),aP hi]
 generalize ay (aa g 1) i=b at *;obtain⟨hl,hx⟩:=cb hb;unfold BX;by_cases h0:(aa b 1).toList.length=0
 ·simp[au,aD,h0,aU]
 have hix:=iW h0 hl;have hn0:ae .eql (ai (aa b 1)) 0=false:=by rw[au,aD];simp;intro h;exact h0 (by rw[h];rfl)
 have hm:(aa (bp b) 7).toList.length≤lim:=by
  have h1:=jF (aa (bp b) 7);have h2:=eH (bp b) 7;have h3:=BU (d9 h0);have h4:=eH b 1;unfold lim at hg;omega
 obtain⟨X,hX,hXl⟩:=Tp h0 hl hm;have hT:=kL (hx _ (d9 h0));rw[hix,aP (by omega),show ay (aa b 1) (((aa b 1).toList.length-1:Nat):Int)=bp b from rfl,hn0,Tn,F5 (by rw[Tm];simp only[List.length_take];omega),Tm,hX]
 simp only[am,ax,List.getD_cons_zero,aO,F6 (l:=X) (g:=g) (by rw[hXl];exact hT),hXl,aV,aD,aU,mB,bt,cond_true,cond_false,decide_eq_false h0,Bool.false_or,Bool.and_true]
 have e1:decide ((0:Int)≤(((aa b 1).toList.length-1:Nat):Int))=true:=by simp
 have e2:decide ((((aa b 1).toList.length-1:Nat):Int)≤((aa b 1).toList.length:Int))=true:=by rw[decide_eq_true_iff];omega
 simp only[e1,e2,Int.le_refl,decide_true,Bool.and_self,Bool.cond_self,cond_true];cases lJ (bp b)<;>cases ((aa b 1).toList.take ((aa b 1).toList.length-1)).any lJ<;>simp
theorem cX {g:D} (hg:g.size≤lim):(aa g 1).toList.length≤maxLen∧∀x∈(aa g 1).toList,x.size≤lim:=cb hg
theorem OF {g:D} (hg:g.size≤lim) (hs:g.size≤lim):∃b:Bool,q49 [g]=some [.bool b]∧((aa g 1).toList.length=0->b=false)∧
 ((aa g 1).toList.length≠0->((loW (jy [g]) [.int 0]=some [.int 0]∧b=true)∨(loW (jy [g]) [.int 0]=some [.int 1]∧b=false))):=by
 obtain⟨hl,hx⟩:=cX hg;rw[Sk,F49_eq,Fw];by_cases h0:(aa g 1).toList.length=0
 ·exact⟨false,by simp[au,aD,h0],fun _=>rfl,fun h=>absurd h0 h⟩
 have hn0:ae .eql (ai (aa g 1)) 0=false:=by rw[au,aD];simp;intro h;exact h0 (by rw[h];rfl)
 have hsz:∀i:Nat,i<(aa g 1).toList.length->(ay (aa g 1) i).size≤lim:=fun i hi=>by
  have h1:=BU (get_mem hi);have h2:=eH g 1;omega
 have hp:=vR (st:=u9 [aa g 1, .int (ai (aa g 1)),g]) (n:=(aa g 1).toList.length) (p:=fun i=>BX (ai (aa g 1)) (ay (aa g 1) i)) (r1:=fun _=>[.int 1]) (r0:=[.int 0]) hl
  (fun i hi=>Tr hi (hx _ (get_mem hi)) (hsz i hi) rfl)
  (by rw[yX,show ae .lss ((aa g 1).toList.length:Int) (ai (aa g 1))=false by rw[al,aD];simp];rfl)
 have hr:=vR (st:=jy [g]) (n:=(aa g 1).toList.length) (p:=fun i=>BX (ai (aa g 1)) (ay (aa g 1) i)) (r1:=fun _=>[.int 1]) (r0:=[.int 0]) hl
  (fun i hi=>by
   rw[jz,show ae .lss (i:Int) (ai (aa g 1))=true by rw[al,aD];simp;omega,aP hi,F7 (hx _ (get_mem hi))]
   simp only[cond_true,am,ax,List.getD_cons_zero,aO,bt,Bool.not_not])
  (by rw[jz,show ae .lss ((aa g 1).toList.length:Int) (ai (aa g 1))=false by rw[al,aD];simp];rfl)
 simp only[hn0,cond_false];rcases hp with⟨h1,h2⟩|⟨i,hlt,hpi,_,h1⟩
 ·refine⟨true,by simp[h1,am,ax,aC,au],fun h=>absurd h h0,fun _=> .inl ⟨?_,rfl⟩⟩
  rcases hr with⟨h3,_⟩|⟨j,hj,hpj,_,_⟩
  ·exact h3
  ·rw[h2 j hj]at hpj;cases hpj
 ·refine⟨false,by simp[h1,am,ax,aC,au],fun h=>rfl,fun _=> .inr ⟨?_,rfl⟩⟩
  rcases hr with⟨_,h4⟩|⟨j,hj,hpj,_,h3⟩
  ·rw[h4 i hlt]at hpi;cases hpi
  ·exact h3
def iq (b:D):Int:=bV kK (aa b 1).toList
theorem block_p {b a0:D} {a1 a2:Int} (hb:b.size≤lim):Bz [a0, .int a1, .int a2,aa b 1, .int (ai (aa b 1))] [.int 0]=some (cf (iq b)):=by
 obtain⟨hl,hx⟩:=cb hb;rw[yY];exact lu (st:=rC [a0, .int a1, .int a2,aa b 1, .int (ai (aa b 1))]) (l:=aa b 1) (c:=fun x=>q50 [x]) (e:=kK) (fun i=>by rw[Jh]) hl (fun x hm=>by rw[Sa];exact(rK (hx x hm)).1)
theorem L2 {g:D} {i:Nat} (hi:i<(aa g 1).toList.length) (hb:(ay (aa g 1) i).size≤lim):BD [.int i,g] [.int 0]=some (cf (iq (ay (aa g 1) i))):=by
 obtain⟨hl,hx⟩:=cb hb;rw[y5];exact lu (st:=rF [.int i,g]) (l:=aa (ay (aa g 1) i) 1) (c:=fun x=>q72 [x]) (e:=kK) (fun k=>by rw[Jn,aP hi];simp only[cond_true]) hl (fun x hm=>by rw[Sd];exact(rK (hx x hm)).2)
theorem Ts (e:Int):ae .eql (ah (ar (some (cf e)) 0)) 0=decide (e=0):=eG
def eI (g:D):Int:=ah (ar (F19 [g]) 0)
theorem F9 {g:D} (hg:g.size≤lim) (hs:g.size≤lim):q19 [g]=some [.int (eI g)]∧q35 [g]=some [.int (eI g)]:=by
 obtain⟨hl,hx⟩:=cX hg;have key:∃e,F19 [g]=some [.int e]∧F35 [g]=some [.int e]:=by
  obtain⟨b,hb,hb0,hb1⟩:=OF hg hs;have s1:=BW (st:=Bw [aa g 1, .int (ai (aa g 1)),g]) (l:=aa g 1) (fun s i=>by rw[Oc]) hl
  have s2:=BW (st:=vg [g]) (l:=aa g 1) (fun s i=>by rw[y4]) hl
  have e1:=JB (st:=rD [aa g 1, .int (ai (aa g 1))]) (n:=(aa g 1).toList.length) (e:=fun i=>iq (ay (aa g 1) i)) hl
   (fun i hi=>by
    rw[vb,show ae .lss (i:Int) (ai (aa g 1))=true by rw[al,aD];simp;omega,aP hi,block_p (hx _ (get_mem hi)),eG]
    simp only[cond_true,am];by_cases he:iq (ay (aa g 1) i)=0
    ·simp[he]
    ·simp[he,iU he])
   (by rw[vb,show ae .lss ((aa g 1).toList.length:Int) (ai (aa g 1))=false by rw[al,aD];simp];rfl)
  have e2:=JB (st:=nT [g]) (n:=(aa g 1).toList.length) (e:=fun i=>iq (ay (aa g 1) i)) hl
   (fun i hi=>by
    rw[jA,show ae .lss (i:Int) (ai (aa g 1))=true by rw[al,aD];simp;omega,L2 hi (hx _ (get_mem hi)),eG]
    simp only[cond_true,am];by_cases he:iq (ay (aa g 1) i)=0
    ·simp[he]
    ·simp[he,iU he])
   (by rw[jA,show ae .lss ((aa g 1).toList.length:Int) (ai (aa g 1))=false by rw[al,aD];simp];rfl)
  rw[F19_eq,Sy,Fx,vh,yZ,pe,pf];simp only[s1,s2,e1,e2,hb];simp only[am,ax,List.getD_cons_zero,List.getD_cons_succ,aC,aO,bt,bP,au,aU,cond_true,aD];generalize JC (aa g 1).toList 0=sm;generalize xQ (fun i=>iq (ay (aa g 1) i)) 0 (aa g 1).toList.length=fe
  have hz:∀m:Int,decide (ah (ar (some (cf m)) 0)=0)=decide (m=0):=fun m=>by rw[<- au];exact eG
  have hL:((aa g 1).toList.length=0)↔(((aa g 1).toList.length:Int)=0):=by omega
  simp only[ne_eq,hL]at hb0 hb1;generalize ((aa g 1).toList.length:Int)=L at *;by_cases hmx:256<L
  ·refine⟨6,?_,?_⟩<;>simp[hmx]
  by_cases hsm:1024<sm
  ·refine⟨6,?_,?_⟩<;>simp[hmx,hsm]
  by_cases h0:L=0
  ·refine⟨18,?_,?_⟩<;>simp[hsm,h0,hb0 h0]
  ·rcases hb1 h0 with⟨h1,rfl⟩|⟨h1,rfl⟩
   ·by_cases hf:fe=0
    ·refine⟨0,?_,?_⟩<;>simp[hmx,hsm,h0,h1,hf,am,ax,aC,cf]
    ·refine⟨fe,?_,?_⟩<;>simp[hmx,hsm,h0,h1,hf,am,ax,aC,cf]
   ·refine⟨18,?_,?_⟩<;>simp[hmx,hsm,h0,h1,am,ax,aC]
 obtain⟨e,h1,h2⟩:=key;have:eI g=e:=by unfold eI;rw[h1];simp[ax,aC]
 rw[this,Sq,Jp];exact⟨h1,h2⟩
end
end Go.Proofs.YtfdedgmlafelaaaGreatDoor
namespace Go.Proofs.YtfdedgmlafelaaaGreatDoor
open Go Go.AM
def gB (s:List Bool) (b:Nat):Bool:=s.getD b false
def gI (o:List Int) (b:Nat):Int:=o.getD b 0
def ec (e:Int):List Nat->List Nat->List Bool->List Int->Option (List Nat×List Bool×List Int)
 | [],w,s,o=>some (w,s,o)
 |t::ts,w,s,o=>if gB s t=true then(if gI o t=e then ec e ts w s o else none)else ec e ts (w ++ [t]) (s.set t true) (o.set t e)
def Sub (s:List Bool) (o:List Int) (A:Nat->Option Int):Prop:=∀b,gB s b=true->A b=some (gI o b)
theorem vS {s:List Bool} {t b:Nat} (h:t<s.length):gB (s.set t true) b=(decide (b=t)||gB s b):=by
 unfold gB;simp only[List.getD,List.getElem?_set]
 by_cases e:t=b
 ·subst e;simp[h]
 ·simp[e,show¬b=t from fun x=>e x.symm]
theorem Tt {o:List Int} {t b:Nat} {e:Int} (h:t<o.length):gI (o.set t e) b=if b=t then e else gI o b:=by
 unfold gI;simp only[List.getD,List.getElem?_set]
 by_cases e:t=b
 ·subst e;simp[h]
 ·simp[e,show¬b=t from fun x=>e x.symm]
theorem jG:∀(s:List Bool) (t:Nat),gB s t=false->t<s.length->(s.set t true).count false+1=s.count false
 | [],t,_,h=>by simp at h
 |x::s,0,h,_=>by
  have:x=false:=by simpa[gB]using h
  subst this;simp
 |x::s,t+1,h,hl=>by
  have ih:=jG s t (by simpa[gB]using h) (by simpa using hl)
  simp only[List.set_cons_succ,List.count_cons];omega
theorem cnt_le (s:List Bool):s.count false≤s.length:=List.count_le_length
structure Vis (n:Nat) (e:Int) (ts w:List Nat) (s:List Bool) (o:List Int) (w':List Nat) (s':List Bool) (o':List Int):Prop where
 ls:s'.length=n
 lo:o'.length=n
 new:∃ne,w'=w++ne∧(∀b∈ne,b<n∧gB s' b=true)∧ne.length+s'.count false=s.count false∧∀b,gB s' b=true->gB s b=true∨b∈ne
 old:∀b,gB s b=true->gB s' b=true∧gI o' b=gI o b
 at':∀t∈ts,gB s' t=true∧gI o' t=e
 zero:(∀b,gB s b=false->gI o b=0)->∀b,gB s' b=false->gI o' b=0
 sub:∀A,Sub s o A->(∀t∈ts,A t=some e)->Sub s' o' A
theorem mC {n:Nat} {e:Int}:∀(ts w:List Nat) (s:List Bool) (o:List Int) {w':List Nat} {s':List Bool} {o':List Int},ec e ts w s o=some (w',s',o')->s.length=n->o.length=n->(∀t∈ts,t<n)->Vis n e ts w s o w' s' o'
 | [],w,s,o,w',s',o',h,hs,ho,_=>by
   simp only[ec,Option.some.injEq,Prod.mk.injEq]at h;obtain⟨rfl,rfl,rfl⟩:=h;exact⟨hs,ho,⟨[],by simp,by simp,by simp,fun b h=> .inl h⟩,fun b h=>⟨h,rfl⟩,by simp,fun h=>h,fun _ h _=>h⟩
 |t::ts,w,s,o,w',s',o',h,hs,ho,ht=>by
  have htn:=ht t (by simp)
  unfold ec at h;by_cases hg:gB s t=true
  ·rw[if_pos hg]at h;by_cases he:gI o t=e
   ·rw[if_pos he]at h;have v:=mC ts w s o h hs ho (fun x hx=>ht x (by simp[hx]))
    refine⟨v.ls,v.lo,v.new,v.old,fun x hx=> ?_,v.zero,fun A a1 a2=>v.sub A a1 fun x hx=>a2 x (by simp[hx])⟩
    rcases List.mem_cons.1 hx with rfl|hx
    ·have:=v.old x hg;exact⟨this.1,by rw[this.2,he]⟩
    ·exact v.at' x hx
   ·rw[if_neg he]at h;cases h
  ·rw[if_neg hg]at h;have hg':gB s t=false:=by simpa using hg
   have v:=mC ts (w ++ [t]) (s.set t true) (o.set t e) h (by simpa using hs) (by simpa using ho) (fun x hx=>ht x (by simp[hx]))
   have k1:∀b,gB (s.set t true) b=(decide (b=t)||gB s b):=fun b=>vS (by omega)
   have k2:∀b,gI (o.set t e) b=if b=t then e else gI o b:=fun b=>Tt (by omega)
   have kt:=v.old t (by rw[k1];simp)
   rw[k2,if_pos rfl]at kt;obtain⟨ne,n1,n2,n3,n4⟩:=v.new;have hc:=jG s t hg' (by omega)
   refine⟨v.ls,v.lo,⟨t::ne,by rw[n1];simp,fun b hb=> ?_,by simp only[List.length_cons];omega,fun b hb=> ?_⟩,fun b hb=> ?_,fun x hx=> ?_,fun h0 b hb=> ?_,fun A a1 a2=> ?_⟩
   ·rcases List.mem_cons.1 hb with rfl|hb
    ·exact⟨htn,kt.1⟩
    ·exact n2 b hb
   ·rcases n4 b hb with h1|h1
    ·rw[k1,Bool.or_eq_true,decide_eq_true_eq]at h1;rcases h1 with rfl|h1
     ·exact .inr (by simp)
     ·exact .inl h1
    ·exact .inr (by simp[h1])
   ·have hbt:b≠t:=fun x=>by rw[x,hg']at hb;cases hb
    have:=v.old b (by rw[k1,hb];simp)
    rw[k2,if_neg hbt]at this;exact this
   ·rcases List.mem_cons.1 hx with rfl|hx
    ·exact kt
    ·exact v.at' x hx
   ·refine v.zero (fun b hb=> ?_) b hb
    rw[k1,Bool.or_eq_false_iff,decide_eq_false_iff_not]at hb;rw[k2,if_neg hb.1];exact h0 b hb.2
   ·refine v.sub A (fun b hb=> ?_) (fun x hx=>a2 x (by simp[hx]))
    rw[k2];by_cases hbt:b=t
    ·subst hbt;rw[if_pos rfl];exact a2 b (by simp)
    ·rw[if_neg hbt];rw[k1,Bool.or_eq_true,decide_eq_true_eq]at hb;exact a1 b (hb.resolve_left hbt)
theorem mD {n:Nat} {e:Int} {A:Nat->Option Int}:∀(ts w:List Nat) (s:List Bool) (o:List Int),ec e ts w s o=none->s.length=n->o.length=n->(∀t∈ts,t<n)->Sub s o A->(∀t∈ts,A t=some e)->False
 | [],w,s,o,h,_,_,_,_,_=>by cases h
 |t::ts,w,s,o,h,hs,ho,ht,a1,a2=>by
  have htn:=ht t (by simp)
  unfold ec at h;by_cases hg:gB s t=true
  ·rw[if_pos hg]at h;by_cases he:gI o t=e
   ·rw[if_pos he]at h;exact mD ts w s o h hs ho (fun x hx=>ht x (by simp[hx])) a1 (fun x hx=>a2 x (by simp[hx]))
   ·have h1:=a1 t hg;rw[a2 t (by simp)]at h1
    cases h1;exact he rfl
  ·rw[if_neg hg]at h;refine mD ts _ _ _ h (by simpa using hs) (by simpa using ho) (fun x hx=>ht x (by simp[hx])) (fun b hb=> ?_) (fun x hx=>a2 x (by simp[hx]))
   rw[vS (by omega),Bool.or_eq_true,decide_eq_true_eq]at hb
   rw[Tt (by omega)]
   by_cases hbt:b=t
   ·subst hbt;rw[if_pos rfl];exact a2 b (by simp)
   ·rw[if_neg hbt];exact a1 b (hb.resolve_left hbt)
section
variable (fin:Nat->Int->Option Int) (succ:Nat->List Nat) (n:Nat)
def xR (A:Nat->Option Int):Prop:=A 0=some 0∧∀b d,A b=some d->∃e,fin b d=some e∧∀t∈succ b,A t=some e
def asg (s:List Bool) (o:List Int):Nat->Option Int:=fun b=>if gB s b=true then some (gI o b)else none
def Good:Option (List Bool×List Int)->Prop
 |some (s,o)=>s.length=n∧o.length=n∧xR fin succ (asg s o)∧(∀A,xR fin succ A->Sub s o A)∧∀b,gB s b=false->gI o b=0
 |none=>∀A,¬xR fin succ A
theorem good_eq {r r':Option (List Bool×List Int)} (h:Good fin succ n r) (h':Good fin succ n r'):r.map Prod.snd=r'.map Prod.snd:=by
 cases r with
 |none=>
  cases r' with
  |none=>rfl
  |some p=>exact absurd h'.2.2.1 (h _)
 |some p=>
  cases r' with
  |none=>exact absurd h.2.2.1 (h' _)
  |some p'=>
   obtain⟨s,o⟩:=p;obtain⟨s',o'⟩:=p';obtain⟨l1,l2,c,m,z⟩:=h;obtain⟨l1',l2',c',m',z'⟩:=h';have h1:=m _ c';have h2:=m' _ c;simp only[Option.map_some,Option.some.injEq]
   have key:∀b,gI o b=gI o' b:=fun b=>by
    cases hb:gB s b with
    |true=>
     have:=h1 b hb;unfold asg at this;split at this
     ·exact(Option.some.inj this).symm
     ·cases this
    |false=>
     cases hb':gB s' b with
     |true=>
      have:=h2 b hb';unfold asg at this;split at this
      ·exact Option.some.inj this
      ·cases this
     |false=>rw[z b hb,z' b hb']
   refine List.ext_getElem? fun b=> ?_
   by_cases hb:b<n
   ·have:=key b;unfold gI at this;rw[List.getElem?_eq_getElem (by omega:b<o.length),List.getElem?_eq_getElem (by omega:b<o'.length)]
    rw[List.getD_eq_getElem?_getD,List.getD_eq_getElem?_getD,List.getElem?_eq_getElem (by omega:b<o.length),List.getElem?_eq_getElem (by omega:b<o'.length)]at this
    simpa using this
   ·rw[List.getElem?_eq_none (by omega),List.getElem?_eq_none (by omega)]
structure SInv (P:List Nat) (s:List Bool) (o:List Int):Prop where
 ls:s.length=n
 lo:o.length=n
 s0:gB s 0=true
 o0:gI o 0=0
 clo:∀b,gB s b=true->b∈P∨∃e,fin b (gI o b)=some e∧∀t∈succ b,gB s t=true∧gI o t=e
 pen:∀b∈P,b<n∧gB s b=true
 zero:∀b,gB s b=false->gI o b=0
 sub:∀A,xR fin succ A->Sub s o A
theorem SInv.done {s:List Bool} {o:List Int} (h:SInv fin succ n [] s o):Good fin succ n (some (s,o)):=by
 refine⟨h.ls,h.lo,⟨by unfold asg;rw[if_pos h.s0,h.o0],fun b d hb=> ?_⟩,h.sub,h.zero⟩
 unfold asg at hb;split at hb
 ·rename_i hs;cases hb;rcases h.clo b hs with h1|⟨e,h1,h2⟩
  ·cases h1
  ·exact⟨e,h1,fun t ht=>by unfold asg;rw[if_pos (h2 t ht).1,(h2 t ht).2]⟩
 ·cases hb
theorem SInv.bad {P:List Nat} {s:List Bool} {o:List Int} (h:SInv fin succ n P s o) {b:Nat} (hb:b∈P) (hf:fin b (gI o b)=none):Good fin succ n none:=fun A hA=>by
 obtain⟨e,he,_⟩:=hA.2 b _ (h.sub A hA b (h.pen b hb).2);rw[hf]at he;cases he
theorem SInv.bad2 {P:List Nat} {s:List Bool} {o:List Int} (h:SInv fin succ n P s o) {b:Nat} {e:Int} {w:List Nat} (hb:b∈P) (hf:fin b (gI o b)=some e) (ht:∀t∈succ b,t<n) (hv:ec e (succ b) w s o=none):Good fin succ n none:=fun A hA=>by
 obtain⟨e',he,h2⟩:=hA.2 b _ (h.sub A hA b (h.pen b hb).2);rw[hf]at he;cases he;exact mD (succ b) w s o hv h.ls h.lo ht (h.sub A hA) h2
theorem SInv.step {P P':List Nat} {s s':List Bool} {o o':List Int} (h:SInv fin succ n P s o) {b:Nat} {e:Int} {w w':List Nat} (hb:b∈P) (hP:∀x∈P,x=b∨x∈P') (hP':∀x∈P',x∈P) (hf:fin b (gI o b)=some e) (ht:∀t∈succ b,t<n) (hv:ec e (succ b) w s o=some (w',s',o')):
 ∃ne,w'=w++ne∧ne.length+s'.count false=s.count false∧SInv fin succ n (P'++ne) s' o':=by
 have v:=mC (succ b) w s o hv h.ls h.lo ht;obtain⟨ne,n1,n2,n3,n4⟩:=v.new;refine⟨ne,n1,n3,⟨v.ls,v.lo,(v.old 0 h.s0).1,by rw[(v.old 0 h.s0).2,h.o0],fun x hx=> ?_,fun x hx=> ?_,v.zero h.zero,fun A hA=> ?_⟩⟩
 ·rcases n4 x hx with h1|h1
  ·have ov:=(v.old x h1).2;rcases h.clo x h1 with h2|⟨e',h2,h3⟩
   ·rcases hP x h2 with rfl|h2
    ·exact .inr ⟨e,by rw[ov,hf],v.at'⟩
    ·exact .inl (by simp[h2])
   ·exact .inr ⟨e',by rw[ov,h2],fun t ht=>by have:=v.old t (h3 t ht).1;exact⟨this.1,by rw[this.2,(h3 t ht).2]⟩⟩
  ·exact .inl (by simp[h1])
 ·rcases List.mem_append.1 hx with hx|hx
  ·have:=h.pen x (hP' x hx);exact⟨this.1,(v.old x this.2).1⟩
  ·exact n2 x hx
 ·obtain⟨e',he,h2⟩:=hA.2 b _ (h.sub A hA b (h.pen b hb).2);rw[hf]at he;cases he;exact v.sub A (h.sub A hA) h2
end
theorem SInv.start {fin:Nat->Int->Option Int} {succ:Nat->List Nat} {n:Nat} (hn:0<n):SInv fin succ n [0] ((List.replicate n false).set 0 true) (List.replicate n 0):=by
 have h1:∀b,gB ((List.replicate n false).set 0 true) b=decide (b=0):=fun b=>by
  rw[vS (by simpa using hn)]
  have:gB (List.replicate n false) b=false:=by
   unfold gB;simp only[List.getD,List.getElem?_replicate]
   split<;>rfl
  rw[this,Bool.or_false]
 have h2:∀b,gI (List.replicate n 0) b=0:=fun b=>by
  unfold gI;simp only[List.getD,List.getElem?_replicate]
  split<;>rfl
 refine⟨by simp,by simp,by rw[h1];rfl,h2 0,fun b hb=> ?_,fun b hb=> ?_,fun b _=>h2 b,fun A hA b hb=> ?_⟩
 ·rw[h1,decide_eq_true_eq]at hb;exact .inl (by simp[hb])
 ·simp only[List.mem_singleton]at hb;subst hb;exact⟨hn,by rw[h1];rfl⟩
 ·rw[h1,decide_eq_true_eq]at hb;subst hb;rw[h2];exact hA.1
end Go.Proofs.YtfdedgmlafelaaaGreatDoor
namespace Go.Proofs.YtfdedgmlafelaaaGreatDoor
open Go Go.AM
theorem e9 {e:D->Int}:∀{xs:List D},bV e xs=0->∀x∈xs,e x=0
 | [],_,x,h=>by cases h
 |y::ys,h,x,hx=>by
  unfold bV at h;by_cases hy:e y=0
  ·rw[if_pos hy]at h;rcases List.mem_cons.1 hx with rfl|hx
   ·exact hy
   ·exact e9 h x hx
  ·rw[if_neg hy]at h;exact absurd h hy
theorem zj {e:Nat->Int}:∀{k i:Nat},xQ e i k=0->∀j,i≤j->j<i+k->e j=0
 |0,i,_,j,h1,h2=>by omega
 |k+1,i,h,j,h1,h2=>by
  unfold xQ at h;by_cases hy:e i=0
  ·rw[if_pos hy]at h;by_cases hj:j=i
   ·subst hj;exact hy
   ·exact zj h j (by omega) (by omega)
  ·rw[if_neg hy]at h;exact absurd h hy
theorem expr_ok {d:D} (hd:d.size≤lim) (h:dH d=0) (h3:3≤ah (aa d 0)) (h15:ah (aa d 0)≤15):(aa d 4).toList.length=2:=by
 obtain⟨h1,h2⟩:=Tl d 64;obtain⟨a,b⟩:=pu (bE [d, .int 64]) d 64 hd h1 (by omega) (by omega)
 obtain⟨c,f1,f2⟩:=lq (bE [d]) d hd h2;have e2:=(lw hd).2;rw[h,Bj,rq,rt]at e2;simp only[a,b,f1,f2,am,ax,List.getD_cons_zero,aO,bt,cond_true]at e2;cases c with
 |false=>cases hh:kJ (bE [d, .int 64]) d 64<;>simp[hh]at e2
 |true=>
  obtain⟨N,hN⟩:∃N,bE [d]=N+1:=⟨bE [d]-1,by have:=F0 [d];omega⟩
  rw[hN,I6,uX]at f2;generalize Bi (lI N) [d] [.int 0]=L at f2;have hl:ai (aa d 4)=((aa d 4).toList.length:Int):=aD _;generalize ah (aa d 0)=o at *;simp only[au,be,aV,aU,hl,show¬o=1 by omega,show¬o=2 by omega,show¬o=16 by omega,show¬o=17 by omega,show¬o=18 by omega,show¬o=19 by omega,h3,h15,decide_true,decide_false,cond_true,cond_false]at f2
  cases hL:uZZ L with
  |false=>simp[hL]at f2
  |true=>
   simp only[hL,cond_true]at f2;cases hz:decide (ah (ar L 0)=0)with
   |false=>simp[hz]at f2
   |true=>
    simp only[hz,cond_true,Option.some.injEq,List.cons.injEq,D.bool.injEq,and_true]at f2;revert f2;cases decide (ah (aa d 1)=0)<;>cases decide (ah (aa d 2)=0)<;>cases decide (ah (aa d 3)=0)<;>simp
    intro f2;omega
theorem stmt_ok {s:D} (hs:s.size≤lim) (h:kK s=0) (h1:ah (aa s 0)=1):(aa s 6).toList.length=1∧∀x∈(aa s 6).toList,dH x=0:=by
 obtain⟨hl,hx⟩:=rJ s hs;have e2:=(rK hs).2;have hh:=lu (st:=pc [s]) (l:=s.fld 6) (c:=fun x=>N8 [x]) (e:=dH) (fun i=>by rw[pd,aZ]) hl (fun x hm=>by rw[rz];exact(lw (hx x hm)).2)
 rw[h,I9,nQ,ro,Bb]at e2;simp only[h1,hh,au,bo,al,bP,aU,show¬(1:Int)<1 by omega,show¬(10:Int)<1 by omega,show¬(1:Int)=2 by omega,decide_true,decide_false,cond_true,cond_false,am,ax,List.getD_cons_zero,aC,Ts]at e2
 by_cases hn:(aa s 6).toList.length=1
 ·refine⟨hn,?_⟩
  have hn':ai (aa s 6)=1:=by rw[aD,hn];rfl
  simp only[hn',decide_true,Bool.not_true,cond_false]at e2;by_cases hf:bV dH (s.fld 6).toList=0
  ·rw[aZ];exact e9 hf
  ·have hz:decide (ah (ar (some (cf (bV dH (s.fld 6).toList))) 0)=0)=false:=by rw[<- au,eG];simp[hf]
   have e0:ah ((cf (bV dH (s.fld 6).toList)).getD 0 .other)=ah (ar (some (cf (bV dH (s.fld 6).toList))) 0):=by rw[ax]
   have e1:ah ((cf (bV dH (s.fld 6).toList)).getD 1 .other)=bV dH (s.fld 6).toList:=by rw[<- ax];exact iU hf
   rw[e0]at e2;simp only[hz,cond_false,e1,Option.some.injEq,List.cons.injEq,D.int.injEq,and_true]at e2;exact absurd e2 hf
 ·have hn':¬ai (aa s 6)=1:=by rw[aD];omega
  simp[hn']at e2
theorem gp {g:D} (hg:g.size≤lim) (h:eI g=0):(aa g 1).toList.length≠0∧(aa g 1).toList.length≤256∧
 (∀i,i<(aa g 1).toList.length->BX (ai (aa g 1)) (ay (aa g 1) i)=false)∧∀i,i<(aa g 1).toList.length->∀s∈(aa (ay (aa g 1) i) 1).toList,kK s=0:=by
 obtain⟨hl,hx⟩:=cX hg;have e2:=(F9 hg hg).2;have s2:=BW (st:=vg [g]) (l:=aa g 1) (fun s i=>by rw[y4]) hl
 have hr:=vR (st:=jy [g]) (n:=(aa g 1).toList.length) (p:=fun i=>BX (ai (aa g 1)) (ay (aa g 1) i)) (r1:=fun _=>[.int 1]) (r0:=[.int 0]) hl
  (fun i hi=>by
   rw[jz,show ae .lss (i:Int) (ai (aa g 1))=true by rw[al,aD];simp;omega,aP hi,F7 (hx _ (get_mem hi))]
   simp only[cond_true,am,ax,List.getD_cons_zero,aO,bt,Bool.not_not])
  (by rw[jz,show ae .lss ((aa g 1).toList.length:Int) (ai (aa g 1))=false by rw[al,aD];simp];rfl)
 have e1:=JB (st:=nT [g]) (n:=(aa g 1).toList.length) (e:=fun i=>iq (ay (aa g 1) i)) hl
  (fun i hi=>by
   rw[jA,show ae .lss (i:Int) (ai (aa g 1))=true by rw[al,aD];simp;omega,L2 hi (hx _ (get_mem hi)),eG]
   simp only[cond_true,am];by_cases he:iq (ay (aa g 1) i)=0
   ·simp[he]
   ·simp[he,iU he])
  (by rw[jA,show ae .lss ((aa g 1).toList.length:Int) (ai (aa g 1))=false by rw[al,aD];simp];rfl)
 rw[h,Jp,Sy,vh,pe,pf]at e2;simp only[s2,e1]at e2;generalize hsm:JC (aa g 1).toList 0=sm at e2;generalize hfe:xQ (fun i=>iq (ay (aa g 1) i)) 0 (aa g 1).toList.length=fe at e2
 simp only[am,ax,List.getD_cons_zero,List.getD_cons_succ,aC,aO,bt,bP,au,aU,cond_true,aD]at e2;have hz:decide (ah ((cf fe).getD 0 .other)=0)=decide (fe=0):=by rw[<- ax, <- au];exact eG
 by_cases hmx:256<((aa g 1).toList.length:Int)
 ·simp[hmx]at e2
 by_cases hs1:1024<sm
 ·simp[hmx,hs1]at e2
 by_cases h0:(aa g 1).toList.length=0
 ·simp[hmx,hs1,h0]at e2
 have h0':¬((aa g 1).toList.length:Int)=0:=by omega
 simp only[hmx,hs1,h0',decide_false,cond_false]at e2;rcases hr with⟨h1,h2⟩|⟨i,hi,hpi,_,h1⟩
 ·simp only[h1,am,ax,List.getD_cons_zero,aC,decide_true,cond_true,hz]at e2;by_cases hf:fe=0
  ·refine⟨h0,by omega,h2,fun i hi=>e9 ?_⟩
   exact zj (hfe.trans hf) i (Nat.zero_le _) (by omega)
  ·have e3:ah ((cf fe).getD 1 .other)=fe:=by rw[<- ax];exact iU hf
   simp only[hf,decide_false,cond_false,e3,Option.some.injEq,List.cons.injEq,D.int.injEq,and_true]at e2
 ·simp[h1,am,ax,aC]at e2
end Go.Proofs.YtfdedgmlafelaaaGreatDoor
namespace Go.Proofs.YtfdedgmlafelaaaGreatDoor
noncomputable section
open Go Go.AM
theorem Tu (n:Int):eu .u32 n=n%4294967296:=by
 rw[fj];show IntKind.wrap .u32 n=_
 unfold IntKind.wrap;simp[IntKind.bits,IntKind.signed]
theorem w32 (n:Int):eu .i32 n=(n+2147483648)%4294967296-2147483648:=by
 rw[fj];unfold IntKind.wrap;simp[IntKind.bits,IntKind.signed];split<;>omega
theorem w64 (n:Int):eu .i64 n=(n+9223372036854775808)%18446744073709551616-9223372036854775808:=by
 rw[fj];unfold IntKind.wrap;simp[IntKind.bits,IntKind.signed];split<;>omega
theorem BY (c:Bool) (a b:Int):iy c a b=bif c then a else b:=by rw[iJ]
theorem Tv (a b:Int):aQ .add .i64 a b=(a+b+9223372036854775808)%18446744073709551616-9223372036854775808:=by
 rw[dh];show IntKind.wrap .i64 (a+b)=_
 rw[<- w64,fj]
theorem add32' (a b:Int):aQ .add .u32 a b=(a+b)%4294967296:=by
 rw[dh];show IntKind.wrap .u32 (a+b)=_
 rw[<- Tu,fj]
theorem sub32' (a b:Int):aQ .sub .u32 a b=(a-b)%4294967296:=by
 rw[dh];show IntKind.wrap .u32 (a-b)=_
 rw[<- Tu,fj]
theorem Tx (a:Int):qun .neg .i64 a=(-a+9223372036854775808)%18446744073709551616-9223372036854775808:=by
 rw[Ib];show IntKind.wrap .i64 (0-a)=_
 rw[Int.zero_sub];rw[<- w64,fj]
def w (n:Int):Int:=(n+2147483648)%4294967296-2147483648
def spV (e:D):Bool:=decide (ah (aa e 0)=2)&&decide (ah (aa e 2)=7)
theorem sp_p (e:D):On [e]=some [.bool (spV e)]:=by
 rw[LP,F105_eq];simp only[au,aU,spV];cases decide (ah (aa e 0)=2)<;>rfl
theorem sp_r (e:D):q52 [e]=some [.bool (spV e)]:=by
 rw[SN,F52_eq];simp only[au,aU,spV];cases decide (ah (aa e 0)=2)<;>rfl
theorem pw (n:Int):q64 [.int n]=some [.int (w n)]:=by
 rw[SI,F64_eq,w64,w32,Tu]
 congr 3
 unfold w;omega
theorem Ga (a b:Int):q75 [.int a, .int b]=some [.int (w (a+b))]:=by
 rw[SO,F75_eq,add32',w64,w32,Tu,Tu]
 congr 3
 unfold w;omega
def isSt (e:D):Bool:=spV e||((decide (ah (aa e 0)=3)||decide (ah (aa e 0)=4))&&(spV (ay (aa e 4) 0)&&decide (ah (aa (ay (aa e 4) 1) 0)=1)))
def stN (e:D):Int:=
 if spV e=true then 0 else if isSt e=true then(if ah (aa e 0)=4 then w (- ah (aa (ay (aa e 4) 1) 1))else w (ah (aa (ay (aa e 4) 1) 1)))else 0
theorem Tz {e:D} (he:3≤ah (aa e 0)->ah (aa e 0)≤15->(aa e 4).toList.length=2):q62 [e]=some [.int (stN e), .bool (isSt e)]:=by
 rw[SJ,F62_eq,sp_p];simp only[am,ax,List.getD_cons_zero,aO,cond_true,sp_p,pw,aC,au,bo,aU,bt];have hw:w (qun .neg .i64 (eu .i64 (ah (aa (ay (aa e 4) 1) 1))))=w (- ah (aa (ay (aa e 4) 1) 1)):=by rw[Tx,w64];unfold w;omega
 have hw':w (eu .i64 (ah (aa (ay (aa e 4) 1) 1)))=w (ah (aa (ay (aa e 4) 1) 1)):=by rw[w64];unfold w;omega
 rw[hw,hw'];unfold stN isSt;cases h0:spV e with
 |true=>simp
 |false=>
  by_cases h34:ah (aa e 0)=3∨ah (aa e 0)=4
  ·have hl:=he (by omega) (by omega)
   have i0:aI (aa e 4) 0=true:=aP (i:=0) (by omega)
   have i1:aI (aa e 4) 1=true:=aP (i:=1) (by omega)
   rcases h34 with h|h<;>simp only[h,i0,i1,mB]<;>cases spV (ay (aa e 4) 0)<;>cases h1:decide (ah (aa (ay (aa e 4) 1) 0)=1)<;>simp
  ·have h3:¬ah (aa e 0)=3:=fun h=>h34 (.inl h)
   have h4:¬ah (aa e 0)=4:=fun h=>h34 (.inr h)
   simp[h3,h4]
theorem OG {e:D} (he:3≤ah (aa e 0)->ah (aa e 0)≤15->(aa e 4).toList.length=2):q21 [e]=some [.int (stN e), .bool (isSt e)]:=by
 rw[SP,F21_eq,sp_r];simp only[am,ax,List.getD_cons_zero,aO,cond_true,sp_r,aC,au,bo,aU,BY,bt];have hw:∀n,eu .i64 (eu .i32 n)=w n:=fun n=>by rw[w64,w32];unfold w;omega
 have hs:w (aQ .sub .u32 0 (ah (aa (ay (aa e 4) 1) 1)))=w (- ah (aa (ay (aa e 4) 1) 1)):=by rw[sub32'];unfold w;omega
 unfold stN isSt;cases h0:spV e with
 |true=>simp
 |false=>
  by_cases h34:ah (aa e 0)=3∨ah (aa e 0)=4
  ·have hl:=he (by omega) (by omega)
   have i0:aI (aa e 4) 0=true:=aP (i:=0) (by omega)
   have i1:aI (aa e 4) 1=true:=aP (i:=1) (by omega)
   rcases h34 with h|h<;>simp only[h,i0,i1,mB]<;>cases spV (ay (aa e 4) 0)<;>cases h1:decide (ah (aa (ay (aa e 4) 1) 0)=1)<;>simp[hw,hs,BY]
  ·have h3:¬ah (aa e 0)=3:=fun h=>h34 (.inl h)
   have h4:¬ah (aa e 0)=4:=fun h=>h34 (.inr h)
   simp[h3,h4]
def TA (s:D):Prop:=ah (aa s 0)=1->(aa s 6).toList.length=1∧∀x∈(aa s 6).toList,3≤ah (aa x 0)->ah (aa x 0)≤15->(aa x 4).toList.length=2
theorem stok {s:D} (hs:s.size≤lim) (h:kK s=0):TA s:=fun h1=>by
 obtain⟨l,e⟩:=stmt_ok hs h h1;obtain⟨_,hx⟩:=rJ s hs;exact⟨l,fun x hm=>expr_ok (hx x (by rw[aZ]at hm;exact hm)) (e x hm)⟩
def aft (s:D) (d:Int):Option Int:=
 if ah (aa s 0)=5 then some (w (d+4))else if ah (aa s 0)=3∧ah (aa s 1)=7 then none else
 if ah (aa s 0)=1∧ah (aa s 1)=7 then(if isSt (ay (aa s 6) 0)=true then some (w (d+stN (ay (aa s 6) 0)))else none)else some d
def Ans (r:Option (List D)) (a:Option Int):Prop:=∃x b,r=some [.int x, .bool b]∧a=if b=true then some x else none
theorem TB {s:D} (hs:TA s) (d:Int):Ans (q30 [s, .int d]) (aft s d):=by
 rw[SK,F30_eq];have hw:∀n,w (aQ .add .i64 d n)=w (d+n):=fun n=>by rw[Tv];unfold w;omega
 simp only[pw,hw,am,ax,List.getD_cons_zero,List.getD_cons_succ,aC,aO,au,aU,cond_true];unfold aft;by_cases h5:ah (aa s 0)=5
 ·simp only[h5,decide_true,cond_true,if_true];exact⟨_,true,rfl,rfl⟩
 by_cases h3:ah (aa s 0)=3∧ah (aa s 1)=7
 ·simp only[h3.1,h3.2,decide_true,cond_true,and_self,if_true,show¬(3:Int)=5 by omega,decide_false,cond_false,if_false];exact⟨_,false,rfl,rfl⟩
 have h3':(bif decide (ah (aa s 0)=3)then decide (ah (aa s 1)=7)else false)=false:=by
  cases h:decide (ah (aa s 0)=3)<;>simp_all
 simp only[h5,h3,h3',decide_false,cond_false,if_false];by_cases h1:ah (aa s 0)=1∧ah (aa s 1)=7
 ·obtain⟨hl,hx⟩:=hs h1.1;have i0:aI (aa s 6) 0=true:=aP (i:=0) (by omega)
  have hm:ay (aa s 6) 0∈(aa s 6).toList:=get_mem (i:=0) (by omega)
  simp only[h1.1,h1.2,decide_true,cond_true,and_self,if_true,i0,Tz (hx _ hm),am,ax,List.getD_cons_zero,List.getD_cons_succ,aC,aO];exact⟨_,_,rfl,rfl⟩
 have h1':(bif decide (ah (aa s 0)=1)then decide (ah (aa s 1)=7)else false)=false:=by
  cases h:decide (ah (aa s 0)=1)<;>simp_all
 simp only[h1,h1',cond_false,if_false];exact⟨_,true,rfl,rfl⟩
theorem TC {s:D} (hs:TA s) (d:Int):Ans (q38 [s, .int d]) (aft s d):=by
 rw[SQ,F38_eq];simp only[Ga,am,ax,List.getD_cons_zero,List.getD_cons_succ,aC,aO,au,aU,cond_true];unfold aft;by_cases h5:ah (aa s 0)=5
 ·simp only[h5,decide_true,cond_true,if_true];exact⟨_,true,rfl,rfl⟩
 by_cases h3:ah (aa s 0)=3∧ah (aa s 1)=7
 ·simp only[h3.1,h3.2,decide_true,cond_true,and_self,if_true,show¬(3:Int)=5 by omega,decide_false,cond_false,if_false];exact⟨_,false,rfl,rfl⟩
 have h3':(bif decide (ah (aa s 0)=3)then decide (ah (aa s 1)=7)else false)=false:=by
  cases h:decide (ah (aa s 0)=3)<;>simp_all
 simp only[h5,h3,h3',decide_false,cond_false,if_false];by_cases h1:ah (aa s 0)=1∧ah (aa s 1)=7
 ·obtain⟨hl,hx⟩:=hs h1.1;have i0:aI (aa s 6) 0=true:=aP (i:=0) (by omega)
  have hm:ay (aa s 6) 0∈(aa s 6).toList:=get_mem (i:=0) (by omega)
  simp only[h1.1,h1.2,decide_true,cond_true,and_self,if_true,i0,OG (hx _ hm),am,ax,List.getD_cons_zero,List.getD_cons_succ,aC,aO];exact⟨_,_,rfl,rfl⟩
 have h1':(bif decide (ah (aa s 0)=1)then decide (ah (aa s 1)=7)else false)=false:=by
  cases h:decide (ah (aa s 0)=1)<;>simp_all
 simp only[h1,h1',cond_false,if_false];exact⟨_,true,rfl,rfl⟩
def acr:List D->Int->Option Int
 | [],d=>some d
 |s::ss,d=>match aft s d with
  |some e=>acr ss e
  |none=>none
def ir:Option Int->List D
 |some e=>[.int 0, .int e]
 |none=>[.int 1]
theorem L3 {st:List D->Option (Sum (List D) (List D))} {l:D} {c:D->Int->Option (List D)} (hl:l.toList.length≤maxLen) (hc:∀x∈l.toList,∀d,Ans (c x d) (aft x d))
 (hst:∀(d:Int) (i:Nat),i<l.toList.length->st [.int d, .int i]=bif uZZ (c (ay l i) d)then bif ca (aJ (ar (c (ay l i) d) 1))then some (.inr [.int 1])else some (.inl [.int (ah (ar (c (ay l i) d) 0)), .int (aQ .add .i64 i 1)])else none)
 (h0:∀d:Int,st [.int d, .int l.toList.length]=some (.inr [.int 0, .int d])) (d:Int):loW st [.int d, .int 0]=some (ir (acr l.toList d)):=by
 unfold maxLen at hl;have key:∀k i:Nat,∀d:Int,i+k=l.toList.length->loW st [.int d, .int i]=some (ir (acr (l.toList.drop i) d)):=by
  intro k
  induction k with
  |zero=>
   intro i d hi;obtain rfl:i=l.toList.length:=by omega
   rw[aH,h0,List.drop_of_length_le (Nat.le_refl _)];rfl
  |succ k ih=>
   intro i d hi;have hlt:i<l.toList.length:=by omega
   have hg:ay l i=l.toList[i]:=by rw[bf,getD_lt hlt]
   obtain⟨x,b,h1,h2⟩:=hc (ay l i) (get_mem hlt) d;rw[aH,hst d i hlt,h1,List.drop_eq_getElem_cons hlt];simp only[acr];rw[<- hg,h2];cases b with
   |false=>simp[am,ax,aO,bt,ir]
   |true=>
    simp only[am,ax,List.getD_cons_zero,List.getD_cons_succ,aO,bt,Bool.not_true,cond_true,cond_false,aC,if_true];rw[aT (by omega)]
    exact ih (i+1) x (by omega)
 exact key l.toList.length 0 d (by omega)
def BlOk (b:D):Prop:=(aa b 1).toList.length≤maxLen∧∀s∈(aa b 1).toList,TA s
theorem acr_p {b:D} (hb:BlOk b) (d:Int):Ans (q61 [b, .int d]) (acr (aa b 1).toList d):=by
 have h:=L3 (st:=BG [aa b 1, .int (ai (aa b 1))]) (l:=aa b 1) (c:=fun x d=>q30 [x, .int d]) hb.1 (fun x hx d=>TB (hb.2 x hx) d)
  (fun d i hi=>by rw[y8,show ae .lss (i:Int) (ai (aa b 1))=true by rw[al,aD];simp;omega,aP hi];rfl)
  (fun d=>by rw[y8,show ae .lss ((aa b 1).toList.length:Int) (ai (aa b 1))=false by rw[al,aD];simp];rfl) d
 have h':y9 [aa b 1, .int (ai (aa b 1))] [.int d, .int 0]=some (ir (acr (aa b 1).toList d)):=by rw[FJ];exact h
 rw[SM,F61_eq,h'];cases acr (aa b 1).toList d with
 |some e=>exact⟨e,true,by simp[ir,am,ax,aC,au],rfl⟩
 |none=>exact⟨0,false,by simp[ir,am,ax,aC,au],rfl⟩
theorem acr_r {g a2 a3 a4:D} {a0:Int} {i:Nat} (hi:i<(aa g 1).toList.length) (hb:BlOk (ay (aa g 1) i)) (d:Int):vD [.int a0, .int i,a2,a3,a4,g] [.int d, .int 0]=some (ir (acr (aa (ay (aa g 1) i) 1).toList d)):=by
 rw[zb]
 exact L3 (st:=rG [.int a0, .int i,a2,a3,a4,g]) (l:=aa (ay (aa g 1) i) 1) (c:=fun x d=>q38 [x, .int d]) hb.1 (fun x hx d=>TC (hb.2 x hx) d)
  (fun d k hk=>by rw[vC,aP hi,show ae .lss (k:Int) (ai (aa (ay (aa g 1) i) 1))=true by rw[al,aD];simp;omega,aP hk];rfl)
  (fun d=>by rw[vC,aP hi,show ae .lss ((aa (ay (aa g 1) i) 1).toList.length:Int) (ai (aa (ay (aa g 1) i) 1))=false by rw[al,aD];simp];rfl) d
end
end Go.Proofs.YtfdedgmlafelaaaGreatDoor
namespace Go.Proofs.YtfdedgmlafelaaaGreatDoor
open Go Go.AM
def dI (l:List Int):D:= .list (l.map .int)
def dB (l:List Bool):D:= .list (l.map .bool)
def dN (l:List Nat):D:= .list (l.map fun n:Nat=> .int (n:Int))
theorem cY (l:List Int):ai (dI l)=(l.length:Int):=by rw[aD];simp[dI,D.toList]
theorem dz (l:List Bool):ai (dB l)=(l.length:Int):=by rw[aD];simp[dB,D.toList]
theorem cM (l:List Nat):ai (dN l)=(l.length:Int):=by rw[aD];simp[dN,D.toList]
theorem jT {l:List Int} {i:Nat} (h:i<l.length):aI (dI l) (i:Int)=true:=aP (by simpa[dI,D.toList]using h)
theorem jU {l:List Bool} {i:Nat} (h:i<l.length):aI (dB l) (i:Int)=true:=aP (by simpa[dB,D.toList]using h)
theorem nW {l:List Nat} {i:Nat} (h:i<l.length):aI (dN l) (i:Int)=true:=aP (by simpa[dN,D.toList]using h)
theorem nX (l:List Int) (i:Nat):ah (ay (dI l) (i:Int))=gI l i:=by
 rw[bf,dM];unfold gI dI;simp only[D.toList,List.getD,List.getElem?_map]
 cases l[i]? <;>rfl
theorem qB (l:List Bool) (i:Nat):aJ (ay (dB l) (i:Int))=gB l i:=by
 rw[bf,fX];unfold gB dB;simp only[D.toList,List.getD,List.getElem?_map]
 cases l[i]? <;>rfl
theorem qC {l:List Nat} {i:Nat} (h:i<l.length):ah (ay (dN l) (i:Int))=(l[i]:Int):=by
 rw[bf,dM];unfold dN;simp only[D.toList,List.getD,List.getElem?_map,List.getElem?_eq_getElem h]
 rfl
theorem set_I (l:List Int) (t:Nat) (e:Int):cz (dI l) (t:Int) (.int e)=dI (l.set t e):=by
 rw[jj];unfold dI;simp[D.upd,D.toList,List.map_set]
theorem zk (l:List Bool) (t:Nat) (e:Bool):cz (dB l) (t:Int) (.bool e)=dB (l.set t e):=by
 rw[jj];unfold dB;simp[D.upd,D.toList,List.map_set]
theorem Gb (l:List Nat) (t:Nat):bN (dN l) (.list [.int (t:Int)])=dN (l ++ [t]):=by
 rw[dj];unfold dN;simp[D.app,D.toList]
theorem TD (xs:List D) (m:Nat) (h:xs.length≤m):cj (.list xs) 0 (m:Int) = .list xs:=by
 rw[ji];simp[D.sub,D.toList,List.take_of_length_le h]
theorem L4 {l:List Int} {m:Nat} (h:l.length≤m):cj (dI l) 0 (m:Int)=dI l:=TD _ _ (by simpa using h)
theorem L5 {l:List Bool} {m:Nat} (h:l.length≤m):cj (dB l) 0 (m:Int)=dB l:=TD _ _ (by simpa using h)
theorem TE {l:List Nat} {m:Nat} (h:l.length≤m):cj (dN l) 0 (m:Int)=dN l:=TD _ _ (by simpa using h)
theorem cut_N (l:List Nat) (m:Nat):cj (dN l) 0 (m:Int)=dN (l.take m):=by
 rw[ji];unfold dN;simp[D.sub,D.toList,List.map_take]
def nat (x:D):Nat:=x.toInt.toNat
noncomputable def BZ:Option (List Nat×List Bool×List Int)->List D
 |some (w,s,o)=>[.int 0,dN w,dB s,dI o]
 |none=>[.int 1]
noncomputable def rL:Option (List Nat×List Bool×List Int)->List D
 |some (w,s,o)=>[.int 0,dN w,dI o,dB s]
 |none=>[.int 1]
structure Tg (n:Nat) (X:D):Prop where
 len:X.toList.length≤maxLen
 rng:∀x∈X.toList,0≤ah x∧ah x<n
theorem Tg.get {n:Nat} {X:D} (h:Tg n X) {i:Nat} (hi:i<X.toList.length):ah (ay X (i:Int))=(nat X.toList[i]:Int)∧nat X.toList[i]<n:=by
 have hm:=h.rng _ (List.getElem_mem hi);rw[dM]at hm;have e:ay X (i:Int)=X.toList[i]:=by rw[bf,getD_lt hi]
 rw[e,dM];unfold nat;omega
theorem mem_ok {n:Nat} (h:n≤100000):bF (n:Int) 8=true:=jE h (by omega)
theorem step_p {g X:D} {e:Int} {n:Nat} (hn:n≤256) (hX:Tg n X) {i:Nat} (hi:i<X.toList.length) {w:List Nat} {s:List Bool} {o:List Int} (hs:s.length=n) (ho:o.length=n) (hw:w.length≤256):
 nU [.int e,X, .int (ai X),g] [.int i,dN w,dB s,dI o]=if gB s (nat X.toList[i])=true then(if gI o (nat X.toList[i])=e then some (.inl [.int ((i+1:Nat):Int),dN w,dB s,dI o])else some (.inr [.int 1]))
 else some (.inl [.int ((i+1:Nat):Int),dN (w ++ [nat X.toList[i]]),dB (s.set (nat X.toList[i]) true),dI (o.set (nat X.toList[i]) e)]):=by
 obtain⟨ht,hr⟩:=hX.get hi;have hlen:=hX.len;unfold maxLen at hlen;generalize nat X.toList[i]=t at *;have c0:ae .lss (i:Int) (ai X)=true:=by rw[al,aD];simp;omega
 have c1:ae .leq 0 (t:Int)=true:=by rw[aV];simp
 have c2:ae .lss (t:Int) (ai (dB s))=true:=by rw[al,dz];simp;omega
 have c3:ae .lss (t:Int) (ai (dI o))=true:=by rw[al,cY];simp;omega
 have c4:cj (cz (dI o) (t:Int) (.int e)) 0 (ai (dI o))=dI (o.set t e):=by rw[set_I,cY];exact L4 (by simp)
 have c5:cj (cz (dB s) (t:Int) (.bool true)) 0 (ai (dB s))=dB (s.set t true):=by rw[zk,dz];exact L5 (by simp)
 have c6:cj (dN (w ++ [t])) 0 (ai (dN (w ++ [t])))=dN (w ++ [t]):=by rw[cM];exact TE (Nat.le_refl _)
 have c7:cj (dN w) 0 (ai (dN w))=dN w:=by rw[cM];exact TE (Nat.le_refl _)
 have c8:cj (dI o) 0 (ai (dI o))=dI o:=by rw[cY];exact L4 (Nat.le_refl _)
 have c9:cj (dB s) 0 (ai (dB s))=dB s:=by rw[dz];exact L5 (Nat.le_refl _)
 have d1:ae .eql (ai (dI o)) (ai (dI (o.set t e)))=true:=by rw[au,cY,cY];simp
 have d2:ae .eql (ai (dB s)) (ai (dB (s.set t true)))=true:=by rw[au,dz,dz];simp
 have d3:bF (ai (dN (w ++ [t]))) 8=true:=by rw[cM];exact mem_ok (by simp;omega)
 have i1:aI (dB s) (t:Int)=true:=jU (by omega)
 have i2:aI (dI o) (t:Int)=true:=jT (by omega)
 have a1:aQ .add .i64 (i:Int) 1=((i+1:Nat):Int):=aT (by omega)
 rw[vx];simp only[ht,c0,c1,c2,c3,aP hi,i1,i2,qB,nX,Gb,c4,c5,c6,c7,c8,c9,d1,d2,d3,aj,mB,aU,bt,bo,a1,cond_true,Bool.and_true,Bool.cond_self];cases gB s t with
 |true=>
  simp only[cond_true,if_true,Bool.not_true,cond_false];by_cases he:gI o t=e
  ·simp[he]
  ·simp[he]
 |false=>simp
theorem B0 {g X:D} {e:Int} {n:Nat} (hn:n≤256) (hX:Tg n X):∀(k i:Nat) (w:List Nat) (s:List Bool) (o:List Int),i+k=X.toList.length->s.length=n->o.length=n->w.length+s.count false≤256->
 loW (nU [.int e,X, .int (ai X),g]) [.int i,dN w,dB s,dI o]=some (BZ (ec e ((X.toList.drop i).map nat) w s o))
 |0,i,w,s,o,hi,_,_,_=>by
  have c0:ae .lss (i:Int) (ai X)=false:=by rw[al,aD];simp;omega
  rw[aH,vx,c0,List.drop_of_length_le (by omega)];rfl
 |k+1,i,w,s,o,hi,hs,ho,hw=>by
  have hlt:i<X.toList.length:=by omega
  rw[aH,step_p hn hX hlt hs ho (by omega),List.drop_eq_getElem_cons hlt]
  obtain⟨_,hr⟩:=hX.get hlt;simp only[List.map_cons];unfold ec;generalize nat X.toList[i]=t at *;by_cases hg:gB s t=true
  ·simp only[hg,if_true];by_cases he:gI o t=e
   ·simp only[he,if_true];exact B0 hn hX k (i+1) w s o (by omega) hs ho hw
   ·simp only[he,if_false];rfl
  ·simp only[hg,if_false];have:=jG s t (by simpa using hg) (by omega)
   exact B0 hn hX k (i+1) _ _ _ (by omega) (by simpa using hs) (by simpa using ho) (by simp only[List.length_append,List.length_cons,List.length_nil];omega)
theorem step_r {g X:D} {a0 e:Int} {n:Nat} (hn:n≤256) (hX:Tg n X) {i:Nat} (hi:i<X.toList.length) {w:List Nat} {s:List Bool} {o:List Int} (hs:s.length=n) (ho:o.length=n) (hw:w.length≤256):
 nV [.int a0, .int e,X,g] [.int i,dN w,dI o,dB s]=if gB s (nat X.toList[i])=true then(if gI o (nat X.toList[i])=e then some (.inl [.int ((i+1:Nat):Int),dN w,dI o,dB s])else some (.inr [.int 1]))
 else some (.inl [.int ((i+1:Nat):Int),dN (w ++ [nat X.toList[i]]),dI (o.set (nat X.toList[i]) e),dB (s.set (nat X.toList[i]) true)]):=by
 obtain⟨ht,hr⟩:=hX.get hi;have hlen:=hX.len;unfold maxLen at hlen;generalize nat X.toList[i]=t at *;have c0:ae .lss (i:Int) (ai X)=true:=by rw[al,aD];simp;omega
 have c1:ae .leq 0 (t:Int)=true:=by rw[aV];simp
 have c2:ae .lss (t:Int) (ai (dB s))=true:=by rw[al,dz];simp;omega
 have c3:ae .lss (t:Int) (ai (dI o))=true:=by rw[al,cY];simp;omega
 have d1:ae .eql (ai (dI o)) (ai (dI (o.set t e)))=true:=by rw[au,cY,cY];simp
 have d2:ae .eql (ai (dB s)) (ai (dB (s.set t true)))=true:=by rw[au,dz,dz];simp
 have d3:bF (ai (dN (w ++ [t]))) 8=true:=by rw[cM];exact mem_ok (by simp;omega)
 have i1:aI (dB s) (t:Int)=true:=jU (by omega)
 have i2:aI (dI o) (t:Int)=true:=jT (by omega)
 have a1:aQ .add .i64 (i:Int) 1=((i+1:Nat):Int):=aT (by omega)
 rw[vF];simp only[ht,c0,c1,c2,c3,aP hi,i1,i2,qB,nX,Gb,set_I,zk,d1,d2,d3,aj,mB,aU,bt,bo,a1,cond_true,Bool.and_true,Bool.cond_self];cases gB s t with
 |true=>
  simp only[cond_true,if_true,Bool.not_true,cond_false];by_cases he:gI o t=e
  ·simp[he]
  ·simp[he]
 |false=>simp
theorem B1 {g X:D} {a0 e:Int} {n:Nat} (hn:n≤256) (hX:Tg n X):∀(k i:Nat) (w:List Nat) (s:List Bool) (o:List Int),i+k=X.toList.length->s.length=n->o.length=n->w.length+s.count false≤256->
 loW (nV [.int a0, .int e,X,g]) [.int i,dN w,dI o,dB s]=some (rL (ec e ((X.toList.drop i).map nat) w s o))
 |0,i,w,s,o,hi,_,_,_=>by
  have c0:ae .lss (i:Int) (ai X)=false:=by rw[al,aD];simp;omega
  rw[aH,vF,c0,List.drop_of_length_le (by omega)];rfl
 |k+1,i,w,s,o,hi,hs,ho,hw=>by
  have hlt:i<X.toList.length:=by omega
  rw[aH,step_r hn hX hlt hs ho (by omega),List.drop_eq_getElem_cons hlt]
  obtain⟨_,hr⟩:=hX.get hlt;simp only[List.map_cons];unfold ec;generalize nat X.toList[i]=t at *;by_cases hg:gB s t=true
  ·simp only[hg,if_true];by_cases he:gI o t=e
   ·simp only[he,if_true];exact B1 hn hX k (i+1) w s o (by omega) hs ho hw
   ·simp only[he,if_false];rfl
  ·simp only[hg,if_false];have:=jG s t (by simpa using hg) (by omega)
   exact B1 hn hX k (i+1) _ _ _ (by omega) (by simpa using hs) (by simpa using ho) (by simp only[List.length_append,List.length_cons,List.length_nil];omega)
end Go.Proofs.YtfdedgmlafelaaaGreatDoor
namespace Go.Proofs.YtfdedgmlafelaaaGreatDoor
noncomputable section
open Go Go.AM
def blk (g:D) (b:Nat):D:=ay (aa g 1) (b:Int)
def jW (g:D) (b:Nat) (d:Int):Option Int:=acr (aa (blk g b) 1).toList d
def cx (g:D) (b:Nat):List Nat:=(iV (bp (blk g b))).map nat
structure Gok (g:D) (n:Nat):Prop where
 n0:0<n
 n256:n≤256
 len:(aa g 1).toList.length=n
 bl:∀b,b<n->BlOk (blk g b)
 tp:∀b,b<n->∃X,q22 [blk g b]=some [X]∧Tg n X∧X.toList.map nat=cx g b
 tr:∀b,b<n->∃X,q48 [blk g b]=some [X]∧Tg n X∧X.toList.map nat=cx g b
theorem Gok.suc {g:D} {n b:Nat} (G:Gok g n) (hb:b<n):∀t∈cx g b,t<n:=fun t ht=>by
 obtain⟨X,_,hX,e⟩:=G.tr b hb;rw[<- e]at ht;obtain⟨x,hx,rfl⟩:=List.mem_map.1 ht;have:=hX.rng x hx;rw[dM]at this;unfold nat;omega
theorem TG {g:D} {n:Nat} (G:Gok g n) {b:Nat} {w:List Nat} {s:List Bool} {o:List Int} (hb:b<n) (hs:s.length=n) (ho:o.length=n) (hw:w.length+1+s.count false≤256):
 vz [g] [dN (w ++ [b]),dB s,dI o]=match jW g b (gI o b)with
  |none=>some (.inr [.int 1])
  |some e=>match ec e (cx g b) w s o with
   |none=>some (.inr [.int 1])
   |some (w2,s2,o2)=>some (.inl [dN w2,dB s2,dI o2]):=by
 have hl:ai (dN (w ++ [b]))=((w.length+1:Nat):Int):=by rw[cM];simp
 have c0:ae .gtr ((w.length+1:Nat):Int) 0=true:=by rw[bP,decide_eq_true_eq];omega
 have m:aQ .sub .i64 ((w.length+1:Nat):Int) 1=(w.length:Int):=by rw[qf (by omega) (by omega)];omega
 have c1:ae .leq 0 (w.length:Int)=true:=by rw[aV];simp
 have c2:ae .lss (w.length:Int) ((w.length+1:Nat):Int)=true:=by rw[al];simp;omega
 have c3:ae .leq (w.length:Int) ((w.length+1:Nat):Int)=true:=by rw[aV];simp;omega
 have i0:aI (dN (w ++ [b])) (w.length:Int)=true:=nW (by simp)
 have gb:ah (ay (dN (w ++ [b])) (w.length:Int))=(b:Int):=by rw[qC (by simp)];simp
 have i1:aI (aa g 1) (b:Int)=true:=aP (by rw[G.len];exact hb)
 have c4:ae .leq 0 (b:Int)=true:=by rw[aV];simp
 have c5:ae .lss (b:Int) (ai (dI o))=true:=by rw[al,cY];simp;omega
 have i2:aI (dI o) (b:Int)=true:=jT (by omega)
 obtain⟨x,bb,h1,h2⟩:=acr_p (G.bl b hb) (gI o b);obtain⟨X,hX1,hX2,hX3⟩:=G.tp b hb;have c7:cj (dN (w ++ [b])) 0 (w.length:Int)=dN w:=by rw[cut_N];simp
 have c8:∀o:List Int,cj (dI o) 0 (ai (dI o))=dI o:=fun o=>by rw[cY];exact L4 (Nat.le_refl _)
 have c9:∀s:List Bool,cj (dB s) 0 (ai (dB s))=dB s:=fun s=>by rw[dz];exact L5 (Nat.le_refl _)
 have c10:∀s:List Nat,cj (dN s) 0 (ai (dN s))=dN s:=fun s=>by rw[cM];exact TE (Nat.le_refl _)
 have d1:ae .eql (w.length:Int) (ai (dN w))=true:=by rw[au,cM];simp
 have hv:BI [.int x,X, .int (ai X),g] [.int 0,dN w,dB s,dI o]=some (BZ (ec x (cx g b) w s o)):=by
  have:=B0 (g:=g) (e:=x) G.n256 hX2 X.toList.length 0 w s o (by omega) hs ho (by omega)
  rw[List.drop_zero,hX3]at this;rw[za];exact this
 have hf:jW g b (gI o b)=if bb=true then some x else none:=h2
 rw[hf,pk]
 change q61 [ay (aa g 1) (b:Int),_]=_ at h1
 change q22 [ay (aa g 1) (b:Int)]=_ at hX1
 simp only[hl,c0,m,c1,c2,c3,i0,gb,i1,c4,c5,i2,nX,h1,hX1,am,ax,List.getD_cons_zero,List.getD_cons_succ,aO,aC,bt,c7,c8,c9,aj,d1,hv,cond_true];cases bb with
 |false=>simp
 |true=>
  simp only[Bool.not_true,cond_false,if_true];cases ec x (cx g b) w s o with
  |none=>simp[BZ,au,aC]
  |some r=>
   obtain⟨w2,s2,o2⟩:=r;simp[BZ,au,aC,c8,c9,c10]
def jH:Option (List Bool×List Int)->List D
 |some (_,o)=>[.int 0,dI o]
 |none=>[.int 1]
theorem dfs {g:D} {n:Nat} (G:Gok g n):∀(m:Nat) (w:List Nat) (s:List Bool) (o:List Int),2*s.count false+w.length≤m->SInv (jW g) (cx g) n w s o->w.length+s.count false≤n->
 ∃r,Good (jW g) (cx g) n r∧loW (vz [g]) [dN w,dB s,dI o]=some (jH r):=by
 intro m
 induction m with
 |zero=>
  intro w s o hm inv _;obtain rfl:w = []:=List.length_eq_zero_iff.1 (by omega)
  refine⟨some (s,o),inv.done,?_⟩
  have c0:ae .gtr (ai (dN [])) 0=false:=by rw[bP,cM];rfl
  rw[aH,pk,c0];rfl
 |succ m ih=>
  intro w s o hm inv hc;rcases List.eq_nil_or_concat w with rfl|⟨w',b,rfl⟩
  ·refine⟨some (s,o),inv.done,?_⟩
   have c0:ae .gtr (ai (dN [])) 0=false:=by rw[bP,cM];rfl
   rw[aH,pk,c0];rfl
  ·simp only[List.concat_eq_append]at *;have hb:=inv.pen b (by simp)
   simp only[List.length_append,List.length_cons,List.length_nil]at hm hc;have h256:=G.n256;rw[aH,TG G hb.1 inv.ls inv.lo (by omega)]
   cases hf:jW g b (gI o b)with
   |none=>exact⟨none,inv.bad _ _ _ (by simp) hf,rfl⟩
   |some e=>
    simp only;cases hv:ec e (cx g b) w' s o with
    |none=>exact⟨none,inv.bad2 _ _ _ (by simp) hf (G.suc hb.1) hv,rfl⟩
    |some r=>
     obtain⟨w2,s2,o2⟩:=r;obtain⟨ne,h1,h2,h3⟩:=inv.step (P':=w') _ _ _ (b:=b) (by simp) (fun x hx=>by simpa[or_comm]using hx) (fun x hx=>by simp[hx]) hf (G.suc hb.1) hv
     subst h1;simp only;exact ih _ _ _ (by simp only[List.length_append];omega) h3 (by simp only[List.length_append];omega)
theorem TH {g:D} {n:Nat} (G:Gok g n) {i b:Nat} {w:List Nat} {s:List Bool} {o:List Int} (hi:i<w.length) (hb:b<n) (hwb:w[i]=b) (hs:s.length=n) (ho:o.length=n) (hw:w.length+s.count false≤256):
 pn [g] [.int i,dN w,dI o,dB s]=match jW g b (gI o b)with
  |none=>some (.inr [.int 1])
  |some e=>match ec e (cx g b) w s o with
   |none=>some (.inr [.int 1])
   |some (w2,s2,o2)=>some (.inl [.int ((i+1:Nat):Int),dN w2,dI o2,dB s2]):=by
 have c0:ae .lss (i:Int) (ai (dN w))=true:=by rw[al,cM];simp;omega
 have c1:ae .leq 0 (i:Int)=true:=by rw[aV];simp
 have i0:aI (dN w) (i:Int)=true:=nW hi;have gb:ah (ay (dN w) (i:Int))=(b:Int):=by rw[qC hi,hwb]
 have i1:aI (aa g 1) (b:Int)=true:=aP (by rw[G.len];exact hb)
 have c4:ae .leq 0 (b:Int)=true:=by rw[aV];simp
 have c5:ae .lss (b:Int) (ai (dI o))=true:=by rw[al,cY];simp;omega
 have i2:aI (dI o) (b:Int)=true:=jT (by omega)
 have hbl:b<(aa g 1).toList.length:=by rw[G.len];exact hb
 have h1:=acr_r (a0:=(i:Int)) (a2:=dN w) (a3:=dI o) (a4:=dB s) hbl (G.bl b hb) (gI o b);obtain⟨X,hX1,hX2,hX3⟩:=G.tr b hb;have a1:aQ .add .i64 (i:Int) 1=((i+1:Nat):Int):=aT (by omega)
 have hv:∀x,BK [.int i, .int x,X,g] [.int 0,dN w,dI o,dB s]=some (rL (ec x (cx g b) w s o)):=fun x=>by
  have:=B1 (g:=g) (a0:=(i:Int)) (e:=x) G.n256 hX2 X.toList.length 0 w s o (by omega) hs ho hw
  rw[List.drop_zero,hX3]at this;rw[zc];exact this
 rw[ze]
 change q48 [ay (aa g 1) (b:Int)]=_ at hX1
 change vD _ _=some (ir (jW g b (gI o b)))at h1
 simp only[c0,c1,i0,gb,i1,c4,c5,i2,nX,h1,hX1,am,ax,List.getD_cons_zero,List.getD_cons_succ,aC,cond_true];cases jW g b (gI o b)with
 |none=>simp[ir,aC,au]
 |some x=>
  simp only[ir,List.getD_cons_zero,List.getD_cons_succ,aC,au,decide_true,cond_true,hv,am,ax,a1];cases ec x (cx g b) w s o with
  |none=>simp[rL,aC]
  |some r=>
   obtain⟨w2,s2,o2⟩:=r;simp[rL,aC]
theorem bfs {g:D} {n:Nat} (G:Gok g n):∀(m i:Nat) (w:List Nat) (s:List Bool) (o:List Int),i≤w.length->2*s.count false+(w.length-i)≤m->SInv (jW g) (cx g) n (w.drop i) s o->w.length+s.count false≤n->
 ∃r,Good (jW g) (cx g) n r∧loW (pn [g]) [.int i,dN w,dI o,dB s]=some (jH r):=by
 have stop:∀(w:List Nat) (s:List Bool) (o:List Int),SInv (jW g) (cx g) n (w.drop w.length) s o->∃r,Good (jW g) (cx g) n r∧loW (pn [g]) [.int w.length,dN w,dI o,dB s]=some (jH r):=fun w s o inv=>by
  rw[List.drop_length]at inv;refine⟨some (s,o),inv.done,?_⟩
  have c0:ae .lss (w.length:Int) (ai (dN w))=false:=by rw[al,cM];simp
  rw[aH,ze,c0];rfl
 intro m
 induction m with
 |zero=>
  intro i w s o hi hm inv _;obtain rfl:i=w.length:=by omega
  exact stop w s o inv
 |succ m ih=>
  intro i w s o hi hm inv hc;by_cases hlt:i<w.length
  ·rw[List.drop_eq_getElem_cons hlt]at inv;have hb:=inv.pen w[i] List.mem_cons_self;have h256:=G.n256;rw[aH,TH G hlt hb.1 rfl inv.ls inv.lo (by omega)]
   generalize hbe:w[i]=b at *;cases hf:jW g b (gI o b)with
   |none=>exact⟨none,inv.bad _ _ _ (b:=b) (by simp) hf,rfl⟩
   |some e=>
    simp only;cases hv:ec e (cx g b) w s o with
    |none=>exact⟨none,inv.bad2 _ _ _ (b:=b) (by simp) hf (G.suc hb.1) hv,rfl⟩
    |some r=>
     obtain⟨w2,s2,o2⟩:=r;obtain⟨ne,h1,h2,h3⟩:=inv.step (P':=w.drop (i+1)) _ _ _ (b:=b) (by simp) (fun x hx=>by simpa using hx) (fun x hx=>by simp[hx]) hf (G.suc hb.1) hv
     subst h1;simp only;refine ih (i+1) _ _ _ (by simp only[List.length_append];omega) (by simp only[List.length_append];omega) ?_ (by simp only[List.length_append];omega)
     rw[List.drop_append_of_le_length (by omega)]
     exact h3
  ·obtain rfl:i=w.length:=by omega
   exact stop w s o inv
def py:Option (List Bool×List Int)->List D
 |some (_,o)=>[dI o, .bool true]
 |none=>[.list [], .bool false]
theorem zl {n:Nat} (hn:0<n):((List.replicate n false).set 0 true).count false+1=n:=by
 have:=jG (List.replicate n false) 0 (by unfold gB;simp only[List.getD,List.getElem?_replicate];split<;>rfl) (by simpa using hn)
 rw[this];simp
theorem L6 (n:Nat):ot (n:Int) (.bool false)=dB (List.replicate n false):=by rw[mZ];unfold dB;simp
theorem rep_I (n:Nat):ot (n:Int) (.int 0)=dI (List.replicate n 0):=by rw[mZ];unfold dI;simp
theorem Gd {g:D} {n:Nat} (G:Gok g n):∃r,Good (jW g) (cx g) n r∧q28 [g]=some (py r):=by
 have hn:=G.n0;have h256:=G.n256;have hc:=zl hn;obtain⟨r,hr,h⟩:=dfs G (2*n) [0] _ _ (by simp only[List.length_cons,List.length_nil];omega) (SInv.start hn) (by simp only[List.length_cons,List.length_nil];omega)
 refine⟨r,hr,?_⟩
 have h':LQ [g] [dN [0],dB ((List.replicate n false).set 0 true),dI (List.replicate n 0)]=some (jH r):=by rw[FL];exact h
 have hl:ai (aa g 1)=(n:Int):=by rw[aD,G.len]
 have c1:ae .leq 0 (n:Int)=true:=by rw[aV];simp
 have c2:ae .leq (n:Int) (n:Int)=true:=by rw[aV];simp
 have c3:bF (n:Int) 8=true:=jE (by omega) (by omega)
 have c4:bF (n:Int) 1=true:=jE (by omega) (by omega)
 have c5:ae .leq 0 (0:Int)=true:=by rw[aV];rfl
 have c6:ae .lss 0 (n:Int)=true:=by rw[al];simp;omega
 have i1:aI (dB (List.replicate n false)) 0=true:=jU (i:=0) (by simpa using hn)
 have s1:cz (dB (List.replicate n false)) 0 (.bool true)=dB ((List.replicate n false).set 0 true):=zk _ 0 _;have s2:cj (dB ((List.replicate n false).set 0 true)) 0 (n:Int)=dB ((List.replicate n false).set 0 true):=L5 (by simp)
 have s3:cj (dI (List.replicate n 0)) 0 (n:Int)=dI (List.replicate n 0):=L4 (by simp)
 have e1:ae .eql (n:Int) (ai (dI (List.replicate n 0)))=true:=by rw[au,cY];simp
 have e2:ae .eql (n:Int) (ai (dB ((List.replicate n false).set 0 true)))=true:=by rw[au,dz];simp
 have n0:D.list [.int 0]=dN [0]:=rfl;rw[ST,F28_eq];simp only[hl,c1,c2,c3,c4,c5,c6,L6,rep_I,i1,s1,s2,s3,e1,e2,n0,h',am,ax,cond_true];cases r with
 |none=>simp[jH,py,aC,au]
 |some p=>obtain⟨s,o⟩:=p;simp[jH,py,aC,au]
theorem TI {g:D} {n:Nat} (G:Gok g n) (hg:q35 [g]=some [.int 0]):∃r,Good (jW g) (cx g) n r∧q18 [g]=some (py r):=by
 have hn:=G.n0;have h256:=G.n256;have hc:=zl hn;obtain⟨r,hr,h⟩:=bfs G (2*n) 0 [0] ((List.replicate n false).set 0 true) (List.replicate n 0) (by simp) (by simp only[List.length_cons,List.length_nil];omega) (by simpa using SInv.start hn) (by simp only[List.length_cons,List.length_nil];omega)
 refine⟨r,hr,?_⟩
 have h':LS [g] [.int 0,dN [0],dI (List.replicate n 0),dB ((List.replicate n false).set 0 true)]=some (jH r):=by rw[FO];exact h
 have hl:ai (aa g 1)=(n:Int):=by rw[aD,G.len]
 have c1:ae .leq 0 (n:Int)=true:=by rw[aV];simp
 have c2:ae .leq (n:Int) (n:Int)=true:=by rw[aV];simp
 have c3:bF (n:Int) 8=true:=jE (by omega) (by omega)
 have c4:bF (n:Int) 1=true:=jE (by omega) (by omega)
 have c5:ae .leq 0 (0:Int)=true:=by rw[aV];rfl
 have c6:ae .lss 0 (n:Int)=true:=by rw[al];simp;omega
 have i1:aI (dB (List.replicate n false)) 0=true:=jU (i:=0) (by simpa using hn)
 have s1:cz (dB (List.replicate n false)) 0 (.bool true)=dB ((List.replicate n false).set 0 true):=zk _ 0 _;have e1:ae .eql (n:Int) (ai (dI (List.replicate n 0)))=true:=by rw[au,cY];simp
 have e2:ae .eql (n:Int) (ai (dB ((List.replicate n false).set 0 true)))=true:=by rw[au,dz];simp
 have n0:D.list [.int 0]=dN [0]:=rfl;rw[SW,F18_eq,hg];simp only[hl,c1,c2,c3,c4,c5,c6,L6,rep_I,i1,s1,e1,e2,n0,h',am,ax,List.getD_cons_zero,aC,bo,decide_true,Bool.not_true,cond_true,cond_false];cases r with
 |none=>simp[jH,py,aC,au]
 |some p=>obtain⟨s,o⟩:=p;simp[jH,py,aC,au]
theorem Ge {g:D} {n:Nat} (G:Gok g n) (hg:q35 [g]=some [.int 0]):∃r,q28 [g]=some (py r)∧q18 [g]=some (py r)∧∀s o,r=some (s,o)->o.length=n:=by
 obtain⟨r,h1,h2⟩:=Gd G;obtain⟨r',h3,h4⟩:=TI G hg;have he:=good_eq _ _ _ h1 h3;refine⟨r,h2,?_,fun s o e=>by subst e;exact h1.2.1⟩
 rw[h4];cases r<;>cases r'<;>simp_all[py]
end
end Go.Proofs.YtfdedgmlafelaaaGreatDoor
namespace Go.Proofs.YtfdedgmlafelaaaGreatDoor
open Go Go.AM
theorem pz {n:Int} {b:D} (h:BX n b=false):(aa b 1).toList.length≠0∧∀x∈iV (bp b),0≤ah x∧ah x<n:=by
 unfold BX at h;simp only[Bool.or_eq_false_iff,decide_eq_false_iff_not]at h;obtain⟨h1,⟨_,_⟩,h2⟩:=h;refine⟨h1,fun x hx=> ?_⟩
 have:=List.any_eq_false.1 h2 x hx;unfold outside at this;simp only[Bool.or_eq_true,decide_eq_true_eq,not_or]at this;omega
theorem gok {g:D} (hg:g.size≤lim) (h:eI g=0):Gok g (aa g 1).toList.length:=by
 obtain⟨h0,h256,hbad,hst⟩:=gp hg h;obtain⟨hl,hx⟩:=cX hg;have hb:∀b,b<(aa g 1).toList.length->(blk g b).size≤lim:=fun b hb=>hx _ (get_mem hb)
 have hT:∀b,b<(aa g 1).toList.length->(aa (blk g b) 1).toList.length≠0∧∀X:D,X.toList=iV (bp (blk g b))->Tg (aa g 1).toList.length X∧X.toList.map nat=cx g b:=fun b hb'=>by
  obtain⟨b1,b2⟩:=pz (hbad b hb');refine⟨b1,fun X hX=>⟨⟨?_,fun x hm=> ?_⟩,by rw[hX];rfl⟩⟩
  ·rw[hX];exact kL ((cb (hb b hb')).2 _ (d9 b1))
  ·rw[hX]at hm;have:=b2 x hm;rw[aD]at this;exact this
 refine⟨by omega,h256,rfl,fun b hb'=>⟨(cb (hb b hb')).1,fun s hs=>stok ((cb (hb b hb')).2 s hs) (hst b hb' s hs)⟩,fun b hb'=> ?_,fun b hb'=> ?_⟩
 ·obtain⟨b1,b2⟩:=hT b hb';have hs:=(cb (hb b hb')).2 _ (d9 b1);obtain⟨X,e1,e2⟩:=Tp b1 (cb (hb b hb')).1 (by have h1:=jF (aa (bp (blk g b)) 7);have h2:=eH (bp (blk g b)) 7;omega)
  exact⟨X,e1,b2 X e2⟩
 ·obtain⟨b1,b2⟩:=hT b hb';obtain⟨X,e1,e2⟩:=To (bp (blk g b));refine⟨X,?_,b2 X e2⟩
  have hlm:=(cb (j:=1) (hb b hb')).1;rw[SR,F48_eq,iW b1 hlm,aP (by omega),show ay (aa (blk g b) 1) (((aa (blk g b) 1).toList.length-1:Nat):Int)=bp (blk g b)from rfl,e1]
  have hz:ae .eql (ai (aa (blk g b) 1)) 0=false:=by rw[au,aD,decide_eq_false_iff_not];omega
  simp[hz,am,ax]
noncomputable def isStr (T:TypeId) (m:Nat):Bool:=match PG.underlying T with|some (.struct fs)=>Nat.beq fs.size m|_=>false
theorem fA {T:TypeId} {m:Nat} {d:D} (hT:isStr T m=true) (h:Conf PG T d):∃ds,d = .agg ds∧ds.length=m:=by
 unfold isStr at hT;cases hu:PG.underlying T with
 |none=>rw[hu]at hT;cases hT
 |some td=>
  rw[hu]at hT;cases h with
  |struct h1 hl hd=>
   rw[h1]at hu;cases hu;exact⟨_,rfl,hl.trans (Nat.eq_of_beq_eq_true hT)⟩
  |int h1=>rw[h1]at hu;cases hu;cases hT
  |bool h1=>rw[h1]at hu;cases hu;cases hT
  |str h1=>rw[h1]at hu;cases hu;cases hT
  |slice h1=>rw[h1]at hu;cases hu;cases hT
  |array h1=>rw[h1]at hu;cases hu;cases hT
  |other h1=>unfold cJ at h1;rw[hu]at h1;cases td<;>simp_all
theorem cZ {T:TypeId} {k:IntKind} {d:D} (hT:isInt T k=true) (h:Conf PG T d):d.size=1:=by
 unfold isInt at hT;cases hu:PG.underlying T with
 |none=>rw[hu]at hT;cases hT
 |some td=>
  rw[hu]at hT;cases h with
  |int h1=>simp only[D.size]
  |struct h1=>rw[h1]at hu;cases hu;cases hT
  |bool h1=>rw[h1]at hu;cases hu;cases hT
  |str h1=>rw[h1]at hu;cases hu;cases hT
  |slice h1=>rw[h1]at hu;cases hu;cases hT
  |array h1=>rw[h1]at hu;cases hu;cases hT
  |other h1=>unfold cJ at h1;rw[hu]at h1;cases td<;>simp_all
theorem cn {T e:TypeId} {d:D} (hT:EC T e=true) (h:Conf PG T d):d.size=1+D.sizes d.toList∧d.toList.length≤maxLen∧∀x∈d.toList,Conf PG e x:=by
 obtain⟨h1,⟨xs,rfl⟩,h2⟩:=qconfL_iff.1 (yE hT (qconf_iff.2 h));exact⟨by simp only[D.size,D.toList],h1,h2⟩
theorem cG {T F:TypeId} {j:Nat} {d:D} (hT:eq T j F=true) (h:Conf PG T d):Conf PG F (aa d j):=qconf_iff.1 (QI hT (qconf_iff.2 h))
theorem g5 (ds:List D) (j:Nat):aa (.agg ds) j=ds.getD j .other:=by rw[aZ];rfl
theorem i3:isInt 3 .i64=true:=by kernel_rfl
theorem i22:isInt 22 .u32=true:=by kernel_rfl
theorem s55:EC 55 61=true:=by kernel_rfl
theorem s46:EC 46 3=true:=by kernel_rfl
theorem s52:EC 52 57=true:=by kernel_rfl
theorem s23:EC 23 54=true:=by kernel_rfl
theorem t61:isStr 61 5=true:=by kernel_rfl
theorem t57:isStr 57 8=true:=by kernel_rfl
theorem t54:isStr 54 2=true:=by kernel_rfl
theorem t25:isStr 25 2=true:=by kernel_rfl
theorem f61_0:eq 61 0 3=true:=by kernel_rfl
theorem f61_1:eq 61 1 22=true:=by kernel_rfl
theorem f61_2:eq 61 2 3=true:=by kernel_rfl
theorem f61_3:eq 61 3 3=true:=by kernel_rfl
theorem L7:eq 61 4 55=true:=by kernel_rfl
theorem f57_0:eq 57 0 3=true:=by kernel_rfl
theorem f57_1:eq 57 1 3=true:=by kernel_rfl
theorem f57_2:eq 57 2 3=true:=by kernel_rfl
theorem f57_3:eq 57 3 3=true:=by kernel_rfl
theorem f57_4:eq 57 4 3=true:=by kernel_rfl
theorem f57_5:eq 57 5 22=true:=by kernel_rfl
theorem L8:eq 57 6 55=true:=by kernel_rfl
theorem TJ:eq 57 7 46=true:=by kernel_rfl
theorem f54_0:eq 54 0 22=true:=by kernel_rfl
theorem Gf:eq 54 1 52=true:=by kernel_rfl
theorem f25_0:eq 25 0 22=true:=by kernel_rfl
theorem zm:eq 25 1 23=true:=by kernel_rfl
theorem len2 {ds:List D} (h:ds.length=2):ds = [ds.getD 0 .other,ds.getD 1 .other]:=by
 match ds,h with
 | [a,b],_=>rfl
theorem len5 {ds:List D} (h:ds.length=5):ds = [ds.getD 0 .other,ds.getD 1 .other,ds.getD 2 .other,ds.getD 3 .other,ds.getD 4 .other]:=by
 match ds,h with
 | [a,b,c,d,e],_=>rfl
theorem len8 {ds:List D} (h:ds.length=8):ds = [ds.getD 0 .other,ds.getD 1 .other,ds.getD 2 .other,ds.getD 3 .other,ds.getD 4 .other,ds.getD 5 .other,ds.getD 6 .other,ds.getD 7 .other]:=by
 match ds,h with
 | [a,b,c,d,e,f,g,i],_=>rfl
theorem OH {d:D} (h:Conf PG 61 d):d.size=6+D.sizes (aa d 4).toList:=by
 have a0:=cZ i3 (cG f61_0 h);have a1:=cZ i22 (cG f61_1 h);have a2:=cZ i3 (cG f61_2 h);have a3:=cZ i3 (cG f61_3 h);have a4:=(cn s55 (cG L7 h)).1;obtain⟨ds,rfl,hl⟩:=fA t61 h;simp only[g5]at *;have:D.size (.agg ds)=1+D.sizes ds:=by simp only[D.size]
 rw[this,len5 hl];simp only[D.sizes,List.getD_cons_zero,List.getD_cons_succ];omega
theorem OI {d:D} (h:Conf PG 57 d):d.size=9+D.sizes (aa d 6).toList+D.sizes (aa d 7).toList:=by
 have a0:=cZ i3 (cG f57_0 h);have a1:=cZ i3 (cG f57_1 h);have a2:=cZ i3 (cG f57_2 h);have a3:=cZ i3 (cG f57_3 h);have a4:=cZ i3 (cG f57_4 h);have a5:=cZ i22 (cG f57_5 h);have a6:=(cn s55 (cG L8 h)).1;have a7:=(cn s46 (cG TJ h)).1;obtain⟨ds,rfl,hl⟩:=fA t57 h;simp only[g5]at *;have:D.size (.agg ds)=1+D.sizes ds:=by simp only[D.size]
 rw[this,len8 hl];simp only[D.sizes,List.getD_cons_zero,List.getD_cons_succ];omega
theorem JD {d:D} (h:Conf PG 54 d):d.size=3+D.sizes (aa d 1).toList:=by
 have a0:=cZ i22 (cG f54_0 h);have a1:=(cn s52 (cG Gf h)).1;obtain⟨ds,rfl,hl⟩:=fA t54 h;simp only[g5]at *;have:D.size (.agg ds)=1+D.sizes ds:=by simp only[D.size]
 rw[this,len2 hl];simp only[D.sizes,List.getD_cons_zero,List.getD_cons_succ];omega
theorem JE {d:D} (h:Conf PG 25 d):d.size=3+D.sizes (aa d 1).toList:=by
 have a0:=cZ i22 (cG f25_0 h);have a1:=(cn s23 (cG zm h)).1;obtain⟨ds,rfl,hl⟩:=fA t25 h;simp only[g5]at *;have:D.size (.agg ds)=1+D.sizes ds:=by simp only[D.size]
 rw[this,len2 hl];simp only[D.sizes,List.getD_cons_zero,List.getD_cons_succ];omega
theorem vU:∀xs:List D,(∀x∈xs,x.size=1)->D.sizes xs=xs.length
 | [],_=>rfl
 |x::xs,h=>by
  have h1:=h x (by simp)
  have h2:=vU xs (fun y hy=>h y (by simp[hy]))
  simp only[D.sizes,List.length_cons,h1,h2];omega
theorem nodes:∀(N:Nat) (d:D) (most left:Int),Conf PG 61 d->d.size<N->(-1000000≤most∧most≤1000000)->left≤20000->
 ∃r,F54 N [d, .int most, .int left]=some [.int r]∧(r≤left∨r = -1)∧(0≤r->(d.size:Int)≤6*(left-r)):=by
 intro N
 induction N with
 |zero=>intro d _ _ _ h;omega
 |succ N ih=>
  intro d most left hd hs hm hl;obtain⟨_,hlen,hx⟩:=cn s55 (cG L7 hd);have hsz:=OH hd;rw[F54_s,Fb54_eq];simp only[aD,aU,al,bP];by_cases hg:most<1∨left<1∨(4:Int)<((aa d 4).toList.length:Int)
  ·refine⟨-1,?_, .inr rfl,by omega⟩
   have:(bif bif decide (most<1)then true else decide (left<1)then true else decide ((4:Int)<((aa d 4).toList.length:Int)))=true:=by
    rcases hg with h|h|h<;>simp[h]
   rw[this];rfl
  ·have g1:¬most<1:=fun h=>hg (.inl h)
   have g2:¬left<1:=fun h=>hg (.inr (.inl h))
   have g3:¬(4:Int)<((aa d 4).toList.length:Int):=fun h=>hg (.inr (.inr h))
   simp only[g1,g2,g3,decide_false,cond_false];have key:∀k i:Nat,i+k=(aa d 4).toList.length->∀n:Int,n≤20000->∃r,loW (vm (F54 N) [.int most,d]) [.int n, .int i]=some [.int 0, .int r]∧(r≤n∨r = -1)∧(0≤r->(D.sizes ((aa d 4).toList.drop i):Int)≤6*(n-r)):=by
    intro k
    induction k with
    |zero=>
     intro i hi n hn;rw[aH,y6,List.drop_of_length_le (by omega)]
     simp only[aD,aU,al,show¬((i:Int)<((aa d 4).toList.length:Int))by omega,decide_false,cond_false]
     exact⟨n,rfl, .inl (Int.le_refl _),fun _=>by simp only[D.sizes];omega⟩
    |succ k ihk=>
     intro i hi n hn;rw[aH,y6];have hlt:i<(aa d 4).toList.length:=by omega
     simp only[aD,aU,al,be,show((i:Int)<((aa d 4).toList.length:Int))by omega,decide_true,cond_true]
     by_cases h0:0≤n
     ·have hmem:=get_mem hlt;have hge:ay (aa d 4) (i:Int)=(aa d 4).toList[i]:=by rw[bf,getD_lt hlt]
      obtain⟨r,hr,hr1,hr2⟩:=ih (ay (aa d 4) (i:Int)) (most-1) n (hx _ hmem) (by have:=BU hmem;have:=eH d 4;have h9:D.size (ay (aa d 4) (i:Int))≤D.sizes (aa d 4).toList:=by{rw[hge];exact er (List.getElem?_eq_getElem hlt)};omega) (by omega) hn
      have hsub:aQ .sub .i64 most 1=most-1:=qf (by omega) (by omega)
      obtain⟨r',hr',hr1',hr2'⟩:=ihk (i+1) (by omega) r (by omega)
      refine⟨r',by simp only[h0,decide_true,cond_true,aP hlt,hsub,hr,am,ax,List.getD_cons_zero,aC,aT (show i<9223372036854775807 by omega),hr'],by omega,fun h=> ?_⟩
      rw[List.drop_eq_getElem_cons hlt, <- hge];simp only[D.sizes];have:=hr2' h;have:=hr2 (by omega)
      omega
     ·exact⟨n,by simp only[h0,decide_false,cond_false], .inl (Int.le_refl _),fun h=>absurd h h0⟩
   obtain⟨r,h1,h2,h3⟩:=key (aa d 4).toList.length 0 (by omega) (left-1) (by omega)
   have hsub:aQ .sub .i64 left 1=left-1:=qf (by omega) (by omega)
   refine⟨r,?_,by omega,fun h=> ?_⟩
   ·rw[FF,hsub];have h1':loW (vm (F54 N) [.int most,d]) [.int (left-1), .int 0]=some [.int 0, .int r]:=h1;simp only[h1',am,ax,List.getD_cons_zero,List.getD_cons_succ,aC,cond_true]
   ·have:=h3 h;rw[List.drop_zero]at this;omega
theorem nodes' {d:D} {left:Int} (hd:Conf PG 61 d) (hl:left≤20000):∃r,q54 [d, .int 70, .int left]=some [.int r]∧(r≤left∨r = -1)∧(0≤r->(d.size:Int)≤6*(left-r)):=by
 rw[SC];exact nodes _ d 70 left hd (e8 (by simp)) (by omega) hl
theorem loopE {s g:D} {a b:Int} (hs:Conf PG 57 s) (hlen:(aa s 6).toList.length≤4):∀(k i:Nat) (left:Int),i+k=(aa s 6).toList.length->0≤left->left≤20000->
 loW (eF [.int 70, .int a, .int b,s,g]) [.int left, .int i]=some [.int 1]∨∃r,loW (eF [.int 70, .int a, .int b,s,g]) [.int left, .int i]=some [.int 0, .int r]∧0≤r∧r≤left∧(D.sizes ((aa s 6).toList.drop i):Int)≤6*(left-r):=by
 intro k
 induction k with
 |zero=>
  intro i left hi h0 hl;have c0:ae .lss (i:Int) (ai (aa s 6))=false:=by rw[al,aD,decide_eq_false_iff_not];omega
  rw[aH,vn,c0,List.drop_of_length_le (by omega)]
  exact .inr ⟨left,rfl,h0,Int.le_refl _,by simp only[D.sizes];omega⟩
 |succ k ih=>
  intro i left hi h0 hl;have hlt:i<(aa s 6).toList.length:=by omega
  have c0:ae .lss (i:Int) (ai (aa s 6))=true:=by rw[al,aD,decide_eq_true_eq];omega
  obtain⟨_,_,hx⟩:=cn s55 (cG L8 hs);have hge:ay (aa s 6) (i:Int)=(aa s 6).toList[i]:=by rw[bf,getD_lt hlt]
  obtain⟨r,h1,h2,h3⟩:=nodes' (hx _ (get_mem hlt)) hl;rw[aH,vn,c0,aP hlt,h1];simp only[am,ax,List.getD_cons_zero,aC,al,cond_true];by_cases hr:r<0
  ·exact .inl (by simp[hr])
  ·simp only[hr,decide_false,cond_false,aT (show i<9223372036854775807 by omega)]
   rcases ih (i+1) r (by omega) (by omega) (by omega)with h|⟨r',h,e1,e2,e3⟩
   ·exact .inl h
   ·refine .inr ⟨r',h,e1,by omega,?_⟩
    rw[List.drop_eq_getElem_cons hlt, <- hge];simp only[D.sizes];have:=h3 (by omega)
    omega
theorem loopS {g:D} {b:Nat} (hb:b<(aa g 1).toList.length) (hc:Conf PG 54 (blk g b)) (hlen:(aa (blk g b) 1).toList.length≤1100):∀(k i:Nat) (left:Int),i+k=(aa (blk g b) 1).toList.length->0≤left->left≤20000->
 loW (dT [.int 70, .int b,g]) [.int left, .int i]=some [.int 1]∨∃r,loW (dT [.int 70, .int b,g]) [.int left, .int i]=some [.int 0, .int r]∧0≤r∧r≤left∧(D.sizes ((aa (blk g b) 1).toList.drop i):Int)≤109*(k:Int)+6*(left-r):=by
 intro k;have hq:ay (aa g 1) (b:Int)=blk g b:=rfl
 induction k with
 |zero=>
  intro i left hi h0 hl;have c0:ae .lss (i:Int) (ai (aa (blk g b) 1))=false:=by rw[al,aD,decide_eq_false_iff_not];omega
  rw[aH,jB,aP hb,hq,c0,List.drop_of_length_le (by omega)]
  exact .inr ⟨left,rfl,h0,Int.le_refl _,by simp only[D.sizes];omega⟩
 |succ k ih=>
  intro i left hi h0 hl;have hlt:i<(aa (blk g b) 1).toList.length:=by omega
  have c0:ae .lss (i:Int) (ai (aa (blk g b) 1))=true:=by rw[al,aD,decide_eq_true_eq];omega
  obtain⟨_,_,hx⟩:=cn s52 (cG Gf hc);have hge:ay (aa (blk g b) 1) (i:Int)=(aa (blk g b) 1).toList[i]:=by rw[bf,getD_lt hlt]
  have hs:=hx _ (get_mem hlt);have hsz:=OI hs;obtain⟨_,_,hcs⟩:=cn s46 (cG TJ hs);have hone:=vU _ (fun x hm=>cZ i3 (hcs x hm))
  rw[aH,jB,aP hb,hq,c0,aP hlt];generalize ay (aa (blk g b) 1) (i:Int)=s at *;simp only[aD,bP,aU,cond_true];by_cases h4:(4:Int)<((aa s 6).toList.length:Int)
  ·exact .inl (by simp[h4])
  by_cases h100:(100:Int)<((aa s 7).toList.length:Int)
  ·exact .inl (by simp[h4,h100])
  simp only[h4,h100,decide_false,cond_false];have hE:=loopE (g:=g) (a:=(b:Int)) (b:=(i:Int)) hs (by omega) (aa s 6).toList.length 0 left (by omega) h0 hl
  have e0:∀ds,vo [.int 70, .int b, .int i,s,g] ds=loW (eF [.int 70, .int b, .int i,s,g]) ds:=fun ds=>by rw[ph]
  rw[e0];rcases hE with h|⟨r,h,e1,e2,e3⟩
  ·have h':loW (eF [.int 70, .int b, .int i,s,g]) [.int left, .int 0]=some [.int 1]:=h;rw[h'];exact .inl (by simp[am,ax,aC,au])
  ·have h':loW (eF [.int 70, .int b, .int i,s,g]) [.int left, .int 0]=some [.int 0, .int r]:=h;rw[h'];simp only[am,ax,List.getD_cons_zero,List.getD_cons_succ,aC,au,decide_true,cond_true,aT (show i<9223372036854775807 by omega)]
   rcases ih (i+1) r (by omega) e1 (by omega)with h|⟨r',h,f1,f2,f3⟩
   ·exact .inl h
   ·refine .inr ⟨r',h,f1,by omega,?_⟩
    rw[List.drop_eq_getElem_cons hlt, <- hge];rw[List.drop_zero]at e3;simp only[D.sizes];omega
theorem loopB {g:D} (hc:Conf PG 25 g) (hlen:(aa g 1).toList.length≤300):∀(k i:Nat) (left:Int),i+k=(aa g 1).toList.length->0≤left->left≤20000->
 loW (fK [.int 70,g]) [.int left, .int i]=some [.int 1]∨(loW (fK [.int 70,g]) [.int left, .int i]=some [.int 0]∧(D.sizes ((aa g 1).toList.drop i):Int)≤119903*(k:Int)+6*left):=by
 intro k
 induction k with
 |zero=>
  intro i left hi h0 hl;have c0:ae .lss (i:Int) (ai (aa g 1))=false:=by rw[al,aD,decide_eq_false_iff_not];omega
  rw[aH,lm,c0,List.drop_of_length_le (by omega)]
  exact .inr ⟨rfl,by simp only[D.sizes];omega⟩
 |succ k ih=>
  intro i left hi h0 hl;have hlt:i<(aa g 1).toList.length:=by omega
  have c0:ae .lss (i:Int) (ai (aa g 1))=true:=by rw[al,aD,decide_eq_true_eq];omega
  obtain⟨_,_,hx⟩:=cn s23 (cG zm hc);have hq:ay (aa g 1) (i:Int)=blk g i:=rfl;have hge:ay (aa g 1) (i:Int)=(aa g 1).toList[i]:=by rw[bf,getD_lt hlt]
  have hs:Conf PG 54 (blk g i):=hx _ (get_mem hlt);have hsz:=JD hs;rw[aH,lm,c0,aP hlt,hq];simp only[aD,bP,cond_true];by_cases h4:(1100:Int)<((aa (blk g i) 1).toList.length:Int)
  ·exact .inl (by simp[h4])
  simp only[h4,decide_false,cond_false];have hS:=loopS hlt hs (by omega) (aa (blk g i) 1).toList.length 0 left (by omega) h0 hl
  have e0:∀ds,vt [.int 70, .int i,g] ds=loW (dT [.int 70, .int i,g]) ds:=fun ds=>by rw[pj]
  rw[e0];rcases hS with h|⟨r,h,e1,e2,e3⟩
  ·have h':loW (dT [.int 70, .int i,g]) [.int left, .int 0]=some [.int 1]:=h;rw[h'];exact .inl (by simp[am,ax,aC,au])
  ·have h':loW (dT [.int 70, .int i,g]) [.int left, .int 0]=some [.int 0, .int r]:=h;rw[h'];simp only[am,ax,List.getD_cons_zero,List.getD_cons_succ,aC,au,decide_true,cond_true,aT (show i<9223372036854775807 by omega)]
   rcases ih (i+1) r (by omega) e1 (by omega)with h|⟨h,f3⟩
   ·exact .inl h
   ·refine .inr ⟨h,?_⟩
    rw[List.drop_eq_getElem_cons hlt, <- hge,hq];rw[List.drop_zero]at e3;simp only[D.sizes];omega
theorem small {g:D} (hc:Conf PG 25 g):∃b,q25 [g, .int 70]=some [.bool b]∧(b=true->g.size≤lim):=by
 rw[Js,SE];simp only[aD,bP];by_cases h3:(300:Int)<((aa g 1).toList.length:Int)
 ·exact⟨false,by simp[h3],fun h=>by cases h⟩
 have hB:=loopB hc (by omega) (aa g 1).toList.length 0 20000 (by omega) (by omega) (by omega)
 have e0:∀ds,y7 [.int 70,g] ds=loW (fK [.int 70,g]) ds:=fun ds=>by rw[vw]
 simp only[h3,decide_false,cond_false,e0];rcases hB with h|⟨h,e⟩
 ·have h':loW (fK [.int 70,g]) [.int 20000, .int 0]=some [.int 1]:=h;rw[h'];exact⟨false,by simp[am,ax,aC,au],fun h=>by cases h⟩
 ·have h':loW (fK [.int 70,g]) [.int 20000, .int 0]=some [.int 0]:=h;rw[h'];refine⟨true,by simp[am,ax,aC,au],fun _=> ?_⟩
  rw[List.drop_zero]at e;rw[JE hc];unfold lim;omega
theorem large {g:D} (hc:Conf PG 25 g):q8 [g]=some [.bool true]∨(q8 [g]=some [.bool false]∧g.size≤lim):=by
 obtain⟨b,h1,h2⟩:=small hc;obtain⟨_,hlen,_⟩:=cn s23 (cG zm hc);have key:∀(k i:Nat) (s:Int),i+k=(aa g 1).toList.length->loW (qv [g]) [.int s, .int i]=some [.int 0]∨loW (qv [g]) [.int s, .int i]=some [.int 1]:=by
  unfold maxLen at hlen;intro k
  induction k with
  |zero=>
   intro i s hi;have c0:ae .lss (i:Int) (ai (aa g 1))=false:=by rw[al,aD,decide_eq_false_iff_not];omega
   rw[aH,FI,c0];exact .inl rfl
  |succ k ih=>
   intro i s hi;have hlt:i<(aa g 1).toList.length:=by omega
   have c0:ae .lss (i:Int) (ai (aa g 1))=true:=by rw[al,aD,decide_eq_true_eq];omega
   rw[aH,FI,c0,aP hlt];simp only[cond_true];cases ae .gtr (aQ .add .i64 s (ai (aa (ay (aa g 1) (i:Int)) 1))) 400 with
   |true=>exact .inr rfl
   |false=>
    simp only[cond_false,aT (show i<9223372036854775807 by omega)]
    exact ih (i+1) _ (by omega)
 have hk:=key (aa g 1).toList.length 0 0 (by omega)
 rw[SF,F8_eq,h1];have e0:∀ds,l8_5 [g] ds=loW (qv [g]) ds:=fun ds=>by rw[LO]
 simp only[e0,am,ax,List.getD_cons_zero,aO,aU,bt,Bool.cond_self,cond_true];cases ae .gtr (ai (aa g 1)) 40 with
 |true=>exact .inl rfl
 |false=>
  cases b with
  |false=>exact .inl rfl
  |true=>
   have hk':loW (qv [g]) [.int 0, .int 0]=some [.int 0]∨loW (qv [g]) [.int 0, .int 0]=some [.int 1]:=hk;rcases hk' with h|h<;>rw[h]
   ·exact .inr ⟨by simp[am,ax,aC,au],h2 rfl⟩
   ·exact .inl (by simp[am,ax,aC,au])
theorem okT:AT PG=true:=by kernel_rfl
theorem pg:PG=Tryz.prog:=by unfold PG;rfl
theorem tabs {W:World} {E:Nat->Prop} {S:FunS} {p s:List D} (g:Nat) (cs:List AV) (hgl:(dF S p s).glob g=some cs):g<W.heap.size∧tc E W g cs:=by
 have hp:(dF S p s).glob g=none:=rfl;rw[hp]at hgl;cases hgl
end Go.Proofs.YtfdedgmlafelaaaGreatDoor
namespace Go.Proofs.YtfdedgmlafelaaaGreatDoor
open Go Go.AM
theorem out_p (x g:D):kH [.int (ah x),g]=some [.bool (outside (ai (aa g 1)) x)]:=by
 rw[qw,FQ];simp only[aU,al,be,outside];cases decide (ah x<0)<;>simp
theorem del_p {X g:D} (hl:X.toList.length≤maxLen) (h:∀x∈X.toList,0≤ah x∧ah x<ai (aa g 1)):fy [X,g]=some [X]:=by
 have hn:X.toList.any (outside (ai (aa g 1)))=false:=by
  rw[List.any_eq_false];intro x hx;have:=h x hx;unfold outside;simp only[Bool.or_eq_true,decide_eq_true_eq];omega
 have h1:eS [X,g, .int (ai X)] [.int 0]=some [.int 0]:=by
  rw[lU];rcases eZ (st:=gZ [X,g, .int (ai X)]) (l:=X) (c:=fun x=>kH [.int (ah x),g]) (p:=outside (ai (aa g 1))) (r1:=fun i=>[.int 1, .int i]) (r0:=[.int 0]) (fun i=>by rw[vJ]) hl (fun x _=>out_p x g)with⟨h1,_⟩|⟨_,_,h2⟩
  ·exact h1
  ·rw[hn]at h2;cases h2
 rw[qz,FU,qx,FS,h1];simp only[am,ax,List.getD_cons_zero,aC,au,decide_true,cond_true]
noncomputable def edg (g:D) (b:Nat):D:=ar (Ov [g, .int b]) 0
theorem edg_p {g:D} (hg:g.size≤lim) (h:eI g=0) {b:Nat} (hb:b<(aa g 1).toList.length):
 Ov [g, .int b]=some [edg g b]∧Tg (aa g 1).toList.length (edg g b)∧(edg g b).toList.map nat=cx g b:=by
 obtain⟨h0,h256,hbad,_⟩:=gp hg h;obtain⟨hl,hx⟩:=cX hg;have hsz:(blk g b).size≤lim:=hx _ (get_mem hb);have b1:(aa (blk g b) 1).toList.length≠0:=(pz (hbad b hb)).1;have b2:∀x∈iV (bp (blk g b)),0≤ah x∧ah x<ai (aa g 1):=(pz (hbad b hb)).2
 have hT:∀X:D,X.toList=iV (bp (blk g b))->Tg (aa g 1).toList.length X∧X.toList.map nat=cx g b:=fun X hX=>by
  refine⟨⟨?_,fun x hm=> ?_⟩,by rw[hX];rfl⟩
  ·rw[hX];exact kL ((cb hsz).2 _ (d9 b1))
  ·rw[hX]at hm;have:=b2 x hm;rw[aD]at this;exact this
 suffices hs:∃X,Ov [g, .int b]=some [X]∧X.toList=iV (bp (blk g b))by
  obtain⟨X,e1,e2⟩:=hs;have:edg g b=X:=by unfold edg;rw[e1,ax];rfl
  rw[this];exact⟨e1,hT X e2⟩
 have hlm:=(cb (j:=1) hsz).1
 have hd:∀X:D,X.toList=iV (bp (blk g b))->fy [X,g]=some [X]:=fun X hX=>by
  obtain⟨⟨t1,t2⟩,_⟩:=hT X hX;exact del_p t1 (fun x hx=>by rw[aD];exact t2 x hx)
 have hz:ae .eql (ai (aa (blk g b) 1)) 0=false:=by rw[au,aD,decide_eq_false_iff_not];omega
 have hls:ay (aa (blk g b) 1) (((aa (blk g b) 1).toList.length-1:Nat):Int)=bp (blk g b):=rfl;have hss:=(cb hsz).2 _ (d9 b1);have h7l:(aa (bp (blk g b)) 7).toList.length≤lim:=by have h1:=jF (aa (bp (blk g b)) 7);have h2:=eH (bp (blk g b)) 7;omega
 rw[LU,F127_eq,aP hb,show ay (aa g 1) (b:Int)=blk g b from rfl,hz,iW b1 hlm,aP (by omega),hls]
 simp only[cond_true,cond_false,au];unfold iV at hd ⊢;by_cases h6:ah (aa (bp (blk g b)) 0)=6
 ·have:=hd (.list [.int (ah (aa (bp (blk g b)) 3))]) (by simp[h6,bW])
  simp[h6,this,am,ax,bW]
 by_cases h7:ah (aa (bp (blk g b)) 0)=7
 ·have:=hd (.list [.int (ah (aa (bp (blk g b)) 3)), .int (ah (aa (bp (blk g b)) 4))]) (by simp[h7,bW])
  simp[h7,this,am,ax,bW]
 by_cases h8:ah (aa (bp (blk g b)) 0)=8
 ·have hq:q53 [aa (bp (blk g b)) 7]=some [bN (.list []) (aa (bp (blk g b)) 7)]:=by
   rw[Bu];unfold F53;have:bN (.list []) (aa (bp (blk g b)) 7) = .list (aa (bp (blk g b)) 7).toList:=by rw[dj];simp[D.app,bW]
   simp only[List.headD_cons,this,aD,bW];rw[gK];have hr:qI ((aa (bp (blk g b)) 7).toList.length:Int) 8=true:=by
    simp[qI];have hlim:lim=100000000:=rfl;omega
   rw[hr];rfl
  have ha:(bN (.list []) (aa (bp (blk g b)) 7)).toList=(aa (bp (blk g b)) 7).toList:=by rw[dj];simp[D.app,bW]
  have:=hd (bN (.list []) (aa (bp (blk g b)) 7)) (by rw[ha];simp[h8])
  simp[h8,hq,this,am,ax,ha]
 have:=hd (.list []) (by simp[h6,h7,h8,bW])
 simp[h6,h7,h8,this,am,ax,bW]
theorem all_p {g:D} (hg:g.size≤lim) (h:eI g=0):∃L:D,q96 [g]=some [L]∧L.toList.length=(aa g 1).toList.length∧∀b,b<(aa g 1).toList.length->ay L (b:Int)=edg g b:=by
 obtain⟨h0,h256,_,_⟩:=gp hg h
 have key:∀(k i:Nat) (xs:List D),i+k=(aa g 1).toList.length->xs.length=(aa g 1).toList.length->(∀b,b<i->xs[b]? = some (edg g b))->
  ∃ys:List D,loW (BO [.int (ai (aa g 1)),g]) [.int i, .list xs]=some [.int 0, .list ys]∧ys.length=(aa g 1).toList.length∧∀b,b<(aa g 1).toList.length->ys[b]? = some (edg g b):=by
  intro k
  induction k with
  |zero=>
   intro i xs hi hxl hx;have c0:ae .lss (i:Int) (ai (aa g 1))=false:=by rw[al,aD,decide_eq_false_iff_not];omega
   exact⟨xs,by rw[aH,zf,c0];rfl,hxl,fun b hb=>hx b (by omega)⟩
  |succ k ih=>
   intro i xs hi hxl hx;have hlt:i<(aa g 1).toList.length:=by omega
   have c0:ae .lss (i:Int) (ai (aa g 1))=true:=by rw[al,aD,decide_eq_true_eq];omega
   have c1:ae .leq 0 (i:Int)=true:=by rw[aV];simp
   have c2:ae .lss (i:Int) (ai (.list xs))=true:=by rw[al,bQ,decide_eq_true_eq];omega
   have i0:aI (.list xs) (i:Int)=true:=aP (by simpa[bW]using by omega)
   have hs:cz (.list xs) (i:Int) (edg g i) = .list (xs.set i (edg g i)):=by rw[jj];simp[D.upd,bW]
   have c3:ae .eql (ai (.list xs)) (ai (.list (xs.set i (edg g i))))=true:=by rw[au,bQ,bQ];simp
   obtain⟨ys,e1,e2,e3⟩:=ih (i+1) (xs.set i (edg g i)) (by omega) (by simpa using hxl) (fun b hb=>by
    rw[List.getElem?_set]
    by_cases hbi:i=b
    ·subst hbi;simp[show i<xs.length by omega]
    ·rw[if_neg hbi];exact hx b (by omega))
   refine⟨ys,?_,e2,e3⟩
   rw[aH,zf,c0,(edg_p hg h hlt).1];simp only[am,ax,List.getD_cons_zero,c1,c2,i0,hs,c3,cond_true,aT (show i<9223372036854775807 by omega)]
   exact e1
 have hl:ai (aa g 1)=((aa g 1).toList.length:Int):=aD _;have hr:ot ((aa g 1).toList.length:Int) (D.list []) = .list (List.replicate (aa g 1).toList.length (D.list [])):=by rw[mZ];simp
 obtain⟨ys,e1,e2,e3⟩:=key (aa g 1).toList.length 0 (List.replicate (aa g 1).toList.length (D.list [])) (by omega) (by simp) (fun b hb=>by omega)
 have e1':LV [.int ((aa g 1).toList.length:Int),g] [.int 0, .list (List.replicate (aa g 1).toList.length (D.list []))]=some [.int 0, .list ys]:=by rw[FV, <- hl];exact e1
 have c1:ae .leq 0 ((aa g 1).toList.length:Int)=true:=by rw[aV];simp
 have c2:ae .leq ((aa g 1).toList.length:Int) ((aa g 1).toList.length:Int)=true:=by rw[aV];simp
 have c3:bF ((aa g 1).toList.length:Int) 24=true:=jE (by omega) (by omega)
 have c4:ae .eql ((aa g 1).toList.length:Int) (ai (.list (List.replicate (aa g 1).toList.length (D.list []))))=true:=by rw[au,bQ];simp
 refine⟨.list ys,?_,e2,fun b hb=> ?_⟩
 ·rw[S0,F96_eq];simp only[hl,hr,c1,c2,c3,c4,e1',am,ax,List.getD_cons_zero,List.getD_cons_succ,cond_true]
 ·rw[bf,bW,List.getD,e3 b hb];rfl
structure DV (n:Nat) (suc:Nat->List Nat) (ts:List Nat) (s s':List Bool) (ne:List Nat):Prop where
 ls:s'.length=n
 old:∀b,gB s b=true->gB s' b=true
 at':∀t∈ts,gB s' t=true
 mem:∀b,gB s' b=true->gB s b=true∨b∈ne
 nb:∀b∈ne,b<n∧gB s' b=true
 cnt:ne.length+s'.count false=s.count false
 clo:∀b∈ne,∀t∈suc b,gB s' t=true
 sub:∀A:Nat->Prop,(∀b,A b->∀t∈suc b,A t)->(∀t∈ts,A t)->∀b∈ne,A b
section
variable {g L:D} {n:Nat} {suc:Nat->List Nat}
structure Edges (L:D) (n:Nat) (suc:Nat->List Nat):Prop where
 n256:n≤256
 len:L.toList.length=n
 tg:∀b,b<n->Tg n (ay L (b:Int))∧(ay L (b:Int)).toList.map nat=suc b
def L9 (L:D) (n:Nat) (suc:Nat->List Nat) (Q:uAC) (N:Nat):Prop:=
 ∀(k:Nat) (post:List Nat) (s:List Bool),k<n->gB s k=false->s.length=n->s.count false≤N->post.length+s.count false≤256->
  ∃ne s',Q [L, .int k,dN post,dB s]=some [dN (post++ne),dB s']∧DV n suc [k] s s' ne
theorem vV (hE:Edges L n suc) {Q:uAC} {N:Nat} (hQ:L9 L n suc Q N) {X:D} (hX:Tg n X) {a:Int}:∀(m i:Nat) (post:List Nat) (s:List Bool),i+m=X.toList.length->s.length=n->s.count false≤N->post.length+s.count false≤256->
 ∃ne s',loW (rH Q [.int a,X, .int (ai X),L]) [.int i,dN post,dB s]=some [.int 0,dN (post++ne),dB s']∧DV n suc ((X.toList.drop i).map nat) s s' ne
 |0,i,post,s,hi,hs,_,_=>by
  have c0:ae .lss (i:Int) (ai X)=false:=by rw[al,aD];simp;omega
  refine⟨[],s,by rw[aH,vN,c0];simp,?_⟩
  rw[List.drop_of_length_le (by omega)]
  exact⟨hs,fun b h=>h,by simp,fun b h=> .inl h,by simp,by simp,by simp,fun _ _ _ b h=>by cases h⟩
 |m+1,i,post,s,hi,hs,hN,hp=>by
  have hlt:i<X.toList.length:=by omega
  obtain⟨ht,hr⟩:=hX.get hlt;have hlen:=hX.len;unfold maxLen at hlen;have hd:(X.toList.drop i).map nat=nat X.toList[i]::(X.toList.drop (i+1)).map nat:=by rw[List.drop_eq_getElem_cons hlt];rfl
  generalize nat X.toList[i]=t at *;have c0:ae .lss (i:Int) (ai X)=true:=by rw[al,aD];simp;omega
  have c1:ae .leq 0 (t:Int)=true:=by rw[aV];simp
  have c2:ae .lss (t:Int) (ai (dB s))=true:=by rw[al,dz];simp;omega
  have i1:aI (dB s) (t:Int)=true:=jU (by omega)
  have a1:aQ .add .i64 (i:Int) 1=((i+1:Nat):Int):=aT (by omega)
  rw[aH,vN,c0,aP hlt,ht,c1,c2,i1,qB,a1,hd];cases hg:gB s t with
  |true=>
   obtain⟨ne,s',e,v⟩:=vV hE hQ hX m (i+1) post s (by omega) hs hN hp
   refine⟨ne,s',by simpa[bt]using e,⟨v.ls,v.old,fun x hx=> ?_,v.mem,v.nb,v.cnt,v.clo,fun A h1 h2=>v.sub A h1 fun x hx=>h2 x (List.mem_cons_of_mem _ hx)⟩⟩
   rcases List.mem_cons.1 hx with rfl|hx
   ·exact v.old _ hg
   ·exact v.at' x hx
  |false=>
   obtain⟨ne1,s1,e1,v1⟩:=hQ t post s hr hg hs hN hp;have hc1:=v1.cnt;obtain⟨ne2,s2,e2,v2⟩:=vV hE hQ hX m (i+1) (post++ne1) s1 (by omega) v1.ls (by omega) (by simp only[List.length_append];omega)
   have hc2:=v2.cnt;refine⟨ne1++ne2,s2,?_,⟨v2.ls,fun b h=>v2.old b (v1.old b h),fun x hx=> ?_,fun b hb=> ?_,fun b hb=> ?_,by simp only[List.length_append];omega,fun b hb=> ?_,fun A h1 h2 b hb=> ?_⟩⟩
   ·simp only[bt,Bool.not_false,cond_true,e1,am,ax,List.getD_cons_zero,List.getD_cons_succ];rw[e2,List.append_assoc]
   ·rcases List.mem_cons.1 hx with rfl|hx
    ·exact v2.old _ (v1.at' _ (by simp))
    ·exact v2.at' x hx
   ·rcases v2.mem b hb with h|h
    ·rcases v1.mem b h with h|h
     ·exact .inl h
     ·exact .inr (by simp[h])
    ·exact .inr (by simp[h])
   ·rcases List.mem_append.1 hb with h|h
    ·exact⟨(v1.nb b h).1,v2.old b (v1.nb b h).2⟩
    ·exact v2.nb b h
   ·rcases List.mem_append.1 hb with h|h
    ·intro t' ht';exact v2.old _ (v1.clo b h t' ht')
    ·exact v2.clo b h
   ·rcases List.mem_append.1 hb with h|h
    ·exact v1.sub A h1 (fun x hx=>by simp only[List.mem_singleton]at hx;subst hx;exact h2 _ (by simp)) b h
    ·exact v2.sub A h1 (fun x hx=>h2 x (List.mem_cons_of_mem _ hx)) b h
theorem TK (hE:Edges L n suc) {Q:uAC} {N:Nat} (hQ:L9 L n suc Q N):L9 L n suc (LX Q) (N+1):=by
 intro k post s hk hg hs hN hp;have h256:=hE.n256;obtain⟨hT,hS⟩:=hE.tg k hk;have hcnt:=jG s k hg (by omega)
 have c1:ae .leq 0 (k:Int)=true:=by rw[aV];simp
 have c2:ae .lss (k:Int) (ai (dB s))=true:=by rw[al,dz];simp;omega
 have i1:aI (dB s) (k:Int)=true:=jU (by omega)
 have i2:aI L (k:Int)=true:=aP (by rw[hE.len];exact hk)
 have s1:cz (dB s) (k:Int) (.bool true)=dB (s.set k true):=zk _ _ _;have d1:ae .eql (ai (dB s)) (ai (dB (s.set k true)))=true:=by rw[au,dz,dz];simp
 obtain⟨ne,s',e,v⟩:=vV hE hQ hT (a:=(k:Int)) (ay L (k:Int)).toList.length 0 post (s.set k true) (by omega) (by simpa using hs) (by omega) (by omega)
 have hc:=v.cnt;rw[List.drop_zero,hS]at v;have e':BQ Q [.int (k:Int),ay L (k:Int), .int (ai (ay L (k:Int))),L] [.int 0,dN post,dB (s.set k true)]=some [.int 0,dN (post++ne),dB s']:=by rw[zg];exact e
 have d3:bF (ai (dN (post++ne ++ [k]))) 8=true:=by rw[cM];exact mem_ok (by simp only[List.length_append,List.length_cons,List.length_nil];omega)
 have k1:∀b,gB (s.set k true) b=(decide (b=k)||gB s b):=fun b=>vS (by omega)
 have hks:gB s' k=true:=v.old k (by rw[k1];simp)
 refine⟨ne ++ [k],s',?_,⟨v.ls,fun b h=>v.old b (by rw[k1,h];simp),fun x hx=>by simp only[List.mem_singleton]at hx;subst hx;exact hks,fun b hb=> ?_,fun b hb=> ?_,by simp only[List.length_append,List.length_cons,List.length_nil];omega,fun b hb=> ?_,fun A h1 h2 b hb=> ?_⟩⟩
 ·rw[S1];simp only[c1,c2,i1,i2,s1,d1,e',am,ax,List.getD_cons_zero,List.getD_cons_succ,Gb,d3,cond_true];rw[List.append_assoc]
 ·rcases v.mem b hb with h|h
  ·rw[k1,Bool.or_eq_true,decide_eq_true_eq]at h;rcases h with rfl|h
   ·exact .inr (by simp)
   ·exact .inl h
  ·exact .inr (by simp[h])
 ·rcases List.mem_append.1 hb with h|h
  ·exact v.nb b h
  ·simp only[List.mem_singleton]at h;subst h;exact⟨hk,hks⟩
 ·rcases List.mem_append.1 hb with h|h
  ·exact v.clo b h
  ·simp only[List.mem_singleton]at h;subst h;exact v.at'
 ·have hAk:A k:=h2 k (by simp)
  rcases List.mem_append.1 hb with h|h
  ·exact v.sub A h1 (h1 k hAk) b h
  ·simp only[List.mem_singleton]at h;subst h;exact hAk
theorem Ma (hE:Edges L n suc):∀N,L9 L n suc (S2 N) N
 |0=>fun k post s hk hg hs hN _=>by
  have hcnt:=jG s k hg (by omega)
  omega
 |N+1=>by
  have:=TK hE (Ma hE N);intro k post s hk hg hs hN hp;rw[F125_s];exact this k post s hk hg hs hN hp
theorem vis_q (hE:Edges L n suc) {k:Nat} {post:List Nat} {s:List Bool} (hk:k<n) (hg:gB s k=false) (hs:s.length=n) (hp:post.length+s.count false≤256):
 ∃ne s',Oz [L, .int k,dN post,dB s]=some [dN (post++ne),dB s']∧DV n suc [k] s s' ne:=by
 have hf:s.count false≤bE [L, .int k,dN post,dB s]:=by
  have h1:=e8 (l:=[L, .int k,dN post,dB s]) (d:=dB s) (by simp)
  have h2:=cnt_le s;have h3:=FZ (dB s);have h4:(dB s).toList.length=s.length:=by simp[dB,D.toList]
  omega
 rw[LY];exact Ma hE _ k post s hk hg hs hf hp
end
theorem TL:∀(m:Nat) (i j:Nat) (l:List Nat),i+j+1=l.length∨(l = []∧i=0∧j=0)->j≤m+i->l.length≤100000->
 ∃l',loW (rI []) [.int i, .int (if l = []then -1 else(j:Int)),dN l]=some [.int 0,dN l']∧l'.length=l.length∧∀x,x∈l'↔x∈l:=by
 intro m
 induction m with
 |zero=>
  intro i j l h hm _;refine⟨l,?_,rfl,fun x=>Iff.rfl⟩
  have c0:ae .lss (i:Int) (if l = []then -1 else(j:Int))=false:=by rw[al,decide_eq_false_iff_not];split<;>omega
  rw[aH,mA,c0];rfl
 |succ m ih=>
  intro i j l h hm hb;by_cases hij:i<j∧l≠[]
  ·obtain⟨hij,hne⟩:=hij;have hl:i+j+1=l.length:=by
    rcases h with h|h
    ·exact h
    ·exact absurd h.1 hne
   have hil:i<l.length:=by omega
   have hjl:j<l.length:=by omega
   rw[if_neg hne];have c0:ae .lss (i:Int) (j:Int)=true:=by rw[al,decide_eq_true_eq];omega
   have c1:ae .leq 0 (j:Int)=true:=by rw[aV];simp
   have c2:ae .lss (j:Int) (ai (dN l))=true:=by rw[al,cM,decide_eq_true_eq];omega
   have c3:ae .leq 0 (i:Int)=true:=by rw[aV];simp
   have c4:ae .lss (i:Int) (ai (dN l))=true:=by rw[al,cM,decide_eq_true_eq];omega
   have s1:∀(l:List Nat) (t v:Nat),cz (dN l) (t:Int) (.int (v:Int))=dN (l.set t v):=fun l t v=>by rw[jj];unfold dN;simp[D.upd,D.toList,List.map_set]
   have i3:aI (dN (l.set i l[j])) (j:Int)=true:=nW (by simpa using hjl)
   have d1:ae .eql (ai (dN l)) (ai (dN ((l.set i l[j]).set j l[i])))=true:=by rw[au,cM,cM];simp
   have a1:aQ .add .i64 (i:Int) 1=((i+1:Nat):Int):=aT (by omega)
   have a2:aQ .sub .i64 (j:Int) 1=((j-1:Nat):Int):=by rw[qf (by omega) (by omega)];omega
   have hnl:((l.set i l[j]).set j l[i]).length=l.length:=by simp
   have hne':(l.set i l[j]).set j l[i]≠[]:=fun h=>by rw[h]at hnl;simp at hnl;omega
   obtain⟨l',e1,e2,e3⟩:=ih (i+1) (j-1) ((l.set i l[j]).set j l[i]) (.inl (by rw[hnl];omega)) (by omega) (by rw[hnl];exact hb)
   rw[if_neg hne']at e1;refine⟨l',?_,by rw[e2,hnl],fun x=> ?_⟩
   ·rw[aH,mA,c0,c1,c2,nW hjl,c3,c4,nW hil,qC hil,qC hjl,s1,s1,i3,d1,a1,a2];exact e1
   ·rw[e3];constructor
    ·intro hx;rcases List.mem_or_eq_of_mem_set hx with hx|rfl
     ·rcases List.mem_or_eq_of_mem_set hx with hx|rfl
      ·exact hx
      ·exact List.getElem_mem _
     ·exact List.getElem_mem _
    ·intro hx;obtain⟨p,hp,rfl⟩:=List.getElem_of_mem hx;by_cases h1:p=i
     ·subst h1;exact List.mem_iff_getElem.2 ⟨j,by simpa using hjl,by simp⟩
     ·by_cases h2:p=j
      ·subst h2;exact List.mem_iff_getElem.2 ⟨i,by simpa using hil,by rw[List.getElem_set_ne (by omega)];simp⟩
      ·exact List.mem_iff_getElem.2 ⟨p,by simpa using hp,by rw[List.getElem_set_ne (by omega),List.getElem_set_ne (by omega)]⟩
  ·refine⟨l,?_,rfl,fun x=>Iff.rfl⟩
   have c0:ae .lss (i:Int) (if l = []then -1 else(j:Int))=false:=by
    rw[al,decide_eq_false_iff_not];split
    ·omega
    ·rename_i hne;have:¬i<j:=fun h=>hij ⟨h,hne⟩;omega
   rw[aH,mA,c0];rfl
theorem rev_p {l:List Nat} (hb:l.length≤100000):∃l',q126 [dN l]=some [dN l']∧l'.length=l.length∧∀x,x∈l'↔x∈l:=by
 obtain⟨l',e1,e2,e3⟩:=TL l.length 0 (l.length-1) l (by
  cases l with
  |nil=>right;simp
  |cons x l=>left;simp) (by omega) hb
 refine⟨l',?_,e2,e3⟩
 have a:aQ .sub .i64 (ai (dN l)) 1=(if l = []then -1 else((l.length-1:Nat):Int)):=by
  rw[cM,qf (by omega) (by omega)]
  split
  ·rename_i h;subst h;rfl
  ·rename_i h;have:0<l.length:=List.length_pos_iff.2 h;omega
 have e1':BR [] [.int 0, .int (aQ .sub .i64 (ai (dN l)) 1),dN l]=some [.int 0,dN l']:=by rw[zh,a];exact e1
 rw[LZ,F126_eq,e1'];simp[am,ax]
theorem reach_p {g:D} (hg:g.size≤lim) (h:eI g=0):∃R:List Bool,q20 [g]=some [dB R]∧R.length=(aa g 1).toList.length∧gB R 0=true∧(∀b,gB R b=true->b<(aa g 1).toList.length∧∀t∈cx g b,gB R t=true)∧
 ∀A:Nat->Prop,(∀b,A b->∀t∈cx g b,A t)->A 0->∀b,gB R b=true->A b:=by
 obtain⟨h0,h256,_,_⟩:=gp hg h;obtain⟨L,l1,l2,l3⟩:=all_p hg h;generalize hn:(aa g 1).toList.length=n at *
 have hE:Edges L n (cx g):=⟨h256,l2,fun b hb=>by
  have:=edg_p hg h (b:=b) (by rw[hn];exact hb)
  rw[hn]at this;rw[l3 b hb]
  exact this.2⟩
 have hf:∀b,gB (List.replicate n false) b=false:=fun b=>by
  unfold gB;simp only[List.getD,List.getElem?_replicate]
  split<;>rfl
 obtain⟨ne,s',e1,v⟩:=vis_q hE (k:=0) (post:=[]) (s:=List.replicate n false) (by omega) (hf 0) (by simp) (by simp;omega)
 have hcnt:=v.cnt;rw[List.count_replicate_self]at hcnt;obtain⟨l',r1,r2,r3⟩:=rev_p (l:=ne) (by omega)
 have mark:∀(k i:Nat) (s:List Bool),i+k=l'.length->s.length=n->∃s'',loW (BS [dN l', .int (ai (dN l'))]) [.int i,dB s]=some [.int 0,dB s'']∧s''.length=n∧∀b,gB s'' b=true↔(gB s b=true∨b∈l'.drop i):=by
  intro k
  induction k with
  |zero=>
   intro i s hi hs;have c0:ae .lss (i:Int) (ai (dN l'))=false:=by rw[al,cM,decide_eq_false_iff_not];omega
   refine⟨s,by rw[aH,zi,c0];rfl,hs,fun b=>by rw[List.drop_of_length_le (by omega)];simp⟩
  |succ k ih=>
   intro i s hi hs;have hlt:i<l'.length:=by omega
   have ht:=(v.nb l'[i] ((r3 _).1 (List.getElem_mem hlt))).1;have hg2:=qC hlt;have hdr:=List.drop_eq_getElem_cons hlt;generalize l'[i]=t at *;have c0:ae .lss (i:Int) (ai (dN l'))=true:=by rw[al,cM,decide_eq_true_eq];omega
   have c1:ae .leq 0 (t:Int)=true:=by rw[aV];simp
   have c2:ae .lss (t:Int) (ai (dB s))=true:=by rw[al,dz];simp;omega
   have i1:aI (dB s) (t:Int)=true:=jU (by omega)
   have d1:ae .eql (ai (dB s)) (ai (dB (s.set t true)))=true:=by rw[au,dz,dz];simp
   have a1:aQ .add .i64 (i:Int) 1=((i+1:Nat):Int):=aT (by omega)
   obtain⟨s'',e1,e2,e3⟩:=ih (i+1) (s.set t true) (by omega) (by simpa using hs)
   refine⟨s'',?_,e2,fun b=> ?_⟩
   ·rw[aH,zi,c0,nW hlt,hg2,c1,c2,i1,zk,d1,a1];exact e1
   ·rw[e3,vS (by omega),hdr,Bool.or_eq_true,decide_eq_true_eq,List.mem_cons]
    constructor
    ·rintro((h|h)|h)
     ·exact .inr (.inl h)
     ·exact .inl h
     ·exact .inr (.inr h)
    ·rintro(h|h|h)
     ·exact .inl (.inr h)
     ·exact .inl (.inl h)
     ·exact .inr h
 obtain⟨R,m1,m2,m3⟩:=mark l'.length 0 (List.replicate n false) (by omega) (by simp)
 have hR:∀b,gB R b=true↔b∈ne:=fun b=>by rw[m3,hf,List.drop_zero,r3];simp
 have hRs:∀b,gB R b=true↔gB s' b=true:=fun b=>by
  rw[hR];constructor
  ·exact fun hb=>(v.nb b hb).2
  ·intro hb;rcases v.mem b hb with h|h
   ·rw[hf]at h;cases h
   ·exact h
 have c1:ae .leq 0 (n:Int)=true:=by rw[aV];simp
 have c2:ae .leq (n:Int) (n:Int)=true:=by rw[aV];simp
 have c4:bF (n:Int) 1=true:=jE (by omega) (by omega)
 have c5:ae .eql (n:Int) (ai (dB (List.replicate n false)))=true:=by rw[au,dz];simp
 have hLn:ai L=(n:Int):=by rw[aD,l2]
 have h95:q95 [L, .int 0]=some [dN l']:=by
  have c3:ae .geq 0 (n:Int)=false:=by rw[be,decide_eq_false_iff_not];omega
  have e1':Oz [L, .int 0, .list [],dB (List.replicate n false)]=some [dN ne,dB s']:=e1;have c6:ae .eql (ai (dN ne)) (ai (dN l'))=true:=by rw[au,cM,cM,r2];simp
  rw[Tc,F95_eq];simp only[hLn,c1,c2,c3,c4,L6,c5,e1',r1,c6,am,ax,List.getD_cons_zero,List.getD_cons_succ,cond_true,cond_false]
 have h51:q51 [g]=some [dN l']:=by
  rw[Td,F51_eq,l1];simp only[am,ax,List.getD_cons_zero,h95,cond_true]
 refine⟨R,?_,m2,(hRs 0).2 (v.at' 0 (by simp)),fun b hb=> ?_,fun A a1 a2 b hb=> ?_⟩
 ·have hl:ai (aa g 1)=(n:Int):=by rw[aD,hn]
  have m1':L0 [dN l', .int (ai (dN l'))] [.int 0,dB (List.replicate n false)]=some [.int 0,dB R]:=by rw[FY];exact m1
  rw[Tf,F20_eq];simp only[hl,c1,c2,c4,h51,L6,c5,m1',am,ax,List.getD_cons_zero,List.getD_cons_succ,cond_true]
 ·have hm:=(hR b).1 hb;exact⟨(v.nb b hm).1,fun t ht=>(hRs t).2 (v.clo b hm t ht)⟩
 ·exact v.sub A a1 (fun t ht=>by simp only[List.mem_singleton]at ht;subst ht;exact a2) b ((hR b).1 hb)
end Go.Proofs.YtfdedgmlafelaaaGreatDoor
namespace Go.Proofs.YtfdedgmlafelaaaGreatDoor
open Go Go.AM
theorem JF {fin:Nat->Int->Option Int} {suc:Nat->List Nat} {s:List Bool} {o:List Int} {R:List Bool} (hc:xR fin suc (asg s o)) (hm:∀A,xR fin suc A->Sub s o A)
 (r0:gB R 0=true) (rc:∀b,gB R b=true->∀t∈suc b,gB R t=true) (rm:∀A:Nat->Prop,(∀b,A b->∀t∈suc b,A t)->A 0->∀b,gB R b=true->A b):∀b,gB R b=gB s b:=by
 have h1:∀b,gB R b=true->gB s b=true:=by
  refine rm (fun b=>gB s b=true) (fun b hb t ht=> ?_) ?_
  ·obtain⟨e,_,h2⟩:=hc.2 b (gI o b) (by unfold asg;rw[if_pos hb])
   have:=h2 t ht;unfold asg at this;split at this
   ·assumption
   ·cases this
  ·have:=hc.1;unfold asg at this;split at this
   ·assumption
   ·cases this
 have h2:∀b,gB s b=true->gB R b=true:=by
  have hA:xR fin suc (fun b=>if gB R b=true then asg s o b else none):=by
   refine⟨by simp only[r0,if_true];exact hc.1,fun b d hb=> ?_⟩
   by_cases hr:gB R b=true
   ·simp only[hr,if_true]at hb;obtain⟨e,e1,e2⟩:=hc.2 b d hb;exact⟨e,e1,fun t ht=>by simp only[rc b hr t ht,if_true];exact e2 t ht⟩
   ·simp only[hr]at hb;cases hb
  intro b hb;have:=hm _ hA b hb;by_cases hr:gB R b=true
  ·exact hr
  ·simp only[hr]at this;cases this
 intro b;cases hr:gB R b with
 |true=>exact(h1 b hr).symm
 |false=>
  cases hs:gB s b with
  |false=>rfl
  |true=>rw[h2 b hs]at hr;cases hr
end Go.Proofs.YtfdedgmlafelaaaGreatDoor
