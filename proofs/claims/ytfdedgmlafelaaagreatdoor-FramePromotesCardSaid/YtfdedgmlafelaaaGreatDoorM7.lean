/-
  FramePromotes: the first unused temporary.
-/
import Derived.Test.YtfdedgmlafelaaaGreatDoorM6
import Derived.Test.YtfdedgmlafelaaaGreatDoorM3
import Derived.Test.YtfdedgmlafelaaaGreatDoorM4
set_option linter.unusedSimpArgs false
set_option linter.unusedVariables false
namespace Go.Proofs.YtfdedgmlafelaaaGreatDoor
open Go Go.AM Go.Proofs.YtfdedgmlafelaaaGreatDoor.Sr
noncomputable section
def fv (v:Int):Int:=min v 65535+1
def see (n v:Int):Int:=max n (fv v)
theorem xj {n v:Int} (h1:12≤n) (h2:n≤65536):12≤see n v∧see n v≤65536:=by unfold see fv;omega
theorem qmm_min (a b:Int):qmm .lss a b=min a b:=by
 rw[AC]
 show(if b<a then b else a)=min a b
 split<;>omega
theorem MX {v:Int} (h:12≤v):aQ .add .i64 (qmm .lss v 65535) 1=fv v:=by
 rw[qmm_min,yF (by omega) (by omega)];rfl
theorem see_p {n v:Int} (h1:12≤n) (h2:n≤65536):q82 [.int v, .int n]=some [.int (see n v)]:=by
 rw[UW,F82_eq,be];by_cases h:n≤v
 ·rw[decide_eq_true h,cond_true,MX (by omega)]
  congr 3;unfold see fv;omega
 ·rw[decide_eq_false h,cond_false]
  congr 3;unfold see fv;omega
def vsN:Nat->D->List Int
 |0,_=>[]
 |N+1,e=>(if ah (aa e 0)=2 then[ah (aa e 2)]else[])++(aa e 4).toList.flatMap (vsN N)
theorem MY:∀(N M:Nat) (e:D),e.size<N->e.size<M->vsN N e=vsN M e
 |0,_,_,h,_=>by omega
 |_+1,0,_,_,h=>by omega
 |N+1,M+1,e,h1,h2=>by
  simp only[vsN];rw[gq fun x hx=>MY N M x (by have:=bX hx;omega) (by have:=bX hx;omega)]
def vsE (e:D):List Int:=vsN (e.size+1) e
theorem KL (e:D):vsE e=(if ah (aa e 0)=2 then[ah (aa e 2)]else[])++(aa e 4).toList.flatMap vsE:=by
 rw[vsE,vsN];rw[gq fun x hx=>MY e.size (x.size+1) x (bX hx) (by omega)]
 rfl
theorem DD:∀(l:List Int) {n:Int},12≤n->n≤65536->12≤l.foldl see n∧l.foldl see n≤65536
 | [],n,h1,h2=>⟨h1,h2⟩
 |v::l,n,h1,h2=>by rw[List.foldl_cons];exact DD l (xj h1 h2).1 (xj h1 h2).2
theorem g7 {st:List D->Option (Sum (List D) (List D))} {X:D} {f:D->List Int} (enc:Nat->Int->List D)
 (h1:∀(i:Nat) (n:Int) (h:i<X.toList.length),12≤n->n≤65536->st (enc i n)=some (.inl (enc (i+1) ((f X.toList[i]).foldl see n))))
 (h0:∀n:Int,st (enc X.toList.length n)=some (.inr [.int 0, .int n])):
 ∀(k i:Nat) (n:Int),i+k=X.toList.length->12≤n->n≤65536->loW st (enc i n)=some [.int 0, .int (((X.toList.drop i).flatMap f).foldl see n)]
 |0,i,n,hi,_,_=>by
  obtain rfl:i=X.toList.length:=by omega
  rw[aH,h0,List.drop_length];rfl
 |k+1,i,n,hi,hn1,hn2=>by
  have hlt:i<X.toList.length:=by omega
  obtain⟨r1,r2⟩:=DD (f X.toList[i]) hn1 hn2;have ih:=g7 enc h1 h0 k (i+1) ((f X.toList[i]).foldl see n) (by omega) r1 r2
  rw[aH,h1 i n hlt hn1 hn2,List.drop_eq_getElem_cons hlt,List.flatMap_cons,List.foldl_append];exact ih
def encI (i:Nat) (n:Int):List D:=[.int (i:Int), .int n]
def DE (i:Nat) (n:Int):List D:=[.int n, .int (i:Int)]
theorem HK:∀(N:Nat) (e:D),e.size≤lim->e.size<N->∀n,12≤n->n≤65536->F83 N [e, .int n]=some [.int ((vsE e).foldl see n)]
 |0,_,_,h=>by omega
 |N+1,e,hs,hN=>fun n h1 h2=>by
  obtain⟨hl,hx⟩:=cb (j:=4) hs;unfold maxLen at hl
  have hL:∀n,12≤n->n≤65536->G2 (F83 N) [aa e 4, .int (ai (aa e 4))] [.int 0, .int n]=some [.int 0, .int (((aa e 4).toList.flatMap vsE).foldl see n)]:=fun n h1 h2=>by
   have h:=g7 (st:=CT (F83 N) [aa e 4, .int (ai (aa e 4))]) (X:=aa e 4) (f:=vsE) encI (fun i n hlt h1 h2=>by
    have hg:ay (aa e 4) (i:Int)=(aa e 4).toList[i]:=by rw[bf,getD_lt hlt]
    have hm:=List.getElem_mem hlt;unfold encI;rw[zS,al,aD,decide_eq_true (by omega),aP hlt,hg,HK N _ (hx _ hm) (by have:=bX hm;omega) n h1 h2]
    simp only[am,ax,List.getD_cons_zero,aC,cond_true,aT (show i<9223372036854775807 by omega)])
    (fun n=>by unfold encI;rw[zS,al,aD,decide_eq_false (by omega)];rfl) (aa e 4).toList.length 0 n (by omega) h1 h2
   rw[G3];exact h
  rw[F83_s,Fb83_eq,UX,F84_eq,KL,au];by_cases h:ah (aa e 0)=2
  ·rw[decide_eq_true h,if_pos h,see_p h1 h2];have hr:=xj (v:=ah (aa e 2)) h1 h2;simp only[am,ax,List.getD_cons_zero,List.getD_cons_succ,aC,cond_true,hL _ hr.1 hr.2]
   rfl
  ·rw[decide_eq_false h,if_neg h];simp only[am,ax,List.getD_cons_zero,List.getD_cons_succ,aC,cond_true,cond_false,hL n h1 h2]
   rfl
theorem visit_q {e:D} (hs:e.size≤lim) {n:Int} (h1:12≤n) (h2:n≤65536):q83 [e, .int n]=some [.int ((vsE e).foldl see n)]:=by
 rw[U1];exact HK _ e hs (e8 (by simp)) n h1 h2
def vsS (s:D):List Int:=(if ah (aa s 0)=1∨ah (aa s 0)=3 then[ah (aa s 1)]else[])++(aa s 6).toList.flatMap vsE
def vsB (b:D):List Int:=(aa b 1).toList.flatMap vsS
def dp (g:D):Int:=((aa g 1).toList.flatMap vsB).foldl see 12
theorem or13 (o:Int):(bif decide (o=1)then true else decide (o=3))=decide (o=1∨o=3):=by
 by_cases h1:o=1<;>by_cases h3:o=3<;>simp[h1,h3]
theorem fresh_p {g:D} (hg:g.size≤lim):q43 [g]=some [.int (dp g)]:=by
 obtain⟨hlb,hxb⟩:=cX hg
 have hE:∀(X a0 a3:D) (a1 a2 a4 a5:Int),X.toList.length≤maxLen->(∀e∈X.toList,e.size≤lim)->∀n,12≤n->n≤65536->wR [a0, .int a1, .int a2,a3, .int a4, .int a5,X, .int (ai X)] [.int 0, .int n]=some [.int 0, .int ((X.toList.flatMap vsE).foldl see n)]:=fun X a0 a3 a1 a2 a4 a5 hl hx n h1 h2=>by
  unfold maxLen at hl
  have h:=g7 (st:=r8 [a0, .int a1, .int a2,a3, .int a4, .int a5,X, .int (ai X)]) (X:=X) (f:=vsE) encI (fun i n hlt h1 h2=>by
   have hg:ay X (i:Int)=X.toList[i]:=by rw[bf,getD_lt hlt]
   unfold encI;rw[wQ,al,aD,decide_eq_true (by omega),aP hlt,hg,visit_q (hx _ (List.getElem_mem hlt)) h1 h2]
   simp only[am,ax,List.getD_cons_zero,aC,cond_true,aT (show i<9223372036854775807 by omega)])
   (fun n=>by unfold encI;rw[wQ,al,aD,decide_eq_false (by omega)];rfl) X.toList.length 0 n (by omega) h1 h2
  rw[zT];exact h
 have hS:∀(X a0:D) (a1 a2:Int),X.toList.length≤maxLen->(∀s∈X.toList,s.size≤lim)->∀n,12≤n->n≤65536->My [a0, .int a1, .int a2,X, .int (ai X)] [.int 0, .int n]=some [.int 0, .int ((X.toList.flatMap vsS).foldl see n)]:=fun X a0 a1 a2 hl hx n h1 h2=>by
  unfold maxLen at hl
  have h:=g7 (st:=CV [a0, .int a1, .int a2,X, .int (ai X)]) (X:=X) (f:=vsS) encI (fun i n hlt h1 h2=>by
   have hg:ay X (i:Int)=X.toList[i]:=by rw[bf,getD_lt hlt]
   obtain⟨hle,hxe⟩:=cb (j:=6) (hx _ (List.getElem_mem hlt));have c0:ae .lss (i:Int) (ai X)=true:=by rw[al,aD,decide_eq_true_eq];omega
   unfold encI;rw[zU,c0,aP hlt,hg];generalize X.toList[i]=s at *;simp only[au,aU,or13,cond_true,vsS];by_cases h:ah (aa s 0)=1∨ah (aa s 0)=3
   ·have hr:=xj (v:=ah (aa s 1)) h1 h2;rw[decide_eq_true h,if_pos h,see_p h1 h2];simp only[am,ax,List.getD_cons_zero,List.getD_cons_succ,aC,cond_true,hE _ _ _ _ _ _ _ hle hxe _ hr.1 hr.2,aT (show i<9223372036854775807 by omega)]
    rfl
   ·rw[decide_eq_false h,if_neg h];simp only[am,ax,List.getD_cons_zero,List.getD_cons_succ,aC,cond_true,cond_false,hE _ _ _ _ _ _ _ hle hxe _ h1 h2,aT (show i<9223372036854775807 by omega)]
    rfl)
   (fun n=>by
    have c0:ae .lss (X.toList.length:Int) (ai X)=false:=by rw[al,aD,decide_eq_false_iff_not];omega
    unfold encI;rw[zU,c0];rfl) X.toList.length 0 n (by omega) h1 h2
  rw[G5];exact h
 have hB:=g7 (st:=CX [aa g 1, .int (ai (aa g 1))]) (X:=aa g 1) (f:=vsB) encI (fun i n hlt h1 h2=>by
  unfold maxLen at hlb;have hg:ay (aa g 1) (i:Int)=(aa g 1).toList[i]:=by rw[bf,getD_lt hlt]
  obtain⟨hls,hxs⟩:=cb (j:=1) (hxb _ (List.getElem_mem hlt));have c0:ae .lss (i:Int) (ai (aa g 1))=true:=by rw[al,aD,decide_eq_true_eq];omega
  unfold encI;rw[zV,c0,aP hlt,hg]
  simp only[hS _ _ _ _ hls hxs n h1 h2,am,ax,List.getD_cons_zero,List.getD_cons_succ,aC,cond_true,vsB,aT (show i<9223372036854775807 by omega)])
  (fun n=>by
   have c0:ae .lss ((aa g 1).toList.length:Int) (ai (aa g 1))=false:=by rw[al,aD,decide_eq_false_iff_not];omega
   unfold encI;rw[zV,c0];rfl) (aa g 1).toList.length 0 12 (by omega) (by omega) (by omega)
 have hB':G6 [aa g 1, .int (ai (aa g 1))] [.int 0, .int 12]=some [.int 0, .int (dp g)]:=by rw[G7];exact hB
 rw[U4,F43_eq,hB'];simp[am,ax,aC]
def cN:List Int->Int->Nat
 | [],_=>0
 |x::S,v=>if x<v then cN S v+1 else 0
def fQ:List Int->Int->List Int
 | [],v=>[v]
 |x::S,v=>if x<v then x::fQ S v else if x=v then x::S else v::x::S
theorem MZ:∀(S:List Int) (v:Int),cN S v≤S.length
 | [],_=>Nat.le_refl _
 |x::S,v=>by
  unfold cN;split
  ·have:=MZ S v;simp only[List.length_cons];omega
  ·omega
theorem HL:∀(S:List Int) (v:Int) (h:cN S v<S.length),S[cN S v]=v->fQ S v=S
 | [],_,h,_=>by simp at h
 |x::S,v,h,hA=>by
  unfold fQ;by_cases hl:x<v
  ·have e:cN (x::S) v=cN S v+1:=by rw[cN,if_pos hl]
   simp only[e,List.getElem_cons_succ,List.length_cons]at h hA;rw[if_pos hl,HL S v (by omega) hA]
  ·have e:cN (x::S) v=0:=by rw[cN,if_neg hl]
   simp only[e,List.getElem_cons_zero]at hA;rw[if_neg hl,if_pos hA]
theorem pM:∀(S:List Int) (v:Int),(∀h:cN S v<S.length,S[cN S v]≠v)->fQ S v=S.take (cN S v)++v::S.drop (cN S v)
 | [],_,_=>rfl
 |x::S,v,hA=>by
  unfold fQ;by_cases hl:x<v
  ·have e:cN (x::S) v=cN S v+1:=by rw[cN,if_pos hl]
   simp only[e,List.getElem_cons_succ,List.length_cons]at hA ⊢;rw[if_pos hl,pM S v (fun h=>hA (by omega))];rfl
  ·have e:cN (x::S) v=0:=by rw[cN,if_neg hl]
   simp only[e,List.getElem_cons_zero]at hA ⊢;rw[if_neg hl,if_neg (hA (by simp))];rfl
theorem xk (v:Int):∀(S:List Int) (x:Int),x∈fQ S v↔x=v∨x∈S
 | [],x=>by simp[fQ]
 |y::S,x=>by
  have ih:=xk v S x;unfold fQ;split
  ·simp only[List.mem_cons,ih];constructor
   ·rintro(h|h|h)
    ·exact .inr (.inl h)
    ·exact .inl h
    ·exact .inr (.inr h)
   ·rintro(h|h|h)
    ·exact .inr (.inl h)
    ·exact .inl h
    ·exact .inr (.inr h)
  ·split
   ·rename_i h;subst h;simp only[List.mem_cons];exact⟨.inr,fun h=>h.elim .inl id⟩
   ·simp only[List.mem_cons]
theorem qH (v:Int):∀{S:List Int},S.Pairwise (· < ·)->(fQ S v).Pairwise (· < ·)
 | [],_=>by simp[fQ]
 |y::S,h=>by
  obtain⟨h1,h2⟩:=List.pairwise_cons.1 h;unfold fQ;split
  ·rename_i hl;refine List.pairwise_cons.2 ⟨fun z hz=> ?_,qH v h2⟩
   rcases(xk v S z).1 hz with rfl|hz
   ·exact hl
   ·exact h1 z hz
  ·split
   ·exact h
   ·rename_i a b;refine List.pairwise_cons.2 ⟨fun z hz=> ?_,h⟩
    rcases List.mem_cons.1 hz with rfl|hz
    ·omega
    ·have:=h1 z hz;omega
theorem ol (v:Int):∀S:List Int,(fQ S v).length≤S.length+1
 | []=>by simp[fQ]
 |y::S=>by
  have:=ol v S;unfold fQ;split
  ·simp only[List.length_cons];omega
  ·split<;>simp only[List.length_cons]<;>omega
theorem pO {n z:Nat} (hn:n≤1000000000) (hz:z≤1000):bF (n:Int) z=true:=by
 rw[gK];unfold qI;have:n*z≤1000000000*1000:=Nat.mul_le_mul hn hz;simp only[Bool.and_eq_true,decide_eq_true_eq];omega
theorem app_I (A B:List Int):bN (dI A) (dI B)=dI (A++B):=by rw[dj];unfold dI;simp[D.app,D.toList]
theorem VT (Q:List Int) (i j:Nat):cj (dI Q) (i:Int) (j:Int)=dI ((Q.drop i).take (j-i)):=by
 rw[ji];unfold dI;simp only[D.sub,D.toList,Int.toNat_natCast];rw[show((j:Int)-(i:Int)).toNat=j-i by omega,List.map_take,List.map_drop]
theorem DF {l:List Int} {i:Nat} (h:i<l.length):ah (ay (dI l) (i:Int))=l[i]:=by
 rw[nX];unfold gI;simp[List.getD,h]
theorem VU {S:List Int} {v:Int} (hl:S.length<1000000000):q120 [dI S, .int v]=some [dI (fQ S v)]:=by
 have hk:=MZ S v;have key:∀(k i:Nat),i+k=S.length->loW (r9 [dI S, .int v]) [.int i]=some [.int 0, .int ((i+cN (S.drop i) v:Nat):Int)]:=by
  intro k
  induction k with
  |zero=>
   intro i hi;have c0:ae .lss (i:Int) (ai (dI S))=false:=by rw[al,cY,decide_eq_false_iff_not];omega
   rw[aH,wV,c0,List.drop_of_length_le (by omega)]
   simp[aU,cN]
  |succ k ih=>
   intro i hi;have hlt:i<S.length:=by omega
   have c0:ae .lss (i:Int) (ai (dI S))=true:=by rw[al,cY,decide_eq_true_eq];omega
   rw[aH,wV,c0,jT hlt,DF hlt,List.drop_eq_getElem_cons hlt];simp only[aU,al,cond_true];unfold cN;by_cases h:S[i]<v
   ·rw[decide_eq_true h,if_pos h];simp only[cond_true,aT (show i<9223372036854775807 by omega)]
    rw[ih (i+1) (by omega)]
    congr 4;omega
   ·rw[decide_eq_false h,if_neg h];rfl
 have h:=key S.length 0 (by omega)
 simp only[List.drop_zero,Nat.zero_add]at h;have h':C4 [dI S, .int v] [.int 0]=some [.int 0, .int (cN S v:Int)]:=by rw[zZ];exact h
 have k0:ae .leq 0 (cN S v:Int)=true:=by rw[aV];simp
 have k1:ae .leq 0 0=true:=by rw[aV];rfl
 have k2:ae .leq (cN S v:Int) (ai (dI S))=true:=by rw[aV,cY,decide_eq_true_eq];omega
 have k3:ae .leq (ai (dI S)) (ai (dI S))=true:=by rw[aV];simp
 have sa:cj (dI S) 0 (cN S v:Int)=dI (S.take (cN S v)):=by have:=VT S 0 (cN S v);simpa using this
 have sb:cj (dI S) (cN S v:Int) (ai (dI S))=dI (S.drop (cN S v)):=by
  rw[cY,VT,List.take_of_length_le (by rw[List.length_drop];omega)]
 have ap:bN (dI (S.take (cN S v))) (.list [.int v])=dI (S.take (cN S v) ++ [v]):=app_I _ [v];have lt:(S.take (cN S v)).length=cN S v:=by rw[List.length_take];omega
 have ld:(S.drop (cN S v)).length=S.length-cN S v:=List.length_drop;have m1:bF (ai (dI (S.take (cN S v)))) 8=true:=by rw[cY];exact pO (by omega) (by omega)
 have m2:bF (ai (dI (S.take (cN S v) ++ [v]))) 8=true:=by rw[cY];exact pO (by simp only[List.length_append,List.length_cons,List.length_nil];omega) (by omega)
 have m3:bF (ai (dI (S.take (cN S v) ++ [v]++S.drop (cN S v)))) 8=true:=by rw[cY];exact pO (by simp only[List.length_append,List.length_cons,List.length_nil];omega) (by omega)
 rw[MA,F120_eq,h'];simp only[am,ax,List.getD_cons_zero,List.getD_cons_succ,aC,sa,sb,ap,app_I,m1,m2,m3,k0,k1,k2,k3,aj,aU,cond_true];by_cases hlt:cN S v<S.length
 ·have c0:ae .lss (cN S v:Int) (ai (dI S))=true:=by rw[al,cY,decide_eq_true_eq];omega
  rw[c0,jT hlt,DF hlt,au];by_cases he:S[cN S v]=v
  ·rw[decide_eq_true he,HL S v hlt he];rfl
  ·rw[decide_eq_false he,pM S v (fun _=>he)]
   simp
 ·have c0:ae .lss (cN S v:Int) (ai (dI S))=false:=by rw[al,cY,decide_eq_false_iff_not];omega
  rw[c0,pM S v (fun h=>absurd h hlt)]
  simp
theorem HM:∀(l S:List Int),S.Pairwise (· < ·)->(l.foldl fQ S).Pairwise (· < ·)∧(∀x,x∈l.foldl fQ S↔x∈l∨x∈S)∧(l.foldl fQ S).length≤S.length+l.length
 | [],S,h=>⟨h,fun x=>by simp,by simp⟩
 |v::l,S,h=>by
  obtain⟨a,b,c⟩:=HM l (fQ S v) (qH v h);have:=ol v S;refine⟨a,fun x=> ?_,by rw[List.foldl_cons,List.length_cons];omega⟩
  rw[List.foldl_cons,b,xk,List.mem_cons];constructor
  ·rintro(h|h|h)
   ·exact .inl (.inr h)
   ·exact .inl (.inl h)
   ·exact .inr h
  ·rintro((h|h)|h)
   ·exact .inr (.inl h)
   ·exact .inl h
   ·exact .inr (.inr h)
end
end Go.Proofs.YtfdedgmlafelaaaGreatDoor
namespace Go.Proofs.YtfdedgmlafelaaaGreatDoor
open Go Go.AM Go.Proofs.YtfdedgmlafelaaaGreatDoor.Sr
noncomputable section
theorem conf_int {T:TypeId} {k:IntKind} {d:D} (hT:isInt T k=true) (h:Conf PG T d):d = .int (ah d):=by
 unfold isInt at hT;cases hu:PG.underlying T with
 |none=>rw[hu]at hT;cases hT
 |some td=>
  rw[hu]at hT;cases h with
  |int h1=>rw[aC]
  |struct h1=>rw[h1]at hu;cases hu;cases hT
  |bool h1=>rw[h1]at hu;cases hu;cases hT
  |str h1=>rw[h1]at hu;cases hu;cases hT
  |slice h1=>rw[h1]at hu;cases hu;cases hT
  |array h1=>rw[h1]at hu;cases hu;cases hT
  |other h1=>unfold cJ at h1;rw[hu]at h1;cases td<;>simp_all
theorem gu {T e:TypeId} {d:D} (hT:EC T e=true) (h:Conf PG T d):d = .list d.toList:=by
 obtain⟨_,⟨xs,rfl⟩,_⟩:=qconfL_iff.1 (yE hT (qconf_iff.2 h))
 rfl
theorem ex_form {e:D} (h:Conf PG 61 e):e = .agg [.int (ah (aa e 0)), .int (ah (aa e 1)), .int (ah (aa e 2)), .int (ah (aa e 3)), .list (aa e 4).toList]∧∀x∈(aa e 4).toList,Conf PG 61 x:=by
 have a0:=conf_int i3 (cG f61_0 h);have a1:=conf_int i22 (cG f61_1 h);have a2:=conf_int i3 (cG f61_2 h);have a3:=conf_int i3 (cG f61_3 h);have a4:=gu s55 (cG L7 h);refine⟨?_,(cn s55 (cG L7 h)).2.2⟩
 rw[<- a0, <- a1, <- a2, <- a3, <- a4];obtain⟨ds,rfl,hl⟩:=fA t61 h;simp only[g5];exact congrArg D.agg (len5 hl)
section
variable (pv:D->Int->Int->Option Int)
def qV (e:D) (xs:List D):D:= .agg [.int (ah (aa e 0)), .int (ah (aa e 1)), .int (ah (aa e 2)), .int (ah (aa e 3)), .list xs]
def HN (v:Int):D:= .agg [.int 2, .int 0, .int v, .int 0, .list []]
def pLd (e:D) (d:Int):Option Int:=if ah (aa e 0)=18 then pv (ay (aa e 4) 0) (ah (aa e 3)) d else none
def pN:Nat->D->Int->D
 |0,e,_=>e
 |N+1,e,d=>match pLd pv e d with
  |some v=>HN v
  |none=>qV e ((aa e 4).toList.map fun x=>pN N x d)
theorem jP {α β:Type} {f g:α->β} {l:List α} (h:∀x∈l,f x=g x):l.map f=l.map g:=List.map_congr_left h
theorem VV:∀(N M:Nat) (e:D) (d:Int),e.size<N->e.size<M->pN pv N e d=pN pv M e d
 |0,_,_,_,h,_=>by omega
 |_+1,0,_,_,_,h=>by omega
 |N+1,M+1,e,d,h1,h2=>by
  simp only[pN];rw[jP fun x hx=>VV N M x d (by have:=bX hx;omega) (by have:=bX hx;omega)]
def pE (e:D) (d:Int):D:=pN pv (e.size+1) e d
theorem xl (e:D) (d:Int):pE pv e d=match pLd pv e d with|some v=>HN v|none=>qV e ((aa e 4).toList.map fun x=>pE pv x d):=by
 rw[pE,pN];rw[jP fun x hx=>VV pv e.size (x.size+1) x d (bX hx) (by omega)]
 rfl
theorem M0 (h:∀e w d,pv e w d=none):∀(N:Nat) (e:D) (d:Int),e.size<N->Conf PG 61 e->pE pv e d=e
 |0,_,_,h,_=>by omega
 |N+1,e,d,hN,hc=>by
  obtain⟨h1,h2⟩:=ex_form hc;have hp:pLd pv e d=none:=by unfold pLd;split<;>simp[h]
  rw[xl,hp];simp only;have:(aa e 4).toList.map (fun x=>pE pv x d)=(aa e 4).toList:=by
   refine(jP fun x hx=>M0 h N x d (by have:=bX hx;omega) (h2 x hx)).trans (List.map_id' _)
  rw[this];unfold qV;exact h1.symm
def hN (f:D->D) (l:List D) (i:Nat):List D:=(l.take i).map f++l.drop i
theorem xm (f:D->D) (l:List D) (i:Nat):(hN f l i).length=l.length:=by
 unfold hN;simp only[List.length_append,List.length_map,List.length_take,List.length_drop];omega
theorem hN_get {f:D->D} {l:List D} {i:Nat} (h:i<l.length):(hN f l i).getD i .other=l[i]:=by
 unfold hN;rw[List.getD_eq_getElem?_getD,List.getElem?_append_right (by simp only[List.length_map,List.length_take];omega)]
 simp only[List.length_map,List.length_take,Nat.min_eq_left (Nat.le_of_lt h),Nat.sub_self,List.getElem?_drop,Nat.add_zero,List.getElem?_eq_getElem h,Option.getD_some]
theorem hN_set {f:D->D} {l:List D} {i:Nat} (h:i<l.length):(hN f l i).set i (f l[i])=hN f l (i+1):=by
 unfold hN;have h1:((l.take i).map f).length=i:=by rw[List.length_map,List.length_take];omega
 rw[List.set_append_right _ _ (by omega),h1,Nat.sub_self,List.drop_eq_getElem_cons h,List.set_cons_zero,List.take_add_one,List.getElem?_eq_getElem h,List.map_append]
 simp only[Option.toList,List.map_cons,List.map_nil,List.append_assoc,List.cons_append,List.nil_append]
theorem oo {st:List D->Option (Sum (List D) (List D))} {l:List D} {f:D->D} {q:D->Option (List D)} (hl:l.length≤100000000) (hq:∀x∈l,q x=some [f x])
 (hst:∀(i:Nat) (X:List D),X.length=l.length->st [.int i, .list X]=bif ae .lss i (l.length:Int)then bif ae .lss i (ai (.list X))then bif uZZ (q (ay (.list X) i))then bif ae .eql (ai (.list X)) (ai (cz (.list X) i (ar (q (ay (.list X) i)) 0)))then
 some (.inl [.int (aQ .add .i64 i 1),cz (.list X) i (ar (q (ay (.list X) i)) 0)])else none else none else none else some (.inr [.int 0, .list X])):
 ∀(k i:Nat),i+k=l.length->loW st [.int i, .list (hN f l i)]=some [.int 0, .list (l.map f)]
 |0,i,hi=>by
  obtain rfl:i=l.length:=by omega
  rw[aH,hst _ _ (xm f l _),al,decide_eq_false (by omega)]
  unfold hN;rw[List.take_length,List.drop_length,List.append_nil];rfl
 |k+1,i,hi=>by
  have hlt:i<l.length:=by omega
  have ih:=oo hl hq hst k (i+1) (by omega)
  have hg:ay (.list (hN f l i)) (i:Int)=l[i]:=by rw[bf];exact hN_get hlt
  have c1:ae .lss (i:Int) (ai (.list (hN f l i)))=true:=by rw[al,bQ,xm,decide_eq_true_eq];omega
  have hs:cz (.list (hN f l i)) (i:Int) (f l[i]) = .list (hN f l (i+1)):=by rw[jj, <- hN_set hlt];simp[D.upd,D.toList]
  have c2:ae .eql (ai (.list (hN f l i))) (ai (.list (hN f l (i+1))))=true:=by rw[bQ,bQ,xm,xm];exact aj _
  rw[aH,hst _ _ (xm f l _),al,decide_eq_true (by omega),c1,hg,hq _ (List.getElem_mem hlt)]
  simp only[am,ax,List.getD_cons_zero,hs,c2,cond_true,aT (show i<9223372036854775807 by omega)]
  exact ih
end
theorem sr {X:D} (hl:X.toList.length≤100000000):GP [X]=some [.list X.toList]:=by
 have h:bN (.list []) X = .list X.toList:=by rw[dj];simp[D.app,D.toList]
 rw[Mr];unfold F117;rw[List.headD_cons,h,bQ,pO (by omega) (by omega)];rfl
theorem M1 {X:D} (hl:X.toList.length≤100000000):q53 [X]=some [.list X.toList]:=by
 have h:bN (.list []) X = .list X.toList:=by rw[dj];simp[D.app,D.toList]
 rw[Bu];unfold F53;rw[List.headD_cons,h,bQ,pO (by omega) (by omega)];rfl
end
end Go.Proofs.YtfdedgmlafelaaaGreatDoor
namespace Go.Proofs.YtfdedgmlafelaaaGreatDoor
open Go Go.AM Go.Proofs.YtfdedgmlafelaaaGreatDoor.Sr
noncomputable section
def mV (L:List (Int×Int)):D:= .list (L.map fun p=> .agg [.int p.1, .int p.2])
def lkV (L:List (Int×Int)) (o:Int):Option Int:=(L.find? fun p=>decide (p.1=o)).map (·.2)
theorem kv3 (a:Int):kvD 3 (.int a) = .int .i64 a:=by kernel_rfl
theorem VW (a b:Int):co (.int .i64 a) (.int .i64 b)=decide (b=a):=by
 show(a==b)=decide (b=a)
 by_cases h:a=b
 ·subst h;simp
 ·rw[decide_eq_false fun e=>h e.symm];simpa using h
theorem findV (o:Int) (L:List (Int×Int)):mR 3 (.int o) (L.map fun p=>D.agg [.int p.1, .int p.2])=(lkV L o).map .int:=by
 induction L with
 |nil=>rfl
 |cons p L ih=>
  unfold mR lkV at ih ⊢;rw[List.map_cons,List.find?_cons,List.find?_cons]
  have h:co (kvD 3 (.int o)) (kvD 3 ((D.agg [.int p.1, .int p.2]).fld 0))=decide (p.1=o):=by
   show co (kvD 3 (.int o)) (kvD 3 (.int p.1))=_
   rw[kv3,kv3,VW]
  rw[h];cases decide (p.1=o)with
  |true=>rfl
  |false=>exact ih
theorem getV (L:List (Int×Int)) (o:Int):jQ 3 (.int 0) (mV L) (.int o) = .int ((lkV L o).getD 0):=by
 have:jQ=sM:=ak _;rw[this];unfold sM mV;simp only[D.toList];rw[findV];cases lkV L o<;>rfl
theorem hasV (L:List (Int×Int)) (o:Int):pU 3 (mV L) (.int o)=(lkV L o).isSome:=by
 have:pU=DU:=ak _;rw[this];unfold DU mV;simp only[D.toList];rw[findV];cases lkV L o<;>rfl
def pvP (L:List (Int×Int)) (e:D) (wd d:Int):Option Int:=if isSt e=true∧wd=4 then lkV L (w (d+stN e))else none
def Two (e:D):Prop:=3≤ah (aa e 0)->ah (aa e 0)≤15->(aa e 4).toList.length=2
theorem var_p {L:List (Int×Int)} {e:D} (h:Two e) (wd d:Int):UH [mV L,e, .int wd, .int d]=some [.int ((pvP L e wd d).getD 0), .bool (pvP L e wd d).isSome]:=by
 rw[Ms,F119_eq,Tz h];simp only[am,ax,List.getD_cons_zero,List.getD_cons_succ,aO,aC,cond_true,pw,VH,getV,hasV,aU,bt,bo];unfold pvP;cases hS:isSt e with
 |false=>simp
 |true=>
  by_cases h4:wd=4
  ·simp[h4]
  ·simp[h4]
theorem var_n {e:D} (h:Two e) (wd d:Int):wI [e, .int wd, .int d]=some [.int 0, .bool false]:=by
 rw[zN,O5,Tz h];simp only[am,ax,List.getD_cons_zero,List.getD_cons_succ,aO,aC,cond_true,pw,Bool.cond_self]
theorem var56 (v:Int):q56 [.int v]=some [HN v]:=by rw[UG,F56_eq];rfl
theorem sv (X:List D) (i:Nat):aI (.list X) (i:Int)=ae .lss (i:Int) (ai (.list X)):=by
 rw[Th,al,aD];simp
theorem sw (i:Nat):ae .leq 0 (i:Int)=true:=by rw[aV];simp
theorem Pv {e:D} (hs:e.size≤lim):(aa e 4).toList.length≤100000000:=by
 have h1:=jF (aa e 4);have h2:=eH e 4;unfold lim at hs;omega
theorem VX {e:D} (hs:e.size≤lim):(aa e 6).toList.length≤100000000:=by
 have h1:=jF (aa e 6);have h2:=eH e 6;unfold lim at hs;omega
theorem len7 {e:D} (hs:e.size≤lim):(aa e 7).toList.length≤100000000:=by
 have h1:=jF (aa e 7);have h2:=eH e 7;unfold lim at hs;omega
theorem pr_p (L:List (Int×Int)):∀(N:Nat) (e:D) (d:Int),Fm e->e.size≤lim->e.size<N->xX N [mV L,e, .int d]=some [pE (pvP L) e d]
 |0,_,_,_,_,h=>by omega
 |N+1,e,d,hf,hs,hNN=>by
  obtain⟨_,hx⟩:=cb (j:=4) hs;have hl:=Pv hs;have hQ:∀x∈(aa e 4).toList,xX N [mV L,x, .int d]=some [pE (pvP L) x d]:=fun x hm=>pr_p L N x d (hf.el x hm) (hx x hm) (by have:=bX hm;omega)
  have hloop:=oo (st:=r5 (xX N) [.int d, .int ((aa e 4).toList.length:Int), .int (ah (aa e 0)), .int (ah (aa e 1)), .int (ah (aa e 2)), .int (ah (aa e 3)),mV L]) (f:=fun x=>pE (pvP L) x d) (q:=fun x=>xX N [mV L,x, .int d]) hl hQ (fun i X _=>by
   rw[J8,sw,sv];simp only[aj,aK,cond_true];cases ae .lss (i:Int) (ai (.list X))with
   |false=>simp
   |true=>
    simp only[cond_true];cases ae .eql (ai (.list X)) (ai (cz (.list X) (i:Int) (ar (xX N [mV L,ay (.list X) (i:Int), .int d]) 0)))with
    |false=>simp
    |true=>rfl) (aa e 4).toList.length 0 (by omega)
  have h0:hN (fun x=>pE (pvP L) x d) (aa e 4).toList 0=(aa e 4).toList:=by unfold hN;simp
  rw[h0]at hloop;have hloop':CI (xX N) [.int d, .int ((aa e 4).toList.length:Int), .int (ah (aa e 0)), .int (ah (aa e 1)), .int (ah (aa e 2)), .int (ah (aa e 3)),mV L] [.int 0, .list (aa e 4).toList]=some [.int 0, .list ((aa e 4).toList.map fun x=>pE (pvP L) x d)]:=by rw[zO];exact hloop
  rw[F118_s,UM,xl,sr hl];simp only[am,ax,List.getD_cons_zero,List.getD_cons_succ,bQ,hloop',aj,au,decide_true,cond_true];by_cases h18:ah (aa e 0)=18
  ·have h1:=hf.one h18;have hm:ay (aa e 4) 0∈(aa e 4).toList:=get_mem (i:=0) (by omega)
   have i0:aI (aa e 4) 0=true:=aP (i:=0) (by omega)
   have hld:pLd (pvP L) e d=pvP L (ay (aa e 4) 0) (ah (aa e 3)) d:=by unfold pLd;rw[if_pos h18]
   rw[decide_eq_true h18,i0,var_p (hf.el _ hm).two,hld];cases pvP L (ay (aa e 4) 0) (ah (aa e 3)) d with
   |none=>simp[am,ax,aO,qV]
   |some v=>simp[am,ax,aO,aC,var56]
  ·have hld:pLd (pvP L) e d=none:=by unfold pLd;rw[if_neg h18]
   rw[decide_eq_false h18,hld]
   rfl
theorem pr_q (L:List (Int×Int)) {e:D} (d:Int) (hf:Fm e) (hs:e.size≤lim):GS [mV L,e, .int d]=some [pE (pvP L) e d]:=by
 rw[Mt];exact pr_p L _ e d hf hs (e8 (by simp))
def nv:D->Int->Int->Option Int:=fun _ _ _=>none
theorem pr_n:∀(N:Nat) (e:D) (d:Int),Fm e->e.size≤lim->e.size<N->iv N [e, .int d]=some [pE nv e d]
 |0,_,_,_,_,h=>by omega
 |N+1,e,d,hf,hs,hNN=>by
  obtain⟨_,hx⟩:=cb (j:=4) hs;have hl:=Pv hs;have hQ:∀x∈(aa e 4).toList,iv N [x, .int d]=some [pE nv x d]:=fun x hm=>pr_n N x d (hf.el x hm) (hx x hm) (by have:=bX hm;omega)
  have hloop:=oo (st:=lC (iv N) [.int d, .int ((aa e 4).toList.length:Int), .int (ah (aa e 0)), .int (ah (aa e 1)), .int (ah (aa e 2)), .int (ah (aa e 3))]) (f:=fun x=>pE nv x d) (q:=fun x=>iv N [x, .int d]) hl hQ (fun i X _=>by
   rw[CJ,sw,sv];simp only[aj,aK,cond_true];cases ae .lss (i:Int) (ai (.list X))with
   |false=>simp
   |true=>
    simp only[cond_true];cases ae .eql (ai (.list X)) (ai (cz (.list X) (i:Int) (ar (iv N [ay (.list X) (i:Int), .int d]) 0)))with
    |false=>simp
    |true=>rfl) (aa e 4).toList.length 0 (by omega)
  have h0:hN (fun x=>pE nv x d) (aa e 4).toList 0=(aa e 4).toList:=by unfold hN;simp
  rw[h0]at hloop;have hloop':oa (iv N) [.int d, .int ((aa e 4).toList.length:Int), .int (ah (aa e 0)), .int (ah (aa e 1)), .int (ah (aa e 2)), .int (ah (aa e 3))] [.int 0, .list (aa e 4).toList]=some [.int 0, .list ((aa e 4).toList.map fun x=>pE nv x d)]:=by rw[qF];exact hloop
  have hld:pLd nv e d=none:=by unfold pLd nv;split<;>rfl
  rw[UP,J9,xl,sr hl,hld];simp only[am,ax,List.getD_cons_zero,List.getD_cons_succ,bQ,hloop',aj,au,decide_true,cond_true];by_cases h18:ah (aa e 0)=18
  ·have h1:=hf.one h18;have hm:ay (aa e 4) 0∈(aa e 4).toList:=get_mem (i:=0) (by omega)
   have i0:aI (aa e 4) 0=true:=aP (i:=0) (by omega)
   rw[decide_eq_true h18,i0,var_n (hf.el _ hm).two];simp[am,ax,aO,qV]
  ·rw[decide_eq_false h18]
   rfl
theorem pr_nq {e:D} (d:Int) (hf:Fm e) (hs:e.size≤lim):kP [e, .int d]=some [pE nv e d]:=by
 rw[zP];exact pr_n _ e d hf hs (e8 (by simp))
theorem pE_form (pv:D->Int->Int->Option Int) (e:D) (d:Int):pE pv e d = .agg [.int (ah (aa (pE pv e d) 0)), .int (ah (aa (pE pv e d) 1)), .int (ah (aa (pE pv e d) 2)), .int (ah (aa (pE pv e d) 3)),aa (pE pv e d) 4]:=by
 have key:∀a b c f X,(D.agg [.int a, .int b, .int c, .int f,X]) = .agg [.int (ah (aa (D.agg [.int a, .int b, .int c, .int f,X]) 0)), .int (ah (aa (D.agg [.int a, .int b, .int c, .int f,X]) 1)), .int (ah (aa (D.agg [.int a, .int b, .int c, .int f,X]) 2)), .int (ah (aa (D.agg [.int a, .int b, .int c, .int f,X]) 3)),aa (D.agg [.int a, .int b, .int c, .int f,X]) 4]:=fun a b c f X=>by
  simp only[aZ,D.fld,List.getD_cons_zero,List.getD_cons_succ,aC]
 rw[xl];cases pLd pv e d with
 |none=>exact key _ _ _ _ _
 |some v=>exact key _ _ _ _ _
def VY (x:D):D:= .agg [.int (ah (aa x 0)), .int (ah (aa x 1)), .int (ah (aa x 2)), .int (ah (aa x 3)),aa x 4]
theorem DG (pv:D->Int->Int->Option Int) (e:D) (d:Int):VY (pE pv e d)=pE pv e d:=(pE_form pv e d).symm
theorem VZ (e:D) (xs:List D):ah (aa (qV e xs) 0)=ah (aa e 0)∧ah (aa (qV e xs) 1)=ah (aa e 1)∧ah (aa (qV e xs) 2)=ah (aa e 2)∧aa (qV e xs) 4 = .list xs:=by
 unfold qV;simp only[aZ,D.fld,List.getD_cons_zero,List.getD_cons_succ,aC,and_self]
theorem op_var (v:Int):ah (aa (HN v) 0)=2∧ah (aa (HN v) 2)=v:=by
 unfold HN;simp only[aZ,D.fld,List.getD_cons_zero,List.getD_cons_succ,aC,and_self]
section
variable {pv:D->Int->Int->Option Int} (hv:∀e wd d v,pv e wd d=some v->12≤v)
include hv
theorem V0 (e:D) (d:Int):(ah (aa e 0)≠18->ah (aa (pE pv e d) 0)=ah (aa e 0)∧ah (aa (pE pv e d) 1)=ah (aa e 1)∧aa (pE pv e d) 4 = .list ((aa e 4).toList.map fun x=>pE pv x d))∧(ah (aa e 0)=18->ah (aa (pE pv e d) 0)=18∨ah (aa (pE pv e d) 0)=2)∧spV (pE pv e d)=spV e:=by
 rw[xl];cases hp:pLd pv e d with
 |none=>
  obtain⟨o1,o2,o3,o4⟩:=VZ e ((aa e 4).toList.map fun x=>pE pv x d)
  refine⟨fun _=>⟨o1,o2,o4⟩,fun h=> .inl (by rw[o1,h]),?_⟩
  unfold spV;simp only[o1,o3]
 |some v=>
  unfold pLd at hp;split at hp
  ·rename_i h18;obtain⟨o1,o2⟩:=op_var v;have:=hv _ _ _ _ hp;refine⟨fun h=>absurd h18 h,fun _=> .inr o1,?_⟩
   unfold spV;simp only[o1,o2,h18];simp;omega
  ·cases hp
theorem st_pE {e:D} (hf:Fm e) (d:Int):isSt (pE pv e d)=isSt e∧stN (pE pv e d)=stN e∧Two (pE pv e d):=by
 obtain⟨h1,h2,h3⟩:=V0 hv e d;by_cases h18:ah (aa e 0)=18
 ·have hs:spV e=false:=by unfold spV;rw[h18];rfl
  rw[hs]at h3;have hi:isSt e=false:=by unfold isSt;rw[hs,h18];rfl
  have hi':isSt (pE pv e d)=false:=by
   unfold isSt;rw[h3];rcases h2 h18 with h|h<;>rw[h]<;>rfl
  refine⟨by rw[hi,hi'],by unfold stN;rw[hi,hi',h3,hs];simp,fun a b=> ?_⟩
  rcases h2 h18 with h|h<;>omega
 ·obtain⟨o1,o2,o4⟩:=h1 h18;have hlen:(aa (pE pv e d) 4).toList.length=(aa e 4).toList.length:=by rw[o4];simp[D.toList]
  have h34:(ah (aa e 0)=3∨ah (aa e 0)=4)->spV (ay (aa (pE pv e d) 4) 0)=spV (ay (aa e 4) 0)∧decide (ah (aa (ay (aa (pE pv e d) 4) 1) 0)=1)=decide (ah (aa (ay (aa e 4) 1) 0)=1)∧(ah (aa (ay (aa e 4) 1) 0)=1->ah (aa (ay (aa (pE pv e d) 4) 1) 1)=ah (aa (ay (aa e 4) 1) 1)):=fun h=>by
   have hl:=hf.two (by omega) (by omega)
   have g:∀j:Nat,j<2->ay (aa (pE pv e d) 4) (j:Int)=pE pv (ay (aa e 4) (j:Int)) d:=fun j hj=>by
    rw[o4,bf,bf];have hj':j<(aa e 4).toList.length:=by omega
    rw[getD_lt (by simpa[D.toList]using hj'),getD_lt hj']
    simp[D.toList]
   have g0:=g 0 (by omega)
   have g1:=g 1 (by omega)
   obtain⟨_,_,k3⟩:=V0 hv (ay (aa e 4) 0) d;obtain⟨k1,k2,_⟩:=V0 hv (ay (aa e 4) 1) d
   change ay (aa (pE pv e d) 4) 0=pE pv (ay (aa e 4) 0) d at g0
   change ay (aa (pE pv e d) 4) 1=pE pv (ay (aa e 4) 1) d at g1
   rw[g0,g1];refine⟨k3,?_,fun h1=>(k1 (by omega)).2.1⟩
   by_cases h18':ah (aa (ay (aa e 4) 1) 0)=18
   ·rw[h18'];rcases k2 h18' with h|h<;>rw[h]<;>rfl
   ·rw[(k1 h18').1]
  have hi:isSt (pE pv e d)=isSt e:=by
   unfold isSt;rw[h3,o1];by_cases h:ah (aa e 0)=3∨ah (aa e 0)=4
   ·obtain⟨a,b,_⟩:=h34 h;rw[a,b]
   ·have a1:¬ah (aa e 0)=3:=fun x=>h (.inl x)
    have a2:¬ah (aa e 0)=4:=fun x=>h (.inr x)
    simp[a1,a2]
  refine⟨hi,?_,fun a b=>by rw[hlen];rw[o1]at a b;exact hf.two a b⟩
  unfold stN;rw[hi,h3,o1];cases hsp:spV e with
  |true=>rfl
  |false=>
   cases hS:isSt e with
   |false=>rfl
   |true=>
    unfold isSt at hS;rw[hsp,Bool.false_or]at hS;simp only[Bool.and_eq_true,Bool.or_eq_true,decide_eq_true_eq]at hS;obtain⟨_,_,c⟩:=h34 hS.1;rw[c hS.2.2]
end
def pS (pv:D->Int->Int->Option Int) (s:D) (d:Int):D:=
 match(if ah (aa s 0)=2 then pv (ay (aa s 6) 0) (ah (aa s 2)) d else none)with
 |some v=> .agg [.int 1, .int v, .int 0, .int 0, .int 0, .int 0, .list [pE pv (ay (aa s 6) 1) d], .list []]
 |none=> .agg [.int (ah (aa s 0)), .int (ah (aa s 1)), .int (ah (aa s 2)), .int (ah (aa s 3)), .int (ah (aa s 4)), .int (ah (aa s 5)), .list ((aa s 6).toList.map fun x=>pE pv x d), .list (aa s 7).toList]
theorem ps_p {L:List (Int×Int)} (hL:∀o v,lkV L o=some v->12≤v) {s:D} (hs:Sok s) (hz:s.size≤lim) (d:Int):q81 [mV L,s, .int d]=some [pS (pvP L) s d]:=by
 have hv:∀e wd d v,pvP L e wd d=some v->12≤v:=fun e wd d v h=>by
  unfold pvP at h;split at h
  ·exact hL _ _ h
  ·cases h
 have hl:=VX hz;have hQ:∀x∈(aa s 6).toList,GS [mV L,x, .int d]=some [pE (pvP L) x d]:=fun x hm=>pr_q L d (hs.el x hm).2 (hs.el x hm).1
 have hloop:=oo (st:=CM [.int d, .int ((aa s 6).toList.length:Int), .int (ah (aa s 0)), .int (ah (aa s 1)), .int (ah (aa s 2)), .int (ah (aa s 3)), .int (ah (aa s 4)), .int (ah (aa s 5)), .list (aa s 7).toList,mV L]) (f:=fun x=>pE (pvP L) x d) (q:=fun x=>GS [mV L,x, .int d]) hl hQ (fun i X _=>by
  rw[Pa,sw,sv];simp only[aj,aq,aK,cond_true];cases ae .lss (i:Int) (ai (.list X))with
  |false=>simp
  |true=>
   simp only[cond_true];cases ae .eql (ai (.list X)) (ai (cz (.list X) (i:Int) (ar (GS [mV L,ay (.list X) (i:Int), .int d]) 0)))with
   |false=>simp
   |true=>rfl) (aa s 6).toList.length 0 (by omega)
 have h0:hN (fun x=>pE (pvP L) x d) (aa s 6).toList 0=(aa s 6).toList:=by unfold hN;simp
 rw[h0]at hloop;have hloop':Mu [.int d, .int ((aa s 6).toList.length:Int), .int (ah (aa s 0)), .int (ah (aa s 1)), .int (ah (aa s 2)), .int (ah (aa s 3)), .int (ah (aa s 4)), .int (ah (aa s 5)), .list (aa s 7).toList,mV L] [.int 0, .list (aa s 6).toList]=some [.int 0, .list ((aa s 6).toList.map fun x=>pE (pvP L) x d)]:=by rw[GW];exact hloop
 rw[UR,F81_eq,M1 (len7 hz),sr hl];simp only[am,ax,List.getD_cons_zero,List.getD_cons_succ,bQ,hloop',aj,au,decide_true,cond_true];unfold pS;by_cases h2:ah (aa s 0)=2
 ·have hn:=hs.two h2
  have g:∀j:Nat,j<2->ay (.list ((aa s 6).toList.map fun x=>pE (pvP L) x d)) (j:Int)=pE (pvP L) (ay (aa s 6) (j:Int)) d:=fun j hj=>by
   rw[bf,bf];have hj':j<(aa s 6).toList.length:=by omega
   rw[getD_lt (by simpa[D.toList]using hj'),getD_lt hj']
   simp[D.toList]
  have g0:=g 0 (by omega)
  have g1:=g 1 (by omega)
  change ay (.list ((aa s 6).toList.map fun x=>pE (pvP L) x d)) 0=pE (pvP L) (ay (aa s 6) 0) d at g0
  change ay (.list ((aa s 6).toList.map fun x=>pE (pvP L) x d)) 1=pE (pvP L) (ay (aa s 6) 1) d at g1
  have hm:ay (aa s 6) 0∈(aa s 6).toList:=get_mem (i:=0) (by omega)
  obtain⟨a1,a2,a3⟩:=st_pE hv (hs.el _ hm).2 d;have hpv:pvP L (pE (pvP L) (ay (aa s 6) 0) d) (ah (aa s 2)) d=pvP L (ay (aa s 6) 0) (ah (aa s 2)) d:=by
   show(if isSt (pE (pvP L) (ay (aa s 6) 0) d)=true∧ah (aa s 2)=4 then lkV L (w (d+stN (pE (pvP L) (ay (aa s 6) 0) d)))else none)=_
   rw[a1,a2];rfl
  have i0:aI (.list ((aa s 6).toList.map fun x=>pE (pvP L) x d)) 0=true:=aP (i:=0) (by show 0<((aa s 6).toList.map _).length;rw[List.length_map];omega)
  have i1:aI (.list ((aa s 6).toList.map fun x=>pE (pvP L) x d)) 1=true:=aP (i:=1) (by show 1<((aa s 6).toList.map _).length;rw[List.length_map];omega)
  have c0:ae .leq 0 0=true:=by rw[aV];rfl
  have c1:ae .leq 0 1=true:=by rw[aV];rfl
  have c2:ae .lss 0 (((aa s 6).toList.map fun x=>pE (pvP L) x d).length:Int)=true:=by rw[al,List.length_map,hn];rfl
  have c3:ae .lss 1 (((aa s 6).toList.map fun x=>pE (pvP L) x d).length:Int)=true:=by rw[al,List.length_map,hn];rfl
  have hn5:=DG (pvP L) (ay (aa s 6) 1) d;unfold VY at hn5;have hvp:=var_p (L:=L) a3 (ah (aa s 2)) d;rw[hpv]at hvp;rw[g0,g1,hvp,i0,i1,c0,c1,c2,c3,hn5,decide_eq_true h2,if_pos h2];cases pvP L (ay (aa s 6) 0) (ah (aa s 2)) d with
  |none=>simp[am,ax,aO,h2]
  |some v=>simp[am,ax,aO,aC]
 ·rw[decide_eq_false h2,if_neg h2]
  rfl
theorem ps_n {s:D} (hs:Sok s) (hz:s.size≤lim) (d:Int):Mv [s, .int d]=some [pS nv s d]:=by
 have hv:∀e wd d v,nv e wd d=some v->12≤v:=fun e wd d v h=>by cases h
 have hl:=VX hz;have hQ:∀x∈(aa s 6).toList,kP [x, .int d]=some [pE nv x d]:=fun x hm=>pr_nq d (hs.el x hm).2 (hs.el x hm).1
 have hloop:=oo (st:=oc [.int d, .int ((aa s 6).toList.length:Int), .int (ah (aa s 0)), .int (ah (aa s 1)), .int (ah (aa s 2)), .int (ah (aa s 3)), .int (ah (aa s 4)), .int (ah (aa s 5)), .list (aa s 7).toList]) (f:=fun x=>pE nv x d) (q:=fun x=>kP [x, .int d]) hl hQ (fun i X _=>by
  rw[GX,sw,sv];simp only[aj,aq,aK,cond_true];cases ae .lss (i:Int) (ai (.list X))with
  |false=>simp
  |true=>
   simp only[cond_true];cases ae .eql (ai (.list X)) (ai (cz (.list X) (i:Int) (ar (kP [ay (.list X) (i:Int), .int d]) 0)))with
   |false=>simp
   |true=>rfl) (aa s 6).toList.length 0 (by omega)
 have h0:hN (fun x=>pE nv x d) (aa s 6).toList 0=(aa s 6).toList:=by unfold hN;simp
 rw[h0]at hloop;have hloop':r6 [.int d, .int ((aa s 6).toList.length:Int), .int (ah (aa s 0)), .int (ah (aa s 1)), .int (ah (aa s 2)), .int (ah (aa s 3)), .int (ah (aa s 4)), .int (ah (aa s 5)), .list (aa s 7).toList] [.int 0, .list (aa s 6).toList]=some [.int 0, .list ((aa s 6).toList.map fun x=>pE nv x d)]:=by rw[wM];exact hloop
 rw[GY,UT,M1 (len7 hz),sr hl];simp only[am,ax,List.getD_cons_zero,List.getD_cons_succ,bQ,hloop',aj,au,decide_true,cond_true];have hps:(if ah (aa s 0)=2 then nv (ay (aa s 6) 0) (ah (aa s 2)) d else none)=none:=by split<;>rfl
 unfold pS;rw[hps];by_cases h2:ah (aa s 0)=2
 ·have hn:=hs.two h2;have g0:ay (.list ((aa s 6).toList.map fun x=>pE nv x d)) 0=pE nv (ay (aa s 6) 0) d:=by
   have h:ay (.list ((aa s 6).toList.map fun x=>pE nv x d)) ((0:Nat):Int)=pE nv (ay (aa s 6) ((0:Nat):Int)) d:=by
    rw[bf,bf];have hj':0<(aa s 6).toList.length:=by omega
    rw[getD_lt (by simpa[D.toList]using hj'),getD_lt hj']
    simp[D.toList]
   exact h
  have hm:ay (aa s 6) 0∈(aa s 6).toList:=get_mem (i:=0) (by omega)
  obtain⟨_,_,a3⟩:=st_pE hv (hs.el _ hm).2 d;have i0:aI (.list ((aa s 6).toList.map fun x=>pE nv x d)) 0=true:=aP (i:=0) (by show 0<((aa s 6).toList.map _).length;rw[List.length_map];omega)
  have c0:ae .leq 0 0=true:=by rw[aV];rfl
  have c2:ae .lss 0 (((aa s 6).toList.map fun x=>pE nv x d).length:Int)=true:=by rw[al,List.length_map,hn];rfl
  rw[g0,var_n a3,i0,c0,c2,decide_eq_true h2];simp[am,ax,aO]
 ·rw[decide_eq_false h2]
  rfl
end
end Go.Proofs.YtfdedgmlafelaaaGreatDoor
namespace Go.Proofs.YtfdedgmlafelaaaGreatDoor
open Go Go.AM Go.Proofs.YtfdedgmlafelaaaGreatDoor.Sr
noncomputable section
theorem in85 {Q:uAC} {a:Int} {e:D} {l:List Int}:∀(k i:Nat) (S:List Int),i+k=l.length->S.length+l.length<1000000000->
 loW (wX Q [.int a,dI l,e]) [dI S, .int i]=some [.int 0,dI ((l.drop i).foldl fQ S)]
 |0,i,S,hi,_=>by
  have c0:ae .lss (i:Int) (ai (dI l))=false:=by rw[al,cY,decide_eq_false_iff_not];omega
  rw[aH,pH,c0,List.drop_of_length_le (by omega)];rfl
 |k+1,i,S,hi,hb=>by
  have hlt:i<l.length:=by omega
  have c0:ae .lss (i:Int) (ai (dI l))=true:=by rw[al,cY,decide_eq_true_eq];omega
  have h1:=ol l[i] S;have key:∀(k i:Nat) (S:List Int),i+k=l.length->S.length+k<1000000000->loW (wX Q [.int a,dI l,e]) [dI S, .int i]=some [.int 0,dI ((l.drop i).foldl fQ S)]:=by
   intro k
   induction k with
   |zero=>
    intro i S hi _;have c0:ae .lss (i:Int) (ai (dI l))=false:=by rw[al,cY,decide_eq_false_iff_not];omega
    rw[aH,pH,c0,List.drop_of_length_le (by omega)];rfl
   |succ k ih=>
    intro i S hi hb;have hlt:i<l.length:=by omega
    have c0:ae .lss (i:Int) (ai (dI l))=true:=by rw[al,cY,decide_eq_true_eq];omega
    have h1:=ol l[i] S;rw[aH,pH,c0,jT hlt,DF hlt,VU (by omega),List.drop_eq_getElem_cons hlt,List.foldl_cons]
    simp only[am,ax,List.getD_cons_zero,cond_true,aT (show i<9223372036854775807 by omega)]
    exact ih (i+1) (fQ S l[i]) (by omega) (by omega)
  exact key (k+1) i S hi (by omega)
theorem V1:∀(N:Nat) (e:D),e.size≤lim->e.size<N->∃S,F85 N [e]=some [dI S]∧S.Pairwise (· < ·)∧(∀x,x∈S↔x∈vsE e)∧S.length≤e.size
 |0,_,_,h=>by omega
 |N+1,e,hs,hN=>by
  obtain⟨_,hx⟩:=cb (j:=4) hs;have hl:=Pv hs;have hsz:=MV (aa e 4);have hfl:=eH e 4;have hlim:lim=100000000:=rfl
  have key:∀(k i:Nat) (S:List Int),i+k=(aa e 4).toList.length->S.Pairwise (· < ·)->S.length+D.sizes ((aa e 4).toList.drop i)≤e.size->
   ∃S',loW (mI (F85 N) [e]) [dI S, .int i]=some [.int 0,dI S']∧S'.Pairwise (· < ·)∧(∀x,x∈S'↔x∈S∨x∈((aa e 4).toList.drop i).flatMap vsE)∧S'.length≤S.length+D.sizes ((aa e 4).toList.drop i):=by
   intro k
   induction k with
   |zero=>
    intro i S hi hS _;have c0:ae .lss (i:Int) (ai (aa e 4))=false:=by rw[al,aD,decide_eq_false_iff_not];omega
    refine⟨S,by rw[aH,z6,c0];rfl,hS,fun x=> ?_,by omega⟩
    rw[List.drop_of_length_le (by omega)];simp
   |succ k ih=>
    intro i S hi hS hb;have hlt:i<(aa e 4).toList.length:=by omega
    have c0:ae .lss (i:Int) (ai (aa e 4))=true:=by rw[al,aD,decide_eq_true_eq];omega
    have hg:ay (aa e 4) (i:Int)=(aa e 4).toList[i]:=by rw[bf,getD_lt hlt]
    have hm:=List.getElem_mem hlt;obtain⟨l,l1,l2,l3,l4⟩:=V1 N (aa e 4).toList[i] (hx _ hm) (by have:=bX hm;omega)
    rw[List.drop_eq_getElem_cons hlt]at hb;simp only[D.sizes]at hb;obtain⟨f1,f2,f3⟩:=HM l S hS;have hin:=in85 (Q:=F85 N) (a:=(i:Int)) (e:=e) (l:=l) l.length 0 S (by omega) (by omega)
    rw[List.drop_zero]at hin;have hin':MB (F85 N) [.int (i:Int),dI l,e] [dI S, .int 0]=some [.int 0,dI (l.foldl fQ S)]:=by rw[Hf];exact hin
    obtain⟨S',r1,r2,r3,r4⟩:=ih (i+1) (l.foldl fQ S) (by omega) f1 (by omega)
    refine⟨S',?_,r2,fun x=> ?_,?_⟩
    ·rw[aH,z6,c0,aP hlt,hg,l1];simp only[am,ax,List.getD_cons_zero,List.getD_cons_succ,hin',cond_true,aT (show i<9223372036854775807 by omega)]
     exact r1
    ·rw[r3,f2,List.drop_eq_getElem_cons hlt,List.flatMap_cons,List.mem_append,l3];constructor
     ·rintro((h|h)|h)
      ·exact .inr (.inl h)
      ·exact .inl h
      ·exact .inr (.inr h)
     ·rintro(h|h|h)
      ·exact .inl (.inr h)
      ·exact .inl (.inl h)
      ·exact .inr h
    ·rw[List.drop_eq_getElem_cons hlt];simp only[D.sizes];omega
  have hl5:∀p s,wY (F85 N) p s=loW (mI (F85 N) p) s:=fun p s=>by rw[Hg]
  rw[F85_s,Fb85_eq,au];by_cases h:ah (aa e 0)=2
  ·obtain⟨S',r1,r2,r3,r4⟩:=key (aa e 4).toList.length 0 [ah (aa e 2)] (by omega) (by simp) (by rw[List.drop_zero,List.length_singleton];omega)
   rw[List.drop_zero]at r3 r4;have r1':loW (mI (F85 N) [e]) [.list [.int (ah (aa e 2))], .int 0]=some [.int 0,dI S']:=r1;refine⟨S',?_,r2,fun x=> ?_,by rw[List.length_singleton]at r4;omega⟩
   ·rw[decide_eq_true h,cond_true,hl5,r1'];simp[am,ax]
   ·rw[r3,KL,if_pos h,List.mem_append]
  ·obtain⟨S',r1,r2,r3,r4⟩:=key (aa e 4).toList.length 0 [] (by omega) (by simp) (by rw[List.drop_zero,List.length_nil];omega)
   rw[List.drop_zero]at r3 r4;have r1':loW (mI (F85 N) [e]) [.list [], .int 0]=some [.int 0,dI S']:=r1;refine⟨S',?_,r2,fun x=> ?_,by rw[List.length_nil]at r4;omega⟩
   ·rw[decide_eq_false h,cond_false,hl5,r1'];simp[am,ax]
   ·rw[r3,KL,if_neg h,List.mem_append]
theorem HO:∀(l:List Int) (n y:Int),l.foldl see n≤y↔n≤y∧∀v∈l,fv v≤y
 | [],n,y=>by simp
 |v::l,n,y=>by
  rw[List.foldl_cons,HO l];simp only[List.mem_cons,forall_eq_or_imp];unfold see;exact⟨fun⟨h1,h2⟩=>⟨by omega,by omega,h2⟩,fun⟨h1,h2,h3⟩=>⟨by omega,h3⟩⟩
theorem fv_mono {a b:Int} (h:a≤b):fv a≤fv b:=by unfold fv;omega
theorem Pw {S V:List Int} (hs:S.Pairwise (· < ·)) (hm:∀x,x∈S↔x∈V) (n:Int) (h:0<S.length):V.foldl see n=see n (S[S.length-1]'(by omega)):=by
 have hmax:∀x∈S,x≤S[S.length-1]'(by omega):=fun x hx=>by
  obtain⟨j,hj,rfl⟩:=List.getElem_of_mem hx;by_cases e:j=S.length-1
  ·simp only[e];exact Int.le_refl _
  ·have:=List.pairwise_iff_getElem.1 hs j (S.length-1) hj (by omega) (by omega);omega
 have key:∀y,V.foldl see n≤y↔see n (S[S.length-1]'(by omega))≤y:=fun y=>by
  rw[HO];unfold see;constructor
  ·rintro⟨h1,h2⟩;have:=h2 _ ((hm _).1 (List.getElem_mem (by omega:S.length-1<S.length)))
   omega
  ·intro h1;refine⟨by omega,fun v hv=> ?_⟩
   have:=fv_mono (hmax v ((hm v).2 hv));omega
 have a1:=(key _).2 (Int.le_refl _);have a2:=(key _).1 (Int.le_refl _);omega
theorem M2 {n v:Int} (h1:12≤n) (h2:n≤65536):(bif decide (n≤v)then aQ .add .i64 (qmm .lss v 65535) 1 else n)=see n v:=by
 by_cases h:n≤v
 ·rw[decide_eq_true h,cond_true,MX (by omega)];unfold see fv;omega
 ·rw[decide_eq_false h,cond_false];unfold see fv;omega
theorem fresh_r {g:D} (hg:g.size≤lim):q45 [g]=some [.int (dp g)]:=by
 obtain⟨hlb,hxb⟩:=cX hg
 have hE:∀(s:D) (a0 a1:Int),s.size≤lim->∀n,12≤n->n≤65536->C7 [.int a0, .int a1,s,g] [.int n, .int 0]=some [.int 0, .int (((aa s 6).toList.flatMap vsE).foldl see n)]:=fun s a0 a1 hs n h1 h2=>by
  obtain⟨hl,hx⟩:=cb (j:=6) hs;unfold maxLen at hl
  have h:=g7 (st:=sd [.int a0, .int a1,s,g]) (X:=aa s 6) (f:=vsE) DE (fun i n hlt h1 h2=>by
   have hge:ay (aa s 6) (i:Int)=(aa s 6).toList[i]:=by rw[bf,getD_lt hlt]
   have c0:ae .lss (i:Int) (ai (aa s 6))=true:=by rw[al,aD,decide_eq_true_eq];omega
   have hez:=hx _ (List.getElem_mem hlt);obtain⟨S,r1,r2,r3,r4⟩:=V1 (bE [(aa s 6).toList[i]]) (aa s 6).toList[i] hez (e8 (by simp))
   have r1':q85 [(aa s 6).toList[i]]=some [dI S]:=by rw[Ve];exact r1
   have hlim:lim=100000000:=rfl;unfold DE;rw[wZ,c0,aP hlt,hge,r1'];simp only[am,ax,List.getD_cons_zero,cond_true,cY,bP,be,aU,aT (show i<9223372036854775807 by omega)]
   by_cases h0:0<S.length
   ·have e1:aQ .sub .i64 (S.length:Int) 1=((S.length-1:Nat):Int):=by rw[qf (by omega) (by omega)];omega
    have e2:=jT (l:=S) (i:=S.length-1) (by omega)
    have e3:=DF (l:=S) (i:=S.length-1) (by omega)
    rw[decide_eq_true (by omega:(0:Int)<(S.length:Int)),e1,e2,e3,Pw r2 r3 n h0, <- M2 h1 h2]
    simp only[cond_true];cases decide (n≤S[S.length-1])<;>rfl
   ·have hS:S = []:=List.length_eq_zero_iff.1 (by omega)
    have hV:vsE (aa s 6).toList[i] = []:=by
     rw[List.eq_nil_iff_forall_not_mem];intro x hxv;have:=(r3 x).2 hxv;rw[hS]at this;cases this
    rw[decide_eq_false (by omega),hV]
    rfl)
   (fun n=>by
    have c0:ae .lss ((aa s 6).toList.length:Int) (ai (aa s 6))=false:=by rw[al,aD,decide_eq_false_iff_not];omega
    unfold DE;rw[wZ,c0];rfl) (aa s 6).toList.length 0 n (by omega) h1 h2
  rw[z7];exact h
 have hS:∀b:Nat,b<(aa g 1).toList.length->∀n,12≤n->n≤65536->MC [.int b,g] [.int n, .int 0]=some [.int 0, .int ((vsB (blk g b)).foldl see n)]:=fun b hb n h1 h2=>by
  have hbs:(blk g b).size≤lim:=hxb _ (get_mem hb);obtain⟨hl,hx⟩:=cb (j:=1) hbs;unfold maxLen at hl
  have h:=g7 (st:=C8 [.int b,g]) (X:=aa (blk g b) 1) (f:=vsS) DE (fun i n hlt h1 h2=>by
   have hge:ay (aa (blk g b) 1) (i:Int)=(aa (blk g b) 1).toList[i]:=by rw[bf,getD_lt hlt]
   have c0:ae .lss (i:Int) (ai (aa (blk g b) 1))=true:=by rw[al,aD,decide_eq_true_eq];omega
   have hz:=hx _ (List.getElem_mem hlt);unfold DE;rw[z8,aP hb,show ay (aa g 1) (b:Int)=blk g b from rfl,c0,aP hlt,hge]
   generalize (aa (blk g b) 1).toList[i]=s at *;simp only[au,be,aU,BY,or13,cond_true,vsS];by_cases h:ah (aa s 0)=1∨ah (aa s 0)=3
   ·have hr:=xj (v:=ah (aa s 1)) h1 h2;have hi:=M2 (v:=ah (aa s 1)) h1 h2;rw[decide_eq_true h,if_pos h];simp only[cond_true,hi,hE s _ _ hz _ hr.1 hr.2,am,ax,List.getD_cons_zero,List.getD_cons_succ,aC,aT (show i<9223372036854775807 by omega)]
    rfl
   ·rw[decide_eq_false h,if_neg h];simp only[cond_true,cond_false,hE s _ _ hz _ h1 h2,am,ax,List.getD_cons_zero,List.getD_cons_succ,aC,aT (show i<9223372036854775807 by omega)]
    rfl)
   (fun n=>by
    have c0:ae .lss ((aa (blk g b) 1).toList.length:Int) (ai (aa (blk g b) 1))=false:=by rw[al,aD,decide_eq_false_iff_not];omega
    unfold DE;rw[z8,aP hb,show ay (aa g 1) (b:Int)=blk g b from rfl,c0];rfl) (aa (blk g b) 1).toList.length 0 n (by omega) h1 h2
  rw[Hi];exact h
 have hB:=g7 (st:=Da [g]) (X:=aa g 1) (f:=vsB) DE (fun i n hlt h1 h2=>by
  unfold maxLen at hlb;have hge:blk g i=(aa g 1).toList[i]:=by unfold blk;rw[bf,getD_lt hlt]
  have c0:ae .lss (i:Int) (ai (aa g 1))=true:=by rw[al,aD,decide_eq_true_eq];omega
  unfold DE;rw[Aa,c0,hS i hlt n h1 h2,hge]
  simp only[am,ax,List.getD_cons_zero,List.getD_cons_succ,aC,cond_true,aT (show i<9223372036854775807 by omega)])
  (fun n=>by
   have c0:ae .lss ((aa g 1).toList.length:Int) (ai (aa g 1))=false:=by rw[al,aD,decide_eq_false_iff_not];omega
   unfold DE;rw[Aa,c0];rfl) (aa g 1).toList.length 0 12 (by omega) (by omega) (by omega)
 have hB':Hj [g] [.int 12, .int 0]=some [.int 0, .int (dp g)]:=by rw[Hk];exact hB
 rw[Vh,F45_eq,hB'];simp[am,ax,aC]
end
end Go.Proofs.YtfdedgmlafelaaaGreatDoor
namespace Go.Proofs.YtfdedgmlafelaaaGreatDoor
open Go Go.AM Go.Proofs.YtfdedgmlafelaaaGreatDoor.Sr
noncomputable section
def vq:List Sl->Int->Int->Int->Option Int
 | [],_,_,_=>none
 |s::Q,v,o,wd=>if s.e=true∨s.b≠4 then vq Q v o wd else if s.a=o∧wd=4 then some v else vq Q (v+1) o wd
def lv:List Sl->Int->List (Int×Int)
 | [],_=>[]
 |s::Q,v=>if s.e=true∨s.b≠4 then lv Q v else(s.a,v)::lv Q (v+1)
theorem An:∀(Q:List Sl) (v o wd:Int),vq Q v o wd=if wd=4 then lkV (lv Q v) o else none
 | [],v,o,wd=>by simp[vq,lv,lkV]
 |s::Q,v,o,wd=>by
  unfold vq lv;by_cases h:s.e=true∨s.b≠4
  ·rw[if_pos h,if_pos h];exact An Q v o wd
  ·rw[if_neg h,if_neg h];by_cases h4:wd=4
   ·by_cases ho:s.a=o
    ·simp[h4,ho,lkV]
    ·rw[if_neg (fun x=>ho x.1),An Q (v+1) o wd]
     simp[h4,lkV,ho]
   ·rw[if_neg (fun x=>h4 x.2),An Q (v+1) o wd,if_neg h4,if_neg h4]
theorem V2:∀(Q:List Sl) (v:Int),∀p∈lv Q v,v≤p.2
 | [],v,p,h=>by cases h
 |s::Q,v,p,h=>by
  unfold lv at h;split at h
  ·exact V2 Q v p h
  ·rcases List.mem_cons.1 h with rfl|h
   ·exact Int.le_refl _
   ·have:=V2 Q (v+1) p h;omega
theorem V3 {L:List (Int×Int)} {o v:Int} (h:lkV L o=some v):(o,v)∈L:=by
 unfold lkV at h;obtain⟨p,hp,rfl⟩:=Option.map_eq_some_iff.1 h;have h1:=List.mem_of_find?_eq_some hp
 have h2:=List.find?_some hp
 simp only[decide_eq_true_eq]at h2;rw[<- h2];exact h1
theorem V4 {Q:List Sl} {f o v:Int} (h:lkV (lv Q f) o=some v):f≤v:=V2 Q f _ (V3 h)
def pvR (Q:List Sl) (f:Int) (e:D) (wd d:Int):Option Int:=if isSt e=true then vq Q f (w (d+stN e)) wd else none
theorem pv_same (Q:List Sl) (f:Int):pvR Q f=pvP (lv Q f):=by
 funext e wd d
 unfold pvR pvP;rw[An];cases isSt e<;>by_cases h:wd=4<;>simp[h]
theorem var_r {z f:Int} {b:Bool} {Q:List Sl} (hf:0≤f) (hb:f+Q.length≤1000000000) (o wd:Int):q87 [.int z,dS Q, .bool b, .int f, .int o, .int wd]=some [.int ((vq Q f o wd).getD (-1))]:=by
 have key:∀(k i:Nat) (v:Int),i+k=Q.length->0≤v->v+k≤1000000000->loW (Dc [.int o, .int wd, .int z,dS Q, .bool b, .int f]) [.int v, .int i]=some (match vq (Q.drop i) v o wd with|some x=>[.int 1, .int x]|none=>[.int 0]):=by
  intro k
  induction k with
  |zero=>
   intro i v hi _ _;have c0:ae .lss (i:Int) (ai (dS Q))=false:=by rw[al,bR,decide_eq_false_iff_not];omega
   rw[aH,Ab,c0,List.drop_of_length_le (by omega)];rfl
  |succ k ih=>
   intro i v hi hv hvb;have hlt:i<Q.length:=by omega
   have c0:ae .lss (i:Int) (ai (dS Q))=true:=by rw[al,bR,decide_eq_true_eq];omega
   rw[aH,Ab,c0,gr hlt,gt hlt,f0,f1,f4,List.drop_eq_getElem_cons hlt];simp only[aU,bo,au,cond_true,aT (show i<9223372036854775807 by omega)]
   unfold vq;by_cases h:Q[i].e=true∨Q[i].b≠4
   ·have hc:(bif Q[i].e then true else !decide (Q[i].b=4))=true:=by
     rcases h with h|h
     ·rw[h];rfl
     ·cases Q[i].e<;>simp[h]
    rw[hc,if_pos h];exact ih (i+1) v (by omega) hv (by omega)
   ·have h1:Q[i].e=false:=by cases he:Q[i].e with|false=>rfl|true=>exact absurd (.inl he) h
    have h2:Q[i].b=4:=by by_cases hb:Q[i].b=4;exact hb;exact absurd (.inr hb) h
    have hc:(bif Q[i].e then true else !decide (Q[i].b=4))=false:=by rw[h1,h2];rfl
    rw[hc,if_neg h];simp only[cond_false];by_cases h3:Q[i].a=o∧wd=4
    ·have hc2:(bif decide (Q[i].a=o)then decide (wd=4)else false)=true:=by rw[h3.1,h3.2];simp
     rw[hc2,if_pos h3];rfl
    ·have hc2:(bif decide (Q[i].a=o)then decide (wd=4)else false)=false:=by
      cases h5:decide (Q[i].a=o)<;>simp_all
     rw[hc2,if_neg h3];simp only[cond_false];rw[yF (by omega) (by omega)]
     exact ih (i+1) (v+1) (by omega) (by omega) (by omega)
 have h:=key Q.length 0 f (by omega) hf hb
 rw[List.drop_zero]at h;have h':MD [.int o, .int wd, .int z,dS Q, .bool b, .int f] [.int f, .int 0]=some (match vq Q f o wd with|some x=>[.int 1, .int x]|none=>[.int 0]):=by rw[Hl];exact h
 rw[Vj,F87_eq,h'];cases vq Q f o wd<;>simp[am,ax,aC,au]
theorem xn {st:List D->Option (Sum (List D) (List D))} {l:D} {f nm:D->D} {q:D->Option (List D)} (hl:l.toList.length≤100000000) (hq:∀x∈l.toList,q x=some [f x]) (hn:∀x,nm (f x)=f x)
 (hst:∀(i:Nat) (X:List D),X.length≤100000000->st [.int i, .list X]=bif ae .lss i (ai l)then bif aI l i then bif uZZ (q (ay l i))then
 some (.inl [.int (aQ .add .i64 i 1), .list (X ++ [nm (ar (q (ay l i)) 0)])])else none else none else some (.inr [.int 0, .list X])):
 ∀(k i:Nat),i+k=l.toList.length->loW st [.int i, .list ((l.toList.take i).map f)]=some [.int 0, .list (l.toList.map f)]
 |0,i,hi=>by
  obtain rfl:i=l.toList.length:=by omega
  rw[aH,hst _ _ (by rw[List.length_map,List.length_take];omega),al,aD,decide_eq_false (by omega),List.take_length];rfl
 |k+1,i,hi=>by
  have hlt:i<l.toList.length:=by omega
  have hg:ay l (i:Int)=l.toList[i]:=by rw[bf,getD_lt hlt]
  have ih:=xn hl hq hn hst k (i+1) (by omega)
  rw[List.take_add_one,List.getElem?_eq_getElem hlt,List.map_append]at ih
  rw[aH,hst _ _ (by rw[List.length_map,List.length_take];omega),al,aD,decide_eq_true (by omega),aP hlt,hg,hq _ (List.getElem_mem hlt)]
  simp only[am,ax,List.getD_cons_zero,hn,cond_true,aT (show i<9223372036854775807 by omega)]
  exact ih
theorem lV (X Y:List D):bN (.list X) (.list Y) = .list (X++Y):=by rw[dj];simp[D.app,D.toList]
section
variable {z f:Int} {b:Bool} {Q:List Sl} (hf:0≤f) (hb:f+Q.length≤1000000000)
include hf hb
theorem pr_r:∀(N:Nat) (e:D) (d:Int),Fm e->e.size≤lim->e.size<N->F86 N [.int z,dS Q, .bool b, .int f,e, .int d]=some [pE (pvR Q f) e d]
 |0,_,_,_,_,h=>by omega
 |N+1,e,d,hfm,hs,hNN=>by
  obtain⟨_,hx⟩:=cb (j:=4) hs;have hl:=Pv hs;have hQ:∀x∈(aa e 4).toList,F86 N [.int z,dS Q, .bool b, .int f,x, .int d]=some [pE (pvR Q f) x d]:=fun x hm=>pr_r N x d (hfm.el x hm) (hx x hm) (by have:=bX hm;omega)
  have hloop:=xn (st:=se (F86 N) [.int d,e, .int z,dS Q, .bool b, .int f]) (l:=aa e 4) (f:=fun x=>pE (pvR Q f) x d) (nm:=VY) (q:=fun x=>F86 N [.int z,dS Q, .bool b, .int f,x, .int d]) hl hQ (fun x=>DG _ x d) (fun i X hX=>by
   have m:∀y:D,bF (ai (.list (X ++ [y]))) 56=true:=fun y=>by rw[bQ];exact pO (by simp only[List.length_append,List.length_cons,List.length_nil];omega) (by omega)
   rw[Kr];simp only[lV,m,cond_true]
   rfl) (aa e 4).toList.length 0 (by omega)
  have hloop':De (F86 N) [.int d,e, .int z,dS Q, .bool b, .int f] [.int 0, .list []]=some [.int 0, .list ((aa e 4).toList.map fun x=>pE (pvR Q f) x d)]:=by rw[Ad];exact hloop
  have z0:ae .eql 0 (ai (D.list []))=true:=by rw[au,bQ];rfl
  rw[F86_s,Fb86_eq,xl];simp only[hloop',z0,am,ax,List.getD_cons_zero,List.getD_cons_succ,aj,au,be,decide_true,cond_true];by_cases h18:ah (aa e 0)=18
  ·have h1:=hfm.one h18;have hm:ay (aa e 4) 0∈(aa e 4).toList:=get_mem (i:=0) (by omega)
   have i0:aI (aa e 4) 0=true:=aP (i:=0) (by omega)
   have hld:pLd (pvR Q f) e d=pvR Q f (ay (aa e 4) 0) (ah (aa e 3)) d:=by unfold pLd;rw[if_pos h18]
   rw[decide_eq_true h18,i0,OG (hfm.el _ hm).two,hld];simp only[am,ax,List.getD_cons_zero,List.getD_cons_succ,aO,aC,cond_true,Ga,var_r hf hb];unfold pvR;cases hS:isSt (ay (aa e 4) 0)with
   |false=>simp[qV]
   |true=>
    simp only[cond_true,if_true];cases hv:vq Q f (w (d+stN (ay (aa e 4) 0))) (ah (aa e 3))with
    |none=>simp[qV]
    |some v=>
     have hv':=hv;rw[An]at hv';split at hv'
     ·have:=V4 hv';simp only[Option.getD_some];rw[decide_eq_true (by omega)];rfl
     ·cases hv'
  ·have hld:pLd (pvR Q f) e d=none:=by unfold pLd;rw[if_neg h18]
   rw[decide_eq_false h18,hld]
   rfl
theorem pr_rq {e:D} (d:Int) (hfm:Fm e) (hs:e.size≤lim):q86 [.int z,dS Q, .bool b, .int f,e, .int d]=some [pE (pvR Q f) e d]:=by
 rw[Vm];exact pr_r hf hb _ e d hfm hs (e8 (by simp))
theorem ps_r {s:D} (hs:Sok s) (hz:s.size≤lim) (hc:aa s 7 = .list (aa s 7).toList) (d:Int):q46 [.int z,dS Q, .bool b, .int f,s, .int d]=some [pS (pvR Q f) s d]:=by
 have hl:=VX hz;have hQ:∀x∈(aa s 6).toList,q86 [.int z,dS Q, .bool b, .int f,x, .int d]=some [pE (pvR Q f) x d]:=fun x hm=>pr_rq hf hb d (hs.el x hm).2 (hs.el x hm).1
 have hloop:=xn (st:=Df [.int d,s, .int z,dS Q, .bool b, .int f]) (l:=aa s 6) (f:=fun x=>pE (pvR Q f) x d) (nm:=VY) (q:=fun x=>q86 [.int z,dS Q, .bool b, .int f,x, .int d]) hl hQ (fun x=>DG _ x d) (fun i X hX=>by
  have m:∀y:D,bF (ai (.list (X ++ [y]))) 56=true:=fun y=>by rw[bQ];exact pO (by simp only[List.length_append,List.length_cons,List.length_nil];omega) (by omega)
  rw[Pi];simp only[lV,m,cond_true]
  rfl) (aa s 6).toList.length 0 (by omega)
 have hloop':MF [.int d,s, .int z,dS Q, .bool b, .int f] [.int 0, .list []]=some [.int 0, .list ((aa s 6).toList.map fun x=>pE (pvR Q f) x d)]:=by rw[Hn];exact hloop
 have z0:ae .eql 0 (ai (D.list []))=true:=by rw[au,bQ];rfl
 rw[Vo,F46_eq];simp only[hloop',z0,am,ax,List.getD_cons_zero,List.getD_cons_succ,bQ,aj,au,be,decide_true,cond_true];unfold pS;rw[<- hc];by_cases h2:ah (aa s 0)=2
 ·have hn:=hs.two h2;have hm:ay (aa s 6) 0∈(aa s 6).toList:=get_mem (i:=0) (by omega)
  have i0:aI (aa s 6) 0=true:=aP (i:=0) (by omega)
  have g1:ay (.list ((aa s 6).toList.map fun x=>pE (pvR Q f) x d)) 1=pE (pvR Q f) (ay (aa s 6) 1) d:=by
   have h:ay (.list ((aa s 6).toList.map fun x=>pE (pvR Q f) x d)) ((1:Nat):Int)=pE (pvR Q f) (ay (aa s 6) ((1:Nat):Int)) d:=by
    rw[bf,bf];have hj':1<(aa s 6).toList.length:=by omega
    rw[getD_lt (by simpa[D.toList]using hj'),getD_lt hj']
    simp[D.toList]
   exact h
  have i1:aI (.list ((aa s 6).toList.map fun x=>pE (pvR Q f) x d)) 1=true:=aP (i:=1) (by show 1<((aa s 6).toList.map _).length;rw[List.length_map];omega)
  have c1:ae .leq 0 1=true:=by rw[aV];rfl
  have c3:ae .lss 1 (((aa s 6).toList.map fun x=>pE (pvR Q f) x d).length:Int)=true:=by rw[al,List.length_map,hn];rfl
  have hn5:=DG (pvR Q f) (ay (aa s 6) 1) d;unfold VY at hn5;rw[decide_eq_true h2,if_pos h2,i0,OG (hs.el _ hm).2.two,g1,i1,c1,c3,hn5];simp only[am,ax,List.getD_cons_zero,List.getD_cons_succ,aO,aC,cond_true,Ga,var_r hf hb];have hpv:pvR Q f (ay (aa s 6) 0) (ah (aa s 2)) d=if isSt (ay (aa s 6) 0)=true then vq Q f (w (d+stN (ay (aa s 6) 0))) (ah (aa s 2))else none:=rfl
  rw[hpv];cases hS:isSt (ay (aa s 6) 0)with
  |false=>simp[h2]
  |true=>
   simp only[cond_true,if_true];cases hv:vq Q f (w (d+stN (ay (aa s 6) 0))) (ah (aa s 2))with
   |none=>simp[h2]
   |some v=>
    have hv':=hv;rw[An]at hv';split at hv'
    ·have:=V4 hv';simp only[Option.getD_some];rw[decide_eq_true (by omega)];rfl
    ·cases hv'
 ·rw[decide_eq_false h2,if_neg h2]
  rfl
end
end
end Go.Proofs.YtfdedgmlafelaaaGreatDoor
namespace Go.Proofs.YtfdedgmlafelaaaGreatDoor
open Go Go.AM Go.Proofs.YtfdedgmlafelaaaGreatDoor.Sr
noncomputable section
theorem DH {s:D} (h:Conf PG 57 s):s = .agg [.int (ah (aa s 0)), .int (ah (aa s 1)), .int (ah (aa s 2)), .int (ah (aa s 3)), .int (ah (aa s 4)), .int (ah (aa s 5)), .list (aa s 6).toList, .list (aa s 7).toList]∧aa s 6 = .list (aa s 6).toList∧aa s 7 = .list (aa s 7).toList∧∀x∈(aa s 6).toList,Conf PG 61 x:=by
 have a0:=conf_int i3 (cG f57_0 h);have a1:=conf_int i3 (cG f57_1 h);have a2:=conf_int i3 (cG f57_2 h);have a3:=conf_int i3 (cG f57_3 h);have a4:=conf_int i3 (cG f57_4 h);have a5:=conf_int i22 (cG f57_5 h);have a6:=gu s55 (cG L8 h);have a7:=gu s46 (cG TJ h);refine⟨?_,a6,a7,(cn s55 (cG L8 h)).2.2⟩
 rw[<- a0, <- a1, <- a2, <- a3, <- a4, <- a5, <- a6, <- a7];obtain⟨ds,rfl,hl⟩:=fA t57 h;simp only[g5];exact congrArg D.agg (len8 hl)
theorem M3 {b:D} (h:Conf PG 54 b):b = .agg [.int (ah (aa b 0)), .list (aa b 1).toList]∧∀x∈(aa b 1).toList,Conf PG 57 x:=by
 have a0:=conf_int i22 (cG f54_0 h);have a1:=gu s52 (cG Gf h);refine⟨?_,(cn s52 (cG Gf h)).2.2⟩
 rw[<- a0, <- a1];obtain⟨ds,rfl,hl⟩:=fA t54 h;simp only[g5];exact congrArg D.agg (len2 hl)
theorem M4 {g:D} (h:Conf PG 25 g):g = .agg [.int (ah (aa g 0)), .list (aa g 1).toList]∧∀x∈(aa g 1).toList,Conf PG 54 x:=by
 have a0:=conf_int i22 (cG f25_0 h);have a1:=gu s23 (cG zm h);refine⟨?_,(cn s23 (cG zm h)).2.2⟩
 rw[<- a0, <- a1];obtain⟨ds,rfl,hl⟩:=fA t25 h;simp only[g5];exact congrArg D.agg (len2 hl)
theorem M5 {pv:D->Int->Int->Option Int} (hp:∀e wd d,pv e wd d=none) {s:D} (hc:Conf PG 57 s) (d:Int):pS pv s d=s:=by
 obtain⟨h1,_,_,h2⟩:=DH hc;have hn:(if ah (aa s 0)=2 then pv (ay (aa s 6) 0) (ah (aa s 2)) d else none)=none:=by split<;>simp[hp]
 unfold pS;rw[hn];simp only;have:(aa s 6).toList.map (fun x=>pE pv x d)=(aa s 6).toList:=(jP fun x hx=>M0 pv hp _ x d (Nat.lt_succ_self _) (h2 x hx)).trans (List.map_id' _)
 rw[this];exact h1.symm
def HP (x:D):D:= .agg [.int (ah (aa x 0)), .int (ah (aa x 1)), .int (ah (aa x 2)), .int (ah (aa x 3)), .int (ah (aa x 4)), .int (ah (aa x 5)),aa x 6,aa x 7]
theorem HQ (a b c d e f:Int) (X Y:D):HP (.agg [.int a, .int b, .int c, .int d, .int e, .int f,X,Y]) = .agg [.int a, .int b, .int c, .int d, .int e, .int f,X,Y]:=by
 unfold HP;simp only[aZ,D.fld,List.getD_cons_zero,List.getD_cons_succ,aC]
theorem M6 (pv:D->Int->Int->Option Int) (s:D) (d:Int):HP (pS pv s d)=pS pv s d:=by
 unfold pS;split<;>exact HQ _ _ _ _ _ _ _ _
theorem V5 {s:D} (hc:Conf PG 57 s):HP s=s:=by
 obtain⟨h1,_⟩:=DH hc;rw[h1];exact HQ _ _ _ _ _ _ _ _
def pB (pv:D->Int->Int->Option Int):List D->Int->List D
 | [],_=>[]
 |s::ss,d=>pS pv s d::(match aft s d with|some e=>pB pv ss e|none=>[])
def bS (g:D) (b:Nat):List D:=(aa (blk g b) 1).toList
def bO (pv:D->Int->Int->Option Int) (g:D) (R:List Bool) (o:List Int) (b:Nat):D:= .agg [.int (ah (aa (blk g b) 0)), .list (if gB R b=true then pB pv (bS g b) (gI o b)else bS g b)]
def gO (pv:D->Int->Int->Option Int) (g:D) (R:List Bool) (o:List Int) (n:Nat):D:= .agg [.int (ah (aa g 0)), .list ((List.range' 0 n).map (bO pv g R o))]
theorem blkP {L:List (Int×Int)} (hL:∀o v,lkV L o=some v->12≤v) {X pd0 pd2 pd8 pd10:D} {pn3 pn4 pn7 pn9:Int} (hl:X.toList.length≤100000000) (hs:∀s∈X.toList,Sok s∧s.size≤lim):∀(k i:Nat) (d e:Int) (Y:List D),i+k=X.toList.length->Y.length≤i->acr (X.toList.drop i) d=some e->
 loW (lD [pd0, .bool true,pd2, .int pn3, .int pn4,X, .int (ai X), .int pn7,pd8, .int pn9,pd10,mV L]) [.int d, .int i, .list Y]=some [.int 0, .list (Y++pB (pvP L) (X.toList.drop i) d)]
 |0,i,d,e,Y,hi,_,_=>by
  have c0:ae .lss (i:Int) (ai X)=false:=by rw[al,aD,decide_eq_false_iff_not];omega
  rw[aH,wN,c0,List.drop_of_length_le (by omega)]
  simp[aj,pB]
 |k+1,i,d,e,Y,hi,hY,ha=>by
  have hlt:i<X.toList.length:=by omega
  have c0:ae .lss (i:Int) (ai X)=true:=by rw[al,aD,decide_eq_true_eq];omega
  have hg:ay X (i:Int)=X.toList[i]:=by rw[bf,getD_lt hlt]
  have hsk:=hs _ (List.getElem_mem hlt);rw[List.drop_eq_getElem_cons hlt]at ha ⊢;generalize X.toList[i]=s at *;simp only[acr]at ha;cases hd':aft s d with
  |none=>rw[hd']at ha;cases ha
  |some d'=>
   rw[hd']at ha;have ih:=blkP hL (pd0:=pd0) (pd2:=pd2) (pd8:=pd8) (pd10:=pd10) (pn3:=pn3) (pn4:=pn4) (pn7:=pn7) (pn9:=pn9) hl hs k (i+1) d' e (Y ++ [pS (pvP L) s d]) (by omega) (by simp only[List.length_append,List.length_cons,List.length_nil];omega) ha
   have hn8:=M6 (pvP L) s d;unfold HP at hn8;have m:bF (ai (.list (Y ++ [pS (pvP L) s d]))) 96=true:=by rw[bQ];exact pO (by simp only[List.length_append,List.length_cons,List.length_nil];omega) (by omega)
   rw[aH,wN,c0,aP hlt,hg,ps_p hL hsk.1 hsk.2 d,oj (TB hsk.1.st d) hd'];simp only[am,ax,List.getD_cons_zero,aC,hn8,lV,m,aj,aK,cond_true,aT (show i<9223372036854775807 by omega)]
   rw[ih];simp[pB,hd',List.append_assoc]
theorem blkN {X pd0 pd2 pd8 pd10 pd11:D} {pn3 pn4 pn7 pn9 d:Int} (hl:X.toList.length≤100000000) (hs:∀s∈X.toList,Sok s∧s.size≤lim∧Conf PG 57 s):∀(k i:Nat) (Y:List D),i+k=X.toList.length->Y.length≤i->
 loW (iZ [pd0, .bool false,pd2, .int pn3, .int pn4,X, .int (ai X), .int pn7,pd8, .int pn9,pd10,pd11]) [.int d, .int i, .list Y]=some [.int 0, .list (Y++X.toList.drop i)]
 |0,i,Y,hi,_=>by
  have c0:ae .lss (i:Int) (ai X)=false:=by rw[al,aD,decide_eq_false_iff_not];omega
  rw[aH,qG,c0,List.drop_of_length_le (by omega)]
  simp[aj]
 |k+1,i,Y,hi,hY=>by
  have hlt:i<X.toList.length:=by omega
  have c0:ae .lss (i:Int) (ai X)=true:=by rw[al,aD,decide_eq_true_eq];omega
  have hg:ay X (i:Int)=X.toList[i]:=by rw[bf,getD_lt hlt]
  have hsk:=hs _ (List.getElem_mem hlt);rw[List.drop_eq_getElem_cons hlt];generalize X.toList[i]=s at *;have ih:=blkN (pd0:=pd0) (pd2:=pd2) (pd8:=pd8) (pd10:=pd10) (pd11:=pd11) (pn3:=pn3) (pn4:=pn4) (pn7:=pn7) (pn9:=pn9) (d:=d) hl hs k (i+1) (Y ++ [s]) (by omega) (by simp only[List.length_append,List.length_cons,List.length_nil];omega)
  have hq:=ps_n hsk.1 hsk.2.1 d;rw[M5 (pv:=nv) (fun _ _ _=>rfl) hsk.2.2 d]at hq
  have hn8:=V5 hsk.2.2;unfold HP at hn8;have m:bF (ai (.list (Y ++ [s]))) 96=true:=by rw[bQ];exact pO (by simp only[List.length_append,List.length_cons,List.length_nil];omega) (by omega)
  rw[aH,qG,c0,aP hlt,hg,hq];simp only[am,ax,List.getD_cons_zero,hn8,lV,m,aj,aK,cond_true,cond_false,aT (show i<9223372036854775807 by omega)]
  rw[ih];simp[List.append_assoc]
structure Rc2 (g:D) (R:List Bool) (o:List Int) (n:Nat):Prop extends Rec g R o n where
 bz:∀b,b<n->(bS g b).length≤100000000∧∀s∈bS g b,Sok s∧s.size≤lim∧Conf PG 57 s
theorem M7 {L:List (Int×Int)} (hL:∀o v,lkV L o=some v->12≤v) {g:D} {R:List Bool} {o:List Int} {n:Nat} (G:Rc2 g R o n) (hR:q20 [g]=some [dB R]):q42 [mV L,g,dI o]=some [gO (pvP L) g R o n]:=by
 have h256:=G.n256;have key:∀(k i:Nat) (Y:List D),i+k=n->Y.length≤i->loW (CR [dI o,dB R, .int (n:Int), .int (ah (aa g 0)),g,mV L]) [.int i, .list Y]=some [.int 0, .list (Y++(List.range' i k).map (bO (pvP L) g R o))]:=by
  intro k
  induction k with
  |zero=>
   intro i Y hi _;have c0:ae .lss (i:Int) (n:Int)=false:=by rw[al,decide_eq_false_iff_not];omega
   rw[aH,zR,c0];simp[aj]
  |succ k ih=>
   intro i Y hi hY;have hlt:i<n:=by omega
   have c0:ae .lss (i:Int) (n:Int)=true:=by rw[al,decide_eq_true_eq];omega
   have hbi:i<(aa g 1).toList.length:=by rw[G.len];exact hlt
   have i1:aI (dB R) (i:Int)=true:=jU (by rw[G.lr];exact hlt)
   have i2:aI (dI o) (i:Int)=true:=jT (by rw[G.lo];exact hlt)
   have z0:ae .eql 0 (ai (D.list []))=true:=by rw[au,bQ];rfl
   obtain⟨bz1,bz2⟩:=G.bz i hlt;have m:∀y:D,bF (ai (.list (Y ++ [y]))) 32=true:=fun y=>by rw[bQ];exact pO (by simp only[List.length_append,List.length_cons,List.length_nil];omega) (by omega)
   have ih:=ih (i+1) (Y ++ [bO (pvP L) g R o i]) (by omega) (by simp only[List.length_append,List.length_cons,List.length_nil];omega)
   have la:∀p s,CP p s=loW (lD p) s:=fun p s=>by rw[zQ]
   have lb:∀p s,r7 p s=loW (iZ p) s:=fun p s=>by rw[wP]
   rw[aH,zR,c0,i1,i2,aP hbi,qB,nX,show ay (aa g 1) (i:Int)=blk g i from rfl,List.range'_succ,List.map_cons]
   simp only[la,lb,cond_true,z0,bt];cases hr:gB R i with
   |true=>
    obtain⟨_,e,he⟩:=G.ac i hr;have hb:=blkP hL (X:=aa (blk g i) 1) (pd0:=dI o) (pd2:=dB R) (pd8:= .list Y) (pd10:=g) (pn3:=(n:Int)) (pn4:=(i:Int)) (pn7:=ah (aa (blk g i) 0)) (pn9:=ah (aa g 0)) bz1 (fun s hs=>⟨(bz2 s hs).1,(bz2 s hs).2.1⟩) (aa (blk g i) 1).toList.length 0 (gI o i) e [] (by omega) (by simp) he
    rw[List.drop_zero,List.nil_append]at hb;have hb':loW (lD [dI o, .bool true,dB R, .int (n:Int), .int (i:Int),aa (blk g i) 1, .int (ai (aa (blk g i) 1)), .int (ah (aa (blk g i) 0)), .list Y, .int (ah (aa g 0)),g,mV L]) [.int (gI o i), .int 0, .list []]=_:=hb;have hbo:bO (pvP L) g R o i = .agg [.int (ah (aa (blk g i) 0)), .list (pB (pvP L) (aa (blk g i) 1).toList (gI o i))]:=by unfold bO bS;rw[hr];rfl
    rw[hb'];simp only[Bool.not_true,cond_false,am,ax,List.getD_cons_zero,List.getD_cons_succ,lV, <- hbo,m,aj,cond_true,aT (show i<9223372036854775807 by omega)]
    rw[ih];simp
   |false=>
    have hb:=blkN (X:=aa (blk g i) 1) (pd0:=dI o) (pd2:=dB R) (pd8:= .list Y) (pd10:=g) (pd11:=mV L) (pn3:=(n:Int)) (pn4:=(i:Int)) (pn7:=ah (aa (blk g i) 0)) (pn9:=ah (aa g 0)) (d:=gI o i) bz1 bz2 (aa (blk g i) 1).toList.length 0 [] (by omega) (by simp)
    rw[List.drop_zero,List.nil_append]at hb;have hb':loW (iZ [dI o, .bool false,dB R, .int (n:Int), .int (i:Int),aa (blk g i) 1, .int (ai (aa (blk g i) 1)), .int (ah (aa (blk g i) 0)), .list Y, .int (ah (aa g 0)),g,mV L]) [.int (gI o i), .int 0, .list []]=_:=hb;have hbo:bO (pvP L) g R o i = .agg [.int (ah (aa (blk g i) 0)), .list (aa (blk g i) 1).toList]:=by unfold bO bS;rw[hr];rfl
    rw[hb'];simp only[Bool.not_false,cond_true,am,ax,List.getD_cons_zero,List.getD_cons_succ,lV, <- hbo,m,aj,aT (show i<9223372036854775807 by omega)]
    rw[ih];simp
 have h:=key n 0 [] (by omega) (by simp)
 rw[List.nil_append]at h;have h':Mw [dI o,dB R, .int (ai (dB R)), .int (ah (aa g 0)),g,mV L] [.int 0, .list []]=some [.int 0, .list ((List.range' 0 n).map (bO (pvP L) g R o))]:=by rw[G1,dz,G.lr];exact h
 have z0:ae .eql 0 (ai (D.list []))=true:=by rw[au,bQ];rfl
 rw[UV,F42_eq,hR];simp only[am,ax,List.getD_cons_zero,List.getD_cons_succ,h',z0,aj,cond_true]
 rfl
section
variable {z f:Int} {bb:Bool} {Q:List Sl} (hf:0≤f) (hb:f+Q.length≤1000000000)
include hf hb
theorem blkRR {g pd1 pd5:D} {R:List Bool} {pn0 pn4 pn6:Int} {b:Nat} (hbg:b<(aa g 1).toList.length) (hbr:b<R.length) (hr:gB R b=true) (hl:(bS g b).length≤100000000) (hs:∀s∈bS g b,Sok s∧s.size≤lim∧Conf PG 57 s):∀(k i:Nat) (d e:Int) (Y:List D),i+k=(bS g b).length->Y.length≤i->acr ((bS g b).drop i) d=some e->
 loW (g6 [.int pn0,pd1,dB R, .int b, .int pn4,pd5, .int pn6, .int z,dS Q, .bool bb, .int f,g]) [.int d, .int i, .list Y]=some [.int 0, .list (Y++pB (pvR Q f) ((bS g b).drop i) d)]
 |0,i,d,e,Y,hi,_,_=>by
  have c0:ae .lss (i:Int) (ai (aa (blk g b) 1))=false:=by rw[al,aD,decide_eq_false_iff_not];unfold bS at hi;omega
  rw[aH,jN,aP hbg,show ay (aa g 1) (b:Int)=blk g b from rfl,c0,List.drop_of_length_le (by omega)]
  simp[aj,pB]
 |k+1,i,d,e,Y,hi,hY,ha=>by
  have hlt:i<(bS g b).length:=by omega
  have hlt':i<(aa (blk g b) 1).toList.length:=hlt;have c0:ae .lss (i:Int) (ai (aa (blk g b) 1))=true:=by rw[al,aD,decide_eq_true_eq];omega
  have hg:ay (aa (blk g b) 1) (i:Int)=(bS g b)[i]:=by rw[bf,getD_lt hlt'];rfl
  have hsk:=hs _ (List.getElem_mem hlt);rw[List.drop_eq_getElem_cons hlt]at ha ⊢;generalize (bS g b)[i]=s at *;simp only[acr]at ha;cases hd':aft s d with
  |none=>rw[hd']at ha;cases ha
  |some d'=>
   rw[hd']at ha;have ih:=blkRR (pd1:=pd1) (pd5:=pd5) (pn0:=pn0) (pn4:=pn4) (pn6:=pn6) hbg hbr hr hl hs k (i+1) d' e (Y ++ [pS (pvR Q f) s d]) (by omega) (by simp only[List.length_append,List.length_cons,List.length_nil];omega) ha
   have hn8:=M6 (pvR Q f) s d;unfold HP at hn8;have m:bF (ai (.list (Y ++ [pS (pvR Q f) s d]))) 96=true:=by rw[bQ];exact pO (by simp only[List.length_append,List.length_cons,List.length_nil];omega) (by omega)
   rw[aH,jN,aP hbg,show ay (aa g 1) (b:Int)=blk g b from rfl,c0,aP hlt',jU hbr,qB,hr,hg,ps_r hf hb hsk.1 hsk.2.1 (DH hsk.2.2).2.2.1 d,oj (TC hsk.1.st d) hd']
   simp only[am,ax,List.getD_cons_zero,aC,hn8,lV,m,aj,aK,bt,Bool.not_true,cond_true,cond_false,aT (show i<9223372036854775807 by omega)]
   rw[ih];simp[pB,hd',List.append_assoc]
omit hf hb in
theorem blkRN {g pd1 pd5:D} {R:List Bool} {pn0 pn4 pn6 d:Int} {b:Nat} (hbg:b<(aa g 1).toList.length) (hbr:b<R.length) (hr:gB R b=false) (hl:(bS g b).length≤100000000) (hs:∀s∈bS g b,Sok s∧s.size≤lim∧Conf PG 57 s):∀(k i:Nat) (Y:List D),i+k=(bS g b).length->Y.length≤i->
 loW (g6 [.int pn0,pd1,dB R, .int b, .int pn4,pd5, .int pn6, .int z,dS Q, .bool bb, .int f,g]) [.int d, .int i, .list Y]=some [.int 0, .list (Y++(bS g b).drop i)]
 |0,i,Y,hi,_=>by
  have c0:ae .lss (i:Int) (ai (aa (blk g b) 1))=false:=by rw[al,aD,decide_eq_false_iff_not];unfold bS at hi;omega
  rw[aH,jN,aP hbg,show ay (aa g 1) (b:Int)=blk g b from rfl,c0,List.drop_of_length_le (by omega)]
  simp[aj]
 |k+1,i,Y,hi,hY=>by
  have hlt:i<(bS g b).length:=by omega
  have hlt':i<(aa (blk g b) 1).toList.length:=hlt;have c0:ae .lss (i:Int) (ai (aa (blk g b) 1))=true:=by rw[al,aD,decide_eq_true_eq];omega
  have hg:ay (aa (blk g b) 1) (i:Int)=(bS g b)[i]:=by rw[bf,getD_lt hlt'];rfl
  have hsk:=hs _ (List.getElem_mem hlt);rw[List.drop_eq_getElem_cons hlt];generalize (bS g b)[i]=s at *;have ih:=blkRN (pd1:=pd1) (pd5:=pd5) (pn0:=pn0) (pn4:=pn4) (pn6:=pn6) (d:=d) hbg hbr hr hl hs k (i+1) (Y ++ [s]) (by omega) (by simp only[List.length_append,List.length_cons,List.length_nil];omega)
  have hn8:=V5 hsk.2.2;unfold HP at hn8;have m:bF (ai (.list (Y ++ [s]))) 96=true:=by rw[bQ];exact pO (by simp only[List.length_append,List.length_cons,List.length_nil];omega) (by omega)
  rw[aH,jN,aP hbg,show ay (aa g 1) (b:Int)=blk g b from rfl,c0,aP hlt',jU hbr,qB,hr,hg]
  simp only[hn8,lV,m,aj,bt,Bool.not_false,cond_true,aT (show i<9223372036854775807 by omega)]
  rw[ih];simp[List.append_assoc]
theorem graph_r {g:D} {R:List Bool} {o:List Int} {n:Nat} {pn0 pn4:Int} (G:Rc2 g R o n):Dj [.int pn0,dI o,dB R, .int (ah (aa g 0)), .int z,dS Q, .bool bb, .int f,g] [.int 0, .list []]=some [.int 0, .list ((List.range' 0 n).map (bO (pvR Q f) g R o))]:=by
 have h256:=G.n256;have key:∀(k i:Nat) (Y:List D),i+k=n->Y.length≤i->loW (sf [.int pn0,dI o,dB R, .int (ah (aa g 0)), .int z,dS Q, .bool bb, .int f,g]) [.int i, .list Y]=some [.int 0, .list (Y++(List.range' i k).map (bO (pvR Q f) g R o))]:=by
  intro k
  induction k with
  |zero=>
   intro i Y hi _;have c0:ae .lss (i:Int) (ai (aa g 1))=false:=by rw[al,aD,G.len,decide_eq_false_iff_not];omega
   rw[aH,w9,c0];simp[aj]
  |succ k ih=>
   intro i Y hi hY;have hlt:i<n:=by omega
   have hbi:i<(aa g 1).toList.length:=by rw[G.len];exact hlt
   have hbr:i<R.length:=by rw[G.lr];exact hlt
   have c0:ae .lss (i:Int) (ai (aa g 1))=true:=by rw[al,aD,decide_eq_true_eq];omega
   have i2:aI (dI o) (i:Int)=true:=jT (by rw[G.lo];exact hlt)
   have z0:ae .eql 0 (ai (D.list []))=true:=by rw[au,bQ];rfl
   obtain⟨bz1,bz2⟩:=G.bz i hlt;have m:∀y:D,bF (ai (.list (Y ++ [y]))) 32=true:=fun y=>by rw[bQ];exact pO (by simp only[List.length_append,List.length_cons,List.length_nil];omega) (by omega)
   have ih:=ih (i+1) (Y ++ [bO (pvR Q f) g R o i]) (by omega) (by simp only[List.length_append,List.length_cons,List.length_nil];omega)
   have la:∀p s,Di p s=loW (g6 p) s:=fun p s=>by rw[Af]
   rw[aH,w9,c0,i2,aP hbi,nX,show ay (aa g 1) (i:Int)=blk g i from rfl,List.range'_succ,List.map_cons]
   simp only[la,cond_true,z0];cases hr:gB R i with
   |true=>
    obtain⟨_,e,he⟩:=G.ac i hr;have hb2:=blkRR (z:=z) (bb:=bb) hf hb (g:=g) (pd1:=dI o) (pd5:= .list Y) (pn0:=pn0) (pn4:=ah (aa (blk g i) 0)) (pn6:=ah (aa g 0)) hbi hbr hr bz1 bz2 (bS g i).length 0 (gI o i) e [] (by omega) (by simp) he
    rw[List.drop_zero,List.nil_append]at hb2;have hb':loW (g6 [.int pn0,dI o,dB R, .int (i:Int), .int (ah (aa (blk g i) 0)), .list Y, .int (ah (aa g 0)), .int z,dS Q, .bool bb, .int f,g]) [.int (gI o i), .int 0, .list []]=_:=hb2;have hbo:bO (pvR Q f) g R o i = .agg [.int (ah (aa (blk g i) 0)), .list (pB (pvR Q f) (bS g i) (gI o i))]:=by unfold bO;rw[hr];rfl
    rw[hb'];simp only[am,ax,List.getD_cons_zero,List.getD_cons_succ,lV, <- hbo,m,aj,cond_true,aT (show i<9223372036854775807 by omega)]
    rw[ih];simp
   |false=>
    have hb2:=blkRN (z:=z) (f:=f) (bb:=bb) (Q:=Q) (g:=g) (pd1:=dI o) (pd5:= .list Y) (pn0:=pn0) (pn4:=ah (aa (blk g i) 0)) (pn6:=ah (aa g 0)) (d:=gI o i) hbi hbr hr bz1 bz2 (bS g i).length 0 [] (by omega) (by simp)
    rw[List.drop_zero,List.nil_append]at hb2;have hb':loW (g6 [.int pn0,dI o,dB R, .int (i:Int), .int (ah (aa (blk g i) 0)), .list Y, .int (ah (aa g 0)), .int z,dS Q, .bool bb, .int f,g]) [.int (gI o i), .int 0, .list []]=_:=hb2;have hbo:bO (pvR Q f) g R o i = .agg [.int (ah (aa (blk g i) 0)), .list (bS g i)]:=by unfold bO;rw[hr];rfl
    rw[hb'];simp only[am,ax,List.getD_cons_zero,List.getD_cons_succ,lV, <- hbo,m,aj,cond_true,aT (show i<9223372036854775807 by omega)]
    rw[ih];simp
 have h:=key n 0 [] (by omega) (by simp)
 rw[List.nil_append]at h;rw[Ag];exact h
end
end
end Go.Proofs.YtfdedgmlafelaaaGreatDoor
namespace Go.Proofs.YtfdedgmlafelaaaGreatDoor
open Go Go.AM Go.Proofs.YtfdedgmlafelaaaGreatDoor.Sr
noncomputable section
theorem HR (o v:Int):∀L:List (Int×Int),lkV L o=none->sN 3 (.int o) (.int v) (L.map fun p=>D.agg [.int p.1, .int p.2])=(L ++ [(o,v)]).map fun p=>D.agg [.int p.1, .int p.2]
 | [],_=>rfl
 |p::L,h=>by
  have hk:co (kvD 3 (.int o)) (kvD 3 ((D.agg [.int p.1, .int p.2]).fld 0))=decide (p.1=o):=by
   show co (kvD 3 (.int o)) (kvD 3 (.int p.1))=_
   rw[kv3,kv3,VW]
  unfold lkV at h;rw[List.find?_cons]at h
  cases hd:decide (p.1=o)with
  |true=>rw[hd]at h;simp at h
  |false=>
   rw[hd]at h;rw[List.map_cons,sN,hk,hd,cond_false,HR o v L h];rfl
theorem putV {L:List (Int×Int)} {o v:Int} (h:lkV L o=none):lK 3 (mV L) (.int o) (.int v)=mV (L ++ [(o,v)]):=by
 have:lK=fun kT m k v=> .list (sN kT k v m.toList):=ak _
 rw[this];unfold mV;simp only[D.toList];rw[HR o v L h]
theorem len_V (L:List (Int×Int)):ai (mV L)=(L.length:Int):=by rw[aD];simp[mV,D.toList]
theorem sx (s:Sl):∀(Q:List Sl) (v:Int),lv (Q ++ [s]) v=lv Q v++(if s.e=true∨s.b≠4 then[]else[(s.a,v+((lv Q v).length:Int))])
 | [],v=>by
   simp only[List.nil_append,lv];split<;>simp
 |t::Q,v=>by
  simp only[List.cons_append,lv];by_cases ht:t.e=true∨t.b≠4
  ·rw[if_pos ht,if_pos ht];exact sx s Q v
  ·rw[if_neg ht,if_neg ht,sx s Q (v+1),List.cons_append]
   congr 2
   simp only[List.length_cons];rw[show v+1+((lv Q (v+1)).length:Int)=v+(((lv Q (v+1)).length+1:Nat):Int)by omega]
theorem KM:∀(Q:List Sl) (v:Int),∀p∈lv Q v,∃t∈Q,t.a=p.1∧t.b=4
 | [],v,p,h=>by cases h
 |t::Q,v,p,h=>by
  unfold lv at h;split at h
  ·obtain⟨u,h1,h2⟩:=KM Q v p h;exact⟨u,List.mem_cons_of_mem _ h1,h2⟩
  ·rename_i ht;rcases List.mem_cons.1 h with rfl|h
   ·refine⟨t,by simp,rfl,?_⟩
    by_cases hb:t.b=4
    ·exact hb
    ·exact absurd (.inr hb) ht
   ·obtain⟨u,h1,h2⟩:=KM Q (v+1) p h;exact⟨u,List.mem_cons_of_mem _ h1,h2⟩
theorem KN (Q:List Sl):∀v,(lv Q v).length≤Q.length:=by
 induction Q with
 |nil=>intro v;simp[lv]
 |cons s Q ih=>
  intro v;unfold lv;split
  ·have:=ih v;simp only[List.length_cons];omega
  ·have:=ih (v+1);simp only[List.length_cons];omega
theorem vars_p {Q:List Sl} (hd:Q.Pairwise lt2) (hl:Q.length≤1000000) {f:Int} (hf:0≤f) (hf2:f≤65536) {a0 a4:D}:CZ [a0, .int f,dS Q, .int (ai (dS Q)),a4] [.int 0, .list []]=some [.int 0,mV (lv Q f)]:=by
 have key:∀(k i:Nat),i+k=Q.length->loW (od [a0, .int f,dS Q, .int (ai (dS Q)),a4]) [.int i,mV (lv (Q.take i) f)]=some [.int 0,mV (lv Q f)]:=by
  intro k
  induction k with
  |zero=>
   intro i hi;obtain rfl:i=Q.length:=by omega
   have c0:ae .lss (Q.length:Int) (ai (dS Q))=false:=by rw[al,bR,decide_eq_false_iff_not];omega
   rw[aH,wT,c0,List.take_length];rfl
  |succ k ih=>
   intro i hi;have hlt:i<Q.length:=by omega
   have c0:ae .lss (i:Int) (ai (dS Q))=true:=by rw[al,bR,decide_eq_true_eq];omega
   have ih:=ih (i+1) (by omega)
   rw[List.take_add_one,List.getElem?_eq_getElem hlt]at ih
   have hsn:=sx Q[i] (Q.take i) f;have hll:=KN (Q.take i) f;rw[List.length_take]at hll;have ih':loW (od [a0, .int f,dS Q, .int (ai (dS Q)),a4]) [.int ((i+1:Nat):Int),mV (lv (Q.take i ++ [Q[i]]) f)]=some [.int 0,mV (lv Q f)]:=ih;rw[hsn]at ih';rw[aH,wT,c0,gr hlt,gt hlt,f0,f1,f4];simp only[aU,au,bt,cond_true,len_V,aT (show i<9223372036854775807 by omega)]
   by_cases h:Q[i].e=true∨Q[i].b≠4
   ·have hc:(bif decide (Q[i].b=4)then !Q[i].e else false)=false:=by
     rcases h with h|h
     ·rw[h];cases decide (Q[i].b=4)<;>rfl
     ·rw[decide_eq_false h];rfl
    rw[if_pos h,List.append_nil]at ih';rw[hc];exact ih'
   ·have h1:Q[i].e=false:=by cases he:Q[i].e with|false=>rfl|true=>exact absurd (.inl he) h
    have h2:Q[i].b=4:=by by_cases hb:Q[i].b=4;exact hb;exact absurd (.inr hb) h
    have hc:(bif decide (Q[i].b=4)then !Q[i].e else false)=true:=by rw[h1,h2];rfl
    have hnew:lkV (lv (Q.take i) f) Q[i].a=none:=by
     cases hx:lkV (lv (Q.take i) f) Q[i].a with
     |none=>rfl
     |some v=>
      obtain⟨t,ht,e1,e2⟩:=KM _ _ _ (V3 hx);obtain⟨j,hj,rfl⟩:=List.getElem_of_mem ht;rw[List.length_take]at hj;rw[List.getElem_take]at e1 e2;have:=List.pairwise_iff_getElem.1 hd j i (by omega) hlt (by omega)
      unfold lt2 at this;simp only at e1;omega
    rw[if_neg h]at ih';rw[hc,yF (by omega) (by omega),putV hnew]
    exact ih'
 have h:=key Q.length 0 (by omega)
 rw[zW];exact h
theorem cnt_v {z:Int} {Q:List Sl} {b:Bool} {g:D} (hl:Q.length≤1000000) (f:Int):Dh [fD z Q b,g] [.int 0, .int 0]=some [.int 0, .int ((lv Q f).length:Int)]:=by
 have key:∀(k i:Nat),i+k=Q.length->loW (og [fD z Q b,g]) [.int ((lv (Q.take i) f).length:Int), .int i]=some [.int 0, .int ((lv Q f).length:Int)]:=by
  intro k
  induction k with
  |zero=>
   intro i hi;obtain rfl:i=Q.length:=by omega
   have c0:ae .lss (Q.length:Int) (ai (dS Q))=false:=by rw[al,bR,decide_eq_false_iff_not];omega
   rw[aH,w6,fq,c0,List.take_length];rfl
  |succ k ih=>
   intro i hi;have hlt:i<Q.length:=by omega
   have c0:ae .lss (i:Int) (ai (dS Q))=true:=by rw[al,bR,decide_eq_true_eq];omega
   have ih:=ih (i+1) (by omega)
   rw[List.take_add_one,List.getElem?_eq_getElem hlt]at ih
   have hsn:=sx Q[i] (Q.take i) f;have hll:=KN (Q.take i) f;rw[List.length_take]at hll;have ih':loW (og [fD z Q b,g]) [.int ((lv (Q.take i ++ [Q[i]]) f).length:Int), .int ((i+1:Nat):Int)]=some [.int 0, .int ((lv Q f).length:Int)]:=ih;rw[hsn,List.length_append]at ih';rw[aH,w6,fq,c0,gr hlt,gt hlt,f1,f4];simp only[aU,au,bt,cond_true,Bool.cond_self,aT (show i<9223372036854775807 by omega)]
   by_cases h:Q[i].e=true∨Q[i].b≠4
   ·have hc:(bif !Q[i].e then decide (Q[i].b=4)else false)=false:=by
     rcases h with h|h
     ·rw[h];rfl
     ·rw[decide_eq_false h];cases Q[i].e<;>rfl
    rw[if_pos h]at ih';rw[hc];exact ih'
   ·have h1:Q[i].e=false:=by cases he:Q[i].e with|false=>rfl|true=>exact absurd (.inl he) h
    have h2:Q[i].b=4:=by by_cases hb:Q[i].b=4;exact hb;exact absurd (.inr hb) h
    have hc:(bif !Q[i].e then decide (Q[i].b=4)else false)=true:=by rw[h1,h2];rfl
    rw[if_neg h]at ih';rw[hc,yF (by omega) (by omega)]
    have e:((lv (Q.take i) f).length:Int)+1=(((lv (Q.take i) f).length + [(Q[i].a,f+((lv (Q.take i) f).length:Int))].length:Nat):Int):=by simp
    rw[e];exact ih'
 have h:=key Q.length 0 (by omega)
 rw[Ae];exact h
def gv (s:D):Bool:=decide (ah (aa s 0)=5)
def Ao (g:D):Bool:=(aa g 1).toList.any fun b=>(aa b 1).toList.any gv
theorem calls_p {g:D} (hg:g.size≤lim):q41 [g]=some [.bool (Ao g)]:=by
 obtain⟨hlb,hxb⟩:=cX hg
 have hS:∀X:D,X.toList.length≤maxLen->wD [X]=some [.bool (X.toList.any gv)]:=fun X hl=>by
  have h1:=eZ (st:=jL [X, .int (ai X)]) (l:=X) (c:=fun x=>q80 [x]) (p:=gv) (r1:=fun i=>[.int 1, .int i]) (r0:=[.int 0]) (fun i=>by rw[xV]) hl (fun x _=>by rw[Uy,F80_eq,au];rfl)
  rw[zL,O3,wB,J0,n8];rcases h1 with⟨h1,h2⟩|⟨i,h1,h2⟩
  ·simp[h1,h2,am,ax,aC,au,be]
  ·simp[h1,h2,am,ax,aC,au,be]
 have h1:=eZ (st:=jM [aa g 1, .int (ai (aa g 1))]) (l:=aa g 1) (c:=fun x=>q78 [x]) (p:=fun b=>(aa b 1).toList.any gv) (r1:=fun i=>[.int 1, .int i]) (r0:=[.int 0]) (fun i=>by rw[xW]) hlb (fun x hm=>by
  rw[UA,F78_eq,hS _ (cb (j:=1) (hxb x hm)).1];simp[am,ax,aO])
 have e:(aa g 1).toList.any (fun b=>(aa b 1).toList.any gv)=Ao g:=rfl
 rw[e]at h1;rw[UC,F41_eq,zM,O4,wG,J3,n9];rcases h1 with⟨h1,h2⟩|⟨i,h1,h2⟩
 ·simp[h1,h2,am,ax,aC,aO,au,be]
 ·simp[h1,h2,am,ax,aC,aO,au,be]
theorem calls_r {g:D} (hg:g.size≤lim):q44 [g]=some [.bool (Ao g)]:=by
 obtain⟨hlb,hxb⟩:=cX hg
 have hin:∀b:Nat,b<(aa g 1).toList.length->Mz [.int b,g] [.int 0]=some [.int (if(aa (blk g b) 1).toList.any gv=true then 1 else 0)]:=fun b hb=>by
  obtain⟨hl,_⟩:=cb (j:=1) (hxb _ (get_mem hb))
  change (aa (blk g b) 1).toList.length≤maxLen at hl
  unfold maxLen at hl;have key:∀(k i:Nat),i+k=(aa (blk g b) 1).toList.length->loW (C0 [.int b,g]) [.int i]=some [.int (if((aa (blk g b) 1).toList.drop i).any gv=true then 1 else 0)]:=by
   intro k
   induction k with
   |zero=>
    intro i hi;have c0:ae .lss (i:Int) (ai (aa (blk g b) 1))=false:=by rw[al,aD,decide_eq_false_iff_not];omega
    rw[aH,zX,aP hb,show ay (aa g 1) (b:Int)=blk g b from rfl,c0,List.drop_of_length_le (by omega)];rfl
   |succ k ih=>
    intro i hi;have hlt:i<(aa (blk g b) 1).toList.length:=by omega
    have c0:ae .lss (i:Int) (ai (aa (blk g b) 1))=true:=by rw[al,aD,decide_eq_true_eq];omega
    have hge:ay (aa (blk g b) 1) (i:Int)=(aa (blk g b) 1).toList[i]:=by rw[bf,getD_lt hlt]
    rw[aH,zX,aP hb,show ay (aa g 1) (b:Int)=blk g b from rfl,c0,aP hlt,hge,au,List.drop_eq_getElem_cons hlt,List.any_cons]
    simp only[cond_true,aT (show i<9223372036854775807 by omega)]
    by_cases h:ah (aa (aa (blk g b) 1).toList[i] 0)=5
    ·rw[decide_eq_true h];simp[gv,h]
    ·rw[decide_eq_false h];simp only[cond_false];rw[ih (i+1) (by omega)]
     simp[gv,h]
  have h:=key (aa (blk g b) 1).toList.length 0 (by omega)
  rw[List.drop_zero]at h;rw[G9];exact h
 have key:∀(k i:Nat),i+k=(aa g 1).toList.length->loW (C2 [g]) [.int i]=some [.int (if((aa g 1).toList.drop i).any (fun b=>(aa b 1).toList.any gv)=true then 1 else 0)]:=by
  unfold maxLen at hlb;intro k
  induction k with
  |zero=>
   intro i hi;have c0:ae .lss (i:Int) (ai (aa g 1))=false:=by rw[al,aD,decide_eq_false_iff_not];omega
   rw[aH,zY,c0,List.drop_of_length_le (by omega)];rfl
  |succ k ih=>
   intro i hi;have hlt:i<(aa g 1).toList.length:=by omega
   have c0:ae .lss (i:Int) (ai (aa g 1))=true:=by rw[al,aD,decide_eq_true_eq];omega
   have hge:blk g i=(aa g 1).toList[i]:=by unfold blk;rw[bf,getD_lt hlt]
   rw[aH,zY,c0,hin i hlt,List.drop_eq_getElem_cons hlt,List.any_cons, <- hge];simp only[am,ax,List.getD_cons_zero,aC,au,cond_true,aT (show i<9223372036854775807 by omega)]
   cases h:(aa (blk g i) 1).toList.any gv with
   |true=>simp
   |false=>
    simp only[Bool.false_eq_true,if_false,decide_true,cond_true,Bool.false_or];exact ih (i+1) (by omega)
 have h:=key (aa g 1).toList.length 0 (by omega)
 rw[List.drop_zero]at h;have h':Ha [g] [.int 0]=some [.int (if Ao g=true then 1 else 0)]:=by rw[Hb];exact h
 rw[U8,F44_eq,h'];cases Ao g<;>simp[am,ax,aC,au]
def frz (f:D):Int:=ah (aa f 0)
def frq (f:D):List Sl:=(aa f 1).toList.map slD
def frb (f:D):Bool:=aJ (aa f 2)
theorem lF {f:D} {i:Nat} (h:i<(frq f).length):(frq f)[i]=slD (ay (aa f 1) (i:Int)):=by
 have hlt:i<(aa f 1).toList.length:=by simpa[frq]using h
 simp only[frq,List.getElem_map];rw[bf,getD_lt hlt]
theorem Px {f:D} (hl:(aa f 1).toList.length≤1000000):q13 [f]=some [fD (frz f) (frq f) (frb f)]:=by
 have hln:(frq f).length=(aa f 1).toList.length:=by unfold frq;rw[List.length_map]
 have key:∀(k i:Nat),i+k=(aa f 1).toList.length->loW (Cv [.int (frz f), .bool (frb f),f]) [.int i,dS ((frq f).take i)]=some [.int 0,dS (frq f)]:=by
  intro k
  induction k with
  |zero=>
   intro i hi;have c0:ae .lss (i:Int) (ai (aa f 1))=false:=by rw[al,aD,decide_eq_false_iff_not];omega
   rw[aH,zJ,c0,List.take_of_length_le (by omega)]
   simp[aj]
  |succ k ih=>
   intro i hi;have hlt:i<(aa f 1).toList.length:=by omega
   have hlt':i<(frq f).length:=by omega
   have c0:ae .lss (i:Int) (ai (aa f 1))=true:=by rw[al,aD,decide_eq_true_eq];omega
   have ih:=ih (i+1) (by omega)
   have ap:=VI ((frq f).take i) [(frq f)[i]];have hd:dS [(frq f)[i]] = .list [.agg [.int (ah (aa (ay (aa f 1) (i:Int)) 0)), .int (ah (aa (ay (aa f 1) (i:Int)) 1)), .int (ah (aa (ay (aa f 1) (i:Int)) 2)), .int (ah (aa (ay (aa f 1) (i:Int)) 3)), .bool (aJ (aa (ay (aa f 1) (i:Int)) 4))]]:=by
    show D.list [sDl (frq f)[i]]=_
    rw[lF hlt'];rfl
   rw[hd]at ap;have m:bF (ai (dS ((frq f).take i ++ [(frq f)[i]]))) 40=true:=by rw[bR];exact HD (by simp only[List.length_append,List.length_take,List.length_cons,List.length_nil];omega) (by omega)
   have htk:(frq f).take (i+1)=(frq f).take i ++ [(frq f)[i]]:=by rw[List.take_add_one,List.getElem?_eq_getElem hlt'];rfl
   rw[htk]at ih;rw[aH,zJ,c0,aP hlt];simp only[ap,m,aj,cond_true,aT (show i<9223372036854775807 by omega)]
   exact ih
 have h:=key (aa f 1).toList.length 0 (by omega)
 have h':Mn [.int (ah (aa f 0)), .bool (aJ (aa f 2)),f] [.int 0, .list []]=some [.int 0,dS (frq f)]:=by rw[GK];exact h
 have z0:ae .eql 0 (ai (D.list []))=true:=by rw[au,bQ];rfl
 rw[Uv,F13_eq,h'];simp only[am,ax,List.getD_cons_zero,List.getD_cons_succ,aj,z0,cond_true]
 rfl
theorem sl_eq (s t:Sl):bL (ae .eql s.a t.a) (bL (ae .eql s.b t.b) (bL (ae .eql s.c t.c) (bL (ae .eql s.d t.d) (g8 s.e t.e))))=true↔s=t:=by
 simp only[mB,au,BV,Bool.and_eq_true,decide_eq_true_eq,beq_iff_eq];cases s;cases t;simp only[Sl.mk.injEq]
instance decSl:DecidableEq Sl:=fun _ _=>Classical.propDecidable _
theorem cmpS {st:List D->Option (Sum (List D) (List D))} {P Q:List Sl} (hl:P.length=Q.length) (hb:P.length≤1000000)
 (h1:∀(i:Nat) (h:i<P.length),st [.int i]=bif ca (bL (ae .eql P[i].a (Q[i]'(by omega)).a) (bL (ae .eql P[i].b (Q[i]'(by omega)).b) (bL (ae .eql P[i].c (Q[i]'(by omega)).c) (bL (ae .eql P[i].d (Q[i]'(by omega)).d) (g8 P[i].e (Q[i]'(by omega)).e)))))then some (.inr [.int 1])else some (.inl [.int (aQ .add .i64 (i:Int) 1)]))
 (h0:st [.int P.length]=some (.inr [.int 0])):loW st [.int 0]=some [.int (if P=Q then 0 else 1)]:=by
 have key:∀(k i:Nat),i+k=P.length->P.take i=Q.take i->loW st [.int i]=some [.int (if P=Q then 0 else 1)]:=by
  intro k
  induction k with
  |zero=>
   intro i hi ht;obtain rfl:i=P.length:=by omega
   rw[List.take_length,hl,List.take_length]at ht;rw[aH,h0,if_pos ht]
  |succ k ih=>
   intro i hi ht;have hlt:i<P.length:=by omega
   rw[aH,h1 i hlt];by_cases he:P[i]=Q[i]'(by omega)
   ·rw[(sl_eq _ _).2 he];simp only[bt,Bool.not_true,cond_false,aT (show i<9223372036854775807 by omega)]
    refine ih (i+1) (by omega) ?_
    rw[List.take_add_one,List.take_add_one,List.getElem?_eq_getElem hlt,List.getElem?_eq_getElem (by omega:i<Q.length),ht,he]
   ·have:bL (ae .eql P[i].a (Q[i]'(by omega)).a) (bL (ae .eql P[i].b (Q[i]'(by omega)).b) (bL (ae .eql P[i].c (Q[i]'(by omega)).c) (bL (ae .eql P[i].d (Q[i]'(by omega)).d) (g8 P[i].e (Q[i]'(by omega)).e))))=false:=by
     cases h:bL (ae .eql P[i].a (Q[i]'(by omega)).a) (bL (ae .eql P[i].b (Q[i]'(by omega)).b) (bL (ae .eql P[i].c (Q[i]'(by omega)).c) (bL (ae .eql P[i].d (Q[i]'(by omega)).d) (g8 P[i].e (Q[i]'(by omega)).e))))with
     |false=>rfl
     |true=>exact absurd ((sl_eq _ _).1 h) he
    rw[this];have hne:P≠Q:=fun e=>he (by subst e;rfl)
    simp[bt,hne]
 exact key P.length 0 (by omega) rfl
theorem same_p {z:Int} {Q:List Sl} {b:Bool} {f:D} (hl:Q.length≤1000000):q40 [fD z Q b,f]=some [.bool (decide (z=frz f∧b=frb f∧Q=frq f))]:=by
 have hln:(frq f).length=(aa f 1).toList.length:=by unfold frq;rw[List.length_map]
 have hlf:ai (aa f 1)=((frq f).length:Int):=by rw[aD,hln]
 rw[Ux,F40_eq,fz,fq,fb,bR,hlf];simp only[aU,bo,bt,BV]
 change (bif (bif (bif !decide (z=frz f)then true else !(b==frb f))then true else !decide ((Q.length:Int)=((frq f).length:Int)))then _ else _)=_
 by_cases h1:z=frz f
 ·by_cases h2:b=frb f
  ·by_cases h3:Q.length=(frq f).length
   ·have h3':((Q.length:Int)=((frq f).length:Int)):=by omega
    have hcm:=cmpS (st:=Cx [.int (Q.length:Int),f,fD z Q b]) (P:=Q) (Q:=frq f) h3 hl (fun i hi=>by
     have hif:i<(aa f 1).toList.length:=by omega
     have g0:ah (aa (ay (aa f 1) (i:Int)) 0)=((frq f)[i]'(by omega)).a:=by rw[lF (by omega)];rfl
     have g1:ah (aa (ay (aa f 1) (i:Int)) 1)=((frq f)[i]'(by omega)).b:=by rw[lF (by omega)];rfl
     have g2:ah (aa (ay (aa f 1) (i:Int)) 2)=((frq f)[i]'(by omega)).c:=by rw[lF (by omega)];rfl
     have g3:ah (aa (ay (aa f 1) (i:Int)) 3)=((frq f)[i]'(by omega)).d:=by rw[lF (by omega)];rfl
     have g4:aJ (aa (ay (aa f 1) (i:Int)) 4)=((frq f)[i]'(by omega)).e:=by rw[lF (by omega)];rfl
     rw[zK,fq,al,decide_eq_true (by omega),gr hi,aP hif,gt hi,f0,f1,f2,f3,f4,g0,g1,g2,g3,g4]
     rfl) (by rw[zK,al,decide_eq_false (by omega)];rfl)
    have hcm':Mo [.int (Q.length:Int),f,fD z Q b] [.int 0]=some [.int (if Q=frq f then 0 else 1)]:=by rw[GL];exact hcm
    rw[hcm',decide_eq_true h1,h2,decide_eq_true h3'];by_cases h4:Q=frq f
    ·simp[h1,h4,am,ax,aC,au]
    ·simp[h1,h4,am,ax,aC,au]
   ·have h3':¬((Q.length:Int)=((frq f).length:Int)):=by omega
    have h4:¬Q=frq f:=fun e=>h3 (by rw[e])
    rw[decide_eq_false h3'];simp[h4]
  ·have:(b==frb f)=false:=by simpa using h2
   rw[this];simp[h2]
 ·rw[decide_eq_false h1];simp[h1]
theorem same_r {z z':Int} {Q P:List Sl} {b b':Bool} (hl:Q.length≤1000000):q12 [fD z Q b,fD z' P b']=some [.bool (decide (z=z'∧b=b'∧Q=P))]:=by
 rw[Ut,F12_eq,fz,fz,fq,fq,fb,fb,bR,bR];simp only[aU,bo,bt,BV];by_cases h1:z=z'
 ·by_cases h2:b=b'
  ·by_cases h3:Q.length=P.length
   ·have h3':((Q.length:Int)=(P.length:Int)):=by omega
    have hcm:=cmpS (st:=Ct [fD z' P b',fD z Q b]) (P:=Q) (Q:=P) h3 hl (fun i hi=>by
     rw[zI,fq,fq,al,bR,decide_eq_true (by omega),gr hi,gr (by omega:i<P.length),gt hi,gt (by omega:i<P.length)]
     simp only[f0,f1,f2,f3,f4]
     rfl) (by rw[zI,fq,al,bR,decide_eq_false (by omega)];rfl)
    have hcm':GI [fD z' P b',fD z Q b] [.int 0]=some [.int (if Q=P then 0 else 1)]:=by rw[GJ];exact hcm
    rw[hcm',decide_eq_true h1,h2,decide_eq_true h3'];by_cases h4:Q=P
    ·simp[h1,h4,am,ax,aC,au]
    ·simp[h1,h4,am,ax,aC,au]
   ·have h3':¬((Q.length:Int)=(P.length:Int)):=by omega
    have h4:¬Q=P:=fun e=>h3 (by rw[e])
    rw[decide_eq_false h3'];simp[h4]
  ·have:(b==b')=false:=by simpa using h2
   rw[this];simp[h2]
 ·rw[decide_eq_false h1];simp[h1]
inductive Sm:D->Prop
 |mk (e:D) (hl:(aa e 4).toList.length≤100000000) (hx:∀x∈(aa e 4).toList,Sm x):Sm e
theorem Sm.len {e:D} (h:Sm e):(aa e 4).toList.length≤100000000:=by cases h;assumption
theorem Sm.el {e:D} (h:Sm e):∀x∈(aa e 4).toList,Sm x:=by cases h;assumption
theorem sm_of:∀(N:Nat) (e:D),e.size<N->e.size≤lim->Sm e
 |0,_,h,_=>by omega
 |N+1,e,hN,hs=>⟨e,Pv hs,fun x hx=>sm_of N x (by have:=bX hx;omega) ((cb (j:=4) hs).2 x hx)⟩
theorem V6 (pv:D->Int->Int->Option Int):∀(N:Nat) (e:D) (d:Int),e.size<N->e.size≤lim->Sm (pE pv e d)
 |0,_,_,h,_=>by omega
 |N+1,e,d,hN,hs=>by
  rw[xl];cases pLd pv e d with
  |some v=>
   have h4:aa (HN v) 4 = .list []:=by unfold HN;rw[aZ];rfl
   exact⟨_,by rw[h4];simp[D.toList],fun x hx=>by rw[h4]at hx;cases hx⟩
  |none=>
   obtain⟨_,_,_,h4⟩:=VZ e ((aa e 4).toList.map fun x=>pE pv x d)
   refine⟨_,by rw[h4];show((aa e 4).toList.map _).length≤_;rw[List.length_map];exact Pv hs,fun x hx=> ?_⟩
   rw[h4]at hx;obtain⟨y,hy,rfl⟩:=List.mem_map.1 (show x∈(aa e 4).toList.map fun x=>pE pv x d from hx)
   exact V6 pv N y d (by have:=bX hy;omega) ((cb (j:=4) hs).2 y hy)
theorem xp {st:List D->Option (Sum (List D) (List D))} {l:D} {q:D->Option (List D)} (hl:l.toList.length≤100000000) (hq:∀x∈l.toList,q x=some [.bool true])
 (hst:∀i:Nat,st [.int i]=bif ae .lss i (ai l)then bif aI l i then bif uZZ (q (ay l i))then bif ca (aJ (ar (q (ay l i)) 0))then some (.inr [.int 1])else some (.inl [.int (aQ .add .i64 i 1)])else none else none else some (.inr [.int 0])):
 loW st [.int 0]=some [.int 0]:=by
 have key:∀(k i:Nat),i+k=l.toList.length->loW st [.int i]=some [.int 0]:=by
  intro k
  induction k with
  |zero=>intro i hi;rw[aH,hst,al,aD,decide_eq_false (by omega)];rfl
  |succ k ih=>
   intro i hi;have hlt:i<l.toList.length:=by omega
   have hg:ay l (i:Int)=l.toList[i]:=by rw[bf,getD_lt hlt]
   rw[aH,hst,al,aD,decide_eq_true (by omega),aP hlt,hg,hq _ (List.getElem_mem hlt)]
   simp only[am,ax,List.getD_cons_zero,aO,bt,Bool.not_true,cond_true,cond_false,aT (show i<9223372036854775807 by omega)]
   exact ih (i+1) (by omega)
 exact key l.toList.length 0 (by omega)
theorem sameE:∀(N:Nat) (e:D),Sm e->e.size<N->Ht N [e,e]=some [.bool true]
 |0,_,_,h=>by omega
 |N+1,e,hm,hN=>by
  have h:=xp (st:=si (Ht N) [e,e]) (l:=aa e 4) (q:=fun x=>Ht N [x,x]) hm.len (fun x hx=>sameE N x (hm.el x hx) (by have:=bX hx;omega)) (fun i=>by
   rw[Ku];cases ae .lss (i:Int) (ai (aa e 4))with
   |false=>rfl
   |true=>cases aI (aa e 4) (i:Int)<;>rfl)
  have h':Dk (Ht N) [e,e] [.int 0]=some [.int 0]:=by rw[Ah];exact h
  rw[F121_s,Vr,h'];simp[aU,bo,au,am,ax,aC]
theorem sameEq {e:D} (hm:Sm e):Pp [e,e]=some [.bool true]:=by
 rw[MH];exact sameE _ e hm (e8 (by simp))
def Sms (s:D):Prop:=(aa s 6).toList.length≤100000000∧(aa s 7).toList.length≤100000000∧∀x∈(aa s 6).toList,Sm x
theorem sameSt {s:D} (h:Sms s):q88 [s,s]=some [.bool true]:=by
 have h1:=xp (st:=Dl [s,s]) (l:=aa s 6) (q:=fun x=>Pp [x,x]) h.1 (fun x hx=>sameEq (h.2.2 x hx)) (fun i=>by
  rw[Pq];cases ae .lss (i:Int) (ai (aa s 6))with
  |false=>rfl
  |true=>cases aI (aa s 6) (i:Int)<;>rfl)
 have h2:=xp (st:=Dn [s,s]) (l:=aa s 7) (q:=fun _=>some [.bool true]) h.2.1 (fun _ _=>rfl) (fun i=>by
  rw[Pr,bo,decide_eq_true rfl];cases ae .lss (i:Int) (ai (aa s 7))with
  |false=>rfl
  |true=>cases aI (aa s 7) (i:Int)<;>simp[am,ax,aO,bt])
 have h1':MI [s,s] [.int 0]=some [.int 0]:=by rw[Hu];exact h1
 have h2':MJ [s,s] [.int 0]=some [.int 0]:=by rw[Hv];exact h2
 rw[Vx,F88_eq,h1',h2'];simp[aU,bo,au,am,ax,aC]
def Smb (b:D):Prop:=(aa b 1).toList.length≤100000000∧∀x∈(aa b 1).toList,Sms x
theorem sameBl {b:D} (h:Smb b):q47 [b,b]=some [.bool true]:=by
 have h1:=xp (st:=Dp [b,b]) (l:=aa b 1) (q:=fun x=>q88 [x,x]) h.1 (fun x hx=>sameSt (h.2 x hx)) (fun i=>by
  rw[Ps];cases ae .lss (i:Int) (ai (aa b 1))with
  |false=>rfl
  |true=>cases aI (aa b 1) (i:Int)<;>rfl)
 have h1':Hw [b,b] [.int 0]=some [.int 0]:=by rw[Hx];exact h1
 rw[Vz,F47_eq,h1'];simp[aU,bo,au,am,ax,aC]
def Smg (g:D):Prop:=(aa g 1).toList.length≤100000000∧∀x∈(aa g 1).toList,Smb x
theorem sameGr {g:D} (h:Smg g):q16 [g,g]=some [.bool true]:=by
 have h1:=xp (st:=Dr [g,g]) (l:=aa g 1) (q:=fun x=>q47 [x,x]) h.1 (fun x hx=>sameBl (h.2 x hx)) (fun i=>by
  rw[Pt];cases ae .lss (i:Int) (ai (aa g 1))with
  |false=>rfl
  |true=>cases aI (aa g 1) (i:Int)<;>rfl)
 have h1':Hy [g,g] [.int 0]=some [.int 0]:=by rw[Hz];exact h1
 rw[VB,F16_eq,h1'];simp[aU,bo,au,am,ax,aC]
theorem f8 (a b c d e f:Int) (X Y:D):aa (.agg [.int a, .int b, .int c, .int d, .int e, .int f,X,Y]) 6=X∧aa (.agg [.int a, .int b, .int c, .int d, .int e, .int f,X,Y]) 7=Y:=by
 simp only[aZ,D.fld,List.getD_cons_zero,List.getD_cons_succ,and_self]
theorem V7 (pv:D->Int->Int->Option Int) {s:D} (hs:Sok s) (hz:s.size≤lim) (d:Int):Sms (pS pv s d):=by
 unfold pS;split
 ·rename_i v hv;split at hv
  ·rename_i h2;have hn:=hs.two h2;obtain⟨e6,e7⟩:=f8 1 v 0 0 0 0 (.list [pE pv (ay (aa s 6) 1) d]) (.list []);unfold Sms;rw[e6,e7];have hm:ay (aa s 6) ((1:Nat):Int)∈(aa s 6).toList:=get_mem (i:=1) (by omega)
   refine⟨by simp[D.toList],by simp[D.toList],fun x hx=> ?_⟩
   obtain rfl:x=pE pv (ay (aa s 6) 1) d:=by simpa[D.toList]using hx
   exact V6 pv _ _ d (Nat.lt_succ_self _) (hs.el _ hm).1
  ·cases hv
 ·obtain⟨e6,e7⟩:=f8 (ah (aa s 0)) (ah (aa s 1)) (ah (aa s 2)) (ah (aa s 3)) (ah (aa s 4)) (ah (aa s 5)) (.list ((aa s 6).toList.map fun x=>pE pv x d)) (.list (aa s 7).toList)
  unfold Sms;rw[e6,e7];refine⟨by show((aa s 6).toList.map _).length≤_;rw[List.length_map];exact VX hz,len7 hz,fun x hx=> ?_⟩
  obtain⟨y,hy,rfl⟩:=List.mem_map.1 (show x∈(aa s 6).toList.map fun x=>pE pv x d from hx)
  exact V6 pv _ y d (Nat.lt_succ_self _) (hs.el y hy).1
theorem sms_s {s:D} (hs:Sok s) (hz:s.size≤lim):Sms s:=⟨VX hz,len7 hz,fun x hx=>sm_of _ x (Nat.lt_succ_self _) (hs.el x hx).1⟩
theorem V8 (pv:D->Int->Int->Option Int):∀(l:List D) (d:Int),(∀s∈l,Sok s∧s.size≤lim∧Conf PG 57 s)->(pB pv l d).length≤l.length∧∀x∈pB pv l d,Sms x
 | [],d,_=>by simp[pB]
 |s::l,d,h=>by
  have hs:=h s (by simp)
  unfold pB;cases aft s d with
  |none=>exact⟨by simp,fun x hx=>by simp only[List.mem_singleton]at hx;subst hx;exact V7 pv hs.1 hs.2.1 d⟩
  |some e=>
   obtain⟨h1,h2⟩:=V8 pv l e (fun x hx=>h x (by simp[hx]))
   refine⟨by simp only[List.length_cons];omega,fun x hx=> ?_⟩
   rcases List.mem_cons.1 hx with rfl|hx
   ·exact V7 pv hs.1 hs.2.1 d
   ·exact h2 x hx
theorem V9 (pv:D->Int->Int->Option Int) {g:D} {R:List Bool} {o:List Int} {n:Nat} (G:Rc2 g R o n):Smg (gO pv g R o n):=by
 have h1:aa (gO pv g R o n) 1 = .list ((List.range' 0 n).map (bO pv g R o)):=by unfold gO;rw[aZ];rfl
 have h256:=G.n256;unfold Smg;rw[h1];refine⟨by show((List.range' 0 n).map _).length≤_;rw[List.length_map,List.length_range'];omega,fun x hx=> ?_⟩
 obtain⟨b,hb,rfl⟩:=List.mem_map.1 (show x∈(List.range' 0 n).map (bO pv g R o)from hx)
 have hbn:b<n:=by simpa using hb
 obtain⟨z1,z2⟩:=G.bz b hbn;have h2:aa (bO pv g R o b) 1 = .list (if gB R b=true then pB pv (bS g b) (gI o b)else bS g b):=by unfold bO;rw[aZ];rfl
 unfold Smb;rw[h2];split
 ·obtain⟨p1,p2⟩:=V8 pv (bS g b) (gI o b) z2;exact⟨by show(pB pv (bS g b) (gI o b)).length≤_;omega,p2⟩
 ·exact⟨z1,fun x hx=>sms_s (z2 x hx).1 (z2 x hx).2.1⟩
theorem rc2 {g:D} {R:List Bool} {o:List Int} {n:Nat} (hc:Conf PG 25 g) (hg:g.size≤lim) (G:Rec g R o n):Rc2 g R o n:=⟨G,fun b hb=>by
 have hbm:blk g b∈(aa g 1).toList:=get_mem (by rw[G.len];exact hb)
 have hcb:=(M4 hc).2 _ hbm;have hzb:=(cX hg).2 _ hbm;have h1:=jF (aa (blk g b) 1);have h2:=eH (blk g b) 1;have h3:=hzb;unfold lim at h3
 exact⟨by unfold bS;omega,fun s hs=>⟨(G.bl b hb).2 s hs,(cb (j:=1) hzb).2 s hs,(M3 hcb).2 s hs⟩⟩⟩
theorem M8 {pv:D->Int->Int->Option Int} (hp:∀e wd d,pv e wd d=none):∀(l:List D) (d e:Int),(∀s∈l,Conf PG 57 s)->acr l d=some e->pB pv l d=l
 | [],_,_,_,_=>rfl
 |s::l,d,e,h,ha=>by
  simp only[acr]at ha;unfold pB;cases hd:aft s d with
  |none=>rw[hd]at ha;cases ha
  |some d'=>
   rw[hd]at ha;simp only;rw[M5 hp (h s (by simp)) d,M8 hp l d' e (fun x hx=>h x (by simp[hx])) ha]
theorem M9 {pv:D->Int->Int->Option Int} (hp:∀e wd d,pv e wd d=none) {g:D} {R:List Bool} {o:List Int} {n:Nat} (hc:Conf PG 25 g) (G:Rc2 g R o n):gO pv g R o n=g:=by
 obtain⟨h1,h2⟩:=M4 hc
 have hb:∀b,b<n->bO pv g R o b=(aa g 1).toList.getD b .other:=fun b hb=>by
  have hbl:b<(aa g 1).toList.length:=by rw[G.len];exact hb
  have hbk:blk g b=(aa g 1).toList.getD b .other:=by unfold blk;rw[bf]
  have hbm:blk g b∈(aa g 1).toList:=get_mem hbl;obtain⟨f1,f2⟩:=M3 (h2 _ hbm);have:(if gB R b=true then pB pv (bS g b) (gI o b)else bS g b)=bS g b:=by
   split
   ·rename_i hr;obtain⟨_,e,he⟩:=G.ac b hr;exact M8 hp _ _ e f2 he
   ·rfl
  unfold bO;rw[this, <- hbk];exact f1.symm
 unfold gO;have hl:(List.range' 0 n).map (bO pv g R o)=(aa g 1).toList:=by
  refine List.ext_getElem? fun i=> ?_
  rw[List.getElem?_map]
  by_cases hi:i<n
  ·have hi':i<(aa g 1).toList.length:=by rw[G.len];exact hi
   rw[List.getElem?_range' hi,List.getElem?_eq_getElem hi']
   simp only[Option.map_some,Nat.zero_add,Nat.one_mul];rw[hb i hi,getD_lt hi']
  ·rw[List.getElem?_eq_none (by rw[List.length_range'];omega),List.getElem?_eq_none (by rw[G.len];omega)];rfl
 rw[hl];exact h1.symm
theorem Wa (g:D):12≤dp g∧dp g≤65536:=DD _ (by omega) (by omega)
def e0:D:= .agg [.int 0, .list []]
theorem KP:Smg e0:=by
 have h:aa e0 1 = .list []:=by unfold e0;rw[aZ];rfl
 unfold Smg;rw[h];exact⟨by simp[D.toList],fun x hx=>by cases hx⟩
theorem promote {g f:D} (hc:Conf PG 25 g) (hg:g.size≤lim) (hfew:sBs (aa g 1).toList≤450000):∃a n e,q14 [g,f]=some [a, .int n, .int e]∧q15 [g,fD (frz f) (frq f) (frb f)]=some [a, .int n, .int e]∧Smg a:=by
 obtain⟨z,Q,b,e,hl,h1,h2,hd,hrest⟩:=recov hg hfew;rw[U5,F14_eq,Vp,F15_eq,h1,h2];simp only[am,ax,List.getD_cons_zero,List.getD_cons_succ,aC,bo,cond_true];by_cases he:e=0
 ·obtain⟨o,R,n,d1,d2,r1,r2,G0⟩:=hrest he;have G:=rc2 hc hg G0;rw[he,same_p hl,same_r hl];simp only[am,ax,List.getD_cons_zero,aO,bt,decide_true,Bool.not_true,cond_true,cond_false];by_cases hs:z=frz f∧b=frb f∧Q=frq f
  ·obtain⟨rfl,rfl,rfl⟩:=hs;rw[decide_eq_true ⟨rfl,rfl,rfl⟩,d1,calls_p hg,calls_r hg];simp only[Bool.not_true,cond_false,am,ax,List.getD_cons_zero,List.getD_cons_succ,aO,cond_true];cases hcl:Ao g with
   |true=>
    have hgp:=M7 (L:=[]) (fun o v h=>by simp[lkV]at h) G r1
    have hno:∀e wd d,pvP [] e wd d=none:=fun e wd d=>by unfold pvP;split<;>rfl
    rw[M9 hno hc G]at hgp;have hgp':q42 [.list [],g,dI o]=some [g]:=hgp;simp only[cond_true,hgp',am,ax,List.getD_cons_zero];refine⟨g,0,0,rfl,rfl,?_⟩
    have:=V9 (pvP []) G
    rwa [M9 hno hc G]at this
   |false=>
    obtain⟨k1,k2⟩:=Wa g;have hlv:=KN (frq f) (dp g);have hL:∀o v,lkV (lv (frq f) (dp g)) o=some v->12≤v:=fun o v h=>by have:=V4 h;omega
    have hvp:=vars_p (a0:=dI o) (a4:=g) hd hl (f:=dp g) (by omega) k2
    have hcv:=cnt_v (z:=frz f) (b:=frb f) (g:=g) hl (dp g);have hgp:=M7 hL G r1;have hgr:=graph_r (z:=frz f) (f:=dp g) (bb:=frb f) (Q:=frq f) (by omega) (by omega) (pn0:=((lv (frq f) (dp g)).length:Int)) (pn4:=0) G
    rw[pv_same]at hgr;have hadd:aQ .add .i64 (dp g) ((lv (frq f) (dp g)).length:Int)=dp g+((lv (frq f) (dp g)).length:Int):=yF (by omega) (by omega)
    rw[fresh_p hg,fresh_r hg];simp only[fq,fz,fb,hvp,hcv,cond_false,cond_true,am,ax,List.getD_cons_zero,List.getD_cons_succ,aC,len_V,aU,bP,hadd];cases hlim:(bif decide (0<((lv (frq f) (dp g)).length:Int))then decide (65536<dp g+((lv (frq f) (dp g)).length:Int))else false)with
    |true=>exact⟨e0,0,6,rfl,rfl,KP⟩
    |false=>
     have z0:ae .eql 0 (ai (D.list []))=true:=by rw[au,bQ];rfl
     simp only[cond_false,hgp,d2,r2,hgr,am,ax,List.getD_cons_zero,List.getD_cons_succ,z0,aj,cond_true];exact⟨_,_,_,rfl,rfl,V9 _ G⟩
  ·rw[decide_eq_false hs];exact⟨e0,0,2,rfl,rfl,KP⟩
 ·rw[decide_eq_false he];exact⟨e0,0,e,rfl,rfl,KP⟩
theorem law4 {g f:D} (h9:q9 []=some [.bool true]) (hc:Conf PG 25 g):q4 [g,f]=some [.bool true]:=by
 rw[q4_eq,F4_eq,h9];rcases large hc with h|⟨h,hg⟩
 ·rw[h];simp[am,ax,aO,aU]
 ·rw[h];simp only[am,ax,List.getD_cons_zero,aO,aU,bP,aD,cond_true,cond_false];by_cases h5:(500:Int)<((aa f 1).toList.length:Int)
  ·rw[decide_eq_true h5];rfl
  ·rw[decide_eq_false h5,Px (f:=f) (by omega)]
   obtain⟨a,n,e,h1,h2,h3⟩:=promote (f:=f) hc hg (few hc h);simp only[cond_false,h1,am,ax,List.getD_cons_zero,List.getD_cons_succ,h2,sameGr h3,aC,aO,aj,cond_true]
end
end Go.Proofs.YtfdedgmlafelaaaGreatDoor
namespace Go.Proofs.YtfdedgmlafelaaaGreatDoor
open Go Go.AM
theorem sound4:aY env.P 4 S4 q4:=by rw[q4_eq];exact dG iP ok_tb9p 60 12
theorem top4 {d0 d1:D} (c0:Conf PG 25 d0) (w:World) {v0 v1:Value} (r0:Rep bj (fun b=>b<w.heap.size) w (.dat 25 d0) v0) (r1:Rep bj (fun b=>b<w.heap.size) w (.dat 30 d1) v1):
 Calls Tryz.prog 4 #[v0,v1] w fun e w'=>e = .returned (.bool true)∧RowKit.Below w.heap.size w w':=by
 refine(sound4 [] [d0,d1] [.bool true] rfl (law4 q9_eq c0) (fun b=>b<w.heap.size) w bj _ w #[v0,v1] (Inv.empty w _ (fun _ h=>h) rfl rfl (fun g cs h=>tabs g cs h))
  (RepL.cons r0 (RepL.cons r1 RepL.nil))).mono ?_
 rintro e w' ⟨u,ρ',E',rfl,inv,reach,rep⟩;have hr:AZ S4 [] (bdL [.bool true]) = .ub true:=rfl;rw[hr]at rep;simp only[Rep]at rep;subst rep;exact⟨rfl,⟨inv.io.1,inv.io.2.1,inv.io.2.2,reach.size,inv.old⟩⟩
end Go.Proofs.YtfdedgmlafelaaaGreatDoor
