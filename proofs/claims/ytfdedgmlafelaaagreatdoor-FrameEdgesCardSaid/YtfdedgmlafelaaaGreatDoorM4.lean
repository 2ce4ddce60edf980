/-
  Plain laws: what is not known, unveiled; loops over numbers.
-/
import Derived.Test.YtfdedgmlafelaaaGreatDoorAmS
import Derived.Test.YtfdedgmlafelaaaGreatDoorM1
import Derived.Test.YtfdedgmlafelaaaGreatDoorM2
import Derived.Test.YtfdedgmlafelaaaGreatDoorM3
import Derived.Test.YtfdedgmlafelaaaGreatDoorM5
import Derived.Test.YtfdedgmlafelaaaGreatDoorRows
import Derived.Test.YtfdedgmlafelaaaGreatDoorC1
import Derived.Deep.DeepHandedRow
import Derived.Lib.LaidTab
import Derived.MakeChecks
import Derived.LaidSub
import Derived.FnData
set_option linter.unusedVariables false
set_option linter.unusedSimpArgs false
namespace Go.AM
theorem qsome_s (r:List D):qsome (some r)=true:=by rw[qsome_eq];rfl
theorem qsome_n:qsome none=false:=by rw[qsome_eq];rfl
theorem qnth_s (r:List D) (j:Nat):qnth (some r) j=r.getD j .other:=by rw[qnth_eq];rfl
theorem qint_i (n:Int):qint (.int n)=n:=by rw[qint_eq];rfl
theorem qbool_b (b:Bool):qbool (.bool b)=b:=by rw[qbool_eq];rfl
theorem qcmp_lss (a b:Int):qcmp .lss a b=decide (a<b):=by rw[qcmp_eq];rfl
theorem qcmp_leq (a b:Int):qcmp .leq a b=decide (a≤b):=by rw[qcmp_eq];rfl
theorem qcmp_gtr (a b:Int):qcmp .gtr a b=decide (b<a):=by rw[qcmp_eq];rfl
theorem qcmp_geq (a b:Int):qcmp .geq a b=decide (b≤a):=by rw[qcmp_eq];rfl
theorem qcmp_eql (a b:Int):qcmp .eql a b=decide (a=b):=by rw[qcmp_eq];simp only[rcmp];cases h:decide (a=b)<;>simp_all
theorem qcmp_neq (a b:Int):qcmp .neq a b = !decide (a=b):=by rw[qcmp_eq];simp only[rcmp,bne];cases h:decide (a=b)<;>simp_all
theorem qiteB_c (c a b:Bool):qiteB c a b=bif c then a else b:=by rw[qiteB_eq]
theorem qnot_c (a:Bool):qnot a = !a:=by rw[qnot_eq]
theorem qlen_c (d:D):qlen d=(d.toList.length:Int):=by rw[qlen_eq];rfl
theorem qinb_c (d:D) (i:Int):qinb d i=(decide (0≤i)&&decide (i<d.toList.length)):=by rw[qinb_eq];rfl
theorem qget_n (d:D) (i:Nat):qget d (i:Int)=d.toList.getD i .other:=by rw[qget_eq];simp[D.get]
theorem qinb_n {d:D} {i:Nat} (h:i<d.toList.length):qinb d (i:Int)=true:=by rw[qinb_c];simp;omega
def srch {R:Type} (f:Nat→Option R) (r0:R):Nat→Nat→R
 |_,0=>r0
 |i,k+1=>match f i with
  |none=>srch f r0 (i+1) k
  |some r=>r
theorem getD_lt {xs:List D} {i:Nat} (h:i<xs.length):xs.getD i .other=xs[i]:=by simp[List.getD,h]
theorem add_nat {i:Nat} (h:i<9223372036854775807):qbin .add .i64 (i:Int) 1=((i+1:Nat):Int):=by
 rw[add64 (by omega) (by omega)];omega
theorem idxLoop {st:List D→Option (Sum (List D) (List D))} {l:D} {c:D→Option (List D)} {p:D→Bool} {r1:Int→List D} {r0:List D}
 (hst:∀i:Int,st [.int i]=bif qcmp .lss i (qlen l)then bif qinb l i then bif qsome (c (qget l i))then bif qbool (qnth (c (qget l i)) 0)then some (.inr (r1 i))else some (.inl [.int (qbin .add .i64 i 1)])else none else none else some (.inr r0))
 (hl:l.toList.length≤maxLen) (hc:∀x∈l.toList,c x=some [.bool (p x)]):
 (loW st [.int 0]=some r0∧l.toList.any p=false)∨∃i:Nat,loW st [.int 0]=some (r1 i)∧l.toList.any p=true:=by
 unfold maxLen at hl
 have key:∀k i:Nat,i+k=l.toList.length→(loW st [.int i]=some r0∧(l.toList.drop i).any p=false)∨∃j:Nat,loW st [.int i]=some (r1 j)∧(l.toList.drop i).any p=true:=by
  intro k
  induction k with
  |zero=>
   intro i hi
   left
   rw[loW_eq,hst,qcmp_lss,qlen_c,List.drop_of_length_le (by omega)]
   simp[show¬((i:Int)<l.toList.length)by omega]
  |succ k ih=>
   intro i hi
   have hlt:i<l.toList.length:=by omega
   rw[loW_eq,hst,qcmp_lss,qlen_c,qinb_n hlt,qget_n,getD_lt hlt,hc _ (List.getElem_mem hlt),List.drop_eq_getElem_cons hlt]
   simp only[show((i:Int)<l.toList.length)by omega,decide_true,cond_true,qsome_s,qnth_s,List.getD_cons_zero,qbool_b,List.any_cons]
   cases hp:p l.toList[i]with
   |true=>exact .inr ⟨i,rfl,by simp⟩
   |false=>
    simp only[cond_false,Bool.false_or]
    rw[add_nat (by omega)]
    exact ih (i+1) (by omega)
 have:=key l.toList.length 0 (by omega)
 simpa using this
theorem size_elem {d:D} {j:Nat} {x:D} (h:x∈(d.fld j).toList):x.size<d.size:=by
 cases d with
 |agg xs=>
  simp only[D.fld,List.getD]at h
  cases hx:xs[j]? with
  |none=>rw[hx]at h;simp[D.toList]at h
  |some y=>
   rw[hx]at h
   simp only[Option.getD_some]at h
   have h1:=sizes_get hx
   cases y with
   |list ys=>
    simp only[D.toList]at h
    obtain⟨i,hi⟩:=List.getElem?_of_mem h
    have h2:=sizes_get hi
    simp only[D.size]at h1 ⊢
    omega
   |_=>simp[D.toList]at h
 |_=>simp[D.fld,D.toList]at h
end Go.AM
namespace Go.Proofs.YtfdedgmlafelaaaGreatDoor
open Go Go.AM
theorem qlen_l (xs:List D):qlen (.list xs)=(xs.length:Int):=by rw[qlen_c];rfl
theorem qmem_ok {n z:Nat} (hn:n≤100000) (hz:z≤100):qmem (n:Int) z=true:=by
 rw[qmem_eq]
 unfold rmem
 have h:(n:Int)*z≤100000*100:=by
  have h1:n*z≤100000*100:=Nat.mul_le_mul hn hz
  have h2:((n*z:Nat):Int)=(n:Int)*(z:Int):=by simp
  omega
 simp
 omega
theorem sizes_len:∀xs:List D,xs.length≤D.sizes xs
 | []=>by simp[D.sizes]
 |x::xs=>by
  have:=sizes_len xs
  have:=D.size_pos x
  simp only[D.sizes,List.length_cons];omega
theorem len_size (d:D):d.toList.length≤d.size:=by
 cases d<;>simp only[D.toList,D.size,List.length_nil]<;>first|omega|skip
 all_goals (rename_i xs;have:=sizes_len xs;omega)
theorem fld_size (d:D) (j:Nat):(d.fld j).size≤d.size:=by
 cases d with
 |agg xs=>
  simp only[D.fld,List.getD]
  cases hx:xs[j]? with
  |none=>simp[D.size]
  |some x=>have:=sizes_get hx;simp only[Option.getD_some,D.size];omega
 |_=>simp[D.fld,D.size]
theorem elem_size {d x:D} (h:x∈d.toList):x.size≤d.size:=by
 cases d<;>simp only[D.toList]at h<;>first|(cases h;done)|skip
 all_goals (obtain⟨i,hi⟩:=List.getElem?_of_mem h;have:=sizes_get hi;simp only[D.size];omega)
theorem fuel_two (l:List D):2≤fuelL l:=by
 induction l with
 |nil=>simp[fuelL]
 |cons x l ih=>simp only[fuelL];omega
theorem wt_ge (d:D):d.size≤d.wt∨∃m,d = .int m:=by
 cases d<;>simp[D.wt]
theorem fuel_in {d:D} {l:List D} (h:d∈l):d.size<fuelL l:=by
 induction l with
 |nil=>cases h
 |cons x l ih=>
  simp only[fuelL]
  rcases List.mem_cons.1 h with rfl|h
  ·have:=fuel_two l
   rcases wt_ge d with h|⟨m,rfl⟩
   ·omega
   ·simp[D.size];omega
  ·have:=ih h;omega
end Go.Proofs.YtfdedgmlafelaaaGreatDoor
namespace Go.Proofs.YtfdedgmlafelaaaGreatDoor
open Go Go.AM
def lim:Nat:=100000000
theorem sz_elems {j:Nat} {d:D} (h:d.size≤lim):(d.fld j).toList.length≤maxLen∧∀x∈(d.fld j).toList,x.size≤lim:=by
 have h1:=fld_size d j
 have h2:=len_size (d.fld j)
 refine⟨by unfold maxLen;unfold lim at h;omega,fun x hx=> ?_⟩
 have:=elem_size hx
 omega
theorem contains167 {Q:List D→Option (List D)} {l:D} {n:Int} {p:D→Bool} (hl:l.toList.length≤maxLen) (hc:∀x∈l.toList,q129 Q [x, .int n]=some [.bool (p x)]):q128_129 Q [l, .int n]=some [.bool (l.toList.any p)]:=by
 rw[q128_129_eq,F128_129_eq,q149_129_eq,F149_129_eq,l149_129_2_eq]
 rcases idxLoop (st:=st149_129_2 Q [l, .int n, .int (qlen l)]) (c:=fun x=>q129 Q [x, .int n]) (r1:=fun i=>[.int 1, .int i]) (r0:=[.int 0]) (fun i=>st149_129_2_eq Q l n (qlen l) i) hl hc with⟨h1,h2⟩|⟨i,h1,h2⟩
 ·simp[h1,h2,qsome_s,qnth_s,qint_i,qcmp_eql,qcmp_geq]
 ·simp[h1,h2,qsome_s,qnth_s,qint_i,qcmp_eql,qcmp_geq]
def deepS:Nat→D→Int→Bool
 |0,_,_=>false
 |N+1,d,n=>decide (n<1)||(d.fld 4).toList.any fun x=>deepS N x (n-1)
theorem deep_spec:∀(N:Nat) (d:D) (n:Int),d.size≤lim→d.size<N→ -9223372036854775808≤n→n≤9223372036854775807→F144 N [d, .int n]=some [.bool (deepS N d n)]∧F98 N [d, .int n]=some [.bool (!deepS N d n)]:=by
 intro N
 induction N with
 |zero=>intro d n _ h;omega
 |succ N ih=>
  intro d n hd hs h0 h1
  obtain⟨hl,hx⟩:=sz_elems hd
  rw[F144_s,F98_s,Fb144_eq,Fb98_eq]
  by_cases hn:n<1
  ·simp[qcmp_lss,qcmp_geq,hn,qiteB_c,deepS,show¬1≤n by omega]
  ·have hsub:qbin .sub .i64 n 1=n-1:=sub64 (by omega) (by omega)
   have hel:∀x∈(d.fld 4).toList,F144 N [x, .int (n-1)]=some [.bool (deepS N x (n-1))]∧F98 N [x, .int (n-1)]=some [.bool (!deepS N x (n-1))]:=
    fun x hm=>ih x (n-1) (hx x hm) (by have:=size_elem hm;omega) (by omega) (by omega)
   have h82:∀x∈(d.fld 4).toList,q129 (F98 N) [x, .int n]=some [.bool (deepS N x (n-1))]:=fun x hm=>by
    rw[q129_eq,F129_eq,hsub,(hel x hm).2]
    simp[qsome_s,qnth_s,qbool_b,qnot_c]
   have hcon:=contains167 (n:=n) hl h82
   rw[l144_4_eq,qfld_eq,hcon]
   have hloop:=idxLoop (st:=st144_4 (F144 N) [.int n,d]) (l:=d.fld 4) (c:=fun x=>F144 N [x, .int (n-1)]) (p:=fun x=>deepS N x (n-1)) (r1:=fun _=>[.int 1]) (r0:=[.int 0])
    (fun i=>by rw[st144_4_eq,hsub,qfld_eq]) hl (fun x hm=>(hel x hm).1)
   rcases hloop with⟨h3,h4⟩|⟨i,h3,h4⟩
   ·simp[h3,h4,qcmp_lss,qcmp_geq,hn,show 1≤n by omega,qsome_s,qnth_s,qint_i,qbool_b,qnot_c,qcmp_eql,qiteB_c,deepS]
   ·simp[h3,h4,qcmp_lss,qcmp_geq,hn,show 1≤n by omega,qsome_s,qnth_s,qint_i,qbool_b,qnot_c,qcmp_eql,qiteB_c,deepS]
theorem contains168 {Q:List D→Option (List D)} {l:D} {p:D→Bool} (hl:l.toList.length≤maxLen) (hc:∀x∈l.toList,q130 Q [x]=some [.bool (p x)]):q128_130 Q [l]=some [.bool (l.toList.any p)]:=by
 rw[q128_130_eq,F128_130_eq,q149_130_eq,F149_130_eq,l149_130_2_eq]
 rcases idxLoop (st:=st149_130_2 Q [l, .int (qlen l)]) (c:=fun x=>q130 Q [x]) (r1:=fun i=>[.int 1, .int i]) (r0:=[.int 0]) (fun i=>st149_130_2_eq Q l (qlen l) i) hl hc with⟨h1,h2⟩|⟨i,h1,h2⟩
 ·simp[h1,h2,qsome_s,qnth_s,qint_i,qcmp_eql,qcmp_geq]
 ·simp[h1,h2,qsome_s,qnth_s,qint_i,qcmp_eql,qcmp_geq]
theorem var_spec (v:Int):q123 [.int v]=some [.bool (decide (0≤v)&&decide (v<65536))]:=by
 rw[q123_eq,F123_eq];simp only[qiteB_c,qcmp_geq,qcmp_lss];cases h:decide (0≤v)<;>simp
theorem isVar_spec (v:Int):q113 [.int v]=some [.bool (decide (0≤v)&&decide (v<65536))]:=by
 rw[q113_eq,F113_eq];simp only[qiteB_c,qcmp_geq,qcmp_lss];cases h:decide (0≤v)<;>simp
theorem access_spec (v:Int):q124 [.int v]=some [.bool (decide (v=1)||decide (v=2)||decide (v=4))]:=by
 rw[q124_eq,F124_eq];simp only[qiteB_c,qcmp_eql];cases h:decide (v=1)<;>cases h2:decide (v=2)<;>simp
theorem formed_eq:∀(N:Nat) (d:D),d.size≤lim→d.size<N→∃b,F99 N [d]=some [.bool b]∧F145 N [d]=some [.bool b]:=by
 intro N
 induction N with
 |zero=>intro d _ h;omega
 |succ N ih=>
  intro d hd hs
  obtain⟨hl,hx⟩:=sz_elems hd
  have hel:∀x∈(d.fld 4).toList,∃b,F99 N [x]=some [.bool b]∧F145 N [x]=some [.bool b]:=fun x hm=>ih x (hx x hm) (by have:=size_elem hm;omega)
  let p:D→Bool:=fun x=>match F99 N [x]with|some [.bool b]=> !b|_=>false
  have h85:∀x∈(d.fld 4).toList,q130 (F99 N) [x]=some [.bool (p x)]:=fun x hm=>by
   obtain⟨b,h1,h2⟩:=hel x hm
   rw[q130_eq,F130_eq]
   simp[p,h1,qsome_s,qnth_s,qbool_b,qnot_c]
  have hcon:=contains168 hl h85
  rw[F99_s,F145_s,Fb99_eq,Fb145_eq]
  rw[l145_2_eq,qfld_eq,hcon]
  have hloop:=idxLoop (st:=st145_2 (F145 N) [d]) (l:=d.fld 4) (c:=fun x=>(F145 N [x]).map fun r=>[.bool (qnot (qbool (r.getD 0 .other)))]) (p:=p) (r1:=fun _=>[.int 1]) (r0:=[.int 0])
   (fun i=>by
    rw[st145_2_eq,qfld_eq]
    cases hq:F145 N [qget (d.fld 4) i]with
    |none=>simp[qsome_n]
    |some r=>simp[qsome_s,qnth_s,qbool_b]) hl (fun x hm=>by
    obtain⟨b,h1,h2⟩:=hel x hm
    simp[h1,h2,p,qbool_b,qnot_c])
  generalize (d.fld 4).toList.any p=an at *
  simp only[var_spec,isVar_spec,access_spec,qsome_s,qnth_s,List.getD_cons_zero,qbool_b,qnot_c,qcmp_eql,qcmp_geq,qcmp_leq,qiteB_c,decide_true,cond_true]
  generalize qint (d.fld 0)=o
  generalize qint (d.fld 1)=n
  generalize qint (d.fld 2)=v
  generalize qint (d.fld 3)=w
  generalize qlen (d.fld 4)=z
  rcases hloop with⟨h3,rfl⟩|⟨i,h3,rfl⟩
  ·simp only[h3,qsome_s,qnth_s,List.getD_cons_zero,qint_i,decide_true,cond_true,Bool.cond_self]
   by_cases e1:o=1
   ·subst e1;simp<;>grind
   by_cases e2:o=2
   ·subst e2;simp<;>grind
   by_cases e16:o=16
   ·subst e16;simp<;>grind
   by_cases e17:o=17
   ·subst e17;simp<;>grind
   by_cases e18:o=18
   ·subst e18;simp<;>grind
   by_cases e19:o=19
   ·subst e19;simp<;>grind
   simp[e1,e2,e16,e17,e18,e19]<;>grind
  ·simp only[h3,qsome_s,qnth_s,List.getD_cons_zero,qint_i,decide_true,cond_true,Bool.cond_self]
   by_cases e1:o=1
   ·subst e1;simp
   by_cases e2:o=2
   ·subst e2;simp<;>grind
   by_cases e16:o=16
   ·subst e16;simp
   by_cases e17:o=17
   ·subst e17;simp
   by_cases e18:o=18
   ·subst e18;simp<;>grind
   by_cases e19:o=19
   ·subst e19;simp<;>grind
   simp[e1,e2,e16,e17,e18,e19]<;>grind
end Go.Proofs.YtfdedgmlafelaaaGreatDoor
namespace Go.Proofs.YtfdedgmlafelaaaGreatDoor
open Go Go.AM
def firstErr (e:D→Int):List D→Int
 | []=>0
 |x::xs=>if e x=0 then firstErr e xs else e x
def errOut (n:Int):List D:=if n=0 then[.int 0]else[.int 1, .int n]
theorem errLoop {st:List D→Option (Sum (List D) (List D))} {l:D} {c:D→Option (List D)} {e:D→Int}
 (hst:∀i:Int,st [.int i]=bif qcmp .lss i (qlen l)then bif qinb l i then bif qsome (c (qget l i))then bif qcmp .neq (qint (qnth (c (qget l i)) 0)) 0 then some (.inr [.int 1, .int (qint (qnth (c (qget l i)) 0))])else some (.inl [.int (qbin .add .i64 i 1)])else none else none else some (.inr [.int 0]))
 (hl:l.toList.length≤maxLen) (hc:∀x∈l.toList,c x=some [.int (e x)]):loW st [.int 0]=some (errOut (firstErr e l.toList)):=by
 unfold maxLen at hl
 have key:∀k i:Nat,i+k=l.toList.length→loW st [.int i]=some (errOut (firstErr e (l.toList.drop i))):=by
  intro k
  induction k with
  |zero=>
   intro i hi
   rw[loW_eq,hst,qcmp_lss,qlen_c,List.drop_of_length_le (by omega)]
   simp[show¬((i:Int)<l.toList.length)by omega,firstErr,errOut]
  |succ k ih=>
   intro i hi
   have hlt:i<l.toList.length:=by omega
   rw[loW_eq,hst,qcmp_lss,qlen_c,qinb_n hlt,qget_n,getD_lt hlt,hc _ (List.getElem_mem hlt),List.drop_eq_getElem_cons hlt]
   simp only[show((i:Int)<l.toList.length)by omega,decide_true,cond_true,qsome_s,qnth_s,List.getD_cons_zero,qint_i,qcmp_neq,firstErr]
   by_cases he:e l.toList[i]=0
   ·simp only[he,decide_true,Bool.not_true,cond_false,if_true]
    rw[add_nat (by omega)]
    exact ih (i+1) (by omega)
   ·simp only[he,decide_false,Bool.not_false,cond_true,if_false]
    rw[errOut,if_neg he]
 have:=key l.toList.length 0 (by omega)
 simpa using this
theorem errOut_0 {n:Int}:qcmp .eql (qint (qnth (some (errOut n)) 0)) 0=decide (n=0):=by
 unfold errOut
 split<;>simp[qnth_s,qint_i,qcmp_eql, *]
theorem errOut_1 {n:Int} (h:n≠0):qint (qnth (some (errOut n)) 1)=n:=by
 unfold errOut
 rw[if_neg h];simp[qnth_s,qint_i]
theorem qsome_bif (c:Bool) (x y:Option (List D)):qsome (bif c then x else y)=bif c then qsome x else qsome y:=by cases c<;>rfl
theorem qnth_bif (c:Bool) (x y:Option (List D)) (j:Nat):qnth (bif c then x else y) j=bif c then qnth x j else qnth y j:=by cases c<;>rfl
theorem qint_bif (c:Bool) (x y:D):qint (bif c then x else y)=bif c then qint x else qint y:=by cases c<;>rfl
theorem qbool_bif (c:Bool) (x y:D):qbool (bif c then x else y)=bif c then qbool x else qbool y:=by cases c<;>rfl
theorem int_bif (c:Bool) (x y:Int):(bif c then some [D.int x]else some [D.int y])=some [D.int (bif c then x else y)]:=by cases c<;>rfl
noncomputable def eExpr (d:D):Int:=qint (qnth (F59 [d]) 0)
theorem fuel2 (d:D) (n:Int):d.size<fuelL [d, .int n]∧d.size<fuelL [d]:=by
 simp only[fuelL]
 have:d.size≤d.wt∨∃m,d = .int m:=by
  cases d<;>simp[D.wt]
 rcases this with h|⟨m,rfl⟩
 ·omega
 ·simp[D.size];omega
theorem expr_eq {d:D} (hd:d.size≤lim):F59 [d]=some [.int (eExpr d)]∧F111 [d]=some [.int (eExpr d)]:=by
 obtain⟨h1,h2⟩:=fuel2 d 64
 obtain⟨a,b⟩:=deep_spec (fuelL [d, .int 64]) d 64 hd h1 (by omega) (by omega)
 obtain⟨c,f1,f2⟩:=formed_eq (fuelL [d]) d hd h2
 have key:∃e,F59 [d]=some [.int e]∧F111 [d]=some [.int e]:=by
  rw[F59_eq,F111_eq,q98_eq,q144_eq,q99_eq,q145_eq]
  simp only[a,b,f1,f2,qsome_s,qnth_s,List.getD_cons_zero,qbool_b,qnot_c,cond_true]
  cases deepS (fuelL [d, .int 64]) d 64<;>cases c<;>simp
 obtain⟨e,h1,h2⟩:=key
 have:eExpr d=e:=by unfold eExpr;rw[h1];simp[qnth_s,qint_i]
 rw[this];exact⟨h1,h2⟩
noncomputable def eStmt (d:D):Int:=qint (qnth (F50 [d]) 0)
theorem exprsOf (d:D) (hd:d.size≤lim):(d.fld 6).toList.length≤maxLen∧∀x∈(d.fld 6).toList,x.size≤lim:=sz_elems hd
theorem stmt_eq {d:D} (hd:d.size≤lim):F50 [d]=some [.int (eStmt d)]∧F72 [d]=some [.int (eStmt d)]:=by
 obtain⟨hl,hx⟩:=exprsOf d hd
 have key:∃e,F50 [d]=some [.int e]∧F72 [d]=some [.int e]:=by
  have h1:=errLoop (st:=st50_5 [qfld d 6, .int (qlen (qfld d 6)),d]) (l:=d.fld 6) (c:=fun x=>q59 [x]) (e:=eExpr) (fun i=>by rw[st50_5_eq,qfld_eq]) hl (fun x hm=>by rw[q59_eq];exact(expr_eq (hx x hm)).1)
  have h2:=errLoop (st:=st72_4 [d]) (l:=d.fld 6) (c:=fun x=>q111 [x]) (e:=eExpr) (fun i=>by rw[st72_4_eq,qfld_eq]) hl (fun x hm=>by rw[q111_eq];exact(expr_eq (hx x hm)).2)
  rw[F50_eq,F72_eq,l50_5_eq,l72_4_eq]
  simp only[h1,h2]
  generalize firstErr eExpr (d.fld 6).toList=fe
  simp only[q93_eq,q110_eq,q94_eq,q112_eq,q113_eq,F93_eq,F110_eq,F94_eq,F112_eq,var_spec,isVar_spec,access_spec,F113_eq,errOut_0,qsome_bif,qnth_bif,qint_bif,qbool_bif,qsome_s,qnth_s,List.getD_cons_zero,qint_i,qbool_b,qnot_c,qiteB_c,qcmp_eql,qcmp_neq,qcmp_lss,qcmp_gtr,qcmp_geq,qcmp_leq,Bool.cond_self,cond_true]
  generalize qint (qnth (some (errOut fe)) 1)=fe1
  simp only[int_bif]
  refine⟨_,rfl,?_⟩
  congr 3
  generalize qint (qfld d 0)=o
  generalize qint (qfld d 1)=v
  generalize qint (qfld d 2)=w
  generalize qint (qfld d 3)=nx
  generalize qint (qfld d 4)=el
  generalize qint (qfld d 5)=tg
  generalize qlen (qfld d 6)=ne
  generalize qlen (qfld d 7)=nc
  by_cases a1:o=1
  ·subst a1;simp;grind
  by_cases a2:o=2
  ·subst a2;simp;grind
  by_cases a3:o=3
  ·subst a3;simp;grind
  by_cases a4:o=4
  ·subst a4;simp;grind
  by_cases a5:o=5
  ·subst a5;simp;grind
  by_cases a6:o=6
  ·subst a6;simp;grind
  by_cases a7:o=7
  ·subst a7;simp;grind
  by_cases a8:o=8
  ·subst a8;simp;grind
  by_cases a9:o=9
  ·subst a9;simp;grind
  by_cases a10:o=10
  ·subst a10;simp;grind
  simp[a1,a2,a3,a4,a5,a6,a7,a8,a9,a10];grind
 obtain⟨e,h1,h2⟩:=key
 have:eStmt d=e:=by unfold eStmt;rw[h1];simp[qnth_s,qint_i]
 rw[this];exact⟨h1,h2⟩
end Go.Proofs.YtfdedgmlafelaaaGreatDoor
namespace Go.Proofs.YtfdedgmlafelaaaGreatDoor
open Go Go.AM
theorem tl_list (xs:List D):(D.list xs).toList=xs:=rfl
theorem qand_c (a b:Bool):qand a b=(a&&b):=by rw[qand_eq]
theorem anyFor {st:List D→Option (Sum (List D) (List D))} {n:Nat} {p:Nat→Bool} {r1:Nat→List D} {r0:List D} (hn:n≤maxLen)
 (h1:∀i:Nat,i<n→st [.int i]=bif p i then some (.inr (r1 i))else some (.inl [.int (qbin .add .i64 i 1)])) (h0:st [.int n]=some (.inr r0)):
 (loW st [.int 0]=some r0∧∀i,i<n→p i=false)∨∃i,i<n∧p i=true∧(∀j,j<i→p j=false)∧loW st [.int 0]=some (r1 i):=by
 unfold maxLen at hn
 have key:∀k i:Nat,i+k=n→(∀j,j<i→p j=false)→(loW st [.int i]=some r0∧∀i,i<n→p i=false)∨∃i',i'<n∧p i'=true∧(∀j,j<i'→p j=false)∧loW st [.int i]=some (r1 i'):=by
  intro k
  induction k with
  |zero=>
   intro i hi hp
   obtain rfl:i=n:=by omega
   exact .inl ⟨by rw[loW_eq,h0],hp⟩
  |succ k ih=>
   intro i hi hp
   have hlt:i<n:=by omega
   rw[loW_eq,h1 i hlt]
   cases hc:p i with
   |true=>exact .inr ⟨i,hlt,hc,hp,rfl⟩
   |false=>
    simp only[cond_false]
    rw[add_nat (by omega)]
    exact ih (i+1) (by omega) fun j hj=>by
     by_cases h:j=i
     ·subst h;exact hc
     ·exact hp j (by omega)
 exact key n 0 (by omega) (fun j hj=>absurd hj (Nat.not_lt_zero _))
def fErr (e:Nat→Int):Nat→Nat→Int
 |_,0=>0
 |i,k+1=>if e i=0 then fErr e (i+1) k else e i
theorem errFor {st:List D→Option (Sum (List D) (List D))} {n:Nat} {e:Nat→Int} (hn:n≤maxLen)
 (h1:∀i:Nat,i<n→st [.int i]=if e i=0 then some (.inl [.int (qbin .add .i64 i 1)])else some (.inr [.int 1, .int (e i)]))
 (h0:st [.int n]=some (.inr [.int 0])):loW st [.int 0]=some (errOut (fErr e 0 n)):=by
 unfold maxLen at hn
 have key:∀k i:Nat,i+k=n→loW st [.int i]=some (errOut (fErr e i k)):=by
  intro k
  induction k with
  |zero=>
   intro i hi
   obtain rfl:i=n:=by omega
   rw[loW_eq,h0];simp[fErr,errOut]
  |succ k ih=>
   intro i hi
   have hlt:i<n:=by omega
   rw[loW_eq,h1 i hlt]
   by_cases he:e i=0
   ·simp only[he,if_true,fErr]
    rw[add_nat (by omega)]
    exact ih (i+1) (by omega)
   ·simp only[he,if_false,fErr]
    rw[errOut,if_neg he]
 exact key n 0 (by omega)
theorem contG {st:List D→Option (Sum (List D) (List D))} {l:D} {c:D→Option (List D)} {p:D→Bool}
 (hst:∀i:Int,st [.int i]=bif qcmp .lss i (qlen l)then bif qinb l i then bif qsome (c (qget l i))then bif qbool (qnth (c (qget l i)) 0)then some (.inr [.int 1, .int i])else some (.inl [.int (qbin .add .i64 i 1)])else none else none else some (.inr [.int 0]))
 (hl:l.toList.length≤maxLen) (hc:∀x∈l.toList,c x=some [.bool (p x)]):
 ∃k:Int,(bif qsome (loW st [.int 0])then bif qcmp .eql (qint (qnth (loW st [.int 0]) 0)) 0 then some [D.int (-1)]else some [.int (qint (qnth (loW st [.int 0]) 1))]else none)=some [.int k]∧decide (0≤k)=l.toList.any p:=by
 rcases idxLoop (r1:=fun i=>[.int 1, .int i]) hst hl hc with⟨h1,h2⟩|⟨i,h1,h2⟩
 ·exact⟨-1,by simp[h1,qsome_s,qnth_s,qint_i,qcmp_eql],by rw[h2];rfl⟩
 ·exact⟨i,by simp[h1,qsome_s,qnth_s,qint_i,qcmp_eql],by rw[h2];simp⟩
theorem take_any {p:D→Bool} {xs:List D} {i:Nat} (hi:i≤xs.length):(xs.take i).any p=true↔∃k,k<i∧p (xs.getD k .other)=true:=by
 rw[List.any_eq_true]
 constructor
 ·rintro⟨x,hx,hp⟩
  obtain⟨k,hk,rfl⟩:=List.getElem_of_mem hx
  simp only[List.length_take]at hk
  refine⟨k,by omega,?_⟩
  rw[List.getElem_take]at hp
  rw[getD_lt (by omega)];exact hp
 ·rintro⟨k,hk,hp⟩
  rw[getD_lt (by omega)]at hp
  exact⟨_,List.mem_take_iff_getElem.2 ⟨k,by omega,rfl⟩,hp⟩
theorem qsub_l (d:D) (i:Nat):(qsub d 0 (i:Int)).toList=d.toList.take i:=by rw[qsub_eq];simp[D.sub,D.toList]
noncomputable def term (d:D):Bool:=decide (6≤qint (qfld d 0))&&decide (qint (qfld d 0)≤10)
theorem term_p (d:D):q90 [d]=some [.bool (term d)]:=by
 rw[q90_eq,F90_eq];simp only[qiteB_c,qcmp_geq,qcmp_leq,term];cases decide (6≤qint (qfld d 0))<;>simp
theorem term_r (d:D):q109 [d]=some [.bool (term d)]:=by
 rw[q109_eq,F109_eq];simp only[qiteB_c,qcmp_geq,qcmp_leq,term];cases decide (6≤qint (qfld d 0))<;>simp
theorem contains101 {l:D} (hl:l.toList.length≤maxLen):q79_90 [l]=some [.bool (l.toList.any term)]:=by
 obtain⟨k,h1,h2⟩:=contG (st:=st116_90_2 [l, .int (qlen l)]) (c:=fun x=>q90 [x]) (p:=term) (fun i=>by rw[st116_90_2_eq]) hl (fun x _=>term_p x)
 rw[q79_90_eq,F79_90_eq,q116_90_eq,F116_90_eq,l116_90_2_eq,h1]
 simp only[qsome_s,cond_true,qnth_s,List.getD_cons_zero,qint_i,qcmp_geq,h2]
noncomputable def outside (n:Int) (x:D):Bool:=decide (qint x<0)||decide (n≤qint x)
theorem outside_p (x g:D):q92 [.int (qint x),g]=some [.bool (outside (qlen (qfld g 1)) x)]:=by
 rw[q92_eq,F92_eq];simp only[qiteB_c,qcmp_lss,qcmp_geq,outside];cases decide (qint x<0)<;>simp
theorem contains105 {l g:D} (hl:l.toList.length≤maxLen):q91_92 [l,g]=some [.bool (l.toList.any (outside (qlen (qfld g 1))))]:=by
 obtain⟨k,h1,h2⟩:=contG (st:=st122_92_2 [l,g, .int (qlen l)]) (c:=fun x=>q92 [.int (qint x),g]) (p:=outside (qlen (qfld g 1))) (fun i=>by rw[st122_92_2_eq]) hl (fun x _=>outside_p x g)
 rw[q91_92_eq,F91_92_eq,q122_92_eq,F122_92_eq,l122_92_2_eq,h1]
 simp only[qsome_s,cond_true,qnth_s,List.getD_cons_zero,qint_i,qcmp_geq,h2]
noncomputable def tgts (s:D):List D:=
 if qint (qfld s 0)=6 then[.int (qint (qfld s 3))]else if qint (qfld s 0)=7 then[.int (qint (qfld s 3)), .int (qint (qfld s 4))]else if qint (qfld s 0)=8 then(qfld s 7).toList else[]
theorem tgts_r (s:D):∃X,q89 [s]=some [X]∧X.toList=tgts s:=by
 rw[q89_eq,F89_eq]
 simp only[qcmp_eql,tgts]
 by_cases h6:qint (qfld s 0)=6
 ·simp[h6,tl_list]
 by_cases h7:qint (qfld s 0)=7
 ·simp[h7,tl_list]
 by_cases h8:qint (qfld s 0)=8
 ·simp[h8]
 simp[h6,h7,h8,tl_list]
noncomputable def lastS (b:D):D:=qget (qfld b 1) (((qfld b 1).toList.length-1:Nat):Int)
theorem last_ixO {l:D} (h:l.toList.length≠0) (hl:l.toList.length≤maxLen):qbin .sub .i64 (qlen l) 1=((l.toList.length-1:Nat):Int):=by
 unfold maxLen at hl
 rw[qlen_c,sub64 (by omega) (by omega)];omega
theorem tgts_p {b:D} (h:(qfld b 1).toList.length≠0) (hl:(qfld b 1).toList.length≤maxLen) (hm:(qfld (lastS b) 7).toList.length≤lim):∃X,q22 [b]=some [X]∧X.toList=tgts (lastS b):=by
 rw[q22_eq,F22_eq,last_ixO h hl,qinb_n (by omega)]
 simp only[qcmp_eql,tgts,qlen_c]
 rw[show qget (qfld b 1) (((qfld b 1).toList.length-1:Nat):Int)=lastS b from rfl]
 have h0:¬(((qfld b 1).toList.length:Int)=0):=by omega
 simp only[h0,decide_false,cond_false,cond_true]
 by_cases h6:qint (qfld (lastS b) 0)=6
 ·simp[h6,tl_list]
 by_cases h7:qint (qfld (lastS b) 0)=7
 ·simp[h7,tl_list]
 by_cases h8:qint (qfld (lastS b) 0)=8
 ·have hq:q53 [qfld (lastS b) 7]=some [qapp (.list []) (qfld (lastS b) 7)]:=by
   rw[q53_eq]
   unfold F53
   have:qapp (.list []) (qfld (lastS b) 7) = .list (qfld (lastS b) 7).toList:=by rw[qapp_eq];simp[D.app,tl_list]
   simp only[List.headD_cons,this,qlen_c,tl_list]
   rw[qmem_eq]
   have hr:rmem ((qfld (lastS b) 7).toList.length:Int) 8=true:=by
    simp[rmem];have hlim:lim=100000000:=rfl;omega
   rw[hr];rfl
  have ha:(qapp (.list []) (qfld (lastS b) 7)).toList=(qfld (lastS b) 7).toList:=by rw[qapp_eq];simp[D.app,tl_list]
  simp[h8,hq,qsome_s,qnth_s,ha]
 simp[h6,h7,h8,tl_list]
end Go.Proofs.YtfdedgmlafelaaaGreatDoor
namespace Go.Proofs.YtfdedgmlafelaaaGreatDoor
open Go Go.AM
theorem len_lt (d:D):d.toList.length<d.size:=by
 cases d with
 |list xs=>have:=sizes_len xs;simp only[D.toList,D.size];omega
 |_=>simp only[D.toList,D.size,List.length_nil];omega
theorem fld_le (d:D) (j:Nat):(qfld d j).size≤d.size:=by
 rw[qfld_eq]
 cases d with
 |agg xs=>
  simp only[D.fld,List.getD]
  cases h:xs[j]? with
  |none=>simp[D.size]
  |some y=>have:=sizes_get h;simp only[Option.getD_some,D.size];omega
 |_=>simp[D.fld,D.size]
theorem elem_le {l x:D} (h:x∈l.toList):x.size≤l.size:=by
 cases l with
 |list xs=>
  simp only[D.toList]at h
  obtain⟨i,hi⟩:=List.getElem?_of_mem h
  have:=sizes_get hi
  simp only[D.size];omega
 |_=>simp[D.toList]at h
theorem get_mem {l:D} {i:Nat} (h:i<l.toList.length):qget l i∈l.toList:=by
 rw[qget_n,getD_lt h];exact List.getElem_mem h
theorem sz_el {j:Nat} {d:D} (h:d.size≤lim):(qfld d j).toList.length≤maxLen∧∀x∈(qfld d j).toList,x.size≤lim:=by rw[qfld_eq];exact sz_elems h
theorem qeqB_c (a b:Bool):qeqB a b=(a==b):=by rw[qeqB_eq]
noncomputable def sumK:List D→Int→Int
 | [],s=>s
 |x::xs,s=>sumK xs (qbin .add .i64 s (qlen (qfld x 1)))
theorem sumLoop {st:List D→Option (Sum (List D) (List D))} {l:D}
 (hst:∀s i:Int,st [.int s, .int i]=bif qcmp .lss i (qlen l)then bif qinb l i then some (.inl [.int (qbin .add .i64 s (qlen (qfld (qget l i) 1))), .int (qbin .add .i64 i 1)])else none else some (.inr [.int 0, .int s]))
 (hl:l.toList.length≤maxLen):loW st [.int 0, .int 0]=some [.int 0, .int (sumK l.toList 0)]:=by
 unfold maxLen at hl
 have key:∀k i:Nat,∀s:Int,i+k=l.toList.length→loW st [.int s, .int i]=some [.int 0, .int (sumK (l.toList.drop i) s)]:=by
  intro k
  induction k with
  |zero=>
   intro i s hi
   rw[loW_eq,hst,qcmp_lss,qlen_c,List.drop_of_length_le (by omega)]
   simp[show¬((i:Int)<l.toList.length)by omega,sumK]
  |succ k ih=>
   intro i s hi
   have hlt:i<l.toList.length:=by omega
   rw[loW_eq,hst,qcmp_lss,qinb_n hlt,qget_n,getD_lt hlt,List.drop_eq_getElem_cons hlt,show decide ((i:Int)<qlen l)=true by rw[qlen_c];simp;omega]
   simp only[cond_true,sumK]
   rw[add_nat (by omega)]
   exact ih (i+1) _ (by omega)
 exact key l.toList.length 0 0 (by omega)
noncomputable def badB (n:Int) (b:D):Bool:=
 decide ((qfld b 1).toList.length=0)||(!term (lastS b)||((qfld b 1).toList.take ((qfld b 1).toList.length-1)).any term||(tgts (lastS b)).any (outside n))
theorem last_mem {b:D} (h:(qfld b 1).toList.length≠0):lastS b∈(qfld b 1).toList:=get_mem (by omega)
theorem tgts_len {s:D} (hs:s.size≤lim):(tgts s).length≤maxLen:=by
 unfold tgts
 split
 ·simp[maxLen]
 ·split
  ·simp[maxLen]
  ·split
   ·exact(sz_el hs).1
   ·simp[maxLen]
theorem closed_r {b:D} {n:Int} (hb:b.size≤lim):q71 [b, .int n]=some [.bool (!badB n b)]:=by
 obtain⟨hl,hx⟩:=sz_el hb
 rw[q71_eq,F71_eq]
 unfold badB
 by_cases h0:(qfld b 1).toList.length=0
 ·simp[qcmp_eql,qlen_c,h0]
 have hi:=last_ixO h0 hl
 have hloop:=anyFor (st:=st71_4 [.int n,b]) (n:=(qfld b 1).toList.length) (p:=fun i=> !(term (qget (qfld b 1) i)==decide (i=(qfld b 1).toList.length-1))) (r1:=fun _=>[.int 1]) (r0:=[.int 0]) hl
  (fun i hlt=>by
   rw[st71_4_eq,hi,qinb_n hlt,term_r,show qcmp .lss (i:Int) (qlen (qfld b 1))=true by rw[qcmp_lss,qlen_c];simp;omega]
   simp only[cond_true,qsome_s,qnth_s,List.getD_cons_zero,qbool_b,qnot_c,qcmp_eql,qeqB_c]
   congr 3
   simp only[Int.natCast_inj])
  (by rw[st71_4_eq,show qcmp .lss ((qfld b 1).toList.length:Int) (qlen (qfld b 1))=false by rw[qcmp_lss,qlen_c];simp];rfl)
 obtain⟨X,hX,hXl⟩:=tgts_r (lastS b)
 have hT:=tgts_len (hx _ (last_mem h0))
 have hloop2:=anyFor (st:=st71_10 [.int n,X]) (n:=X.toList.length) (p:=fun i=>outside n (X.toList.getD i .other)) (r1:=fun _=>[.int 1]) (r0:=[.int 0]) (by rw[hXl];exact hT)
  (fun i hlt=>by
   rw[st71_10_eq,qinb_n hlt,show qcmp .lss (i:Int) (qlen X)=true by rw[qcmp_lss,qlen_c];simp;omega,qget_n]
   simp only[cond_true,qcmp_lss,qcmp_geq,qiteB_c,outside]
   cases decide (qint (X.toList.getD i .other)<0)<;>simp)
  (by rw[st71_10_eq,show qcmp .lss (X.toList.length:Int) (qlen X)=false by rw[qcmp_lss,qlen_c];simp];rfl)
 rw[l71_4_eq,l71_10_eq,hi,qinb_n (by omega)]
 rw[show qget (qfld b 1) (((qfld b 1).toList.length-1:Nat):Int)=lastS b from rfl,hX]
 have hn0:qcmp .eql (qlen (qfld b 1)) 0=false:=by rw[qcmp_eql,qlen_c];simp;intro h;exact h0 (by rw[h];rfl)
 simp only[hn0,cond_false,cond_true,qsome_s,qnth_s,List.getD_cons_zero,decide_eq_false h0,Bool.false_or]
 have hlast:qget (qfld b 1) (((qfld b 1).toList.length-1:Nat):Int)=lastS b:=rfl
 rcases hloop with⟨h1,h2⟩|⟨i,hlt,hp,_,h1⟩
 ·have ht:term (lastS b)=true:=by
   have:=h2 ((qfld b 1).toList.length-1) (by omega)
   simp only[hlast,decide_true,Bool.not_eq_false',beq_iff_eq]at this
   exact this
  have ha:((qfld b 1).toList.take ((qfld b 1).toList.length-1)).any term=false:=by
   rw[← Bool.not_eq_true,take_any (by omega)]
   rintro⟨k,hk,hp⟩
   have:=h2 k (by omega)
   rw[qget_n,hp]at this
   simp[show¬k=(qfld b 1).toList.length-1 by omega]at this
  simp only[h1,qsome_s,qnth_s,List.getD_cons_zero,qint_i,qcmp_eql,decide_true,cond_true,ht,ha,Bool.not_true,Bool.false_or]
  rw[← hXl]
  rcases hloop2 with⟨h3,h4⟩|⟨i,hlt,hp,_,h3⟩
  ·have:X.toList.any (outside n)=false:=by
    rw[← Bool.not_eq_true]
    intro h
    obtain⟨x,hx,hp⟩:=List.any_eq_true.1 h
    obtain⟨k,hk,rfl⟩:=List.getElem_of_mem hx
    have:=h4 k hk
    rw[getD_lt hk,hp]at this;cases this
   simp[h3,qsome_s,qnth_s,qint_i,this]
  ·have:X.toList.any (outside n)=true:=by
    rw[getD_lt hlt]at hp
    exact List.any_eq_true.2 ⟨_,List.getElem_mem hlt,hp⟩
   simp[h3,qsome_s,qnth_s,qint_i,this]
 ·have hbad:(!term (lastS b)||((qfld b 1).toList.take ((qfld b 1).toList.length-1)).any term)=true:=by
   by_cases he:i=(qfld b 1).toList.length-1
   ·subst he
    simp only[hlast,decide_true]at hp
    have:term (lastS b)=false:=by simpa using hp
    rw[this];rfl
   ·have ht:term (qget (qfld b 1) i)=true:=by simpa[he]using hp
    have:((qfld b 1).toList.take ((qfld b 1).toList.length-1)).any term=true:=(take_any (by omega)).2 ⟨i,by omega,by rw[← qget_n];exact ht⟩
    rw[this];simp
  simp only[h1,qsome_s,qnth_s,List.getD_cons_zero,qint_i,qcmp_eql,cond_true,hbad,Bool.true_or,Bool.not_true]
  rfl
theorem closed_p {g:D} {i:Nat} {n:Int} (hi:i<(qfld g 1).toList.length) (hb:(qget (qfld g 1) i).size≤lim) (hg:(qget (qfld g 1) i).size≤lim) (hn:n=qlen (qfld g 1)):
 st49_4 [qfld g 1, .int n,g] [.int i]=bif badB n (qget (qfld g 1) i)then some (.inr [.int 1])else some (.inl [.int (qbin .add .i64 i 1)]):=by
 subst hn
 rw[st49_4_eq,show qcmp .lss (i:Int) (qlen (qfld g 1))=true by(rw[qcmp_lss,qlen_c];simp;omega),qinb_n hi]
 generalize qget (qfld g 1) i=b at *
 obtain⟨hl,hx⟩:=sz_el hb
 unfold badB
 by_cases h0:(qfld b 1).toList.length=0
 ·simp[qcmp_eql,qlen_c,h0,qiteB_c]
 have hix:=last_ixO h0 hl
 have hn0:qcmp .eql (qlen (qfld b 1)) 0=false:=by rw[qcmp_eql,qlen_c];simp;intro h;exact h0 (by rw[h];rfl)
 have hm:(qfld (lastS b) 7).toList.length≤lim:=by
  have h1:=len_lt (qfld (lastS b) 7)
  have h2:=fld_le (lastS b) 7
  have h3:=elem_le (last_mem h0)
  have h4:=fld_le b 1
  unfold lim at hg
  omega
 obtain⟨X,hX,hXl⟩:=tgts_p h0 hl hm
 have hT:=tgts_len (hx _ (last_mem h0))
 rw[hix,qinb_n (by omega),show qget (qfld b 1) (((qfld b 1).toList.length-1:Nat):Int)=lastS b from rfl,hn0,term_p,contains101 (by rw[qsub_l];simp only[List.length_take];omega),qsub_l,hX]
 simp only[qsome_s,qnth_s,List.getD_cons_zero,qbool_b,contains105 (l:=X) (g:=g) (by rw[hXl];exact hT),hXl,qcmp_leq,qlen_c,qiteB_c,qand_c,qnot_c,cond_true,cond_false,decide_eq_false h0,Bool.false_or,Bool.and_true]
 have e1:decide ((0:Int)≤(((qfld b 1).toList.length-1:Nat):Int))=true:=by simp
 have e2:decide ((((qfld b 1).toList.length-1:Nat):Int)≤((qfld b 1).toList.length:Int))=true:=by rw[decide_eq_true_iff];omega
 simp only[e1,e2,Int.le_refl,decide_true,Bool.and_self,Bool.cond_self,cond_true]
 cases term (lastS b)<;>cases ((qfld b 1).toList.take ((qfld b 1).toList.length-1)).any term<;>simp
theorem blocksOf {g:D} (hg:g.size≤lim):(qfld g 1).toList.length≤maxLen∧∀x∈(qfld g 1).toList,x.size≤lim:=sz_el hg
theorem shaped_eq {g:D} (hg:g.size≤lim) (hs:g.size≤lim):∃b:Bool,q49 [g]=some [.bool b]∧((qfld g 1).toList.length=0→b=false)∧
 ((qfld g 1).toList.length≠0→((loW (st35_13 [g]) [.int 0]=some [.int 0]∧b=true)∨(loW (st35_13 [g]) [.int 0]=some [.int 1]∧b=false))):=by
 obtain⟨hl,hx⟩:=blocksOf hg
 rw[q49_eq,F49_eq,l49_4_eq]
 by_cases h0:(qfld g 1).toList.length=0
 ·exact⟨false,by simp[qcmp_eql,qlen_c,h0],fun _=>rfl,fun h=>absurd h0 h⟩
 have hn0:qcmp .eql (qlen (qfld g 1)) 0=false:=by rw[qcmp_eql,qlen_c];simp;intro h;exact h0 (by rw[h];rfl)
 have hsz:∀i:Nat,i<(qfld g 1).toList.length→(qget (qfld g 1) i).size≤lim:=fun i hi=>by
  have h1:=elem_le (get_mem hi)
  have h2:=fld_le g 1
  omega
 have hp:=anyFor (st:=st49_4 [qfld g 1, .int (qlen (qfld g 1)),g]) (n:=(qfld g 1).toList.length) (p:=fun i=>badB (qlen (qfld g 1)) (qget (qfld g 1) i)) (r1:=fun _=>[.int 1]) (r0:=[.int 0]) hl
  (fun i hi=>closed_p hi (hx _ (get_mem hi)) (hsz i hi) rfl)
  (by rw[st49_4_eq,show qcmp .lss ((qfld g 1).toList.length:Int) (qlen (qfld g 1))=false by rw[qcmp_lss,qlen_c];simp];rfl)
 have hr:=anyFor (st:=st35_13 [g]) (n:=(qfld g 1).toList.length) (p:=fun i=>badB (qlen (qfld g 1)) (qget (qfld g 1) i)) (r1:=fun _=>[.int 1]) (r0:=[.int 0]) hl
  (fun i hi=>by
   rw[st35_13_eq,show qcmp .lss (i:Int) (qlen (qfld g 1))=true by rw[qcmp_lss,qlen_c];simp;omega,qinb_n hi,closed_r (hx _ (get_mem hi))]
   simp only[cond_true,qsome_s,qnth_s,List.getD_cons_zero,qbool_b,qnot_c,Bool.not_not])
  (by rw[st35_13_eq,show qcmp .lss ((qfld g 1).toList.length:Int) (qlen (qfld g 1))=false by rw[qcmp_lss,qlen_c];simp];rfl)
 simp only[hn0,cond_false]
 rcases hp with⟨h1,h2⟩|⟨i,hlt,hpi,_,h1⟩
 ·refine⟨true,by simp[h1,qsome_s,qnth_s,qint_i,qcmp_eql],fun h=>absurd h h0,fun _=> .inl ⟨?_,rfl⟩⟩
  rcases hr with⟨h3,_⟩|⟨j,hj,hpj,_,_⟩
  ·exact h3
  ·rw[h2 j hj]at hpj;cases hpj
 ·refine⟨false,by simp[h1,qsome_s,qnth_s,qint_i,qcmp_eql],fun h=>rfl,fun _=> .inr ⟨?_,rfl⟩⟩
  rcases hr with⟨_,h4⟩|⟨j,hj,hpj,_,h3⟩
  ·rw[h4 i hlt]at hpi;cases hpi
  ·exact h3
noncomputable def eBlock (b:D):Int:=firstErr eStmt (qfld b 1).toList
theorem block_p {b a0:D} {a1 a2:Int} (hb:b.size≤lim):l19_15 [a0, .int a1, .int a2,qfld b 1, .int (qlen (qfld b 1))] [.int 0]=some (errOut (eBlock b)):=by
 obtain⟨hl,hx⟩:=sz_el hb
 rw[l19_15_eq]
 exact errLoop (st:=st19_15 [a0, .int a1, .int a2,qfld b 1, .int (qlen (qfld b 1))]) (l:=qfld b 1) (c:=fun x=>q50 [x]) (e:=eStmt) (fun i=>by rw[st19_15_eq]) hl (fun x hm=>by rw[q50_eq];exact(stmt_eq (hx x hm)).1)
theorem block_r {g:D} {i:Nat} (hi:i<(qfld g 1).toList.length) (hb:(qget (qfld g 1) i).size≤lim):l35_21 [.int i,g] [.int 0]=some (errOut (eBlock (qget (qfld g 1) i))):=by
 obtain⟨hl,hx⟩:=sz_el hb
 rw[l35_21_eq]
 exact errLoop (st:=st35_21 [.int i,g]) (l:=qfld (qget (qfld g 1) i) 1) (c:=fun x=>q72 [x]) (e:=eStmt) (fun k=>by rw[st35_21_eq,qinb_n hi];simp only[cond_true]) hl (fun x hm=>by rw[q72_eq];exact(stmt_eq (hx x hm)).2)
theorem errOut_2 (e:Int):qcmp .eql (qint (qnth (some (errOut e)) 0)) 0=decide (e=0):=errOut_0
noncomputable def eGraph (g:D):Int:=qint (qnth (F19 [g]) 0)
theorem graph_eq {g:D} (hg:g.size≤lim) (hs:g.size≤lim):q19 [g]=some [.int (eGraph g)]∧q35 [g]=some [.int (eGraph g)]:=by
 obtain⟨hl,hx⟩:=blocksOf hg
 have key:∃e,F19 [g]=some [.int e]∧F35 [g]=some [.int e]:=by
  obtain⟨b,hb,hb0,hb1⟩:=shaped_eq hg hs
  have s1:=sumLoop (st:=st19_3 [qfld g 1, .int (qlen (qfld g 1)),g]) (l:=qfld g 1) (fun s i=>by rw[st19_3_eq]) hl
  have s2:=sumLoop (st:=st35_5 [g]) (l:=qfld g 1) (fun s i=>by rw[st35_5_eq]) hl
  have e1:=errFor (st:=st19_12 [qfld g 1, .int (qlen (qfld g 1))]) (n:=(qfld g 1).toList.length) (e:=fun i=>eBlock (qget (qfld g 1) i)) hl
   (fun i hi=>by
    rw[st19_12_eq,show qcmp .lss (i:Int) (qlen (qfld g 1))=true by rw[qcmp_lss,qlen_c];simp;omega,qinb_n hi,block_p (hx _ (get_mem hi)),errOut_0]
    simp only[cond_true,qsome_s]
    by_cases he:eBlock (qget (qfld g 1) i)=0
    ·simp[he]
    ·simp[he,errOut_1 he])
   (by rw[st19_12_eq,show qcmp .lss ((qfld g 1).toList.length:Int) (qlen (qfld g 1))=false by rw[qcmp_lss,qlen_c];simp];rfl)
  have e2:=errFor (st:=st35_18 [g]) (n:=(qfld g 1).toList.length) (e:=fun i=>eBlock (qget (qfld g 1) i)) hl
   (fun i hi=>by
    rw[st35_18_eq,show qcmp .lss (i:Int) (qlen (qfld g 1))=true by rw[qcmp_lss,qlen_c];simp;omega,block_r hi (hx _ (get_mem hi)),errOut_0]
    simp only[cond_true,qsome_s]
    by_cases he:eBlock (qget (qfld g 1) i)=0
    ·simp[he]
    ·simp[he,errOut_1 he])
   (by rw[st35_18_eq,show qcmp .lss ((qfld g 1).toList.length:Int) (qlen (qfld g 1))=false by rw[qcmp_lss,qlen_c];simp];rfl)
  rw[F19_eq,F35_eq,l19_3_eq,l35_5_eq,l19_12_eq,l35_13_eq,l35_18_eq]
  simp only[s1,s2,e1,e2,hb]
  simp only[qsome_s,qnth_s,List.getD_cons_zero,List.getD_cons_succ,qint_i,qbool_b,qnot_c,qcmp_gtr,qcmp_eql,qiteB_c,cond_true,qlen_c]
  generalize sumK (qfld g 1).toList 0=sm
  generalize fErr (fun i=>eBlock (qget (qfld g 1) i)) 0 (qfld g 1).toList.length=fe
  have hz:∀m:Int,decide (qint (qnth (some (errOut m)) 0)=0)=decide (m=0):=fun m=>by rw[← qcmp_eql];exact errOut_0
  have hL:((qfld g 1).toList.length=0)↔(((qfld g 1).toList.length:Int)=0):=by omega
  simp only[ne_eq,hL]at hb0 hb1
  generalize ((qfld g 1).toList.length:Int)=L at *
  by_cases hmx:256<L
  ·refine⟨6,?_,?_⟩<;>simp[hmx]
  by_cases hsm:1024<sm
  ·refine⟨6,?_,?_⟩<;>simp[hmx,hsm]
  by_cases h0:L=0
  ·refine⟨18,?_,?_⟩<;>simp[hsm,h0,hb0 h0]
  ·rcases hb1 h0 with⟨h1,rfl⟩|⟨h1,rfl⟩
   ·by_cases hf:fe=0
    ·refine⟨0,?_,?_⟩<;>simp[hmx,hsm,h0,h1,hf,qsome_s,qnth_s,qint_i,errOut]
    ·refine⟨fe,?_,?_⟩<;>simp[hmx,hsm,h0,h1,hf,qsome_s,qnth_s,qint_i,errOut]
   ·refine⟨18,?_,?_⟩<;>simp[hmx,hsm,h0,h1,qsome_s,qnth_s,qint_i]
 obtain⟨e,h1,h2⟩:=key
 have:eGraph g=e:=by unfold eGraph;rw[h1];simp[qnth_s,qint_i]
 rw[this,q19_eq,q35_eq];exact⟨h1,h2⟩
end Go.Proofs.YtfdedgmlafelaaaGreatDoor
namespace Go.Proofs.YtfdedgmlafelaaaGreatDoor
set_option linter.unusedSimpArgs false
open Go Go.AM
def gB (s:List Bool) (b:Nat):Bool:=s.getD b false
def gI (o:List Int) (b:Nat):Int:=o.getD b 0
def visit (e:Int):List Nat→List Nat→List Bool→List Int→Option (List Nat×List Bool×List Int)
 | [],w,s,o=>some (w,s,o)
 |t::ts,w,s,o=>if gB s t=true then(if gI o t=e then visit e ts w s o else none)else visit e ts (w ++ [t]) (s.set t true) (o.set t e)
def Sub (s:List Bool) (o:List Int) (A:Nat→Option Int):Prop:=∀b,gB s b=true→A b=some (gI o b)
theorem gB_set {s:List Bool} {t b:Nat} (h:t<s.length):gB (s.set t true) b=(decide (b=t)||gB s b):=by
 unfold gB
 simp only[List.getD,List.getElem?_set]
 by_cases e:t=b
 ·subst e;simp[h]
 ·simp[e,show¬b=t from fun x=>e x.symm]
theorem gI_set {o:List Int} {t b:Nat} {e:Int} (h:t<o.length):gI (o.set t e) b=if b=t then e else gI o b:=by
 unfold gI
 simp only[List.getD,List.getElem?_set]
 by_cases e:t=b
 ·subst e;simp[h]
 ·simp[e,show¬b=t from fun x=>e x.symm]
theorem cnt_set:∀(s:List Bool) (t:Nat),gB s t=false→t<s.length→(s.set t true).count false+1=s.count false
 | [],t,_,h=>by simp at h
 |x::s,0,h,_=>by
  have:x=false:=by simpa[gB]using h
  subst this
  simp
 |x::s,t+1,h,hl=>by
  have ih:=cnt_set s t (by simpa[gB]using h) (by simpa using hl)
  simp only[List.set_cons_succ,List.count_cons]
  omega
theorem cnt_le (s:List Bool):s.count false≤s.length:=List.count_le_length
structure Vis (n:Nat) (e:Int) (ts w:List Nat) (s:List Bool) (o:List Int) (w':List Nat) (s':List Bool) (o':List Int):Prop where
 ls:s'.length=n
 lo:o'.length=n
 new:∃ne,w'=w++ne∧(∀b∈ne,b<n∧gB s' b=true)∧ne.length+s'.count false=s.count false∧∀b,gB s' b=true→gB s b=true∨b∈ne
 old:∀b,gB s b=true→gB s' b=true∧gI o' b=gI o b
 at':∀t∈ts,gB s' t=true∧gI o' t=e
 zero:(∀b,gB s b=false→gI o b=0)→∀b,gB s' b=false→gI o' b=0
 sub:∀A,Sub s o A→(∀t∈ts,A t=some e)→Sub s' o' A
theorem visit_some {n:Nat} {e:Int}:∀(ts w:List Nat) (s:List Bool) (o:List Int) {w':List Nat} {s':List Bool} {o':List Int},visit e ts w s o=some (w',s',o')→s.length=n→o.length=n→(∀t∈ts,t<n)→Vis n e ts w s o w' s' o'
 | [],w,s,o,w',s',o',h,hs,ho,_=>by
   simp only[visit,Option.some.injEq,Prod.mk.injEq]at h
   obtain⟨rfl,rfl,rfl⟩:=h
   exact⟨hs,ho,⟨[],by simp,by simp,by simp,fun b h=> .inl h⟩,fun b h=>⟨h,rfl⟩,by simp,fun h=>h,fun _ h _=>h⟩
 |t::ts,w,s,o,w',s',o',h,hs,ho,ht=>by
  have htn:=ht t (by simp)
  unfold visit at h
  by_cases hg:gB s t=true
  ·rw[if_pos hg]at h
   by_cases he:gI o t=e
   ·rw[if_pos he]at h
    have v:=visit_some ts w s o h hs ho (fun x hx=>ht x (by simp[hx]))
    refine⟨v.ls,v.lo,v.new,v.old,fun x hx=> ?_,v.zero,fun A a1 a2=>v.sub A a1 fun x hx=>a2 x (by simp[hx])⟩
    rcases List.mem_cons.1 hx with rfl|hx
    ·have:=v.old x hg;exact⟨this.1,by rw[this.2,he]⟩
    ·exact v.at' x hx
   ·rw[if_neg he]at h;cases h
  ·rw[if_neg hg]at h
   have hg':gB s t=false:=by simpa using hg
   have v:=visit_some ts (w ++ [t]) (s.set t true) (o.set t e) h (by simpa using hs) (by simpa using ho) (fun x hx=>ht x (by simp[hx]))
   have k1:∀b,gB (s.set t true) b=(decide (b=t)||gB s b):=fun b=>gB_set (by omega)
   have k2:∀b,gI (o.set t e) b=if b=t then e else gI o b:=fun b=>gI_set (by omega)
   have kt:=v.old t (by rw[k1];simp)
   rw[k2,if_pos rfl]at kt
   obtain⟨ne,n1,n2,n3,n4⟩:=v.new
   have hc:=cnt_set s t hg' (by omega)
   refine⟨v.ls,v.lo,⟨t::ne,by rw[n1];simp,fun b hb=> ?_,by simp only[List.length_cons];omega,fun b hb=> ?_⟩,fun b hb=> ?_,fun x hx=> ?_,fun h0 b hb=> ?_,fun A a1 a2=> ?_⟩
   ·rcases List.mem_cons.1 hb with rfl|hb
    ·exact⟨htn,kt.1⟩
    ·exact n2 b hb
   ·rcases n4 b hb with h1|h1
    ·rw[k1,Bool.or_eq_true,decide_eq_true_eq]at h1
     rcases h1 with rfl|h1
     ·exact .inr (by simp)
     ·exact .inl h1
    ·exact .inr (by simp[h1])
   ·have hbt:b≠t:=fun x=>by rw[x,hg']at hb;cases hb
    have:=v.old b (by rw[k1,hb];simp)
    rw[k2,if_neg hbt]at this
    exact this
   ·rcases List.mem_cons.1 hx with rfl|hx
    ·exact kt
    ·exact v.at' x hx
   ·refine v.zero (fun b hb=> ?_) b hb
    rw[k1,Bool.or_eq_false_iff,decide_eq_false_iff_not]at hb
    rw[k2,if_neg hb.1]
    exact h0 b hb.2
   ·refine v.sub A (fun b hb=> ?_) (fun x hx=>a2 x (by simp[hx]))
    rw[k2]
    by_cases hbt:b=t
    ·subst hbt;rw[if_pos rfl];exact a2 b (by simp)
    ·rw[if_neg hbt]
     rw[k1,Bool.or_eq_true,decide_eq_true_eq]at hb
     exact a1 b (hb.resolve_left hbt)
theorem visit_none {n:Nat} {e:Int} {A:Nat→Option Int}:∀(ts w:List Nat) (s:List Bool) (o:List Int),visit e ts w s o=none→s.length=n→o.length=n→(∀t∈ts,t<n)→Sub s o A→(∀t∈ts,A t=some e)→False
 | [],w,s,o,h,_,_,_,_,_=>by cases h
 |t::ts,w,s,o,h,hs,ho,ht,a1,a2=>by
  have htn:=ht t (by simp)
  unfold visit at h
  by_cases hg:gB s t=true
  ·rw[if_pos hg]at h
   by_cases he:gI o t=e
   ·rw[if_pos he]at h
    exact visit_none ts w s o h hs ho (fun x hx=>ht x (by simp[hx])) a1 (fun x hx=>a2 x (by simp[hx]))
   ·have h1:=a1 t hg
    rw[a2 t (by simp)]at h1
    cases h1
    exact he rfl
  ·rw[if_neg hg]at h
   refine visit_none ts _ _ _ h (by simpa using hs) (by simpa using ho) (fun x hx=>ht x (by simp[hx])) (fun b hb=> ?_) (fun x hx=>a2 x (by simp[hx]))
   rw[gB_set (by omega),Bool.or_eq_true,decide_eq_true_eq]at hb
   rw[gI_set (by omega)]
   by_cases hbt:b=t
   ·subst hbt;rw[if_pos rfl];exact a2 b (by simp)
   ·rw[if_neg hbt];exact a1 b (hb.resolve_left hbt)
section
variable (fin:Nat→Int→Option Int) (succ:Nat→List Nat) (n:Nat)
def Cons (A:Nat→Option Int):Prop:=A 0=some 0∧∀b d,A b=some d→∃e,fin b d=some e∧∀t∈succ b,A t=some e
def asg (s:List Bool) (o:List Int):Nat→Option Int:=fun b=>if gB s b=true then some (gI o b)else none
def Good:Option (List Bool×List Int)→Prop
 |some (s,o)=>s.length=n∧o.length=n∧Cons fin succ (asg s o)∧(∀A,Cons fin succ A→Sub s o A)∧∀b,gB s b=false→gI o b=0
 |none=>∀A,¬Cons fin succ A
structure SInv (P:List Nat) (s:List Bool) (o:List Int):Prop where
 ls:s.length=n
 lo:o.length=n
 s0:gB s 0=true
 o0:gI o 0=0
 clo:∀b,gB s b=true→b∈P∨∃e,fin b (gI o b)=some e∧∀t∈succ b,gB s t=true∧gI o t=e
 pen:∀b∈P,b<n∧gB s b=true
 zero:∀b,gB s b=false→gI o b=0
 sub:∀A,Cons fin succ A→Sub s o A
theorem SInv.done {s:List Bool} {o:List Int} (h:SInv fin succ n [] s o):Good fin succ n (some (s,o)):=by
 refine⟨h.ls,h.lo,⟨by unfold asg;rw[if_pos h.s0,h.o0],fun b d hb=> ?_⟩,h.sub,h.zero⟩
 unfold asg at hb
 split at hb
 ·rename_i hs
  cases hb
  rcases h.clo b hs with h1|⟨e,h1,h2⟩
  ·cases h1
  ·exact⟨e,h1,fun t ht=>by unfold asg;rw[if_pos (h2 t ht).1,(h2 t ht).2]⟩
 ·cases hb
theorem SInv.bad {P:List Nat} {s:List Bool} {o:List Int} (h:SInv fin succ n P s o) {b:Nat} (hb:b∈P) (hf:fin b (gI o b)=none):Good fin succ n none:=fun A hA=>by
 obtain⟨e,he,_⟩:=hA.2 b _ (h.sub A hA b (h.pen b hb).2)
 rw[hf]at he;cases he
theorem SInv.bad2 {P:List Nat} {s:List Bool} {o:List Int} (h:SInv fin succ n P s o) {b:Nat} {e:Int} {w:List Nat} (hb:b∈P) (hf:fin b (gI o b)=some e) (ht:∀t∈succ b,t<n) (hv:visit e (succ b) w s o=none):Good fin succ n none:=fun A hA=>by
 obtain⟨e',he,h2⟩:=hA.2 b _ (h.sub A hA b (h.pen b hb).2)
 rw[hf]at he;cases he
 exact visit_none (succ b) w s o hv h.ls h.lo ht (h.sub A hA) h2
theorem SInv.step {P P':List Nat} {s s':List Bool} {o o':List Int} (h:SInv fin succ n P s o) {b:Nat} {e:Int} {w w':List Nat} (hb:b∈P) (hP:∀x∈P,x=b∨x∈P') (hP':∀x∈P',x∈P) (hf:fin b (gI o b)=some e) (ht:∀t∈succ b,t<n) (hv:visit e (succ b) w s o=some (w',s',o')):
 ∃ne,w'=w++ne∧ne.length+s'.count false=s.count false∧SInv fin succ n (P'++ne) s' o':=by
 have v:=visit_some (succ b) w s o hv h.ls h.lo ht
 obtain⟨ne,n1,n2,n3,n4⟩:=v.new
 refine⟨ne,n1,n3,⟨v.ls,v.lo,(v.old 0 h.s0).1,by rw[(v.old 0 h.s0).2,h.o0],fun x hx=> ?_,fun x hx=> ?_,v.zero h.zero,fun A hA=> ?_⟩⟩
 ·rcases n4 x hx with h1|h1
  ·have ov:=(v.old x h1).2
   rcases h.clo x h1 with h2|⟨e',h2,h3⟩
   ·rcases hP x h2 with rfl|h2
    ·exact .inr ⟨e,by rw[ov,hf],v.at'⟩
    ·exact .inl (by simp[h2])
   ·exact .inr ⟨e',by rw[ov,h2],fun t ht=>by have:=v.old t (h3 t ht).1;exact⟨this.1,by rw[this.2,(h3 t ht).2]⟩⟩
  ·exact .inl (by simp[h1])
 ·rcases List.mem_append.1 hx with hx|hx
  ·have:=h.pen x (hP' x hx);exact⟨this.1,(v.old x this.2).1⟩
  ·exact n2 x hx
 ·obtain⟨e',he,h2⟩:=hA.2 b _ (h.sub A hA b (h.pen b hb).2)
  rw[hf]at he;cases he
  exact v.sub A (h.sub A hA) h2
end
theorem SInv.start {fin:Nat→Int→Option Int} {succ:Nat→List Nat} {n:Nat} (hn:0<n):SInv fin succ n [0] ((List.replicate n false).set 0 true) (List.replicate n 0):=by
 have h1:∀b,gB ((List.replicate n false).set 0 true) b=decide (b=0):=fun b=>by
  rw[gB_set (by simpa using hn)]
  have:gB (List.replicate n false) b=false:=by
   unfold gB
   simp only[List.getD,List.getElem?_replicate]
   split<;>rfl
  rw[this,Bool.or_false]
 have h2:∀b,gI (List.replicate n 0) b=0:=fun b=>by
  unfold gI
  simp only[List.getD,List.getElem?_replicate]
  split<;>rfl
 refine⟨by simp,by simp,by rw[h1];rfl,h2 0,fun b hb=> ?_,fun b hb=> ?_,fun b _=>h2 b,fun A hA b hb=> ?_⟩
 ·rw[h1,decide_eq_true_eq]at hb;exact .inl (by simp[hb])
 ·simp only[List.mem_singleton]at hb;subst hb;exact⟨hn,by rw[h1];rfl⟩
 ·rw[h1,decide_eq_true_eq]at hb;subst hb;rw[h2];exact hA.1
end Go.Proofs.YtfdedgmlafelaaaGreatDoor
namespace Go.Proofs.YtfdedgmlafelaaaGreatDoor
set_option linter.unusedSimpArgs false
open Go Go.AM
theorem firstErr_zero {e:D→Int}:∀{xs:List D},firstErr e xs=0→∀x∈xs,e x=0
 | [],_,x,h=>by cases h
 |y::ys,h,x,hx=>by
  unfold firstErr at h
  by_cases hy:e y=0
  ·rw[if_pos hy]at h
   rcases List.mem_cons.1 hx with rfl|hx
   ·exact hy
   ·exact firstErr_zero h x hx
  ·rw[if_neg hy]at h;exact absurd h hy
theorem fErr_zero {e:Nat→Int}:∀{k i:Nat},fErr e i k=0→∀j,i≤j→j<i+k→e j=0
 |0,i,_,j,h1,h2=>by omega
 |k+1,i,h,j,h1,h2=>by
  unfold fErr at h
  by_cases hy:e i=0
  ·rw[if_pos hy]at h
   by_cases hj:j=i
   ·subst hj;exact hy
   ·exact fErr_zero h j (by omega) (by omega)
  ·rw[if_neg hy]at h;exact absurd h hy
theorem expr_ok {d:D} (hd:d.size≤lim) (h:eExpr d=0) (h3:3≤qint (qfld d 0)) (h15:qint (qfld d 0)≤15):(qfld d 4).toList.length=2:=by
 obtain⟨h1,h2⟩:=fuel2 d 64
 obtain⟨a,b⟩:=deep_spec (fuelL [d, .int 64]) d 64 hd h1 (by omega) (by omega)
 obtain⟨c,f1,f2⟩:=formed_eq (fuelL [d]) d hd h2
 have e2:=(expr_eq hd).2
 rw[h,F111_eq,q144_eq,q145_eq]at e2
 simp only[a,b,f1,f2,qsome_s,qnth_s,List.getD_cons_zero,qbool_b,qnot_c,cond_true]at e2
 cases c with
 |false=>cases hh:deepS (fuelL [d, .int 64]) d 64<;>simp[hh]at e2
 |true=>
  obtain⟨N,hN⟩:∃N,fuelL [d]=N+1:=⟨fuelL [d]-1,by have:=fuel_two [d];omega⟩
  rw[hN,F145_s,Fb145_eq]at f2
  generalize l145_2 (F145 N) [d] [.int 0]=L at f2
  have hl:qlen (qfld d 4)=((qfld d 4).toList.length:Int):=qlen_c _
  generalize qint (qfld d 0)=o at *
  simp only[qcmp_eql,qcmp_geq,qcmp_leq,qiteB_c,hl,show¬o=1 by omega,show¬o=2 by omega,show¬o=16 by omega,show¬o=17 by omega,show¬o=18 by omega,show¬o=19 by omega,h3,h15,decide_true,decide_false,cond_true,cond_false]at f2
  cases hL:qsome L with
  |false=>simp[hL]at f2
  |true=>
   simp only[hL,cond_true]at f2
   cases hz:decide (qint (qnth L 0)=0)with
   |false=>simp[hz]at f2
   |true=>
    simp only[hz,cond_true,Option.some.injEq,List.cons.injEq,D.bool.injEq,and_true]at f2
    revert f2
    cases decide (qint (qfld d 1)=0)<;>cases decide (qint (qfld d 2)=0)<;>cases decide (qint (qfld d 3)=0)<;>simp
    intro f2;omega
theorem stmt_ok {s:D} (hs:s.size≤lim) (h:eStmt s=0) (h1:qint (qfld s 0)=1):(qfld s 6).toList.length=1∧∀x∈(qfld s 6).toList,eExpr x=0:=by
 obtain⟨hl,hx⟩:=exprsOf s hs
 have e2:=(stmt_eq hs).2
 have hh:=errLoop (st:=st72_4 [s]) (l:=s.fld 6) (c:=fun x=>q111 [x]) (e:=eExpr) (fun i=>by rw[st72_4_eq,qfld_eq]) hl (fun x hm=>by rw[q111_eq];exact(expr_eq (hx x hm)).2)
 rw[h,F72_eq,l72_4_eq,q110_eq,F110_eq]at e2
 simp only[h1,hh,qcmp_eql,qcmp_neq,qcmp_lss,qcmp_gtr,qiteB_c,show¬(1:Int)<1 by omega,show¬(10:Int)<1 by omega,show¬(1:Int)=2 by omega,decide_true,decide_false,cond_true,cond_false,qsome_s,qnth_s,List.getD_cons_zero,qint_i,errOut_2]at e2
 by_cases hn:(qfld s 6).toList.length=1
 ·refine⟨hn,?_⟩
  have hn':qlen (qfld s 6)=1:=by rw[qlen_c,hn];rfl
  simp only[hn',decide_true,Bool.not_true,cond_false]at e2
  by_cases hf:firstErr eExpr (s.fld 6).toList=0
  ·rw[qfld_eq];exact firstErr_zero hf
  ·have hz:decide (qint (qnth (some (errOut (firstErr eExpr (s.fld 6).toList))) 0)=0)=false:=by rw[← qcmp_eql,errOut_0];simp[hf]
   have e0:qint ((errOut (firstErr eExpr (s.fld 6).toList)).getD 0 .other)=qint (qnth (some (errOut (firstErr eExpr (s.fld 6).toList))) 0):=by rw[qnth_s]
   have e1:qint ((errOut (firstErr eExpr (s.fld 6).toList)).getD 1 .other)=firstErr eExpr (s.fld 6).toList:=by rw[← qnth_s];exact errOut_1 hf
   rw[e0]at e2
   simp only[hz,cond_false,e1,Option.some.injEq,List.cons.injEq,D.int.injEq,and_true]at e2
   exact absurd e2 hf
 ·have hn':¬qlen (qfld s 6)=1:=by rw[qlen_c];omega
  simp[hn']at e2
theorem graph_ok {g:D} (hg:g.size≤lim) (h:eGraph g=0):(qfld g 1).toList.length≠0∧(qfld g 1).toList.length≤256∧
 (∀i,i<(qfld g 1).toList.length→badB (qlen (qfld g 1)) (qget (qfld g 1) i)=false)∧∀i,i<(qfld g 1).toList.length→∀s∈(qfld (qget (qfld g 1) i) 1).toList,eStmt s=0:=by
 obtain⟨hl,hx⟩:=blocksOf hg
 have e2:=(graph_eq hg hg).2
 have s2:=sumLoop (st:=st35_5 [g]) (l:=qfld g 1) (fun s i=>by rw[st35_5_eq]) hl
 have hr:=anyFor (st:=st35_13 [g]) (n:=(qfld g 1).toList.length) (p:=fun i=>badB (qlen (qfld g 1)) (qget (qfld g 1) i)) (r1:=fun _=>[.int 1]) (r0:=[.int 0]) hl
  (fun i hi=>by
   rw[st35_13_eq,show qcmp .lss (i:Int) (qlen (qfld g 1))=true by rw[qcmp_lss,qlen_c];simp;omega,qinb_n hi,closed_r (hx _ (get_mem hi))]
   simp only[cond_true,qsome_s,qnth_s,List.getD_cons_zero,qbool_b,qnot_c,Bool.not_not])
  (by rw[st35_13_eq,show qcmp .lss ((qfld g 1).toList.length:Int) (qlen (qfld g 1))=false by rw[qcmp_lss,qlen_c];simp];rfl)
 have e1:=errFor (st:=st35_18 [g]) (n:=(qfld g 1).toList.length) (e:=fun i=>eBlock (qget (qfld g 1) i)) hl
  (fun i hi=>by
   rw[st35_18_eq,show qcmp .lss (i:Int) (qlen (qfld g 1))=true by rw[qcmp_lss,qlen_c];simp;omega,block_r hi (hx _ (get_mem hi)),errOut_0]
   simp only[cond_true,qsome_s]
   by_cases he:eBlock (qget (qfld g 1) i)=0
   ·simp[he]
   ·simp[he,errOut_1 he])
  (by rw[st35_18_eq,show qcmp .lss ((qfld g 1).toList.length:Int) (qlen (qfld g 1))=false by rw[qcmp_lss,qlen_c];simp];rfl)
 rw[h,q35_eq,F35_eq,l35_5_eq,l35_13_eq,l35_18_eq]at e2
 simp only[s2,e1]at e2
 generalize hsm:sumK (qfld g 1).toList 0=sm at e2
 generalize hfe:fErr (fun i=>eBlock (qget (qfld g 1) i)) 0 (qfld g 1).toList.length=fe at e2
 simp only[qsome_s,qnth_s,List.getD_cons_zero,List.getD_cons_succ,qint_i,qbool_b,qnot_c,qcmp_gtr,qcmp_eql,qiteB_c,cond_true,qlen_c]at e2
 have hz:decide (qint ((errOut fe).getD 0 .other)=0)=decide (fe=0):=by rw[← qnth_s, ← qcmp_eql];exact errOut_0
 by_cases hmx:256<((qfld g 1).toList.length:Int)
 ·simp[hmx]at e2
 by_cases hs1:1024<sm
 ·simp[hmx,hs1]at e2
 by_cases h0:(qfld g 1).toList.length=0
 ·simp[hmx,hs1,h0]at e2
 have h0':¬((qfld g 1).toList.length:Int)=0:=by omega
 simp only[hmx,hs1,h0',decide_false,cond_false]at e2
 rcases hr with⟨h1,h2⟩|⟨i,hi,hpi,_,h1⟩
 ·simp only[h1,qsome_s,qnth_s,List.getD_cons_zero,qint_i,decide_true,cond_true,hz]at e2
  by_cases hf:fe=0
  ·refine⟨h0,by omega,h2,fun i hi=>firstErr_zero ?_⟩
   exact fErr_zero (hfe.trans hf) i (Nat.zero_le _) (by omega)
  ·have e3:qint ((errOut fe).getD 1 .other)=fe:=by rw[← qnth_s];exact errOut_1 hf
   simp only[hf,decide_false,cond_false,e3,Option.some.injEq,List.cons.injEq,D.int.injEq,and_true]at e2
 ·simp[h1,qsome_s,qnth_s,qint_i]at e2
end Go.Proofs.YtfdedgmlafelaaaGreatDoor
namespace Go.Proofs.YtfdedgmlafelaaaGreatDoor
set_option linter.unusedSimpArgs false
open Go Go.AM
theorem w32u (n:Int):qwrap .u32 n=n%4294967296:=by
 rw[qwrap_eq];show IntKind.wrap .u32 n=_
 unfold IntKind.wrap
 simp[IntKind.bits,IntKind.signed]
theorem w32 (n:Int):qwrap .i32 n=(n+2147483648)%4294967296-2147483648:=by
 rw[qwrap_eq];unfold IntKind.wrap
 simp[IntKind.bits,IntKind.signed]
 split<;>omega
theorem w64 (n:Int):qwrap .i64 n=(n+9223372036854775808)%18446744073709551616-9223372036854775808:=by
 rw[qwrap_eq];unfold IntKind.wrap
 simp[IntKind.bits,IntKind.signed]
 split<;>omega
theorem qiteI_c (c:Bool) (a b:Int):qiteI c a b=bif c then a else b:=by rw[qiteI_eq]
theorem add64' (a b:Int):qbin .add .i64 a b=(a+b+9223372036854775808)%18446744073709551616-9223372036854775808:=by
 rw[qbin_eq];show IntKind.wrap .i64 (a+b)=_
 rw[← w64,qwrap_eq]
theorem add32' (a b:Int):qbin .add .u32 a b=(a+b)%4294967296:=by
 rw[qbin_eq];show IntKind.wrap .u32 (a+b)=_
 rw[← w32u,qwrap_eq]
theorem sub32' (a b:Int):qbin .sub .u32 a b=(a-b)%4294967296:=by
 rw[qbin_eq];show IntKind.wrap .u32 (a-b)=_
 rw[← w32u,qwrap_eq]
theorem neg64' (a:Int):qun .neg .i64 a=(-a+9223372036854775808)%18446744073709551616-9223372036854775808:=by
 rw[qun_eq];show IntKind.wrap .i64 (0-a)=_
 rw[Int.zero_sub]
 rw[← w64,qwrap_eq]
def w (n:Int):Int:=(n+2147483648)%4294967296-2147483648
noncomputable def spV (e:D):Bool:=decide (qint (qfld e 0)=2)&&decide (qint (qfld e 2)=7)
theorem sp_p (e:D):q105 [e]=some [.bool (spV e)]:=by
 rw[q105_eq,F105_eq];simp only[qcmp_eql,qiteB_c,spV];cases decide (qint (qfld e 0)=2)<;>rfl
theorem sp_r (e:D):q52 [e]=some [.bool (spV e)]:=by
 rw[q52_eq,F52_eq];simp only[qcmp_eql,qiteB_c,spV];cases decide (qint (qfld e 0)=2)<;>rfl
theorem wrap_p (n:Int):q64 [.int n]=some [.int (w n)]:=by
 rw[q64_eq,F64_eq,w64,w32,w32u]
 congr 3
 unfold w;omega
noncomputable def isSt (e:D):Bool:=spV e||((decide (qint (qfld e 0)=3)||decide (qint (qfld e 0)=4))&&(spV (qget (qfld e 4) 0)&&decide (qint (qfld (qget (qfld e 4) 1) 0)=1)))
noncomputable def stN (e:D):Int:=
 if spV e=true then 0 else if isSt e=true then(if qint (qfld e 0)=4 then w (- qint (qfld (qget (qfld e 4) 1) 1))else w (qint (qfld (qget (qfld e 4) 1) 1)))else 0
theorem st_p {e:D} (he:3≤qint (qfld e 0)→qint (qfld e 0)≤15→(qfld e 4).toList.length=2):q62 [e]=some [.int (stN e), .bool (isSt e)]:=by
 rw[q62_eq,F62_eq,sp_p]
 simp only[qsome_s,qnth_s,List.getD_cons_zero,qbool_b,cond_true,sp_p,wrap_p,qint_i,qcmp_eql,qcmp_neq,qiteB_c,qnot_c]
 have hw:w (qun .neg .i64 (qwrap .i64 (qint (qfld (qget (qfld e 4) 1) 1))))=w (- qint (qfld (qget (qfld e 4) 1) 1)):=by rw[neg64',w64];unfold w;omega
 have hw':w (qwrap .i64 (qint (qfld (qget (qfld e 4) 1) 1)))=w (qint (qfld (qget (qfld e 4) 1) 1)):=by rw[w64];unfold w;omega
 rw[hw,hw']
 unfold stN isSt
 cases h0:spV e with
 |true=>simp
 |false=>
  by_cases h34:qint (qfld e 0)=3∨qint (qfld e 0)=4
  ·have hl:=he (by omega) (by omega)
   have i0:qinb (qfld e 4) 0=true:=qinb_n (i:=0) (by omega)
   have i1:qinb (qfld e 4) 1=true:=qinb_n (i:=1) (by omega)
   rcases h34 with h|h<;>simp only[h,i0,i1,qand_c]<;>cases spV (qget (qfld e 4) 0)<;>cases h1:decide (qint (qfld (qget (qfld e 4) 1) 0)=1)<;>simp
  ·have h3:¬qint (qfld e 0)=3:=fun h=>h34 (.inl h)
   have h4:¬qint (qfld e 0)=4:=fun h=>h34 (.inr h)
   simp[h3,h4]
theorem st_r {e:D} (he:3≤qint (qfld e 0)→qint (qfld e 0)≤15→(qfld e 4).toList.length=2):q21 [e]=some [.int (stN e), .bool (isSt e)]:=by
 rw[q21_eq,F21_eq,sp_r]
 simp only[qsome_s,qnth_s,List.getD_cons_zero,qbool_b,cond_true,sp_r,qint_i,qcmp_eql,qcmp_neq,qiteB_c,qiteI_c,qnot_c]
 have hw:∀n,qwrap .i64 (qwrap .i32 n)=w n:=fun n=>by rw[w64,w32];unfold w;omega
 have hs:w (qbin .sub .u32 0 (qint (qfld (qget (qfld e 4) 1) 1)))=w (- qint (qfld (qget (qfld e 4) 1) 1)):=by rw[sub32'];unfold w;omega
 unfold stN isSt
 cases h0:spV e with
 |true=>simp
 |false=>
  by_cases h34:qint (qfld e 0)=3∨qint (qfld e 0)=4
  ·have hl:=he (by omega) (by omega)
   have i0:qinb (qfld e 4) 0=true:=qinb_n (i:=0) (by omega)
   have i1:qinb (qfld e 4) 1=true:=qinb_n (i:=1) (by omega)
   rcases h34 with h|h<;>simp only[h,i0,i1,qand_c]<;>cases spV (qget (qfld e 4) 0)<;>cases h1:decide (qint (qfld (qget (qfld e 4) 1) 0)=1)<;>simp[hw,hs,qiteI_c]
  ·have h3:¬qint (qfld e 0)=3:=fun h=>h34 (.inl h)
   have h4:¬qint (qfld e 0)=4:=fun h=>h34 (.inr h)
   simp[h3,h4]
def StOk (s:D):Prop:=qint (qfld s 0)=1→(qfld s 6).toList.length=1∧∀x∈(qfld s 6).toList,3≤qint (qfld x 0)→qint (qfld x 0)≤15→(qfld x 4).toList.length=2
theorem stok {s:D} (hs:s.size≤lim) (h:eStmt s=0):StOk s:=fun h1=>by
 obtain⟨l,e⟩:=stmt_ok hs h h1
 obtain⟨_,hx⟩:=exprsOf s hs
 exact⟨l,fun x hm=>expr_ok (hx x (by rw[qfld_eq]at hm;exact hm)) (e x hm)⟩
noncomputable def aft (s:D) (d:Int):Option Int:=
 if qint (qfld s 0)=5 then some (w (d+4))else if qint (qfld s 0)=3∧qint (qfld s 1)=7 then none else
 if qint (qfld s 0)=1∧qint (qfld s 1)=7 then(if isSt (qget (qfld s 6) 0)=true then some (w (d+stN (qget (qfld s 6) 0)))else none)else some d
def Ans (r:Option (List D)) (a:Option Int):Prop:=∃x b,r=some [.int x, .bool b]∧a=if b=true then some x else none
theorem aft_p {s:D} (hs:StOk s) (d:Int):Ans (q30 [s, .int d]) (aft s d):=by
 rw[q30_eq,F30_eq]
 have hw:∀n,w (qbin .add .i64 d n)=w (d+n):=fun n=>by rw[add64'];unfold w;omega
 simp only[wrap_p,hw,qsome_s,qnth_s,List.getD_cons_zero,List.getD_cons_succ,qint_i,qbool_b,qcmp_eql,qiteB_c,cond_true]
 unfold aft
 by_cases h5:qint (qfld s 0)=5
 ·simp only[h5,decide_true,cond_true,if_true];exact⟨_,true,rfl,rfl⟩
 by_cases h3:qint (qfld s 0)=3∧qint (qfld s 1)=7
 ·simp only[h3.1,h3.2,decide_true,cond_true,and_self,if_true,show¬(3:Int)=5 by omega,decide_false,cond_false,if_false];exact⟨_,false,rfl,rfl⟩
 have h3':(bif decide (qint (qfld s 0)=3)then decide (qint (qfld s 1)=7)else false)=false:=by
  cases h:decide (qint (qfld s 0)=3)<;>simp_all
 simp only[h5,h3,h3',decide_false,cond_false,if_false]
 by_cases h1:qint (qfld s 0)=1∧qint (qfld s 1)=7
 ·obtain⟨hl,hx⟩:=hs h1.1
  have i0:qinb (qfld s 6) 0=true:=qinb_n (i:=0) (by omega)
  have hm:qget (qfld s 6) 0∈(qfld s 6).toList:=get_mem (i:=0) (by omega)
  simp only[h1.1,h1.2,decide_true,cond_true,and_self,if_true,i0,st_p (hx _ hm),qsome_s,qnth_s,List.getD_cons_zero,List.getD_cons_succ,qint_i,qbool_b]
  exact⟨_,_,rfl,rfl⟩
 have h1':(bif decide (qint (qfld s 0)=1)then decide (qint (qfld s 1)=7)else false)=false:=by
  cases h:decide (qint (qfld s 0)=1)<;>simp_all
 simp only[h1,h1',cond_false,if_false]
 exact⟨_,true,rfl,rfl⟩
noncomputable def acr:List D→Int→Option Int
 | [],d=>some d
 |s::ss,d=>match aft s d with
  |some e=>acr ss e
  |none=>none
noncomputable def acrOut:Option Int→List D
 |some e=>[.int 0, .int e]
 |none=>[.int 1]
theorem acrLoop {st:List D→Option (Sum (List D) (List D))} {l:D} {c:D→Int→Option (List D)} (hl:l.toList.length≤maxLen) (hc:∀x∈l.toList,∀d,Ans (c x d) (aft x d))
 (hst:∀(d:Int) (i:Nat),i<l.toList.length→st [.int d, .int i]=bif qsome (c (qget l i) d)then bif qnot (qbool (qnth (c (qget l i) d) 1))then some (.inr [.int 1])else some (.inl [.int (qint (qnth (c (qget l i) d) 0)), .int (qbin .add .i64 i 1)])else none)
 (h0:∀d:Int,st [.int d, .int l.toList.length]=some (.inr [.int 0, .int d])) (d:Int):loW st [.int d, .int 0]=some (acrOut (acr l.toList d)):=by
 unfold maxLen at hl
 have key:∀k i:Nat,∀d:Int,i+k=l.toList.length→loW st [.int d, .int i]=some (acrOut (acr (l.toList.drop i) d)):=by
  intro k
  induction k with
  |zero=>
   intro i d hi
   obtain rfl:i=l.toList.length:=by omega
   rw[loW_eq,h0,List.drop_of_length_le (Nat.le_refl _)];rfl
  |succ k ih=>
   intro i d hi
   have hlt:i<l.toList.length:=by omega
   have hg:qget l i=l.toList[i]:=by rw[qget_n,getD_lt hlt]
   obtain⟨x,b,h1,h2⟩:=hc (qget l i) (get_mem hlt) d
   rw[loW_eq,hst d i hlt,h1,List.drop_eq_getElem_cons hlt]
   simp only[acr]
   rw[← hg,h2]
   cases b with
   |false=>simp[qsome_s,qnth_s,qbool_b,qnot_c,acrOut]
   |true=>
    simp only[qsome_s,qnth_s,List.getD_cons_zero,List.getD_cons_succ,qbool_b,qnot_c,Bool.not_true,cond_true,cond_false,qint_i,if_true]
    rw[add_nat (by omega)]
    exact ih (i+1) x (by omega)
 exact key l.toList.length 0 d (by omega)
def BlOk (b:D):Prop:=(qfld b 1).toList.length≤maxLen∧∀s∈(qfld b 1).toList,StOk s
theorem acr_p {b:D} (hb:BlOk b) (d:Int):Ans (q61 [b, .int d]) (acr (qfld b 1).toList d):=by
 have h:=acrLoop (st:=st61_2 [qfld b 1, .int (qlen (qfld b 1))]) (l:=qfld b 1) (c:=fun x d=>q30 [x, .int d]) hb.1 (fun x hx d=>aft_p (hb.2 x hx) d)
  (fun d i hi=>by rw[st61_2_eq,show qcmp .lss (i:Int) (qlen (qfld b 1))=true by rw[qcmp_lss,qlen_c];simp;omega,qinb_n hi];rfl)
  (fun d=>by rw[st61_2_eq,show qcmp .lss ((qfld b 1).toList.length:Int) (qlen (qfld b 1))=false by rw[qcmp_lss,qlen_c];simp];rfl) d
 have h':l61_2 [qfld b 1, .int (qlen (qfld b 1))] [.int d, .int 0]=some (acrOut (acr (qfld b 1).toList d)):=by rw[l61_2_eq];exact h
 rw[q61_eq,F61_eq,h']
 cases acr (qfld b 1).toList d with
 |some e=>exact⟨e,true,by simp[acrOut,qsome_s,qnth_s,qint_i,qcmp_eql],rfl⟩
 |none=>exact⟨0,false,by simp[acrOut,qsome_s,qnth_s,qint_i,qcmp_eql],rfl⟩
end Go.Proofs.YtfdedgmlafelaaaGreatDoor
namespace Go.Proofs.YtfdedgmlafelaaaGreatDoor
set_option linter.unusedSimpArgs false
open Go Go.AM
def dI (l:List Int):D:= .list (l.map .int)
def dB (l:List Bool):D:= .list (l.map .bool)
def dN (l:List Nat):D:= .list (l.map fun n:Nat=> .int (n:Int))
theorem len_I (l:List Int):qlen (dI l)=(l.length:Int):=by rw[qlen_c];simp[dI,D.toList]
theorem len_B (l:List Bool):qlen (dB l)=(l.length:Int):=by rw[qlen_c];simp[dB,D.toList]
theorem len_N (l:List Nat):qlen (dN l)=(l.length:Int):=by rw[qlen_c];simp[dN,D.toList]
theorem inb_I {l:List Int} {i:Nat} (h:i<l.length):qinb (dI l) (i:Int)=true:=qinb_n (by simpa[dI,D.toList]using h)
theorem inb_B {l:List Bool} {i:Nat} (h:i<l.length):qinb (dB l) (i:Int)=true:=qinb_n (by simpa[dB,D.toList]using h)
theorem inb_N {l:List Nat} {i:Nat} (h:i<l.length):qinb (dN l) (i:Int)=true:=qinb_n (by simpa[dN,D.toList]using h)
theorem get_I (l:List Int) (i:Nat):qint (qget (dI l) (i:Int))=gI l i:=by
 rw[qget_n,qint_eq];unfold gI dI
 simp only[D.toList,List.getD,List.getElem?_map]
 cases l[i]? <;>rfl
theorem get_B (l:List Bool) (i:Nat):qbool (qget (dB l) (i:Int))=gB l i:=by
 rw[qget_n,qbool_eq];unfold gB dB
 simp only[D.toList,List.getD,List.getElem?_map]
 cases l[i]? <;>rfl
theorem get_N {l:List Nat} {i:Nat} (h:i<l.length):qint (qget (dN l) (i:Int))=(l[i]:Int):=by
 rw[qget_n,qint_eq];unfold dN
 simp only[D.toList,List.getD,List.getElem?_map,List.getElem?_eq_getElem h]
 rfl
theorem set_I (l:List Int) (t:Nat) (e:Int):qset (dI l) (t:Int) (.int e)=dI (l.set t e):=by
 rw[qset_eq];unfold dI;simp[D.upd,D.toList,List.map_set]
theorem set_B (l:List Bool) (t:Nat) (e:Bool):qset (dB l) (t:Int) (.bool e)=dB (l.set t e):=by
 rw[qset_eq];unfold dB;simp[D.upd,D.toList,List.map_set]
theorem app_N (l:List Nat) (t:Nat):qapp (dN l) (.list [.int (t:Int)])=dN (l ++ [t]):=by
 rw[qapp_eq];unfold dN;simp[D.app,D.toList]
theorem sub_l (xs:List D) (m:Nat) (h:xs.length≤m):qsub (.list xs) 0 (m:Int) = .list xs:=by
 rw[qsub_eq];simp[D.sub,D.toList,List.take_of_length_le h]
theorem sub_I {l:List Int} {m:Nat} (h:l.length≤m):qsub (dI l) 0 (m:Int)=dI l:=sub_l _ _ (by simpa using h)
theorem sub_B {l:List Bool} {m:Nat} (h:l.length≤m):qsub (dB l) 0 (m:Int)=dB l:=sub_l _ _ (by simpa using h)
theorem sub_N {l:List Nat} {m:Nat} (h:l.length≤m):qsub (dN l) 0 (m:Int)=dN l:=sub_l _ _ (by simpa using h)
theorem cut_N (l:List Nat) (m:Nat):qsub (dN l) 0 (m:Int)=dN (l.take m):=by
 rw[qsub_eq];unfold dN;simp[D.sub,D.toList,List.map_take]
def nat (x:D):Nat:=x.toInt.toNat
noncomputable def visOut:Option (List Nat×List Bool×List Int)→List D
 |some (w,s,o)=>[.int 0,dN w,dB s,dI o]
 |none=>[.int 1]
structure Tg (n:Nat) (X:D):Prop where
 len:X.toList.length≤maxLen
 rng:∀x∈X.toList,0≤qint x∧qint x<n
theorem Tg.get {n:Nat} {X:D} (h:Tg n X) {i:Nat} (hi:i<X.toList.length):qint (qget X (i:Int))=(nat X.toList[i]:Int)∧nat X.toList[i]<n:=by
 have hm:=h.rng _ (List.getElem_mem hi)
 rw[qint_eq]at hm
 have e:qget X (i:Int)=X.toList[i]:=by rw[qget_n,getD_lt hi]
 rw[e,qint_eq]
 unfold nat
 omega
theorem mem_ok {n:Nat} (h:n≤100000):qmem (n:Int) 8=true:=qmem_ok h (by omega)
theorem step_p {g X:D} {e:Int} {n:Nat} (hn:n≤256) (hX:Tg n X) {i:Nat} (hi:i<X.toList.length) {w:List Nat} {s:List Bool} {o:List Int} (hs:s.length=n) (ho:o.length=n) (hw:w.length≤256):
 st28_11 [.int e,X, .int (qlen X),g] [.int i,dN w,dB s,dI o]=if gB s (nat X.toList[i])=true then(if gI o (nat X.toList[i])=e then some (.inl [.int ((i+1:Nat):Int),dN w,dB s,dI o])else some (.inr [.int 1]))
  else some (.inl [.int ((i+1:Nat):Int),dN (w ++ [nat X.toList[i]]),dB (s.set (nat X.toList[i]) true),dI (o.set (nat X.toList[i]) e)]):=by
 obtain⟨ht,hr⟩:=hX.get hi
 have hlen:=hX.len
 unfold maxLen at hlen
 generalize nat X.toList[i]=t at *
 have c0:qcmp .lss (i:Int) (qlen X)=true:=by rw[qcmp_lss,qlen_c];simp;omega
 have c1:qcmp .leq 0 (t:Int)=true:=by rw[qcmp_leq];simp
 have c2:qcmp .lss (t:Int) (qlen (dB s))=true:=by rw[qcmp_lss,len_B];simp;omega
 have c3:qcmp .lss (t:Int) (qlen (dI o))=true:=by rw[qcmp_lss,len_I];simp;omega
 have c4:qsub (qset (dI o) (t:Int) (.int e)) 0 (qlen (dI o))=dI (o.set t e):=by rw[set_I,len_I];exact sub_I (by simp)
 have c5:qsub (qset (dB s) (t:Int) (.bool true)) 0 (qlen (dB s))=dB (s.set t true):=by rw[set_B,len_B];exact sub_B (by simp)
 have c6:qsub (dN (w ++ [t])) 0 (qlen (dN (w ++ [t])))=dN (w ++ [t]):=by rw[len_N];exact sub_N (Nat.le_refl _)
 have c7:qsub (dN w) 0 (qlen (dN w))=dN w:=by rw[len_N];exact sub_N (Nat.le_refl _)
 have c8:qsub (dI o) 0 (qlen (dI o))=dI o:=by rw[len_I];exact sub_I (Nat.le_refl _)
 have c9:qsub (dB s) 0 (qlen (dB s))=dB s:=by rw[len_B];exact sub_B (Nat.le_refl _)
 have d1:qcmp .eql (qlen (dI o)) (qlen (dI (o.set t e)))=true:=by rw[qcmp_eql,len_I,len_I];simp
 have d2:qcmp .eql (qlen (dB s)) (qlen (dB (s.set t true)))=true:=by rw[qcmp_eql,len_B,len_B];simp
 have d3:qmem (qlen (dN (w ++ [t]))) 8=true:=by rw[len_N];exact mem_ok (by simp;omega)
 have i1:qinb (dB s) (t:Int)=true:=inb_B (by omega)
 have i2:qinb (dI o) (t:Int)=true:=inb_I (by omega)
 have a1:qbin .add .i64 (i:Int) 1=((i+1:Nat):Int):=add_nat (by omega)
 rw[st28_11_eq]
 simp only[ht,c0,c1,c2,c3,qinb_n hi,i1,i2,get_B,get_I,app_N,c4,c5,c6,c7,c8,c9,d1,d2,d3,qeqI_self,qand_c,qiteB_c,qnot_c,qcmp_neq,a1,cond_true,Bool.and_true,Bool.cond_self]
 cases gB s t with
 |true=>
  simp only[cond_true,if_true,Bool.not_true,cond_false]
  by_cases he:gI o t=e
  ·simp[he]
  ·simp[he]
 |false=>simp
theorem visit_p {g X:D} {e:Int} {n:Nat} (hn:n≤256) (hX:Tg n X):∀(k i:Nat) (w:List Nat) (s:List Bool) (o:List Int),i+k=X.toList.length→s.length=n→o.length=n→w.length+s.count false≤256→
 loW (st28_11 [.int e,X, .int (qlen X),g]) [.int i,dN w,dB s,dI o]=some (visOut (visit e ((X.toList.drop i).map nat) w s o))
 |0,i,w,s,o,hi,_,_,_=>by
  have c0:qcmp .lss (i:Int) (qlen X)=false:=by rw[qcmp_lss,qlen_c];simp;omega
  rw[loW_eq,st28_11_eq,c0,List.drop_of_length_le (by omega)];rfl
 |k+1,i,w,s,o,hi,hs,ho,hw=>by
  have hlt:i<X.toList.length:=by omega
  rw[loW_eq,step_p hn hX hlt hs ho (by omega),List.drop_eq_getElem_cons hlt]
  obtain⟨_,hr⟩:=hX.get hlt
  simp only[List.map_cons]
  unfold visit
  generalize nat X.toList[i]=t at *
  by_cases hg:gB s t=true
  ·simp only[hg,if_true]
   by_cases he:gI o t=e
   ·simp only[he,if_true]
    exact visit_p hn hX k (i+1) w s o (by omega) hs ho hw
   ·simp only[he,if_false];rfl
  ·simp only[hg,if_false]
   have:=cnt_set s t (by simpa using hg) (by omega)
   exact visit_p hn hX k (i+1) _ _ _ (by omega) (by simpa using hs) (by simpa using ho) (by simp only[List.length_append,List.length_cons,List.length_nil];omega)
end Go.Proofs.YtfdedgmlafelaaaGreatDoor
namespace Go.Proofs.YtfdedgmlafelaaaGreatDoor
set_option linter.unusedSimpArgs false
open Go Go.AM
noncomputable def blk (g:D) (b:Nat):D:=qget (qfld g 1) (b:Int)
noncomputable def finG (g:D) (b:Nat) (d:Int):Option Int:=acr (qfld (blk g b) 1).toList d
noncomputable def sucG (g:D) (b:Nat):List Nat:=(tgts (lastS (blk g b))).map nat
structure Gok (g:D) (n:Nat):Prop where
 n0:0<n
 n256:n≤256
 len:(qfld g 1).toList.length=n
 bl:∀b,b<n→BlOk (blk g b)
 tp:∀b,b<n→∃X,q22 [blk g b]=some [X]∧Tg n X∧X.toList.map nat=sucG g b
 tr:∀b,b<n→∃X,q48 [blk g b]=some [X]∧Tg n X∧X.toList.map nat=sucG g b
theorem Gok.suc {g:D} {n b:Nat} (G:Gok g n) (hb:b<n):∀t∈sucG g b,t<n:=fun t ht=>by
 obtain⟨X,_,hX,e⟩:=G.tr b hb
 rw[← e]at ht
 obtain⟨x,hx,rfl⟩:=List.mem_map.1 ht
 have:=hX.rng x hx
 rw[qint_eq]at this
 unfold nat;omega
theorem dfs_step {g:D} {n:Nat} (G:Gok g n) {b:Nat} {w:List Nat} {s:List Bool} {o:List Int} (hb:b<n) (hs:s.length=n) (ho:o.length=n) (hw:w.length+1+s.count false≤256):
 st28_4 [g] [dN (w ++ [b]),dB s,dI o]=match finG g b (gI o b)with
  |none=>some (.inr [.int 1])
  |some e=>match visit e (sucG g b) w s o with
   |none=>some (.inr [.int 1])
   |some (w2,s2,o2)=>some (.inl [dN w2,dB s2,dI o2]):=by
 have hl:qlen (dN (w ++ [b]))=((w.length+1:Nat):Int):=by rw[len_N];simp
 have c0:qcmp .gtr ((w.length+1:Nat):Int) 0=true:=by rw[qcmp_gtr,decide_eq_true_eq];omega
 have m:qbin .sub .i64 ((w.length+1:Nat):Int) 1=(w.length:Int):=by rw[sub64 (by omega) (by omega)];omega
 have c1:qcmp .leq 0 (w.length:Int)=true:=by rw[qcmp_leq];simp
 have c2:qcmp .lss (w.length:Int) ((w.length+1:Nat):Int)=true:=by rw[qcmp_lss];simp;omega
 have c3:qcmp .leq (w.length:Int) ((w.length+1:Nat):Int)=true:=by rw[qcmp_leq];simp;omega
 have i0:qinb (dN (w ++ [b])) (w.length:Int)=true:=inb_N (by simp)
 have gb:qint (qget (dN (w ++ [b])) (w.length:Int))=(b:Int):=by rw[get_N (by simp)];simp
 have i1:qinb (qfld g 1) (b:Int)=true:=qinb_n (by rw[G.len];exact hb)
 have c4:qcmp .leq 0 (b:Int)=true:=by rw[qcmp_leq];simp
 have c5:qcmp .lss (b:Int) (qlen (dI o))=true:=by rw[qcmp_lss,len_I];simp;omega
 have i2:qinb (dI o) (b:Int)=true:=inb_I (by omega)
 obtain⟨x,bb,h1,h2⟩:=acr_p (G.bl b hb) (gI o b)
 obtain⟨X,hX1,hX2,hX3⟩:=G.tp b hb
 have c7:qsub (dN (w ++ [b])) 0 (w.length:Int)=dN w:=by rw[cut_N];simp
 have c8:∀o:List Int,qsub (dI o) 0 (qlen (dI o))=dI o:=fun o=>by rw[len_I];exact sub_I (Nat.le_refl _)
 have c9:∀s:List Bool,qsub (dB s) 0 (qlen (dB s))=dB s:=fun s=>by rw[len_B];exact sub_B (Nat.le_refl _)
 have c10:∀s:List Nat,qsub (dN s) 0 (qlen (dN s))=dN s:=fun s=>by rw[len_N];exact sub_N (Nat.le_refl _)
 have d1:qcmp .eql (w.length:Int) (qlen (dN w))=true:=by rw[qcmp_eql,len_N];simp
 have hv:l28_11 [.int x,X, .int (qlen X),g] [.int 0,dN w,dB s,dI o]=some (visOut (visit x (sucG g b) w s o)):=by
  have:=visit_p (g:=g) (e:=x) G.n256 hX2 X.toList.length 0 w s o (by omega) hs ho (by omega)
  rw[List.drop_zero,hX3]at this
  rw[l28_11_eq];exact this
 have hf:finG g b (gI o b)=if bb=true then some x else none:=h2
 rw[hf,st28_4_eq]
 change q61 [qget (qfld g 1) (b:Int),_]=_ at h1
 change q22 [qget (qfld g 1) (b:Int)]=_ at hX1
 simp only[hl,c0,m,c1,c2,c3,i0,gb,i1,c4,c5,i2,get_I,h1,hX1,qsome_s,qnth_s,List.getD_cons_zero,List.getD_cons_succ,qbool_b,qint_i,qnot_c,c7,c8,c9,qeqI_self,d1,hv,cond_true]
 cases bb with
 |false=>simp
 |true=>
  simp only[Bool.not_true,cond_false,if_true]
  cases visit x (sucG g b) w s o with
  |none=>simp[visOut,qcmp_eql,qint_i]
  |some r=>
   obtain⟨w2,s2,o2⟩:=r
   simp[visOut,qcmp_eql,qint_i,c8,c9,c10]
noncomputable def dfsOut:Option (List Bool×List Int)→List D
 |some (_,o)=>[.int 0,dI o]
 |none=>[.int 1]
theorem dfs {g:D} {n:Nat} (G:Gok g n):∀(m:Nat) (w:List Nat) (s:List Bool) (o:List Int),2*s.count false+w.length≤m→SInv (finG g) (sucG g) n w s o→w.length+s.count false≤n→
 ∃r,Good (finG g) (sucG g) n r∧loW (st28_4 [g]) [dN w,dB s,dI o]=some (dfsOut r):=by
 intro m
 induction m with
 |zero=>
  intro w s o hm inv _
  obtain rfl:w = []:=List.length_eq_zero_iff.1 (by omega)
  refine⟨some (s,o),inv.done,?_⟩
  have c0:qcmp .gtr (qlen (dN [])) 0=false:=by rw[qcmp_gtr,len_N];rfl
  rw[loW_eq,st28_4_eq,c0];rfl
 |succ m ih=>
  intro w s o hm inv hc
  rcases List.eq_nil_or_concat w with rfl|⟨w',b,rfl⟩
  ·refine⟨some (s,o),inv.done,?_⟩
   have c0:qcmp .gtr (qlen (dN [])) 0=false:=by rw[qcmp_gtr,len_N];rfl
   rw[loW_eq,st28_4_eq,c0];rfl
  ·simp only[List.concat_eq_append]at *
   have hb:=inv.pen b (by simp)
   simp only[List.length_append,List.length_cons,List.length_nil]at hm hc
   have h256:=G.n256
   rw[loW_eq,dfs_step G hb.1 inv.ls inv.lo (by omega)]
   cases hf:finG g b (gI o b)with
   |none=>exact⟨none,inv.bad _ _ _ (by simp) hf,rfl⟩
   |some e=>
    simp only
    cases hv:visit e (sucG g b) w' s o with
    |none=>exact⟨none,inv.bad2 _ _ _ (by simp) hf (G.suc hb.1) hv,rfl⟩
    |some r=>
     obtain⟨w2,s2,o2⟩:=r
     obtain⟨ne,h1,h2,h3⟩:=inv.step (P':=w') _ _ _ (b:=b) (by simp) (fun x hx=>by simpa[or_comm]using hx) (fun x hx=>by simp[hx]) hf (G.suc hb.1) hv
     subst h1
     simp only
     exact ih _ _ _ (by simp only[List.length_append];omega) h3 (by simp only[List.length_append];omega)
noncomputable def dOut:Option (List Bool×List Int)→List D
 |some (_,o)=>[dI o, .bool true]
 |none=>[.list [], .bool false]
theorem start_cnt {n:Nat} (hn:0<n):((List.replicate n false).set 0 true).count false+1=n:=by
 have:=cnt_set (List.replicate n false) 0 (by unfold gB;simp only[List.getD,List.getElem?_replicate];split<;>rfl) (by simpa using hn)
 rw[this];simp
theorem rep_B (n:Nat):qrep (n:Int) (.bool false)=dB (List.replicate n false):=by rw[qrep_eq];unfold dB;simp
theorem rep_I (n:Nat):qrep (n:Int) (.int 0)=dI (List.replicate n 0):=by rw[qrep_eq];unfold dI;simp
theorem q28_good {g:D} {n:Nat} (G:Gok g n):∃r,Good (finG g) (sucG g) n r∧q28 [g]=some (dOut r):=by
 have hn:=G.n0
 have h256:=G.n256
 have hc:=start_cnt hn
 obtain⟨r,hr,h⟩:=dfs G (2*n) [0] _ _ (by simp only[List.length_cons,List.length_nil];omega) (SInv.start hn) (by simp only[List.length_cons,List.length_nil];omega)
 refine⟨r,hr,?_⟩
 have h':l28_4 [g] [dN [0],dB ((List.replicate n false).set 0 true),dI (List.replicate n 0)]=some (dfsOut r):=by rw[l28_4_eq];exact h
 have hl:qlen (qfld g 1)=(n:Int):=by rw[qlen_c,G.len]
 have c1:qcmp .leq 0 (n:Int)=true:=by rw[qcmp_leq];simp
 have c2:qcmp .leq (n:Int) (n:Int)=true:=by rw[qcmp_leq];simp
 have c3:qmem (n:Int) 8=true:=qmem_ok (by omega) (by omega)
 have c4:qmem (n:Int) 1=true:=qmem_ok (by omega) (by omega)
 have c5:qcmp .leq 0 (0:Int)=true:=by rw[qcmp_leq];rfl
 have c6:qcmp .lss 0 (n:Int)=true:=by rw[qcmp_lss];simp;omega
 have i1:qinb (dB (List.replicate n false)) 0=true:=inb_B (i:=0) (by simpa using hn)
 have s1:qset (dB (List.replicate n false)) 0 (.bool true)=dB ((List.replicate n false).set 0 true):=set_B _ 0 _
 have s2:qsub (dB ((List.replicate n false).set 0 true)) 0 (n:Int)=dB ((List.replicate n false).set 0 true):=sub_B (by simp)
 have s3:qsub (dI (List.replicate n 0)) 0 (n:Int)=dI (List.replicate n 0):=sub_I (by simp)
 have e1:qcmp .eql (n:Int) (qlen (dI (List.replicate n 0)))=true:=by rw[qcmp_eql,len_I];simp
 have e2:qcmp .eql (n:Int) (qlen (dB ((List.replicate n false).set 0 true)))=true:=by rw[qcmp_eql,len_B];simp
 have n0:D.list [.int 0]=dN [0]:=rfl
 rw[q28_eq,F28_eq]
 simp only[hl,c1,c2,c3,c4,c5,c6,rep_B,rep_I,i1,s1,s2,s3,e1,e2,n0,h',qsome_s,qnth_s,cond_true]
 cases r with
 |none=>simp[dfsOut,dOut,qint_i,qcmp_eql]
 |some p=>obtain⟨s,o⟩:=p;simp[dfsOut,dOut,qint_i,qcmp_eql]
end Go.Proofs.YtfdedgmlafelaaaGreatDoor
namespace Go.Proofs.YtfdedgmlafelaaaGreatDoor
set_option linter.unusedSimpArgs false
open Go Go.AM
theorem bad_no {n:Int} {b:D} (h:badB n b=false):(qfld b 1).toList.length≠0∧∀x∈tgts (lastS b),0≤qint x∧qint x<n:=by
 unfold badB at h
 simp only[Bool.or_eq_false_iff,decide_eq_false_iff_not]at h
 obtain⟨h1,⟨_,_⟩,h2⟩:=h
 refine⟨h1,fun x hx=> ?_⟩
 have:=List.any_eq_false.1 h2 x hx
 unfold outside at this
 simp only[Bool.or_eq_true,decide_eq_true_eq,not_or]at this
 omega
theorem gok {g:D} (hg:g.size≤lim) (h:eGraph g=0):Gok g (qfld g 1).toList.length:=by
 obtain⟨h0,h256,hbad,hst⟩:=graph_ok hg h
 obtain⟨hl,hx⟩:=blocksOf hg
 have hb:∀b,b<(qfld g 1).toList.length→(blk g b).size≤lim:=fun b hb=>hx _ (get_mem hb)
 have hT:∀b,b<(qfld g 1).toList.length→(qfld (blk g b) 1).toList.length≠0∧∀X:D,X.toList=tgts (lastS (blk g b))→Tg (qfld g 1).toList.length X∧X.toList.map nat=sucG g b:=fun b hb'=>by
  obtain⟨b1,b2⟩:=bad_no (hbad b hb')
  refine⟨b1,fun X hX=>⟨⟨?_,fun x hm=> ?_⟩,by rw[hX];rfl⟩⟩
  ·rw[hX]
   exact tgts_len ((sz_el (hb b hb')).2 _ (last_mem b1))
  ·rw[hX]at hm
   have:=b2 x hm
   rw[qlen_c]at this;exact this
 refine⟨by omega,h256,rfl,fun b hb'=>⟨(sz_el (hb b hb')).1,fun s hs=>stok ((sz_el (hb b hb')).2 s hs) (hst b hb' s hs)⟩,fun b hb'=> ?_,fun b hb'=> ?_⟩
 ·obtain⟨b1,b2⟩:=hT b hb'
  have hs:=(sz_el (hb b hb')).2 _ (last_mem b1)
  obtain⟨X,e1,e2⟩:=tgts_p b1 (sz_el (hb b hb')).1 (by have h1:=len_lt (qfld (lastS (blk g b)) 7);have h2:=fld_le (lastS (blk g b)) 7;omega)
  exact⟨X,e1,b2 X e2⟩
 ·obtain⟨b1,b2⟩:=hT b hb'
  obtain⟨X,e1,e2⟩:=tgts_r (lastS (blk g b))
  refine⟨X,?_,b2 X e2⟩
  have hlm:=(sz_el (j:=1) (hb b hb')).1
  rw[q48_eq,F48_eq,last_ixO b1 hlm,qinb_n (by omega),show qget (qfld (blk g b) 1) (((qfld (blk g b) 1).toList.length-1:Nat):Int)=lastS (blk g b)from rfl,e1]
  have hz:qcmp .eql (qlen (qfld (blk g b) 1)) 0=false:=by rw[qcmp_eql,qlen_c,decide_eq_false_iff_not];omega
  simp[hz,qsome_s,qnth_s]
end Go.Proofs.YtfdedgmlafelaaaGreatDoor
namespace Go.Proofs.YtfdedgmlafelaaaGreatDoor
set_option linter.unusedSimpArgs false
open Go Go.AM
noncomputable def isStr (T:TypeId) (m:Nat):Bool:=match PG.underlying T with|some (.struct fs)=>Nat.beq fs.size m|_=>false
theorem conf_str {T:TypeId} {m:Nat} {d:D} (hT:isStr T m=true) (h:Conf PG T d):∃ds,d = .agg ds∧ds.length=m:=by
 unfold isStr at hT
 cases hu:PG.underlying T with
 |none=>rw[hu]at hT;cases hT
 |some td=>
  rw[hu]at hT
  cases h with
  |struct h1 hl hd=>
   rw[h1]at hu;cases hu
   exact⟨_,rfl,hl.trans (Nat.eq_of_beq_eq_true hT)⟩
  |int h1=>rw[h1]at hu;cases hu;cases hT
  |bool h1=>rw[h1]at hu;cases hu;cases hT
  |str h1=>rw[h1]at hu;cases hu;cases hT
  |slice h1=>rw[h1]at hu;cases hu;cases hT
  |array h1=>rw[h1]at hu;cases hu;cases hT
  |other h1=>unfold isOther at h1;rw[hu]at h1;cases td<;>simp_all
theorem conf_one {T:TypeId} {k:IntKind} {d:D} (hT:isInt T k=true) (h:Conf PG T d):d.size=1:=by
 unfold isInt at hT
 cases hu:PG.underlying T with
 |none=>rw[hu]at hT;cases hT
 |some td=>
  rw[hu]at hT
  cases h with
  |int h1=>simp only[D.size]
  |struct h1=>rw[h1]at hu;cases hu;cases hT
  |bool h1=>rw[h1]at hu;cases hu;cases hT
  |str h1=>rw[h1]at hu;cases hu;cases hT
  |slice h1=>rw[h1]at hu;cases hu;cases hT
  |array h1=>rw[h1]at hu;cases hu;cases hT
  |other h1=>unfold isOther at h1;rw[hu]at h1;cases td<;>simp_all
theorem conf_lst {T e:TypeId} {d:D} (hT:isSl T e=true) (h:Conf PG T d):d.size=1+D.sizes d.toList∧d.toList.length≤maxLen∧∀x∈d.toList,Conf PG e x:=by
 obtain⟨h1,⟨xs,rfl⟩,h2⟩:=qconfL_iff.1 (conf_list hT (qconf_iff.2 h))
 exact⟨by simp only[D.size,D.toList],h1,h2⟩
theorem fldC {T F:TypeId} {j:Nat} {d:D} (hT:isFld T j F=true) (h:Conf PG T d):Conf PG F (qfld d j):=qconf_iff.1 (conf_fld hT (qconf_iff.2 h))
theorem fld_agg (ds:List D) (j:Nat):qfld (.agg ds) j=ds.getD j .other:=by rw[qfld_eq];rfl
theorem i3:isInt 3 .i64=true:=by kernel_rfl
theorem i22:isInt 22 .u32=true:=by kernel_rfl
theorem s55:isSl 55 61=true:=by kernel_rfl
theorem s46:isSl 46 3=true:=by kernel_rfl
theorem s52:isSl 52 57=true:=by kernel_rfl
theorem s23:isSl 23 54=true:=by kernel_rfl
theorem t61:isStr 61 5=true:=by kernel_rfl
theorem t57:isStr 57 8=true:=by kernel_rfl
theorem t54:isStr 54 2=true:=by kernel_rfl
theorem t25:isStr 25 2=true:=by kernel_rfl
theorem f61_0:isFld 61 0 3=true:=by kernel_rfl
theorem f61_1:isFld 61 1 22=true:=by kernel_rfl
theorem f61_2:isFld 61 2 3=true:=by kernel_rfl
theorem f61_3:isFld 61 3 3=true:=by kernel_rfl
theorem f61_4:isFld 61 4 55=true:=by kernel_rfl
theorem f57_0:isFld 57 0 3=true:=by kernel_rfl
theorem f57_1:isFld 57 1 3=true:=by kernel_rfl
theorem f57_2:isFld 57 2 3=true:=by kernel_rfl
theorem f57_3:isFld 57 3 3=true:=by kernel_rfl
theorem f57_4:isFld 57 4 3=true:=by kernel_rfl
theorem f57_5:isFld 57 5 22=true:=by kernel_rfl
theorem f57_6:isFld 57 6 55=true:=by kernel_rfl
theorem f57_7:isFld 57 7 46=true:=by kernel_rfl
theorem f54_0:isFld 54 0 22=true:=by kernel_rfl
theorem f54_1:isFld 54 1 52=true:=by kernel_rfl
theorem f25_0:isFld 25 0 22=true:=by kernel_rfl
theorem f25_1:isFld 25 1 23=true:=by kernel_rfl
theorem len2 {ds:List D} (h:ds.length=2):ds = [ds.getD 0 .other,ds.getD 1 .other]:=by
 match ds,h with
 | [a,b],_=>rfl
theorem len5 {ds:List D} (h:ds.length=5):ds = [ds.getD 0 .other,ds.getD 1 .other,ds.getD 2 .other,ds.getD 3 .other,ds.getD 4 .other]:=by
 match ds,h with
 | [a,b,c,d,e],_=>rfl
theorem len8 {ds:List D} (h:ds.length=8):ds = [ds.getD 0 .other,ds.getD 1 .other,ds.getD 2 .other,ds.getD 3 .other,ds.getD 4 .other,ds.getD 5 .other,ds.getD 6 .other,ds.getD 7 .other]:=by
 match ds,h with
 | [a,b,c,d,e,f,g,i],_=>rfl
theorem expr_size {d:D} (h:Conf PG 61 d):d.size=6+D.sizes (qfld d 4).toList:=by
 have a0:=conf_one i3 (fldC f61_0 h)
 have a1:=conf_one i22 (fldC f61_1 h)
 have a2:=conf_one i3 (fldC f61_2 h)
 have a3:=conf_one i3 (fldC f61_3 h)
 have a4:=(conf_lst s55 (fldC f61_4 h)).1
 obtain⟨ds,rfl,hl⟩:=conf_str t61 h
 simp only[fld_agg]at *
 have:D.size (.agg ds)=1+D.sizes ds:=by simp only[D.size]
 rw[this,len5 hl]
 simp only[D.sizes,List.getD_cons_zero,List.getD_cons_succ]
 omega
theorem stmt_size {d:D} (h:Conf PG 57 d):d.size=9+D.sizes (qfld d 6).toList+D.sizes (qfld d 7).toList:=by
 have a0:=conf_one i3 (fldC f57_0 h)
 have a1:=conf_one i3 (fldC f57_1 h)
 have a2:=conf_one i3 (fldC f57_2 h)
 have a3:=conf_one i3 (fldC f57_3 h)
 have a4:=conf_one i3 (fldC f57_4 h)
 have a5:=conf_one i22 (fldC f57_5 h)
 have a6:=(conf_lst s55 (fldC f57_6 h)).1
 have a7:=(conf_lst s46 (fldC f57_7 h)).1
 obtain⟨ds,rfl,hl⟩:=conf_str t57 h
 simp only[fld_agg]at *
 have:D.size (.agg ds)=1+D.sizes ds:=by simp only[D.size]
 rw[this,len8 hl]
 simp only[D.sizes,List.getD_cons_zero,List.getD_cons_succ]
 omega
theorem block_size {d:D} (h:Conf PG 54 d):d.size=3+D.sizes (qfld d 1).toList:=by
 have a0:=conf_one i22 (fldC f54_0 h)
 have a1:=(conf_lst s52 (fldC f54_1 h)).1
 obtain⟨ds,rfl,hl⟩:=conf_str t54 h
 simp only[fld_agg]at *
 have:D.size (.agg ds)=1+D.sizes ds:=by simp only[D.size]
 rw[this,len2 hl]
 simp only[D.sizes,List.getD_cons_zero,List.getD_cons_succ]
 omega
theorem graph_size {d:D} (h:Conf PG 25 d):d.size=3+D.sizes (qfld d 1).toList:=by
 have a0:=conf_one i22 (fldC f25_0 h)
 have a1:=(conf_lst s23 (fldC f25_1 h)).1
 obtain⟨ds,rfl,hl⟩:=conf_str t25 h
 simp only[fld_agg]at *
 have:D.size (.agg ds)=1+D.sizes ds:=by simp only[D.size]
 rw[this,len2 hl]
 simp only[D.sizes,List.getD_cons_zero,List.getD_cons_succ]
 omega
theorem sizes_ones:∀xs:List D,(∀x∈xs,x.size=1)→D.sizes xs=xs.length
 | [],_=>rfl
 |x::xs,h=>by
  have h1:=h x (by simp)
  have h2:=sizes_ones xs (fun y hy=>h y (by simp[hy]))
  simp only[D.sizes,List.length_cons,h1,h2];omega
theorem nodes:∀(N:Nat) (d:D) (most left:Int),Conf PG 61 d→d.size<N→(-1000000≤most∧most≤1000000)→left≤20000→
 ∃r,F54 N [d, .int most, .int left]=some [.int r]∧(r≤left∨r = -1)∧(0≤r→(d.size:Int)≤6*(left-r)):=by
 intro N
 induction N with
 |zero=>intro d _ _ _ h;omega
 |succ N ih=>
  intro d most left hd hs hm hl
  obtain⟨_,hlen,hx⟩:=conf_lst s55 (fldC f61_4 hd)
  have hsz:=expr_size hd
  rw[F54_s,Fb54_eq]
  simp only[qlen_c,qiteB_c,qcmp_lss,qcmp_gtr]
  by_cases hg:most<1∨left<1∨(4:Int)<((qfld d 4).toList.length:Int)
  ·refine⟨-1,?_, .inr rfl,by omega⟩
   have:(bif bif decide (most<1)then true else decide (left<1)then true else decide ((4:Int)<((qfld d 4).toList.length:Int)))=true:=by
    rcases hg with h|h|h<;>simp[h]
   rw[this];rfl
  ·have g1:¬most<1:=fun h=>hg (.inl h)
   have g2:¬left<1:=fun h=>hg (.inr (.inl h))
   have g3:¬(4:Int)<((qfld d 4).toList.length:Int):=fun h=>hg (.inr (.inr h))
   simp only[g1,g2,g3,decide_false,cond_false]
   have key:∀k i:Nat,i+k=(qfld d 4).toList.length→∀n:Int,n≤20000→∃r,loW (st54_5 (F54 N) [.int most,d]) [.int n, .int i]=some [.int 0, .int r]∧(r≤n∨r = -1)∧(0≤r→(D.sizes ((qfld d 4).toList.drop i):Int)≤6*(n-r)):=by
    intro k
    induction k with
    |zero=>
     intro i hi n hn
     rw[loW_eq,st54_5_eq,List.drop_of_length_le (by omega)]
     simp only[qlen_c,qiteB_c,qcmp_lss,show¬((i:Int)<((qfld d 4).toList.length:Int))by omega,decide_false,cond_false]
     exact⟨n,rfl, .inl (Int.le_refl _),fun _=>by simp only[D.sizes];omega⟩
    |succ k ihk=>
     intro i hi n hn
     rw[loW_eq,st54_5_eq]
     have hlt:i<(qfld d 4).toList.length:=by omega
     simp only[qlen_c,qiteB_c,qcmp_lss,qcmp_geq,show((i:Int)<((qfld d 4).toList.length:Int))by omega,decide_true,cond_true]
     by_cases h0:0≤n
     ·have hmem:=get_mem hlt
      have hge:qget (qfld d 4) (i:Int)=(qfld d 4).toList[i]:=by rw[qget_n,getD_lt hlt]
      obtain⟨r,hr,hr1,hr2⟩:=ih (qget (qfld d 4) (i:Int)) (most-1) n (hx _ hmem) (by have:=elem_le hmem;have:=fld_le d 4;have h9:D.size (qget (qfld d 4) (i:Int))≤D.sizes (qfld d 4).toList:=by{rw[hge];exact sizes_get (List.getElem?_eq_getElem hlt)};omega) (by omega) hn
      have hsub:qbin .sub .i64 most 1=most-1:=sub64 (by omega) (by omega)
      obtain⟨r',hr',hr1',hr2'⟩:=ihk (i+1) (by omega) r (by omega)
      refine⟨r',by simp only[h0,decide_true,cond_true,qinb_n hlt,hsub,hr,qsome_s,qnth_s,List.getD_cons_zero,qint_i,add_nat (show i<9223372036854775807 by omega),hr'],by omega,fun h=> ?_⟩
      rw[List.drop_eq_getElem_cons hlt, ← hge]
      simp only[D.sizes]
      have:=hr2' h
      have:=hr2 (by omega)
      omega
     ·exact⟨n,by simp only[h0,decide_false,cond_false], .inl (Int.le_refl _),fun h=>absurd h h0⟩
   obtain⟨r,h1,h2,h3⟩:=key (qfld d 4).toList.length 0 (by omega) (left-1) (by omega)
   have hsub:qbin .sub .i64 left 1=left-1:=sub64 (by omega) (by omega)
   refine⟨r,?_,by omega,fun h=> ?_⟩
   ·rw[l54_5_eq,hsub]
    have h1':loW (st54_5 (F54 N) [.int most,d]) [.int (left-1), .int 0]=some [.int 0, .int r]:=h1
    simp only[h1',qsome_s,qnth_s,List.getD_cons_zero,List.getD_cons_succ,qint_i,cond_true]
   ·have:=h3 h
    rw[List.drop_zero]at this
    omega
theorem nodes' {d:D} {left:Int} (hd:Conf PG 61 d) (hl:left≤20000):∃r,q54 [d, .int 70, .int left]=some [.int r]∧(r≤left∨r = -1)∧(0≤r→(d.size:Int)≤6*(left-r)):=by
 rw[q54_eq]
 exact nodes _ d 70 left hd (fuel_in (by simp)) (by omega) hl
theorem loopE {s g:D} {a b:Int} (hs:Conf PG 57 s) (hlen:(qfld s 6).toList.length≤4):∀(k i:Nat) (left:Int),i+k=(qfld s 6).toList.length→0≤left→left≤20000→
 loW (st25_16 [.int 70, .int a, .int b,s,g]) [.int left, .int i]=some [.int 1]∨∃r,loW (st25_16 [.int 70, .int a, .int b,s,g]) [.int left, .int i]=some [.int 0, .int r]∧0≤r∧r≤left∧(D.sizes ((qfld s 6).toList.drop i):Int)≤6*(left-r):=by
 intro k
 induction k with
 |zero=>
  intro i left hi h0 hl
  have c0:qcmp .lss (i:Int) (qlen (qfld s 6))=false:=by rw[qcmp_lss,qlen_c,decide_eq_false_iff_not];omega
  rw[loW_eq,st25_16_eq,c0,List.drop_of_length_le (by omega)]
  exact .inr ⟨left,rfl,h0,Int.le_refl _,by simp only[D.sizes];omega⟩
 |succ k ih=>
  intro i left hi h0 hl
  have hlt:i<(qfld s 6).toList.length:=by omega
  have c0:qcmp .lss (i:Int) (qlen (qfld s 6))=true:=by rw[qcmp_lss,qlen_c,decide_eq_true_eq];omega
  obtain⟨_,_,hx⟩:=conf_lst s55 (fldC f57_6 hs)
  have hge:qget (qfld s 6) (i:Int)=(qfld s 6).toList[i]:=by rw[qget_n,getD_lt hlt]
  obtain⟨r,h1,h2,h3⟩:=nodes' (hx _ (get_mem hlt)) hl
  rw[loW_eq,st25_16_eq,c0,qinb_n hlt,h1]
  simp only[qsome_s,qnth_s,List.getD_cons_zero,qint_i,qcmp_lss,cond_true]
  by_cases hr:r<0
  ·exact .inl (by simp[hr])
  ·simp only[hr,decide_false,cond_false,add_nat (show i<9223372036854775807 by omega)]
   rcases ih (i+1) r (by omega) (by omega) (by omega)with h|⟨r',h,e1,e2,e3⟩
   ·exact .inl h
   ·refine .inr ⟨r',h,e1,by omega,?_⟩
    rw[List.drop_eq_getElem_cons hlt, ← hge]
    simp only[D.sizes]
    have:=h3 (by omega)
    omega
theorem loopS {g:D} {b:Nat} (hb:b<(qfld g 1).toList.length) (hc:Conf PG 54 (blk g b)) (hlen:(qfld (blk g b) 1).toList.length≤1100):∀(k i:Nat) (left:Int),i+k=(qfld (blk g b) 1).toList.length→0≤left→left≤20000→
 loW (st25_10 [.int 70, .int b,g]) [.int left, .int i]=some [.int 1]∨∃r,loW (st25_10 [.int 70, .int b,g]) [.int left, .int i]=some [.int 0, .int r]∧0≤r∧r≤left∧(D.sizes ((qfld (blk g b) 1).toList.drop i):Int)≤109*(k:Int)+6*(left-r):=by
 intro k
 have hq:qget (qfld g 1) (b:Int)=blk g b:=rfl
 induction k with
 |zero=>
  intro i left hi h0 hl
  have c0:qcmp .lss (i:Int) (qlen (qfld (blk g b) 1))=false:=by rw[qcmp_lss,qlen_c,decide_eq_false_iff_not];omega
  rw[loW_eq,st25_10_eq,qinb_n hb,hq,c0,List.drop_of_length_le (by omega)]
  exact .inr ⟨left,rfl,h0,Int.le_refl _,by simp only[D.sizes];omega⟩
 |succ k ih=>
  intro i left hi h0 hl
  have hlt:i<(qfld (blk g b) 1).toList.length:=by omega
  have c0:qcmp .lss (i:Int) (qlen (qfld (blk g b) 1))=true:=by rw[qcmp_lss,qlen_c,decide_eq_true_eq];omega
  obtain⟨_,_,hx⟩:=conf_lst s52 (fldC f54_1 hc)
  have hge:qget (qfld (blk g b) 1) (i:Int)=(qfld (blk g b) 1).toList[i]:=by rw[qget_n,getD_lt hlt]
  have hs:=hx _ (get_mem hlt)
  have hsz:=stmt_size hs
  obtain⟨_,_,hcs⟩:=conf_lst s46 (fldC f57_7 hs)
  have hone:=sizes_ones _ (fun x hm=>conf_one i3 (hcs x hm))
  rw[loW_eq,st25_10_eq,qinb_n hb,hq,c0,qinb_n hlt]
  generalize qget (qfld (blk g b) 1) (i:Int)=s at *
  simp only[qlen_c,qcmp_gtr,qiteB_c,cond_true]
  by_cases h4:(4:Int)<((qfld s 6).toList.length:Int)
  ·exact .inl (by simp[h4])
  by_cases h100:(100:Int)<((qfld s 7).toList.length:Int)
  ·exact .inl (by simp[h4,h100])
  simp only[h4,h100,decide_false,cond_false]
  have hE:=loopE (g:=g) (a:=(b:Int)) (b:=(i:Int)) hs (by omega) (qfld s 6).toList.length 0 left (by omega) h0 hl
  have e0:∀ds,l25_16 [.int 70, .int b, .int i,s,g] ds=loW (st25_16 [.int 70, .int b, .int i,s,g]) ds:=fun ds=>by rw[l25_16_eq]
  rw[e0]
  rcases hE with h|⟨r,h,e1,e2,e3⟩
  ·have h':loW (st25_16 [.int 70, .int b, .int i,s,g]) [.int left, .int 0]=some [.int 1]:=h
   rw[h']
   exact .inl (by simp[qsome_s,qnth_s,qint_i,qcmp_eql])
  ·have h':loW (st25_16 [.int 70, .int b, .int i,s,g]) [.int left, .int 0]=some [.int 0, .int r]:=h
   rw[h']
   simp only[qsome_s,qnth_s,List.getD_cons_zero,List.getD_cons_succ,qint_i,qcmp_eql,decide_true,cond_true,add_nat (show i<9223372036854775807 by omega)]
   rcases ih (i+1) r (by omega) e1 (by omega)with h|⟨r',h,f1,f2,f3⟩
   ·exact .inl h
   ·refine .inr ⟨r',h,f1,by omega,?_⟩
    rw[List.drop_eq_getElem_cons hlt, ← hge]
    rw[List.drop_zero]at e3
    simp only[D.sizes]
    omega
theorem loopB {g:D} (hc:Conf PG 25 g) (hlen:(qfld g 1).toList.length≤300):∀(k i:Nat) (left:Int),i+k=(qfld g 1).toList.length→0≤left→left≤20000→
 loW (st25_5 [.int 70,g]) [.int left, .int i]=some [.int 1]∨(loW (st25_5 [.int 70,g]) [.int left, .int i]=some [.int 0]∧(D.sizes ((qfld g 1).toList.drop i):Int)≤119903*(k:Int)+6*left):=by
 intro k
 induction k with
 |zero=>
  intro i left hi h0 hl
  have c0:qcmp .lss (i:Int) (qlen (qfld g 1))=false:=by rw[qcmp_lss,qlen_c,decide_eq_false_iff_not];omega
  rw[loW_eq,st25_5_eq,c0,List.drop_of_length_le (by omega)]
  exact .inr ⟨rfl,by simp only[D.sizes];omega⟩
 |succ k ih=>
  intro i left hi h0 hl
  have hlt:i<(qfld g 1).toList.length:=by omega
  have c0:qcmp .lss (i:Int) (qlen (qfld g 1))=true:=by rw[qcmp_lss,qlen_c,decide_eq_true_eq];omega
  obtain⟨_,_,hx⟩:=conf_lst s23 (fldC f25_1 hc)
  have hq:qget (qfld g 1) (i:Int)=blk g i:=rfl
  have hge:qget (qfld g 1) (i:Int)=(qfld g 1).toList[i]:=by rw[qget_n,getD_lt hlt]
  have hs:Conf PG 54 (blk g i):=hx _ (get_mem hlt)
  have hsz:=block_size hs
  rw[loW_eq,st25_5_eq,c0,qinb_n hlt,hq]
  simp only[qlen_c,qcmp_gtr,cond_true]
  by_cases h4:(1100:Int)<((qfld (blk g i) 1).toList.length:Int)
  ·exact .inl (by simp[h4])
  simp only[h4,decide_false,cond_false]
  have hS:=loopS hlt hs (by omega) (qfld (blk g i) 1).toList.length 0 left (by omega) h0 hl
  have e0:∀ds,l25_10 [.int 70, .int i,g] ds=loW (st25_10 [.int 70, .int i,g]) ds:=fun ds=>by rw[l25_10_eq]
  rw[e0]
  rcases hS with h|⟨r,h,e1,e2,e3⟩
  ·have h':loW (st25_10 [.int 70, .int i,g]) [.int left, .int 0]=some [.int 1]:=h
   rw[h']
   exact .inl (by simp[qsome_s,qnth_s,qint_i,qcmp_eql])
  ·have h':loW (st25_10 [.int 70, .int i,g]) [.int left, .int 0]=some [.int 0, .int r]:=h
   rw[h']
   simp only[qsome_s,qnth_s,List.getD_cons_zero,List.getD_cons_succ,qint_i,qcmp_eql,decide_true,cond_true,add_nat (show i<9223372036854775807 by omega)]
   rcases ih (i+1) r (by omega) e1 (by omega)with h|⟨h,f3⟩
   ·exact .inl h
   ·refine .inr ⟨h,?_⟩
    rw[List.drop_eq_getElem_cons hlt, ← hge,hq]
    rw[List.drop_zero]at e3
    simp only[D.sizes]
    omega
theorem small {g:D} (hc:Conf PG 25 g):∃b,q25 [g, .int 70]=some [.bool b]∧(b=true→g.size≤lim):=by
 rw[q25_eq,F25_eq]
 simp only[qlen_c,qcmp_gtr]
 by_cases h3:(300:Int)<((qfld g 1).toList.length:Int)
 ·exact⟨false,by simp[h3],fun h=>by cases h⟩
 have hB:=loopB hc (by omega) (qfld g 1).toList.length 0 20000 (by omega) (by omega) (by omega)
 have e0:∀ds,l25_5 [.int 70,g] ds=loW (st25_5 [.int 70,g]) ds:=fun ds=>by rw[l25_5_eq]
 simp only[h3,decide_false,cond_false,e0]
 rcases hB with h|⟨h,e⟩
 ·have h':loW (st25_5 [.int 70,g]) [.int 20000, .int 0]=some [.int 1]:=h
  rw[h']
  exact⟨false,by simp[qsome_s,qnth_s,qint_i,qcmp_eql],fun h=>by cases h⟩
 ·have h':loW (st25_5 [.int 70,g]) [.int 20000, .int 0]=some [.int 0]:=h
  rw[h']
  refine⟨true,by simp[qsome_s,qnth_s,qint_i,qcmp_eql],fun _=> ?_⟩
  rw[List.drop_zero]at e
  rw[graph_size hc]
  unfold lim
  omega
theorem large {g:D} (hc:Conf PG 25 g):q8 [g]=some [.bool true]∨(q8 [g]=some [.bool false]∧g.size≤lim):=by
 obtain⟨b,h1,h2⟩:=small hc
 obtain⟨_,hlen,_⟩:=conf_lst s23 (fldC f25_1 hc)
 have key:∀(k i:Nat) (s:Int),i+k=(qfld g 1).toList.length→loW (st8_5 [g]) [.int s, .int i]=some [.int 0]∨loW (st8_5 [g]) [.int s, .int i]=some [.int 1]:=by
  unfold maxLen at hlen
  intro k
  induction k with
  |zero=>
   intro i s hi
   have c0:qcmp .lss (i:Int) (qlen (qfld g 1))=false:=by rw[qcmp_lss,qlen_c,decide_eq_false_iff_not];omega
   rw[loW_eq,st8_5_eq,c0]
   exact .inl rfl
  |succ k ih=>
   intro i s hi
   have hlt:i<(qfld g 1).toList.length:=by omega
   have c0:qcmp .lss (i:Int) (qlen (qfld g 1))=true:=by rw[qcmp_lss,qlen_c,decide_eq_true_eq];omega
   rw[loW_eq,st8_5_eq,c0,qinb_n hlt]
   simp only[cond_true]
   cases qcmp .gtr (qbin .add .i64 s (qlen (qfld (qget (qfld g 1) (i:Int)) 1))) 400 with
   |true=>exact .inr rfl
   |false=>
    simp only[cond_false,add_nat (show i<9223372036854775807 by omega)]
    exact ih (i+1) _ (by omega)
 have hk:=key (qfld g 1).toList.length 0 0 (by omega)
 rw[q8_eq,F8_eq,h1]
 have e0:∀ds,l8_5 [g] ds=loW (st8_5 [g]) ds:=fun ds=>by rw[l8_5_eq]
 simp only[e0,qsome_s,qnth_s,List.getD_cons_zero,qbool_b,qiteB_c,qnot_c,Bool.cond_self,cond_true]
 cases qcmp .gtr (qlen (qfld g 1)) 40 with
 |true=>exact .inl rfl
 |false=>
  cases b with
  |false=>exact .inl rfl
  |true=>
   have hk':loW (st8_5 [g]) [.int 0, .int 0]=some [.int 0]∨loW (st8_5 [g]) [.int 0, .int 0]=some [.int 1]:=hk
   rcases hk' with h|h<;>rw[h]
   ·exact .inr ⟨by simp[qsome_s,qnth_s,qint_i,qcmp_eql],h2 rfl⟩
   ·exact .inl (by simp[qsome_s,qnth_s,qint_i,qcmp_eql])
end Go.Proofs.YtfdedgmlafelaaaGreatDoor
namespace Go.Proofs.YtfdedgmlafelaaaGreatDoor
set_option linter.unusedSimpArgs false
open Go Go.AM
theorem out_p (x g:D):q148_148 [.int (qint x),g]=some [.bool (outside (qlen (qfld g 1)) x)]:=by
 rw[q148_148_eq,F148_148_eq];simp only[qiteB_c,qcmp_lss,qcmp_geq,outside];cases decide (qint x<0)<;>simp
theorem del_p {X g:D} (hl:X.toList.length≤maxLen) (h:∀x∈X.toList,0≤qint x∧qint x<qlen (qfld g 1)):q147_148 [X,g]=some [X]:=by
 have hn:X.toList.any (outside (qlen (qfld g 1)))=false:=by
  rw[List.any_eq_false]
  intro x hx
  have:=h x hx
  unfold outside
  simp only[Bool.or_eq_true,decide_eq_true_eq]
  omega
 have h1:l122_148_2 [X,g, .int (qlen X)] [.int 0]=some [.int 0]:=by
  rw[l122_148_2_eq]
  rcases idxLoop (st:=st122_148_2 [X,g, .int (qlen X)]) (l:=X) (c:=fun x=>q148_148 [.int (qint x),g]) (p:=outside (qlen (qfld g 1))) (r1:=fun i=>[.int 1, .int i]) (r0:=[.int 0]) (fun i=>by rw[st122_148_2_eq]) hl (fun x _=>out_p x g)with⟨h1,_⟩|⟨_,_,h2⟩
  ·exact h1
  ·rw[hn]at h2;cases h2
 rw[q147_148_eq,F147_148_eq,q122_148_eq,F122_148_eq,h1]
 simp only[qsome_s,qnth_s,List.getD_cons_zero,qint_i,qcmp_eql,decide_true,cond_true]
noncomputable def edg (g:D) (b:Nat):D:=qnth (q127 [g, .int b]) 0
theorem edg_p {g:D} (hg:g.size≤lim) (h:eGraph g=0) {b:Nat} (hb:b<(qfld g 1).toList.length):
 q127 [g, .int b]=some [edg g b]∧Tg (qfld g 1).toList.length (edg g b)∧(edg g b).toList.map nat=sucG g b:=by
 obtain⟨h0,h256,hbad,_⟩:=graph_ok hg h
 obtain⟨hl,hx⟩:=blocksOf hg
 have hsz:(blk g b).size≤lim:=hx _ (get_mem hb)
 have b1:(qfld (blk g b) 1).toList.length≠0:=(bad_no (hbad b hb)).1
 have b2:∀x∈tgts (lastS (blk g b)),0≤qint x∧qint x<qlen (qfld g 1):=(bad_no (hbad b hb)).2
 have hT:∀X:D,X.toList=tgts (lastS (blk g b))→Tg (qfld g 1).toList.length X∧X.toList.map nat=sucG g b:=fun X hX=>by
  refine⟨⟨?_,fun x hm=> ?_⟩,by rw[hX];rfl⟩
  ·rw[hX];exact tgts_len ((sz_el hsz).2 _ (last_mem b1))
  ·rw[hX]at hm
   have:=b2 x hm
   rw[qlen_c]at this;exact this
 suffices hs:∃X,q127 [g, .int b]=some [X]∧X.toList=tgts (lastS (blk g b))by
  obtain⟨X,e1,e2⟩:=hs
  have:edg g b=X:=by unfold edg;rw[e1,qnth_s];rfl
  rw[this]
  exact⟨e1,hT X e2⟩
 have hlm:=(sz_el (j:=1) hsz).1
 have hd:∀X:D,X.toList=tgts (lastS (blk g b))→q147_148 [X,g]=some [X]:=fun X hX=>by
  obtain⟨⟨t1,t2⟩,_⟩:=hT X hX
  exact del_p t1 (fun x hx=>by rw[qlen_c];exact t2 x hx)
 have hz:qcmp .eql (qlen (qfld (blk g b) 1)) 0=false:=by rw[qcmp_eql,qlen_c,decide_eq_false_iff_not];omega
 have hls:qget (qfld (blk g b) 1) (((qfld (blk g b) 1).toList.length-1:Nat):Int)=lastS (blk g b):=rfl
 have hss:=(sz_el hsz).2 _ (last_mem b1)
 have h7l:(qfld (lastS (blk g b)) 7).toList.length≤lim:=by have h1:=len_lt (qfld (lastS (blk g b)) 7);have h2:=fld_le (lastS (blk g b)) 7;omega
 rw[q127_eq,F127_eq,qinb_n hb,show qget (qfld g 1) (b:Int)=blk g b from rfl,hz,last_ixO b1 hlm,qinb_n (by omega),hls]
 simp only[cond_true,cond_false,qcmp_eql]
 unfold tgts at hd ⊢
 by_cases h6:qint (qfld (lastS (blk g b)) 0)=6
 ·have:=hd (.list [.int (qint (qfld (lastS (blk g b)) 3))]) (by simp[h6,tl_list])
  simp[h6,this,qsome_s,qnth_s,tl_list]
 by_cases h7:qint (qfld (lastS (blk g b)) 0)=7
 ·have:=hd (.list [.int (qint (qfld (lastS (blk g b)) 3)), .int (qint (qfld (lastS (blk g b)) 4))]) (by simp[h7,tl_list])
  simp[h7,this,qsome_s,qnth_s,tl_list]
 by_cases h8:qint (qfld (lastS (blk g b)) 0)=8
 ·have hq:q53 [qfld (lastS (blk g b)) 7]=some [qapp (.list []) (qfld (lastS (blk g b)) 7)]:=by
   rw[q53_eq]
   unfold F53
   have:qapp (.list []) (qfld (lastS (blk g b)) 7) = .list (qfld (lastS (blk g b)) 7).toList:=by rw[qapp_eq];simp[D.app,tl_list]
   simp only[List.headD_cons,this,qlen_c,tl_list]
   rw[qmem_eq]
   have hr:rmem ((qfld (lastS (blk g b)) 7).toList.length:Int) 8=true:=by
    simp[rmem];have hlim:lim=100000000:=rfl;omega
   rw[hr];rfl
  have ha:(qapp (.list []) (qfld (lastS (blk g b)) 7)).toList=(qfld (lastS (blk g b)) 7).toList:=by rw[qapp_eq];simp[D.app,tl_list]
  have:=hd (qapp (.list []) (qfld (lastS (blk g b)) 7)) (by rw[ha];simp[h8])
  simp[h8,hq,this,qsome_s,qnth_s,ha]
 have:=hd (.list []) (by simp[h6,h7,h8,tl_list])
 simp[h6,h7,h8,this,qsome_s,qnth_s,tl_list]
theorem all_p {g:D} (hg:g.size≤lim) (h:eGraph g=0):∃L:D,q96 [g]=some [L]∧L.toList.length=(qfld g 1).toList.length∧∀b,b<(qfld g 1).toList.length→qget L (b:Int)=edg g b:=by
 obtain⟨h0,h256,_,_⟩:=graph_ok hg h
 have key:∀(k i:Nat) (xs:List D),i+k=(qfld g 1).toList.length→xs.length=(qfld g 1).toList.length→(∀b,b<i→xs[b]? = some (edg g b))→
  ∃ys:List D,loW (st96_3 [.int (qlen (qfld g 1)),g]) [.int i, .list xs]=some [.int 0, .list ys]∧ys.length=(qfld g 1).toList.length∧∀b,b<(qfld g 1).toList.length→ys[b]? = some (edg g b):=by
  intro k
  induction k with
  |zero=>
   intro i xs hi hxl hx
   have c0:qcmp .lss (i:Int) (qlen (qfld g 1))=false:=by rw[qcmp_lss,qlen_c,decide_eq_false_iff_not];omega
   exact⟨xs,by rw[loW_eq,st96_3_eq,c0];rfl,hxl,fun b hb=>hx b (by omega)⟩
  |succ k ih=>
   intro i xs hi hxl hx
   have hlt:i<(qfld g 1).toList.length:=by omega
   have c0:qcmp .lss (i:Int) (qlen (qfld g 1))=true:=by rw[qcmp_lss,qlen_c,decide_eq_true_eq];omega
   have c1:qcmp .leq 0 (i:Int)=true:=by rw[qcmp_leq];simp
   have c2:qcmp .lss (i:Int) (qlen (.list xs))=true:=by rw[qcmp_lss,qlen_l,decide_eq_true_eq];omega
   have i0:qinb (.list xs) (i:Int)=true:=qinb_n (by simpa[tl_list]using by omega)
   have hs:qset (.list xs) (i:Int) (edg g i) = .list (xs.set i (edg g i)):=by rw[qset_eq];simp[D.upd,tl_list]
   have c3:qcmp .eql (qlen (.list xs)) (qlen (.list (xs.set i (edg g i))))=true:=by rw[qcmp_eql,qlen_l,qlen_l];simp
   obtain⟨ys,e1,e2,e3⟩:=ih (i+1) (xs.set i (edg g i)) (by omega) (by simpa using hxl) (fun b hb=>by
    rw[List.getElem?_set]
    by_cases hbi:i=b
    ·subst hbi;simp[show i<xs.length by omega]
    ·rw[if_neg hbi];exact hx b (by omega))
   refine⟨ys,?_,e2,e3⟩
   rw[loW_eq,st96_3_eq,c0,(edg_p hg h hlt).1]
   simp only[qsome_s,qnth_s,List.getD_cons_zero,c1,c2,i0,hs,c3,cond_true,add_nat (show i<9223372036854775807 by omega)]
   exact e1
 have hl:qlen (qfld g 1)=((qfld g 1).toList.length:Int):=qlen_c _
 have hr:qrep ((qfld g 1).toList.length:Int) (D.list []) = .list (List.replicate (qfld g 1).toList.length (D.list [])):=by rw[qrep_eq];simp
 obtain⟨ys,e1,e2,e3⟩:=key (qfld g 1).toList.length 0 (List.replicate (qfld g 1).toList.length (D.list [])) (by omega) (by simp) (fun b hb=>by omega)
 have e1':l96_3 [.int ((qfld g 1).toList.length:Int),g] [.int 0, .list (List.replicate (qfld g 1).toList.length (D.list []))]=some [.int 0, .list ys]:=by rw[l96_3_eq, ← hl];exact e1
 have c1:qcmp .leq 0 ((qfld g 1).toList.length:Int)=true:=by rw[qcmp_leq];simp
 have c2:qcmp .leq ((qfld g 1).toList.length:Int) ((qfld g 1).toList.length:Int)=true:=by rw[qcmp_leq];simp
 have c3:qmem ((qfld g 1).toList.length:Int) 24=true:=qmem_ok (by omega) (by omega)
 have c4:qcmp .eql ((qfld g 1).toList.length:Int) (qlen (.list (List.replicate (qfld g 1).toList.length (D.list []))))=true:=by rw[qcmp_eql,qlen_l];simp
 refine⟨.list ys,?_,e2,fun b hb=> ?_⟩
 ·rw[q96_eq,F96_eq]
  simp only[hl,hr,c1,c2,c3,c4,e1',qsome_s,qnth_s,List.getD_cons_zero,List.getD_cons_succ,cond_true]
 ·rw[qget_n,tl_list,List.getD,e3 b hb];rfl
structure DV (n:Nat) (suc:Nat→List Nat) (ts:List Nat) (s s':List Bool) (ne:List Nat):Prop where
 ls:s'.length=n
 old:∀b,gB s b=true→gB s' b=true
 at':∀t∈ts,gB s' t=true
 mem:∀b,gB s' b=true→gB s b=true∨b∈ne
 nb:∀b∈ne,b<n∧gB s' b=true
 cnt:ne.length+s'.count false=s.count false
 clo:∀b∈ne,∀t∈suc b,gB s' t=true
 sub:∀A:Nat→Prop,(∀b,A b→∀t∈suc b,A t)→(∀t∈ts,A t)→∀b∈ne,A b
section
variable {g L:D} {n:Nat} {suc:Nat→List Nat}
structure Edges (L:D) (n:Nat) (suc:Nat→List Nat):Prop where
 n256:n≤256
 len:L.toList.length=n
 tg:∀b,b<n→Tg n (qget L (b:Int))∧(qget L (b:Int)).toList.map nat=suc b
def VisOk (L:D) (n:Nat) (suc:Nat→List Nat) (Q:List D→Option (List D)) (N:Nat):Prop:=
 ∀(k:Nat) (post:List Nat) (s:List Bool),k<n→gB s k=false→s.length=n→s.count false≤N→post.length+s.count false≤256→
  ∃ne s',Q [L, .int k,dN post,dB s]=some [dN (post++ne),dB s']∧DV n suc [k] s s' ne
theorem vis_loop (hE:Edges L n suc) {Q:List D→Option (List D)} {N:Nat} (hQ:VisOk L n suc Q N) {X:D} (hX:Tg n X) {a:Int}:∀(m i:Nat) (post:List Nat) (s:List Bool),i+m=X.toList.length→s.length=n→s.count false≤N→post.length+s.count false≤256→
 ∃ne s',loW (st125_2 Q [.int a,X, .int (qlen X),L]) [.int i,dN post,dB s]=some [.int 0,dN (post++ne),dB s']∧DV n suc ((X.toList.drop i).map nat) s s' ne
 |0,i,post,s,hi,hs,_,_=>by
  have c0:qcmp .lss (i:Int) (qlen X)=false:=by rw[qcmp_lss,qlen_c];simp;omega
  refine⟨[],s,by rw[loW_eq,st125_2_eq,c0];simp,?_⟩
  rw[List.drop_of_length_le (by omega)]
  exact⟨hs,fun b h=>h,by simp,fun b h=> .inl h,by simp,by simp,by simp,fun _ _ _ b h=>by cases h⟩
 |m+1,i,post,s,hi,hs,hN,hp=>by
  have hlt:i<X.toList.length:=by omega
  obtain⟨ht,hr⟩:=hX.get hlt
  have hlen:=hX.len
  unfold maxLen at hlen
  have hd:(X.toList.drop i).map nat=nat X.toList[i]::(X.toList.drop (i+1)).map nat:=by rw[List.drop_eq_getElem_cons hlt];rfl
  generalize nat X.toList[i]=t at *
  have c0:qcmp .lss (i:Int) (qlen X)=true:=by rw[qcmp_lss,qlen_c];simp;omega
  have c1:qcmp .leq 0 (t:Int)=true:=by rw[qcmp_leq];simp
  have c2:qcmp .lss (t:Int) (qlen (dB s))=true:=by rw[qcmp_lss,len_B];simp;omega
  have i1:qinb (dB s) (t:Int)=true:=inb_B (by omega)
  have a1:qbin .add .i64 (i:Int) 1=((i+1:Nat):Int):=add_nat (by omega)
  rw[loW_eq,st125_2_eq,c0,qinb_n hlt,ht,c1,c2,i1,get_B,a1,hd]
  cases hg:gB s t with
  |true=>
   obtain⟨ne,s',e,v⟩:=vis_loop hE hQ hX m (i+1) post s (by omega) hs hN hp
   refine⟨ne,s',by simpa[qnot_c]using e,⟨v.ls,v.old,fun x hx=> ?_,v.mem,v.nb,v.cnt,v.clo,fun A h1 h2=>v.sub A h1 fun x hx=>h2 x (List.mem_cons_of_mem _ hx)⟩⟩
   rcases List.mem_cons.1 hx with rfl|hx
   ·exact v.old _ hg
   ·exact v.at' x hx
  |false=>
   obtain⟨ne1,s1,e1,v1⟩:=hQ t post s hr hg hs hN hp
   have hc1:=v1.cnt
   obtain⟨ne2,s2,e2,v2⟩:=vis_loop hE hQ hX m (i+1) (post++ne1) s1 (by omega) v1.ls (by omega) (by simp only[List.length_append];omega)
   have hc2:=v2.cnt
   refine⟨ne1++ne2,s2,?_,⟨v2.ls,fun b h=>v2.old b (v1.old b h),fun x hx=> ?_,fun b hb=> ?_,fun b hb=> ?_,by simp only[List.length_append];omega,fun b hb=> ?_,fun A h1 h2 b hb=> ?_⟩⟩
   ·simp only[qnot_c,Bool.not_false,cond_true,e1,qsome_s,qnth_s,List.getD_cons_zero,List.getD_cons_succ]
    rw[e2,List.append_assoc]
   ·rcases List.mem_cons.1 hx with rfl|hx
    ·exact v2.old _ (v1.at' _ (by simp))
    ·exact v2.at' x hx
   ·rcases v2.mem b hb with h|h
    ·rcases v1.mem b h with h|h
     ·exact .inl h
     ·exact .inr (by simp[h])
    ·exact .inr (by simp[h])
   ·rcases List.mem_append.1 hb with h|h
    ·exact⟨(v1.nb b h).1,v2.old b (v1.nb b h).2⟩
    ·exact v2.nb b h
   ·rcases List.mem_append.1 hb with h|h
    ·intro t' ht';exact v2.old _ (v1.clo b h t' ht')
    ·exact v2.clo b h
   ·rcases List.mem_append.1 hb with h|h
    ·exact v1.sub A h1 (fun x hx=>by simp only[List.mem_singleton]at hx;subst hx;exact h2 _ (by simp)) b h
    ·exact v2.sub A h1 (fun x hx=>h2 x (List.mem_cons_of_mem _ hx)) b h
theorem vis_body (hE:Edges L n suc) {Q:List D→Option (List D)} {N:Nat} (hQ:VisOk L n suc Q N):VisOk L n suc (Fb125 Q) (N+1):=by
 intro k post s hk hg hs hN hp
 have h256:=hE.n256
 obtain⟨hT,hS⟩:=hE.tg k hk
 have hcnt:=cnt_set s k hg (by omega)
 have c1:qcmp .leq 0 (k:Int)=true:=by rw[qcmp_leq];simp
 have c2:qcmp .lss (k:Int) (qlen (dB s))=true:=by rw[qcmp_lss,len_B];simp;omega
 have i1:qinb (dB s) (k:Int)=true:=inb_B (by omega)
 have i2:qinb L (k:Int)=true:=qinb_n (by rw[hE.len];exact hk)
 have s1:qset (dB s) (k:Int) (.bool true)=dB (s.set k true):=set_B _ _ _
 have d1:qcmp .eql (qlen (dB s)) (qlen (dB (s.set k true)))=true:=by rw[qcmp_eql,len_B,len_B];simp
 obtain⟨ne,s',e,v⟩:=vis_loop hE hQ hT (a:=(k:Int)) (qget L (k:Int)).toList.length 0 post (s.set k true) (by omega) (by simpa using hs) (by omega) (by omega)
 have hc:=v.cnt
 rw[List.drop_zero,hS]at v
 have e':l125_2 Q [.int (k:Int),qget L (k:Int), .int (qlen (qget L (k:Int))),L] [.int 0,dN post,dB (s.set k true)]=some [.int 0,dN (post++ne),dB s']:=by rw[l125_2_eq];exact e
 have d3:qmem (qlen (dN (post++ne ++ [k]))) 8=true:=by rw[len_N];exact mem_ok (by simp only[List.length_append,List.length_cons,List.length_nil];omega)
 have k1:∀b,gB (s.set k true) b=(decide (b=k)||gB s b):=fun b=>gB_set (by omega)
 have hks:gB s' k=true:=v.old k (by rw[k1];simp)
 refine⟨ne ++ [k],s',?_,⟨v.ls,fun b h=>v.old b (by rw[k1,h];simp),fun x hx=>by simp only[List.mem_singleton]at hx;subst hx;exact hks,fun b hb=> ?_,fun b hb=> ?_,by simp only[List.length_append,List.length_cons,List.length_nil];omega,fun b hb=> ?_,fun A h1 h2 b hb=> ?_⟩⟩
 ·rw[Fb125_eq]
  simp only[c1,c2,i1,i2,s1,d1,e',qsome_s,qnth_s,List.getD_cons_zero,List.getD_cons_succ,app_N,d3,cond_true]
  rw[List.append_assoc]
 ·rcases v.mem b hb with h|h
  ·rw[k1,Bool.or_eq_true,decide_eq_true_eq]at h
   rcases h with rfl|h
   ·exact .inr (by simp)
   ·exact .inl h
  ·exact .inr (by simp[h])
 ·rcases List.mem_append.1 hb with h|h
  ·exact v.nb b h
  ·simp only[List.mem_singleton]at h;subst h;exact⟨hk,hks⟩
 ·rcases List.mem_append.1 hb with h|h
  ·exact v.clo b h
  ·simp only[List.mem_singleton]at h;subst h;exact v.at'
 ·have hAk:A k:=h2 k (by simp)
  rcases List.mem_append.1 hb with h|h
  ·exact v.sub A h1 (h1 k hAk) b h
  ·simp only[List.mem_singleton]at h;subst h;exact hAk
theorem vis_all (hE:Edges L n suc):∀N,VisOk L n suc (F125 N) N
 |0=>fun k post s hk hg hs hN _=>by
  have hcnt:=cnt_set s k hg (by omega)
  omega
 |N+1=>by
  have:=vis_body hE (vis_all hE N)
  intro k post s hk hg hs hN hp
  rw[F125_s]
  exact this k post s hk hg hs hN hp
theorem vis_q (hE:Edges L n suc) {k:Nat} {post:List Nat} {s:List Bool} (hk:k<n) (hg:gB s k=false) (hs:s.length=n) (hp:post.length+s.count false≤256):
 ∃ne s',q125 [L, .int k,dN post,dB s]=some [dN (post++ne),dB s']∧DV n suc [k] s s' ne:=by
 have hf:s.count false≤fuelL [L, .int k,dN post,dB s]:=by
  have h1:=fuel_in (l:=[L, .int k,dN post,dB s]) (d:=dB s) (by simp)
  have h2:=cnt_le s
  have h3:=len_size (dB s)
  have h4:(dB s).toList.length=s.length:=by simp[dB,D.toList]
  omega
 rw[q125_eq]
 exact vis_all hE _ k post s hk hg hs hf hp
end
theorem rev_loop:∀(m:Nat) (i j:Nat) (l:List Nat),i+j+1=l.length∨(l = []∧i=0∧j=0)→j≤m+i→l.length≤100000→
 ∃l',loW (st126_1 []) [.int i, .int (if l = []then -1 else(j:Int)),dN l]=some [.int 0,dN l']∧l'.length=l.length∧∀x,x∈l'↔x∈l:=by
 intro m
 induction m with
 |zero=>
  intro i j l h hm _
  refine⟨l,?_,rfl,fun x=>Iff.rfl⟩
  have c0:qcmp .lss (i:Int) (if l = []then -1 else(j:Int))=false:=by rw[qcmp_lss,decide_eq_false_iff_not];split<;>omega
  rw[loW_eq,st126_1_eq,c0];rfl
 |succ m ih=>
  intro i j l h hm hb
  by_cases hij:i<j∧l≠[]
  ·obtain⟨hij,hne⟩:=hij
   have hl:i+j+1=l.length:=by
    rcases h with h|h
    ·exact h
    ·exact absurd h.1 hne
   have hil:i<l.length:=by omega
   have hjl:j<l.length:=by omega
   rw[if_neg hne]
   have c0:qcmp .lss (i:Int) (j:Int)=true:=by rw[qcmp_lss,decide_eq_true_eq];omega
   have c1:qcmp .leq 0 (j:Int)=true:=by rw[qcmp_leq];simp
   have c2:qcmp .lss (j:Int) (qlen (dN l))=true:=by rw[qcmp_lss,len_N,decide_eq_true_eq];omega
   have c3:qcmp .leq 0 (i:Int)=true:=by rw[qcmp_leq];simp
   have c4:qcmp .lss (i:Int) (qlen (dN l))=true:=by rw[qcmp_lss,len_N,decide_eq_true_eq];omega
   have s1:∀(l:List Nat) (t v:Nat),qset (dN l) (t:Int) (.int (v:Int))=dN (l.set t v):=fun l t v=>by rw[qset_eq];unfold dN;simp[D.upd,D.toList,List.map_set]
   have i3:qinb (dN (l.set i l[j])) (j:Int)=true:=inb_N (by simpa using hjl)
   have d1:qcmp .eql (qlen (dN l)) (qlen (dN ((l.set i l[j]).set j l[i])))=true:=by rw[qcmp_eql,len_N,len_N];simp
   have a1:qbin .add .i64 (i:Int) 1=((i+1:Nat):Int):=add_nat (by omega)
   have a2:qbin .sub .i64 (j:Int) 1=((j-1:Nat):Int):=by rw[sub64 (by omega) (by omega)];omega
   have hnl:((l.set i l[j]).set j l[i]).length=l.length:=by simp
   have hne':(l.set i l[j]).set j l[i]≠[]:=fun h=>by rw[h]at hnl;simp at hnl;omega
   obtain⟨l',e1,e2,e3⟩:=ih (i+1) (j-1) ((l.set i l[j]).set j l[i]) (.inl (by rw[hnl];omega)) (by omega) (by rw[hnl];exact hb)
   rw[if_neg hne']at e1
   refine⟨l',?_,by rw[e2,hnl],fun x=> ?_⟩
   ·rw[loW_eq,st126_1_eq,c0,c1,c2,inb_N hjl,c3,c4,inb_N hil,get_N hil,get_N hjl,s1,s1,i3,d1,a1,a2]
    exact e1
   ·rw[e3]
    constructor
    ·intro hx
     rcases List.mem_or_eq_of_mem_set hx with hx|rfl
     ·rcases List.mem_or_eq_of_mem_set hx with hx|rfl
      ·exact hx
      ·exact List.getElem_mem _
     ·exact List.getElem_mem _
    ·intro hx
     obtain⟨p,hp,rfl⟩:=List.getElem_of_mem hx
     by_cases h1:p=i
     ·subst h1;exact List.mem_iff_getElem.2 ⟨j,by simpa using hjl,by simp⟩
     ·by_cases h2:p=j
      ·subst h2;exact List.mem_iff_getElem.2 ⟨i,by simpa using hil,by rw[List.getElem_set_ne (by omega)];simp⟩
      ·exact List.mem_iff_getElem.2 ⟨p,by simpa using hp,by rw[List.getElem_set_ne (by omega),List.getElem_set_ne (by omega)]⟩
  ·refine⟨l,?_,rfl,fun x=>Iff.rfl⟩
   have c0:qcmp .lss (i:Int) (if l = []then -1 else(j:Int))=false:=by
    rw[qcmp_lss,decide_eq_false_iff_not]
    split
    ·omega
    ·rename_i hne;have:¬i<j:=fun h=>hij ⟨h,hne⟩;omega
   rw[loW_eq,st126_1_eq,c0];rfl
theorem rev_p {l:List Nat} (hb:l.length≤100000):∃l',q126 [dN l]=some [dN l']∧l'.length=l.length∧∀x,x∈l'↔x∈l:=by
 obtain⟨l',e1,e2,e3⟩:=rev_loop l.length 0 (l.length-1) l (by
  cases l with
  |nil=>right;simp
  |cons x l=>left;simp) (by omega) hb
 refine⟨l',?_,e2,e3⟩
 have a:qbin .sub .i64 (qlen (dN l)) 1=(if l = []then -1 else((l.length-1:Nat):Int)):=by
  rw[len_N,sub64 (by omega) (by omega)]
  split
  ·rename_i h;subst h;rfl
  ·rename_i h
   have:0<l.length:=List.length_pos_iff.2 h
   omega
 have e1':l126_1 [] [.int 0, .int (qbin .sub .i64 (qlen (dN l)) 1),dN l]=some [.int 0,dN l']:=by rw[l126_1_eq,a];exact e1
 rw[q126_eq,F126_eq,e1']
 simp[qsome_s,qnth_s]
theorem reach_p {g:D} (hg:g.size≤lim) (h:eGraph g=0):∃R:List Bool,q20 [g]=some [dB R]∧R.length=(qfld g 1).toList.length∧gB R 0=true∧(∀b,gB R b=true→b<(qfld g 1).toList.length∧∀t∈sucG g b,gB R t=true)∧
 ∀A:Nat→Prop,(∀b,A b→∀t∈sucG g b,A t)→A 0→∀b,gB R b=true→A b:=by
 obtain⟨h0,h256,_,_⟩:=graph_ok hg h
 obtain⟨L,l1,l2,l3⟩:=all_p hg h
 generalize hn:(qfld g 1).toList.length=n at *
 have hE:Edges L n (sucG g):=⟨h256,l2,fun b hb=>by
  have:=edg_p hg h (b:=b) (by rw[hn];exact hb)
  rw[hn]at this
  rw[l3 b hb]
  exact this.2⟩
 have hf:∀b,gB (List.replicate n false) b=false:=fun b=>by
  unfold gB
  simp only[List.getD,List.getElem?_replicate]
  split<;>rfl
 obtain⟨ne,s',e1,v⟩:=vis_q hE (k:=0) (post:=[]) (s:=List.replicate n false) (by omega) (hf 0) (by simp) (by simp;omega)
 have hcnt:=v.cnt
 rw[List.count_replicate_self]at hcnt
 obtain⟨l',r1,r2,r3⟩:=rev_p (l:=ne) (by omega)
 have mark:∀(k i:Nat) (s:List Bool),i+k=l'.length→s.length=n→∃s'',loW (st20_3 [dN l', .int (qlen (dN l'))]) [.int i,dB s]=some [.int 0,dB s'']∧s''.length=n∧∀b,gB s'' b=true↔(gB s b=true∨b∈l'.drop i):=by
  intro k
  induction k with
  |zero=>
   intro i s hi hs
   have c0:qcmp .lss (i:Int) (qlen (dN l'))=false:=by rw[qcmp_lss,len_N,decide_eq_false_iff_not];omega
   refine⟨s,by rw[loW_eq,st20_3_eq,c0];rfl,hs,fun b=>by rw[List.drop_of_length_le (by omega)];simp⟩
  |succ k ih=>
   intro i s hi hs
   have hlt:i<l'.length:=by omega
   have ht:=(v.nb l'[i] ((r3 _).1 (List.getElem_mem hlt))).1
   have hg2:=get_N hlt
   have hdr:=List.drop_eq_getElem_cons hlt
   generalize l'[i]=t at *
   have c0:qcmp .lss (i:Int) (qlen (dN l'))=true:=by rw[qcmp_lss,len_N,decide_eq_true_eq];omega
   have c1:qcmp .leq 0 (t:Int)=true:=by rw[qcmp_leq];simp
   have c2:qcmp .lss (t:Int) (qlen (dB s))=true:=by rw[qcmp_lss,len_B];simp;omega
   have i1:qinb (dB s) (t:Int)=true:=inb_B (by omega)
   have d1:qcmp .eql (qlen (dB s)) (qlen (dB (s.set t true)))=true:=by rw[qcmp_eql,len_B,len_B];simp
   have a1:qbin .add .i64 (i:Int) 1=((i+1:Nat):Int):=add_nat (by omega)
   obtain⟨s'',e1,e2,e3⟩:=ih (i+1) (s.set t true) (by omega) (by simpa using hs)
   refine⟨s'',?_,e2,fun b=> ?_⟩
   ·rw[loW_eq,st20_3_eq,c0,inb_N hlt,hg2,c1,c2,i1,set_B,d1,a1]
    exact e1
   ·rw[e3,gB_set (by omega),hdr,Bool.or_eq_true,decide_eq_true_eq,List.mem_cons]
    constructor
    ·rintro((h|h)|h)
     ·exact .inr (.inl h)
     ·exact .inl h
     ·exact .inr (.inr h)
    ·rintro(h|h|h)
     ·exact .inl (.inr h)
     ·exact .inl (.inl h)
     ·exact .inr h
 obtain⟨R,m1,m2,m3⟩:=mark l'.length 0 (List.replicate n false) (by omega) (by simp)
 have hR:∀b,gB R b=true↔b∈ne:=fun b=>by rw[m3,hf,List.drop_zero,r3];simp
 have hRs:∀b,gB R b=true↔gB s' b=true:=fun b=>by
  rw[hR]
  constructor
  ·exact fun hb=>(v.nb b hb).2
  ·intro hb
   rcases v.mem b hb with h|h
   ·rw[hf]at h;cases h
   ·exact h
 have c1:qcmp .leq 0 (n:Int)=true:=by rw[qcmp_leq];simp
 have c2:qcmp .leq (n:Int) (n:Int)=true:=by rw[qcmp_leq];simp
 have c4:qmem (n:Int) 1=true:=qmem_ok (by omega) (by omega)
 have c5:qcmp .eql (n:Int) (qlen (dB (List.replicate n false)))=true:=by rw[qcmp_eql,len_B];simp
 have hLn:qlen L=(n:Int):=by rw[qlen_c,l2]
 have h95:q95 [L, .int 0]=some [dN l']:=by
  have c3:qcmp .geq 0 (n:Int)=false:=by rw[qcmp_geq,decide_eq_false_iff_not];omega
  have e1':q125 [L, .int 0, .list [],dB (List.replicate n false)]=some [dN ne,dB s']:=e1
  have c6:qcmp .eql (qlen (dN ne)) (qlen (dN l'))=true:=by rw[qcmp_eql,len_N,len_N,r2];simp
  rw[q95_eq,F95_eq]
  simp only[hLn,c1,c2,c3,c4,rep_B,c5,e1',r1,c6,qsome_s,qnth_s,List.getD_cons_zero,List.getD_cons_succ,cond_true,cond_false]
 have h51:q51 [g]=some [dN l']:=by
  rw[q51_eq,F51_eq,l1]
  simp only[qsome_s,qnth_s,List.getD_cons_zero,h95,cond_true]
 refine⟨R,?_,m2,(hRs 0).2 (v.at' 0 (by simp)),fun b hb=> ?_,fun A a1 a2 b hb=> ?_⟩
 ·have hl:qlen (qfld g 1)=(n:Int):=by rw[qlen_c,hn]
  have m1':l20_3 [dN l', .int (qlen (dN l'))] [.int 0,dB (List.replicate n false)]=some [.int 0,dB R]:=by rw[l20_3_eq];exact m1
  rw[q20_eq,F20_eq]
  simp only[hl,c1,c2,c4,h51,rep_B,c5,m1',qsome_s,qnth_s,List.getD_cons_zero,List.getD_cons_succ,cond_true]
 ·have hm:=(hR b).1 hb
  exact⟨(v.nb b hm).1,fun t ht=>(hRs t).2 (v.clo b hm t ht)⟩
 ·exact v.sub A a1 (fun t ht=>by simp only[List.mem_singleton]at ht;subst ht;exact a2) b ((hR b).1 hb)
end Go.Proofs.YtfdedgmlafelaaaGreatDoor
namespace Go.Proofs.YtfdedgmlafelaaaGreatDoor
set_option linter.unusedSimpArgs false
open Go Go.AM
theorem reach_seen {fin:Nat→Int→Option Int} {suc:Nat→List Nat} {s:List Bool} {o:List Int} {R:List Bool} (hc:Cons fin suc (asg s o)) (hm:∀A,Cons fin suc A→Sub s o A)
 (r0:gB R 0=true) (rc:∀b,gB R b=true→∀t∈suc b,gB R t=true) (rm:∀A:Nat→Prop,(∀b,A b→∀t∈suc b,A t)→A 0→∀b,gB R b=true→A b):∀b,gB R b=gB s b:=by
 have h1:∀b,gB R b=true→gB s b=true:=by
  refine rm (fun b=>gB s b=true) (fun b hb t ht=> ?_) ?_
  ·obtain⟨e,_,h2⟩:=hc.2 b (gI o b) (by unfold asg;rw[if_pos hb])
   have:=h2 t ht
   unfold asg at this
   split at this
   ·assumption
   ·cases this
  ·have:=hc.1
   unfold asg at this
   split at this
   ·assumption
   ·cases this
 have h2:∀b,gB s b=true→gB R b=true:=by
  have hA:Cons fin suc (fun b=>if gB R b=true then asg s o b else none):=by
   refine⟨by simp only[r0,if_true];exact hc.1,fun b d hb=> ?_⟩
   by_cases hr:gB R b=true
   ·simp only[hr,if_true]at hb
    obtain⟨e,e1,e2⟩:=hc.2 b d hb
    exact⟨e,e1,fun t ht=>by simp only[rc b hr t ht,if_true];exact e2 t ht⟩
   ·simp only[hr]at hb;cases hb
  intro b hb
  have:=hm _ hA b hb
  by_cases hr:gB R b=true
  ·exact hr
  ·simp only[hr]at this;cases this
 intro b
 cases hr:gB R b with
 |true=>exact(h1 b hr).symm
 |false=>
  cases hs:gB s b with
  |false=>rfl
  |true=>rw[h2 b hs]at hr;cases hr
theorem w_mod (n:Int):w n%4294967296=n%4294967296:=by unfold w;omega
theorem lawStep {l R g:D} {b:Nat} (hb:b<(qfld g 1).toList.length) {i:Nat} (hi:i<(qfld (blk g b) 1).toList.length) (hl:i<9223372036854775807) (hs:StOk (qget (qfld (blk g b) 1) (i:Int))) {d d':Int} (ha:aft (qget (qfld (blk g b) 1) (i:Int)) d=some d'):
 st6_17 [l,R, .int b,g] [.int (d%4294967296), .int i]=some (.inl [.int (d'%4294967296), .int ((i+1:Nat):Int)]):=by
 have c0:qcmp .lss (i:Int) (qlen (qfld (blk g b) 1))=true:=by rw[qcmp_lss,qlen_c,decide_eq_true_eq];omega
 rw[st6_17_eq,qinb_n hb,show qget (qfld g 1) (b:Int)=blk g b from rfl,c0,qinb_n hi]
 generalize qget (qfld (blk g b) 1) (i:Int)=s at *
 unfold aft at ha
 by_cases h5:qint (qfld s 0)=5
 ·rw[if_pos h5]at ha
  cases ha
  simp only[h5,qcmp_eql,qiteB_c,qiteI_c,show¬(5:Int)=1 by omega,decide_true,decide_false,cond_true,cond_false,add_nat hl,add32',w_mod]
  congr 4;omega
 rw[if_neg h5]at ha
 by_cases h3:qint (qfld s 0)=3∧qint (qfld s 1)=7
 ·rw[if_pos h3]at ha;cases ha
 rw[if_neg h3]at ha
 by_cases h1:qint (qfld s 0)=1∧qint (qfld s 1)=7
 ·rw[if_pos h1]at ha
  obtain⟨hlen,hx⟩:=hs h1.1
  have i0:qinb (qfld s 6) 0=true:=qinb_n (i:=0) (by omega)
  have hm:qget (qfld s 6) 0∈(qfld s 6).toList:=get_mem (i:=0) (by omega)
  have hq:=st_r (hx _ hm)
  have hl1:qlen (qfld s 6)=1:=by rw[qlen_c,hlen];rfl
  cases hS:isSt (qget (qfld s 6) 0)with
  |false=>rw[hS]at ha;simp at ha
  |true=>
   rw[hS]at ha hq
   simp only[if_true,Option.some.injEq]at ha
   subst ha
   simp only[h1.1,h1.2,hl1,i0,hq,qsome_s,qnth_s,List.getD_cons_zero,List.getD_cons_succ,qbool_b,qint_i,qnot_c,Bool.not_true,qcmp_eql,qiteB_c,qiteI_c,show¬(1:Int)=5 by omega,decide_true,decide_false,cond_true,cond_false,add_nat hl,add32',w_mod,w32u]
   congr 4;omega
 rw[if_neg h1]at ha
 cases ha
 have h1':(bif decide (qint (qfld s 0)=1)then decide (qint (qfld s 1)=7)else false)=false:=by
  cases h:decide (qint (qfld s 0)=1)<;>simp_all
 simp only[h5,h1',qcmp_eql,qiteB_c,qiteI_c,decide_false,cond_true,cond_false,add_nat hl]
theorem lawRun {l R g:D} {b:Nat} (hb:b<(qfld g 1).toList.length) (hB:BlOk (blk g b)) {e:Int}:∀(k i:Nat) (d:Int),i+k=(qfld (blk g b) 1).toList.length→acr ((qfld (blk g b) 1).toList.drop i) d=some e→
 loW (st6_17 [l,R, .int b,g]) [.int (d%4294967296), .int i]=some [.int 0, .int (e%4294967296)]
 |0,i,d,hi,ha=>by
  rw[List.drop_of_length_le (by omega)]at ha
  simp only[acr,Option.some.injEq]at ha
  subst ha
  have c0:qcmp .lss (i:Int) (qlen (qfld (blk g b) 1))=false:=by rw[qcmp_lss,qlen_c,decide_eq_false_iff_not];omega
  rw[loW_eq,st6_17_eq,qinb_n hb,show qget (qfld g 1) (b:Int)=blk g b from rfl,c0];rfl
 |k+1,i,d,hi,ha=>by
  have hlt:i<(qfld (blk g b) 1).toList.length:=by omega
  have hl:=hB.1
  unfold maxLen at hl
  have hg:qget (qfld (blk g b) 1) (i:Int)=(qfld (blk g b) 1).toList[i]:=by rw[qget_n,getD_lt hlt]
  rw[List.drop_eq_getElem_cons hlt, ← hg]at ha
  simp only[acr]at ha
  cases hd:aft (qget (qfld (blk g b) 1) (i:Int)) d with
  |none=>rw[hd]at ha;cases ha
  |some d'=>
   rw[hd]at ha
   rw[loW_eq,lawStep hb hlt (by omega) (hB.2 _ (get_mem hlt)) hd]
   exact lawRun hb hB k (i+1) d' (by omega) ha
theorem lawNext {R g X:D} {o:List Int} {b n:Nat} {e:Int} (ho:o.length=n) (hX:Tg n X) (hn:∀t∈X.toList.map nat,gI o t=e):∀(k i:Nat),i+k=X.toList.length→
 loW (st6_29 [dI o,R, .int b, .int (e%4294967296),X,g]) [.int i]=some [.int 0]
 |0,i,hi=>by
  have c0:qcmp .lss (i:Int) (qlen X)=false:=by rw[qcmp_lss,qlen_c,decide_eq_false_iff_not];omega
  rw[loW_eq,st6_29_eq,c0];rfl
 |k+1,i,hi=>by
  have hlt:i<X.toList.length:=by omega
  obtain⟨ht,hr⟩:=hX.get hlt
  have hlen:=hX.len
  unfold maxLen at hlen
  have hv:=hn (nat X.toList[i]) (List.mem_map.2 ⟨_,List.getElem_mem hlt,rfl⟩)
  generalize nat X.toList[i]=t at *
  have c0:qcmp .lss (i:Int) (qlen X)=true:=by rw[qcmp_lss,qlen_c,decide_eq_true_eq];omega
  have i1:qinb (dI o) (t:Int)=true:=inb_I (by omega)
  have c1:decide ((t:Int)<0)=false:=by rw[decide_eq_false_iff_not];omega
  have c2:decide ((o.length:Int)≤(t:Int))=false:=by rw[decide_eq_false_iff_not];omega
  rw[loW_eq,st6_29_eq,c0,qinb_n hlt,ht]
  simp only[qcmp_lss,qcmp_geq,qcmp_neq,len_I,c1,c2,i1,get_I,hv,w32u,qand_c,qiteB_c,decide_true,Bool.not_true,Bool.and_self,cond_true,cond_false,add_nat (show i<9223372036854775807 by omega)]
  exact lawNext ho hX hn k (i+1) (by omega)
theorem lawBlocks {g:D} {n:Nat} (G:Gok g n) {s R:List Bool} {o:List Int} (hR:R.length=n) (ho:o.length=n) (hs:∀b,gB R b=gB s b) (hc:Cons (finG g) (sucG g) (asg s o)) (hz:∀b,gB s b=false→gI o b=0):∀(k i:Nat),i+k=n→
 loW (st6_10 [dI o,dB R,g]) [.int i]=some [.int 0]
 |0,i,hi=>by
  have c0:qcmp .lss (i:Int) (qlen (qfld g 1))=false:=by rw[qcmp_lss,qlen_c,G.len,decide_eq_false_iff_not];omega
  rw[loW_eq,st6_10_eq,c0];rfl
 |k+1,i,hi=>by
  have h256:=G.n256
  have hlt:i<n:=by omega
  have hlg:i<(qfld g 1).toList.length:=by rw[G.len];exact hlt
  have c0:qcmp .lss (i:Int) (qlen (qfld g 1))=true:=by rw[qcmp_lss,qlen_c,G.len,decide_eq_true_eq];omega
  have i1:qinb (dB R) (i:Int)=true:=inb_B (by omega)
  have i2:qinb (dI o) (i:Int)=true:=inb_I (by omega)
  have ih:=lawBlocks G hR ho hs hc hz k (i+1) (by omega)
  have a1:qbin .add .i64 (i:Int) 1=((i+1:Nat):Int):=add_nat (by omega)
  rw[loW_eq,st6_10_eq,c0,i1,i2,get_B,get_I,a1,hs]
  cases hb:gB s i with
  |false=>
   simp only[hz i hb,qnot_c,Bool.not_false,qcmp_neq,decide_true,Bool.not_true,cond_true,cond_false]
   exact ih
  |true=>
   obtain⟨e,e1,e2⟩:=hc.2 i (gI o i) (by unfold asg;rw[if_pos hb])
   obtain⟨X,hX1,hX2,hX3⟩:=G.tp i hlt
   have h17:l6_17 [dI o,dB R, .int i,g] [.int (gI o i%4294967296), .int 0]=some [.int 0, .int (e%4294967296)]:=by
    rw[l6_17_eq]
    exact lawRun hlg (G.bl i hlt) (qfld (blk g i) 1).toList.length 0 (gI o i) (by omega) (by rw[List.drop_zero];exact e1)
   have h29:l6_29 [dI o,dB R, .int i, .int (e%4294967296),X,g] [.int 0]=some [.int 0]:=by
    rw[l6_29_eq]
    refine lawNext ho hX2 (fun t ht=> ?_) X.toList.length 0 (by omega)
    rw[hX3]at ht
    have:=e2 t ht
    unfold asg at this
    split at this
    ·exact Option.some.inj this
    ·cases this
   change q22 [qget (qfld g 1) (i:Int)]=_ at hX1
   simp only[qnot_c,Bool.not_true,cond_true,cond_false,w32u,h17,qsome_s,qnth_s,List.getD_cons_zero,List.getD_cons_succ,qint_i,qcmp_eql,decide_true,qinb_n hlg,hX1,h29]
   exact ih
theorem law6' {g:D} (h9:q9 []=some [.bool true]) (hL:q8 [g]=some [.bool true]∨(q8 [g]=some [.bool false]∧g.size≤lim)):q6 [g]=some [.bool true]:=by
 rw[q6_eq,F6_eq]
 rcases hL with h|⟨h,hg⟩
 ·simp[h,h9,qsome_s,qnth_s,qbool_b]
 ·obtain⟨e1,_⟩:=graph_eq hg hg
  by_cases h0:eGraph g=0
  ·have G:=gok hg h0
   obtain⟨r,r1,r2⟩:=q28_good G
   have h17:q17 [g]=some (dOut r):=by
    rw[q17_eq,F17_eq,e1,h0,r2]
    cases r with
    |none=>simp[dOut,qsome_s,qnth_s,qint_i,qcmp_neq,qbool_b]
    |some p=>obtain⟨s,o⟩:=p;simp[dOut,qsome_s,qnth_s,qint_i,qcmp_neq,qbool_b]
   rw[h,h17]
   cases r with
   |none=>simp[dOut,qsome_s,qnth_s,qint_i,qcmp_neq,qcmp_eql,qbool_b,qnot_c,qiteB_c,qlen_l,h9]
   |some p=>
    obtain⟨s,o⟩:=p
    obtain⟨_,ho,hc,hm,hz⟩:=r1
    obtain⟨R,p1,p2,p3,p4,p5⟩:=reach_p hg h0
    have hs:=reach_seen hc hm p3 (fun b hb=>(p4 b hb).2) p5
    have hl:=lawBlocks G p2 ho hs hc hz (qfld g 1).toList.length 0 (by omega)
    have hl':l6_10 [dI o,dB R,g] [.int 0]=some [.int 0]:=by rw[l6_10_eq];exact hl
    have hn:=G.n0
    have g0:gI o 0=0:=by
     have:=hc.1
     unfold asg at this
     split at this
     ·exact Option.some.inj this
     ·cases this
    have i0:qinb (dI o) 0=true:=inb_I (i:=0) (by omega)
    have q0:qint (qget (dI o) 0)=0:=(get_I o 0).trans g0
    have hne:¬((qfld g 1).toList.length:Int)=0:=by omega
    have n1:qlen (dI o)=((qfld g 1).toList.length:Int):=by rw[len_I,ho]
    have n2:qlen (dB R)=((qfld g 1).toList.length:Int):=by rw[len_B,p2]
    have n3:qlen (qfld g 1)=((qfld g 1).toList.length:Int):=qlen_c _
    generalize ((qfld g 1).toList.length:Int)=m at hne n1 n2 n3
    simp[dOut,qsome_s,qnth_s,qint_i,qcmp_neq,qcmp_eql,qbool_b,qnot_c,qiteB_c,n1,n2,n3,hne,e1,h0,p1,hl',i0,q0,h9]
  ·have h17:q17 [g]=some [.list [], .bool false]:=by rw[q17_eq,F17_eq,e1];simp[qsome_s,qnth_s,qint_i,qcmp_neq,h0]
   rw[h,h17]
   simp[qsome_s,qnth_s,qint_i,qcmp_neq,qcmp_eql,qbool_b,qnot_c,qiteB_c,qlen_l,h9]
end Go.Proofs.YtfdedgmlafelaaaGreatDoor
namespace Go.Proofs.YtfdedgmlafelaaaGreatDoor
open Go Go.AM
theorem okT:okTypes PG=true:=by kernel_rfl
theorem pg:PG=Tryz.prog:=by unfold PG;rfl
theorem tabs {W:World} {E:Nat→Prop} {S:FunS} {p s:List D} (g:Nat) (cs:List AV) (hgl:(heapF S p s).glob g=some cs):g<W.heap.size∧GlRep E W g cs:=by
 have hp:(heapF S p s).glob g=none:=rfl
 rw[hp]at hgl;cases hgl
end Go.Proofs.YtfdedgmlafelaaaGreatDoor
namespace Go.Proofs.YtfdedgmlafelaaaGreatDoor
open Go Go.AM
theorem law6 {g:D} (hc:Conf PG 25 g):q6 [g]=some [.bool true]:=law6' q9_eq (large hc)
theorem sound6:SoundF env.P 6 S6 q6:=by rw[q6_eq];exact liftX_sound envOk ok_tbl6_10 60 12
theorem top6 {d0:D} (c0:Conf PG 25 d0) (w:World) {v0:Value} (r0:Rep nowhere (fun b=>b<w.heap.size) w (.dat 25 d0) v0):
 Calls Tryz.prog 6 #[v0] w fun e w'=>e = .returned (.bool true)∧RowKit.Below w.heap.size w w':=by
 refine(sound6 [] [d0] [.bool true] rfl (law6 c0) (fun b=>b<w.heap.size) w nowhere _ w #[v0] (Inv.empty w _ (fun _ h=>h) rfl rfl (fun g cs h=>tabs g cs h))
  (RepL.cons r0 RepL.nil)).mono ?_
 rintro e w' ⟨u,ρ',E',rfl,inv,reach,rep⟩
 have hr:resF S6 [] (bdL [.bool true]) = .ub true:=rfl
 rw[hr]at rep
 simp only[Rep]at rep
 subst rep
 exact⟨rfl,⟨inv.io.1,inv.io.2.1,inv.io.2.2,reach.size,inv.old⟩⟩
end Go.Proofs.YtfdedgmlafelaaaGreatDoor
