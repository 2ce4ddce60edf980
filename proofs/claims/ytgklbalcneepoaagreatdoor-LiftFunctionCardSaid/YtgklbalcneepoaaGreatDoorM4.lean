/-
  Plain laws: what is not known, unveiled; loops over numbers.
-/
import Derived.Test.YtgklbalcneepoaaGreatDoorAmS
import Derived.Test.YtgklbalcneepoaaGreatDoorM1
import Derived.Test.YtgklbalcneepoaaGreatDoorM2
import Derived.Test.YtgklbalcneepoaaGreatDoorM3
import Derived.Test.YtgklbalcneepoaaGreatDoorRows
import Derived.Test.YtgklbalcneepoaaGreatDoorC1
import Derived.Deep.DeepHandedRow
import Derived.Lib.LaidTab
import Derived.MakeChecks
import Derived.LaidSub
import Derived.FnData
namespace Go.AM
set_option linter.unusedVariables false
set_option linter.unusedSimpArgs false
theorem qsome_s (r:List D):qsome (some r)=true:=by rw[qsome_eq];rfl
theorem qsome_n:qsome none=false:=by rw[qsome_eq];rfl
theorem qnth_s (r:List D) (j:Nat):qnth (some r) j=r.getD j .other:=by rw[qnth_eq];rfl
theorem qint_i (n:Int):qint (.int n)=n:=by rw[qint_eq];rfl
theorem qbool_b (b:Bool):qbool (.bool b)=b:=by rw[qbool_eq];rfl
theorem qcmp_lss (a b:Int):qcmp .lss a b=decide (a<b):=by rw[qcmp_eq];rfl
theorem qcmp_leq (a b:Int):qcmp .leq a b=decide (a≤b):=by rw[qcmp_eq];rfl
theorem qcmp_gtr (a b:Int):qcmp .gtr a b=decide (b<a):=by rw[qcmp_eq];rfl
theorem qcmp_geq (a b:Int):qcmp .geq a b=decide (b≤a):=by rw[qcmp_eq];rfl
theorem qcmp_eql (a b:Int):qcmp .eql a b=decide (a=b):=by rw[qcmp_eq];simp only[rcmp];cases h:decide (a=b)<;>simp_all
theorem qcmp_neq (a b:Int):qcmp .neq a b = !decide (a=b):=by rw[qcmp_eq];simp only[rcmp,bne];cases h:decide (a=b)<;>simp_all
theorem qiteB_c (c a b:Bool):qiteB c a b=bif c then a else b:=by rw[qiteB_eq]
theorem qnot_c (a:Bool):qnot a = !a:=by rw[qnot_eq]
theorem qlen_c (d:D):qlen d=(d.toList.length:Int):=by rw[qlen_eq];rfl
theorem qinb_c (d:D) (i:Int):qinb d i=(decide (0≤i)&&decide (i<d.toList.length)):=by rw[qinb_eq];rfl
theorem qget_n (d:D) (i:Nat):qget d (i:Int)=d.toList.getD i .other:=by rw[qget_eq];simp[D.get]
theorem qinb_n {d:D} {i:Nat} (h:i<d.toList.length):qinb d (i:Int)=true:=by rw[qinb_c];simp;omega
theorem getD_lt {xs:List D} {i:Nat} (h:i<xs.length):xs.getD i .other=xs[i]:=by simp[List.getD,h]
theorem wrap64' {n:Int} (h0: -9223372036854775808≤n) (h1:n≤9223372036854775807):IntKind.i64.wrap n=n:=wrap64 h0 h1
theorem add_nat {i:Nat} (h:i<9223372036854775807):qbin .add .i64 (i:Int) 1=((i+1:Nat):Int):=by
 rw[add64 (by omega) (by omega)];omega
theorem idxLoop {st:List D→Option (Sum (List D) (List D))} {l:D} {c:D→Option (List D)} {p:D→Bool} {r1:Int→List D} {r0:List D}
 (hst:∀i:Int,st [.int i]=bif qcmp .lss i (qlen l)then bif qinb l i then bif qsome (c (qget l i))then bif qbool (qnth (c (qget l i)) 0)then some (.inr (r1 i))else some (.inl [.int (qbin .add .i64 i 1)])else none else none else some (.inr r0))
 (hl:l.toList.length≤maxLen) (hc:∀x∈l.toList,c x=some [.bool (p x)]):
 (loW st [.int 0]=some r0∧l.toList.any p=false)∨∃i:Nat,loW st [.int 0]=some (r1 i)∧l.toList.any p=true:=by
 unfold maxLen at hl
 have key:∀k i:Nat,i+k=l.toList.length→(loW st [.int i]=some r0∧(l.toList.drop i).any p=false)∨∃j:Nat,loW st [.int i]=some (r1 j)∧(l.toList.drop i).any p=true:=by
  intro k
  induction k with
  |zero=>
   intro i hi
   left
   rw[loW_eq,hst,qcmp_lss,qlen_c,List.drop_of_length_le (by omega)]
   simp[show¬((i:Int)<l.toList.length)by omega]
  |succ k ih=>
   intro i hi
   have hlt:i<l.toList.length:=by omega
   rw[loW_eq,hst,qcmp_lss,qlen_c,qinb_n hlt,qget_n,getD_lt hlt,hc _ (List.getElem_mem hlt),List.drop_eq_getElem_cons hlt]
   simp only[show((i:Int)<l.toList.length)by omega,decide_true,cond_true,qsome_s,qnth_s,List.getD_cons_zero,qbool_b,List.any_cons]
   cases hp:p l.toList[i]with
   |true=>exact .inr ⟨i,rfl,by simp⟩
   |false=>
    simp only[cond_false,Bool.false_or]
    rw[add_nat (by omega)]
    exact ih (i+1) (by omega)
 have:=key l.toList.length 0 (by omega)
 simpa using this
theorem size_elem {d:D} {j:Nat} {x:D} (h:x∈(d.fld j).toList):x.size<d.size:=by
 cases d with
 |agg xs=>
  simp only[D.fld,List.getD]at h
  cases hx:xs[j]? with
  |none=>rw[hx]at h;simp[D.toList]at h
  |some y=>
   rw[hx]at h
   simp only[Option.getD_some]at h
   have h1:=sizes_get hx
   cases y with
   |list ys=>
    simp only[D.toList]at h
    obtain⟨i,hi⟩:=List.getElem?_of_mem h
    have h2:=sizes_get hi
    simp only[D.size]at h1 ⊢
    omega
   |_=>simp[D.toList]at h
 |_=>simp[D.fld,D.toList]at h
end Go.AM
namespace Go.Proofs.YtgklbalcneepoaaGreatDoor
set_option linter.unusedSimpArgs false
open Go Go.AM
def shp (o f w cc:Int):Option Int:=
 if 0≤o∧o≤2 then some 0
 else if o=3∨o=4 then some 1
 else if 5≤o∧o≤15 then(if f=0 then some 3 else if f=1 then some 4 else if f=2 then some 6 else none)
 else if o=16∨o=18 then(if w=1∨w=2∨w=4 then some 5 else none)
 else if o=17 then(if w=1∨w=2 then some 5 else none)
 else if o=19 then some 5
 else if o=20 then(if 0≤cc∧cc≤14 then(if f=1 then some 7 else if f=2 then some 8 else none)else none)
 else if o=25 then(if 0≤cc∧cc≤14 then some 2 else none)
 else if o=23 then some 8
 else if o=24∨o=21∨o=26∨o=27 then some 2
 else if o=22 then some 6
 else none
theorem ocases (o:Int):(o<0∨27<o)∨(o=0∨o=1∨o=2)∨o=3∨o=4∨(5≤o∧o≤15)∨o=16∨o=17∨o=18∨o=19∨o=20∨o=21∨o=22∨o=23∨o=24∨o=25∨o=26∨o=27:=by omega
theorem acc_spec (d:D) (ho:qint (qfld d 2)=16∨qint (qfld d 2)=17∨qint (qfld d 2)=18):
 (∃c,q155 [d]=some [.int c, .int 5, .bool true]∧shp (qint (qfld d 2)) (qint (qfld d 3)) (qint (qfld d 4)) (qint (qfld d 5))=some 5)∨
 (∃c,q155 [d]=some [.int c, .int 5, .bool false]∧shp (qint (qfld d 2)) (qint (qfld d 3)) (qint (qfld d 4)) (qint (qfld d 5))=none):=by
 rw[q155_eq,F155_eq]
 generalize qint (qfld d 2)=o at *
 generalize qint (qfld d 3)=f at *
 generalize qint (qfld d 4)=w at *
 simp only[qand_eq,qcmp_eql]
 rcases ho with rfl|rfl|rfl<;>by_cases h1:w=1<;>by_cases h2:w=2<;>by_cases h4:w=4<;>first|omega|simp[*,shp]
theorem cc_spec (d:D) (ho:qint (qfld d 2)=20∨qint (qfld d 2)=25):
 (∃c s,q156 [d]=some [.int c, .int s, .bool true]∧shp (qint (qfld d 2)) (qint (qfld d 3)) (qint (qfld d 4)) (qint (qfld d 5))=some s)∨
 (∃c s,q156 [d]=some [.int c, .int s, .bool false]∧shp (qint (qfld d 2)) (qint (qfld d 3)) (qint (qfld d 4)) (qint (qfld d 5))=none):=by
 rw[q156_eq,F156_eq]
 generalize qint (qfld d 2)=o at *
 generalize qint (qfld d 3)=f at *
 generalize qint (qfld d 4)=w at *
 generalize qint (qfld d 5)=cc at *
 simp only[qiteB_c,qcmp_eql,qcmp_lss,qcmp_gtr]
 rcases ho with rfl|rfl<;>by_cases h1:cc<0<;>by_cases h2:14<cc<;>by_cases h3:f=1<;>by_cases h4:f=2<;>first|omega|(simp[*,shp];done)|(simp[*,shp];omega)
theorem op_spec (d:D):
 (∃c s,q109 [d]=some [.int c, .int s, .bool true]∧shp (qint (qfld d 2)) (qint (qfld d 3)) (qint (qfld d 4)) (qint (qfld d 5))=some s)∨
 (∃c s,q109 [d]=some [.int c, .int s, .bool false]∧shp (qint (qfld d 2)) (qint (qfld d 3)) (qint (qfld d 4)) (qint (qfld d 5))=none):=by
 have hacc:=acc_spec d
 have hcc:=cc_spec d
 rw[q109_eq,F109_eq]
 generalize qint (qfld d 2)=o at *
 generalize qint (qfld d 3)=f at *
 generalize qint (qfld d 4)=w at *
 generalize qint (qfld d 5)=cc at *
 generalize qint (qfld d 6)=a at *
 simp only[qiteB_c,qcmp_eql,qcmp_geq,qcmp_leq]
 rcases ocases o with h|h|rfl|rfl|h|rfl|rfl|rfl|rfl|rfl|rfl|rfl|rfl|rfl|rfl|rfl|rfl
 ·right
  simp[shp,show¬o=0 by omega,show¬o=1 by omega,show¬o=2 by omega,show¬o=3 by omega,show¬o=4 by omega,show¬(5≤o∧o≤15)by omega,show¬(0≤o∧o≤2)by omega,show¬o=16 by omega,show¬o=17 by omega,show¬o=18 by omega,show¬o=19 by omega,show¬o=20 by omega,show¬o=21 by omega,show¬o=22 by omega,show¬o=23 by omega,show¬o=24 by omega,show¬o=25 by omega,show¬o=26 by omega,show¬o=27 by omega]
  rcases h with h|h
  ·simp[show¬5≤o by omega]
  ·simp[show¬o≤15 by omega]
 ·left
  rcases h with rfl|rfl|rfl<;>simp[shp]
 ·left;simp[shp]
 ·left;simp[shp]
 ·obtain⟨h1,h2⟩:=h
  by_cases f0:f=0
  ·left;subst f0;simp[shp,h1,h2,show¬o=0 by omega,show¬o=1 by omega,show¬o=2 by omega,show¬o=3 by omega,show¬o=4 by omega,show¬o≤2 by omega]
  by_cases f1:f=1
  ·left;subst f1;simp[shp,h1,h2,show¬o=0 by omega,show¬o=1 by omega,show¬o=2 by omega,show¬o=3 by omega,show¬o=4 by omega,show¬o≤2 by omega]
  by_cases f2:f=2
  ·left;subst f2;simp[shp,h1,h2,show¬o=0 by omega,show¬o=1 by omega,show¬o=2 by omega,show¬o=3 by omega,show¬o=4 by omega,show¬o≤2 by omega]
  ·right;simp[shp,f0,f1,f2,h1,h2,show¬o=0 by omega,show¬o=1 by omega,show¬o=2 by omega,show¬o=3 by omega,show¬o=4 by omega,show¬o≤2 by omega]
 ·rcases hacc (by simp)with⟨c,h,hs⟩|⟨c,h,hs⟩
  ·left;exact⟨c,5,by simp[h,qsome_s,qnth_s,qint_i,qbool_b],hs⟩
  ·right;exact⟨c,5,by simp[h,qsome_s,qnth_s,qint_i,qbool_b],hs⟩
 ·rcases hacc (by simp)with⟨c,h,hs⟩|⟨c,h,hs⟩
  ·left;exact⟨c,5,by simp[h,qsome_s,qnth_s,qint_i,qbool_b],hs⟩
  ·right;exact⟨c,5,by simp[h,qsome_s,qnth_s,qint_i,qbool_b],hs⟩
 ·rcases hacc (by simp)with⟨c,h,hs⟩|⟨c,h,hs⟩
  ·left;exact⟨c,5,by simp[h,qsome_s,qnth_s,qint_i,qbool_b],hs⟩
  ·right;exact⟨c,5,by simp[h,qsome_s,qnth_s,qint_i,qbool_b],hs⟩
 ·left;simp[shp]
 ·rcases hcc (by simp)with⟨c,s,h,hs⟩|⟨c,s,h,hs⟩
  ·left;exact⟨c,s,by simp[h,qsome_s,qnth_s,qint_i,qbool_b],hs⟩
  ·right;exact⟨c,s,by simp[h,qsome_s,qnth_s,qint_i,qbool_b],hs⟩
 ·left;simp[shp]
 ·left;simp[shp]
 ·left;simp[shp]
 ·left;simp[shp]
 ·rcases hcc (by simp)with⟨c,s,h,hs⟩|⟨c,s,h,hs⟩
  ·left;exact⟨c,s,by simp[h,qsome_s,qnth_s,qint_i,qbool_b],hs⟩
  ·right;exact⟨c,s,by simp[h,qsome_s,qnth_s,qint_i,qbool_b],hs⟩
 ·left;simp[shp]
 ·left;simp[shp]
theorem kept_spec (d:D) (s:Int):q111 [d, .int s]=some [.agg [.int (qint (qfld d 0)), .int (if 4≤s∧s≤8 then qint (qfld d 1)else 0), .int (qint (qfld d 2)),
 .int (if 5≤qint (qfld d 2)∧qint (qfld d 2)≤15∨qint (qfld d 2)=20 then qint (qfld d 3)else 0), .int (if 16≤qint (qfld d 2)∧qint (qfld d 2)≤18 then qint (qfld d 4)else 0),
 .int (if qint (qfld d 2)=20∨qint (qfld d 2)=25 then qint (qfld d 5)else 0), .int (if 1≤s∧s≤6 then qint (qfld d 6)else 0), .int (if s=3∨s=5 then qint (qfld d 7)else 0), .int (qint (qfld d 8))]]:=by
 rw[q111_eq,F111_eq]
 generalize qint (qfld d 2)=o at *
 simp only[qiteB_c,qcmp_eql,qcmp_geq,qcmp_leq]
 have hsc:(s<1∨8<s)∨s=1∨s=2∨s=3∨s=4∨s=5∨s=6∨s=7∨s=8:=by omega
 have hoc:(o<5∨(18<o∧o≠20∧o≠25))∨(5≤o∧o≤15)∨o=16∨o=17∨o=18∨o=20∨o=25:=by omega
 rcases hoc with ho|ho|rfl|rfl|rfl|rfl|rfl
 ·have e1:¬(5≤o∧o≤15):=by omega
  have e2:(decide (5≤o)&&decide (o≤15))=false:=by simp;omega
  rcases hsc with hs|rfl|rfl|rfl|rfl|rfl|rfl|rfl|rfl
  ·simp[e1,e2,show¬o=16 by omega,show¬o=17 by omega,show¬o=18 by omega,show¬o=20 by omega,show¬o=25 by omega,show¬(16≤o∧o≤18)by omega,show¬s=1 by omega,show¬s=2 by omega,show¬s=3 by omega,show¬s=4 by omega,show¬s=5 by omega,show¬s=6 by omega,show¬s=7 by omega,show¬s=8 by omega,show¬(1≤s∧s≤6)by omega,show¬(4≤s∧s≤8)by omega]
  all_goals
   simp[e1,e2,show¬o=16 by omega,show¬o=17 by omega,show¬o=18 by omega,show¬o=20 by omega,show¬o=25 by omega,show¬(16≤o∧o≤18)by omega]
 ·rcases hsc with hs|rfl|rfl|rfl|rfl|rfl|rfl|rfl|rfl
  ·simp[ho.1,ho.2,show¬o=16 by omega,show¬o=17 by omega,show¬o=18 by omega,show¬o=20 by omega,show¬o=25 by omega,show¬(16≤o∧o≤18)by omega,show¬s=1 by omega,show¬s=2 by omega,show¬s=3 by omega,show¬s=4 by omega,show¬s=5 by omega,show¬s=6 by omega,show¬s=7 by omega,show¬s=8 by omega,show¬(1≤s∧s≤6)by omega,show¬(4≤s∧s≤8)by omega]
  all_goals simp[ho.1,ho.2,show¬o=16 by omega,show¬o=17 by omega,show¬o=18 by omega,show¬o=20 by omega,show¬o=25 by omega,show¬(16≤o∧o≤18)by omega]
 all_goals
  rcases hsc with hs|rfl|rfl|rfl|rfl|rfl|rfl|rfl|rfl
  ·simp[show¬s=1 by omega,show¬s=2 by omega,show¬s=3 by omega,show¬s=4 by omega,show¬s=5 by omega,show¬s=6 by omega,show¬s=7 by omega,show¬s=8 by omega,show¬(1≤s∧s≤6)by omega,show¬(4≤s∧s≤8)by omega]
  all_goals simp
def okA (s o f w cc a b imm j:Int):Prop:=
 (0≤a∧a<8)∧(0≤b∧b<8)∧(4≤s∧s≤8∨imm=0)∧(5≤o∧o≤15∨o=20∨f=0)∧(16≤o∧o≤18∨w=0)∧(o=20∨o=25∨cc=0)∧(1≤s∧s≤6∨a=0)∧(s=3∨s=5∨b=0)∧
 (s=4∨s=5→imm≤127∨4294967168≤imm)∧(s=7→j≤127∨4294967168≤j)
def okArg (s o f w cc a b imm:Int):Prop:=
 (0≤a∧a<8)∧(0≤b∧b<8)∧(4≤s∧s≤8∨imm=0)∧(5≤o∧o≤15∨o=20∨f=0)∧(16≤o∧o≤18∨w=0)∧(o=20∨o=25∨cc=0)∧(1≤s∧s≤6∨a=0)∧(s=3∨s=5∨b=0)
noncomputable def short (d:D):Int:=qbin .sub .u32 (qbin .sub .u32 (qint (qfld d 1)) (qint (qfld d 0))) 2
def hasS (d:D) (s:Int):Prop:=
 shp (qint (qfld d 2)) (qint (qfld d 3)) (qint (qfld d 4)) (qint (qfld d 5))=some s∧okA s (qint (qfld d 2)) (qint (qfld d 3)) (qint (qfld d 4)) (qint (qfld d 5)) (qint (qfld d 6)) (qint (qfld d 7)) (qint (qfld d 1)) (short d)
def argOk (d:D):Prop:=
 ∃s,shp (qint (qfld d 2)) (qint (qfld d 3)) (qint (qfld d 4)) (qint (qfld d 5))=some s∧okArg s (qint (qfld d 2)) (qint (qfld d 3)) (qint (qfld d 4)) (qint (qfld d 5)) (qint (qfld d 6)) (qint (qfld d 7)) (qint (qfld d 1))
theorem qfld_agg (xs:List D) (j:Nat):qfld (.agg xs) j=xs.getD j .other:=by rw[qfld_eq];rfl
theorem keq (C:Prop) [Decidable C] (x:Int):decide ((if C then x else 0)=x)=decide (C∨x=0):=by
 by_cases h:C
 ·simp[h]
 ·simp[h];exact⟨fun e=>e.symm,fun e=>e.symm⟩
theorem dself (x:Int):decide (x=x)=true:=by simp
theorem narB (s i j:Int):(bif bif (bif decide (s=4)then true else decide (s=5))then !(bif decide (i≤127)then true else decide (4294967168≤i))else false then true else
 bif decide (s=7)then !(bif decide (j≤127)then true else decide (4294967168≤j))else false) = !decide ((s=4∨s=5→i≤127∨4294967168≤i)∧(s=7→j≤127∨4294967168≤j)):=by
 by_cases i1:i≤127<;>by_cases i2:4294967168≤i<;>by_cases j1:j≤127<;>by_cases j2:4294967168≤j<;>simp only[i1,i2,j1,j2,decide_true,decide_false,cond_true,cond_false,Bool.not_true,Bool.not_false,true_or,or_true,or_false,imp_true_iff,and_true,true_and,Bool.cond_self]<;>
  by_cases e4:s=4<;>by_cases e5:s=5<;>by_cases e7:s=7<;>first|omega|simp[e4,e5,e7]
theorem chk69 (d:D):(∃c s,q66 [d]=some [.int c, .int s, .int 0]∧hasS d s∧q109 [d]=some [.int c, .int s, .bool true])∨(∃e,q66 [d]=some [.int 0, .int 0, .int e]∧e≠0∧(∀s,¬hasS d s)∧(e=2∧¬argOk d∨e=7∧argOk d)):=by
 rw[q66_eq,F66_eq]
 rcases op_spec d with⟨c,s,h,hs⟩|⟨c,s,h,hs⟩
 ·rw[h]
  simp only[qsome_s,qnth_s,List.getD_cons_zero,List.getD_cons_succ,qint_i,qbool_b,qnot_c,qiteB_c,qcmp_eql,qcmp_geq,qcmp_lss,qcmp_leq,kept_spec,qfld_agg,qand_eq]
  have key:hasS d s↔okA s (qint (qfld d 2)) (qint (qfld d 3)) (qint (qfld d 4)) (qint (qfld d 5)) (qint (qfld d 6)) (qint (qfld d 7)) (qint (qfld d 1)) (short d):=by
   unfold hasS;simp[hs]
  have keyn:∀s',s'≠s→¬hasS d s':=fun s' hne h'=>by
   have:=h'.1;rw[hs]at this;simp at this;omega
  have kna:¬okArg s (qint (qfld d 2)) (qint (qfld d 3)) (qint (qfld d 4)) (qint (qfld d 5)) (qint (qfld d 6)) (qint (qfld d 7)) (qint (qfld d 1))→¬argOk d:=fun h1 ⟨s',h2,h3⟩=>by
   rw[hs]at h2;injection h2 with h2;subst h2;exact h1 h3
  have kn:¬hasS d s→∀s',¬hasS d s':=fun h1 s' h2=>by
   by_cases e:s'=s
   ·exact h1 (e▸h2)
   ·exact keyn s' e h2
  change _∨_
  rw[show qbin BinOp.sub IntKind.u32 (qbin BinOp.sub IntKind.u32 (qint (qfld d 1)) (qint (qfld d 0))) 2=short d from rfl]
  by_cases ha:0≤qint (qfld d 6)∧qint (qfld d 6)<8
  ·by_cases hb:0≤qint (qfld d 7)∧qint (qfld d 7)<8
   ·by_cases hk:(4≤s∧s≤8∨qint (qfld d 1)=0)∧(5≤qint (qfld d 2)∧qint (qfld d 2)≤15∨qint (qfld d 2)=20∨qint (qfld d 3)=0)∧(16≤qint (qfld d 2)∧qint (qfld d 2)≤18∨qint (qfld d 4)=0)∧(qint (qfld d 2)=20∨qint (qfld d 2)=25∨qint (qfld d 5)=0)∧(1≤s∧s≤6∨qint (qfld d 6)=0)∧(s=3∨s=5∨qint (qfld d 7)=0)
    ·simp only[keq,dself,ha.1,ha.2,hb.1,hb.2,decide_true,cond_true,Bool.not_true,cond_false,Bool.true_and,Bool.and_true,
      decide_eq_true hk.1,decide_eq_true hk.2.2.1,decide_eq_true hk.2.2.2.2.1,or_assoc,decide_eq_true hk.2.1,decide_eq_true hk.2.2.2.1,decide_eq_true hk.2.2.2.2.2]
     by_cases hn:(s=4∨s=5→qint (qfld d 1)≤127∨4294967168≤qint (qfld d 1))∧(s=7→short d≤127∨4294967168≤short d)
     ·left
      refine⟨c,s,?_,key.2 ⟨ha,hb,hk.1,hk.2.1,hk.2.2.1,hk.2.2.2.1,hk.2.2.2.2.1,hk.2.2.2.2.2,hn⟩,rfl⟩
      simp only[narB,decide_eq_true hn,Bool.not_true,cond_false]
     ·right
      refine⟨7,?_,by omega,kn (fun h'=>hn (key.1 h').2.2.2.2.2.2.2.2), .inr ⟨rfl,s,hs,ha,hb,hk.1,hk.2.1,hk.2.2.1,hk.2.2.2.1,hk.2.2.2.2.1,hk.2.2.2.2.2⟩⟩
      simp only[narB,decide_eq_false hn,Bool.not_false,cond_true]
    ·right
     refine⟨2,?_,by omega,kn (fun h'=>hk ⟨(key.1 h').2.2.1,(key.1 h').2.2.2.1,(key.1 h').2.2.2.2.1,(key.1 h').2.2.2.2.2.1,(key.1 h').2.2.2.2.2.2.1,(key.1 h').2.2.2.2.2.2.2.1⟩), .inl ⟨rfl,kna fun h'=>hk ⟨h'.2.2.1,h'.2.2.2.1,h'.2.2.2.2.1,h'.2.2.2.2.2.1,h'.2.2.2.2.2.2.1,h'.2.2.2.2.2.2.2⟩⟩⟩
     simp only[keq,dself,ha.1,ha.2,hb.1,hb.2,decide_true,cond_true,Bool.not_true,cond_false,Bool.true_and,Bool.and_true,or_assoc]
     simp only[← Bool.decide_and,decide_eq_false hk,Bool.not_false,cond_true]
   ·right
    refine⟨2,?_,by omega,kn (fun h'=>hb (key.1 h').2.1), .inl ⟨rfl,kna fun h'=>hb h'.2.1⟩⟩
    simp only[ha.1,ha.2,decide_true,cond_true,Bool.not_true,cond_false]
    have:(bif decide (0≤qint (qfld d 7))then decide (qint (qfld d 7)<8)else false)=false:=by
     simp;omega
    rw[this];rfl
  ·right
   refine⟨2,?_,by omega,kn (fun h'=>ha (key.1 h').1), .inl ⟨rfl,kna fun h'=>ha h'.1⟩⟩
   have:(bif decide (0≤qint (qfld d 6))then decide (qint (qfld d 6)<8)else false)=false:=by
    simp;omega
   simp only[this,Bool.not_true,Bool.not_false,cond_true,cond_false]
 ·right
  refine⟨2,?_,by omega,(fun s' h'=>by have:=h'.1;rw[hs]at this;cases this), .inl ⟨rfl,(fun⟨s',h',_⟩=>by rw[hs]at h';cases h')⟩⟩
  simp[h,qsome_s,qnth_s,qbool_b,qnot_c]
theorem form_spec (d:D):q116 [d]=some [.bool (decide (if 5≤qint (qfld d 2)∧qint (qfld d 2)≤15 then 0≤qint (qfld d 3)∧qint (qfld d 3)≤2 else if qint (qfld d 2)=20 then qint (qfld d 3)=1∨qint (qfld d 3)=2 else qint (qfld d 3)=0))]:=by
 rw[q116_eq,F116_eq]
 generalize qint (qfld d 2)=o at *
 generalize qint (qfld d 3)=f at *
 simp only[qiteB_c,qcmp_eql,qcmp_geq,qcmp_leq]
 by_cases h1:5≤o<;>by_cases h2:o≤15<;>by_cases h3:o=20<;>first|omega|(simp[h1,h2,h3])
theorem width_spec (d:D):q117 [d]=some [.bool (decide (if qint (qfld d 2)=17 then qint (qfld d 4)=1∨qint (qfld d 4)=2 else if qint (qfld d 2)=16∨qint (qfld d 2)=18 then qint (qfld d 4)=1∨qint (qfld d 4)=2∨qint (qfld d 4)=4 else qint (qfld d 4)=0))]:=by
 rw[q117_eq,F117_eq]
 generalize qint (qfld d 2)=o at *
 generalize qint (qfld d 4)=w at *
 simp only[qiteB_c,qcmp_eql,qcmp_geq,qcmp_leq]
 by_cases h1:o=16<;>by_cases h2:o=17<;>by_cases h3:o=18<;>first|omega|(simp[h1,h2,h3];done)|(simp[h1,h2,h3,Bool.or_assoc];done)
theorem treeB {n1 n2 c1 c2 c3 c4 c5 c6:Bool} {R A:Prop} (h1:n1=true) (h2:n2=true) (hR:(c1=false∧c2=false∧c3=false∧(c4=true→c5=false)∧c6=false)↔R) (hA:(c1=false∧c2=false∧c3=false)↔A):
 ∃e,(bif n1 then bif n2 then bif c1 then some [D.int 2]else bif c2 then some [D.int 2]else bif c3 then some [D.int 2]else bif c4 then(bif c5 then some [D.int 7]else bif c6 then some [D.int 7]else some [D.int 0])else bif c6 then some [D.int 7]else some [D.int 0]else none else none)=some [D.int e]∧(e=0↔R)∧(e=0∨e=7∨e=2)∧(e=2↔¬A):=by
 subst h1 h2
 rw[← hR, ← hA]
 cases c1<;>cases c2<;>cases c3<;>cases c4<;>cases c5<;>cases c6<;>simp
theorem chk126 (d:D):∃e,q70 [d]=some [.int e]∧(e=0↔∃s,hasS d s)∧(e=0∨e=7∨e=2)∧(e=2↔¬argOk d):=by
 unfold hasS argOk
 rw[q70_eq,F70_eq,form_spec,width_spec]
 rw[show qbin BinOp.sub IntKind.u32 (qbin BinOp.sub IntKind.u32 (qint (qfld d 1)) (qint (qfld d 0))) 2=short d from rfl]
 generalize qint (qfld d 2)=o
 generalize qint (qfld d 3)=f
 generalize qint (qfld d 4)=w
 generalize qint (qfld d 5)=cc
 generalize qint (qfld d 6)=a
 generalize qint (qfld d 7)=b
 generalize qint (qfld d 1)=imm
 generalize short d=j
 simp only[qsome_s,qnth_s,List.getD_cons_zero,qbool_b,qnot_c,qiteB_c,qcmp_eql,qcmp_geq,qcmp_lss,qcmp_leq,qcmp_gtr,qcmp_neq]
 rcases ocases o with h|h|rfl|rfl|h|rfl|rfl|rfl|rfl|rfl|rfl|rfl|rfl|rfl|rfl|rfl|rfl
 ·refine treeB (by simp) (by simp) ?_ ?_
  ·have:(bif decide (o<0)then true else decide (27<o))=true:=by simp;omega
   simp[this,shp,show¬(0≤o∧o≤2)by omega,show¬o=3 by omega,show¬o=4 by omega,show¬(5≤o∧o≤15)by omega,show¬o=16 by omega,show¬o=17 by omega,show¬o=18 by omega,show¬o=19 by omega,show¬o=20 by omega,show¬o=21 by omega,show¬o=22 by omega,show¬o=23 by omega,show¬o=24 by omega,show¬o=25 by omega,show¬o=26 by omega,show¬o=27 by omega]
  ·have:(bif decide (o<0)then true else decide (27<o))=true:=by simp;omega
   simp[this,shp,show¬(0≤o∧o≤2)by omega,show¬o=3 by omega,show¬o=4 by omega,show¬(5≤o∧o≤15)by omega,show¬o=16 by omega,show¬o=17 by omega,show¬o=18 by omega,show¬o=19 by omega,show¬o=20 by omega,show¬o=21 by omega,show¬o=22 by omega,show¬o=23 by omega,show¬o=24 by omega,show¬o=25 by omega,show¬o=26 by omega,show¬o=27 by omega]
 ·refine treeB (by simp) (by simp) ?_ ?_
  ·rcases h with rfl|rfl|rfl<;>simp[shp,okA]<;>grind
  ·rcases h with rfl|rfl|rfl<;>simp[shp,okArg]<;>grind
 ·refine treeB (by simp) (by simp) ?_ ?_
  ·simp[shp,okA]<;>grind
  ·simp[shp,okArg]<;>grind
 ·refine treeB (by simp) (by simp) ?_ ?_
  ·simp[shp,okA]<;>grind
  ·simp[shp,okArg]<;>grind
 ·refine treeB (by simp) (by simp) ?_ ?_
  ·obtain⟨h1,h2⟩:=h
   by_cases f0:f=0
   ·simp[shp,okA,h1,h2,f0,show¬o=3 by omega,show¬o=4 by omega,show¬o≤2 by omega,show 3≤o by omega,show o≤27 by omega,show¬o=16 by omega,show¬o=17 by omega,show¬o=18 by omega,show¬o=19 by omega,show¬o=20 by omega,show¬o=22 by omega,show¬o=23 by omega,show¬o=25 by omega,show¬16≤o by omega]
    grind
   by_cases f1:f=1
   ·simp[shp,okA,h1,h2,f1,show¬o=3 by omega,show¬o=4 by omega,show¬o≤2 by omega,show 3≤o by omega,show o≤27 by omega,show¬o=16 by omega,show¬o=17 by omega,show¬o=18 by omega,show¬o=19 by omega,show¬o=20 by omega,show¬o=22 by omega,show¬o=23 by omega,show¬o=25 by omega,show¬16≤o by omega]
    grind
   by_cases f2:f=2
   ·simp[shp,okA,h1,h2,f2,show¬o=3 by omega,show¬o=4 by omega,show¬o≤2 by omega,show 3≤o by omega,show o≤27 by omega,show¬o=16 by omega,show¬o=17 by omega,show¬o=18 by omega,show¬o=19 by omega,show¬o=20 by omega,show¬o=22 by omega,show¬o=23 by omega,show¬o=25 by omega,show¬16≤o by omega]
    grind
   ·simp[shp,okA,h1,h2,f0,f1,f2,show¬o=3 by omega,show¬o=4 by omega,show¬o≤2 by omega,show 3≤o by omega,show o≤27 by omega,show¬o=16 by omega,show¬o=17 by omega,show¬o=18 by omega,show¬o=19 by omega,show¬o=20 by omega,show¬o=22 by omega,show¬o=23 by omega,show¬o=25 by omega,show¬16≤o by omega]
    try grind
  ·obtain⟨h1,h2⟩:=h
   by_cases f0:f=0
   ·simp[shp,okArg,h1,h2,f0,show¬o=3 by omega,show¬o=4 by omega,show¬o≤2 by omega,show 3≤o by omega,show o≤27 by omega,show¬o=16 by omega,show¬o=17 by omega,show¬o=18 by omega,show¬o=19 by omega,show¬o=20 by omega,show¬o=22 by omega,show¬o=23 by omega,show¬o=25 by omega,show¬16≤o by omega]
    grind
   by_cases f1:f=1
   ·simp[shp,okArg,h1,h2,f1,show¬o=3 by omega,show¬o=4 by omega,show¬o≤2 by omega,show 3≤o by omega,show o≤27 by omega,show¬o=16 by omega,show¬o=17 by omega,show¬o=18 by omega,show¬o=19 by omega,show¬o=20 by omega,show¬o=22 by omega,show¬o=23 by omega,show¬o=25 by omega,show¬16≤o by omega]
    grind
   by_cases f2:f=2
   ·simp[shp,okArg,h1,h2,f2,show¬o=3 by omega,show¬o=4 by omega,show¬o≤2 by omega,show 3≤o by omega,show o≤27 by omega,show¬o=16 by omega,show¬o=17 by omega,show¬o=18 by omega,show¬o=19 by omega,show¬o=20 by omega,show¬o=22 by omega,show¬o=23 by omega,show¬o=25 by omega,show¬16≤o by omega]
    grind
   ·simp[shp,okArg,h1,h2,f0,f1,f2,show¬o=3 by omega,show¬o=4 by omega,show¬o≤2 by omega,show 3≤o by omega,show o≤27 by omega,show¬o=16 by omega,show¬o=17 by omega,show¬o=18 by omega,show¬o=19 by omega,show¬o=20 by omega,show¬o=22 by omega,show¬o=23 by omega,show¬o=25 by omega,show¬16≤o by omega]
    try grind
 ·refine treeB (by simp) (by simp) ?_ ?_
  ·simp[shp,okA]<;>grind
  ·simp[shp,okArg]<;>grind
 ·refine treeB (by simp) (by simp) ?_ ?_
  ·simp[shp,okA]<;>grind
  ·simp[shp,okArg]<;>grind
 ·refine treeB (by simp) (by simp) ?_ ?_
  ·simp[shp,okA]<;>grind
  ·simp[shp,okArg]<;>grind
 ·refine treeB (by simp) (by simp) ?_ ?_
  ·simp[shp,okA]<;>grind
  ·simp[shp,okArg]<;>grind
 ·refine treeB (by simp) (by simp) ?_ ?_
  ·simp[shp,okA]<;>grind
  ·simp[shp,okArg]<;>grind
 ·refine treeB (by simp) (by simp) ?_ ?_
  ·simp[shp,okA]<;>grind
  ·simp[shp,okArg]<;>grind
 ·refine treeB (by simp) (by simp) ?_ ?_
  ·simp[shp,okA]<;>grind
  ·simp[shp,okArg]<;>grind
 ·refine treeB (by simp) (by simp) ?_ ?_
  ·simp[shp,okA]<;>grind
  ·simp[shp,okArg]<;>grind
 ·refine treeB (by simp) (by simp) ?_ ?_
  ·simp[shp,okA]<;>grind
  ·simp[shp,okArg]<;>grind
 ·refine treeB (by simp) (by simp) ?_ ?_
  ·simp[shp,okA]<;>grind
  ·simp[shp,okArg]<;>grind
 ·refine treeB (by simp) (by simp) ?_ ?_
  ·simp[shp,okA]<;>grind
  ·simp[shp,okArg]<;>grind
 ·refine treeB (by simp) (by simp) ?_ ?_
  ·simp[shp,okA]<;>grind
  ·simp[shp,okArg]<;>grind
def lenS (s:Int):Int:=if s=0∨s=1 then 1 else if s=2∨s=3∨s=7 then 2 else if s=4∨s=5 then 3 else if s=6 then 6 else 5
theorem shp_le {o f w cc s:Int} (h:shp o f w cc=some s):0≤s∧s≤8:=by
 unfold shp at h
 repeat' split at h
 all_goals first|(cases h;done)|(injection h with h;omega)
theorem lenS_pos (s:Int):1≤lenS s∧lenS s≤6:=by
 unfold lenS;repeat' split
 all_goals omega
theorem size_spec {s:Int} (h:0≤s∧s≤8):q157 [.int s]=some [.int (lenS s)]:=by
 rw[q157_eq,F157_eq]
 obtain rfl|rfl|rfl|rfl|rfl|rfl|rfl|rfl|rfl:s=0∨s=1∨s=2∨s=3∨s=4∨s=5∨s=6∨s=7∨s=8:=by omega
 all_goals (rw[qinbS_eq,qidxS_eq,qbin_eq,qwrap_eq];kernel_rfl)
theorem acode_spec (d:D):∃c,q177 [d]=some [.int c]:=by
 rw[q177_eq,F177_eq]
 generalize qcmp BinOp.eql (qint (qfld d 2)) 17=c1
 generalize qcmp BinOp.eql (qint (qfld d 4)) 1=c2
 generalize qiteB (qcmp BinOp.eql (qint (qfld d 4)) 2) (qcmp BinOp.eql (qint (qfld d 2)) 16) Bool.false=c3
 generalize qcmp BinOp.eql (qint (qfld d 4)) 2=c4
 cases c1<;>cases c2<;>cases c3<;>cases c4<;>exact⟨_,rfl⟩
theorem bytes_spec {d:D} {s:Int} (h:hasS d s):∃bs,q165 [d]=some [bs]∧qlen bs=lenS s:=by
 obtain⟨c,hc⟩:=acode_spec d
 have h1:=h.1
 rw[q165_eq,F165_eq,hc,q178_eq,F178_eq]
 generalize qint (qfld d 2)=o at *
 generalize qint (qfld d 3)=f at *
 generalize qint (qfld d 4)=w at *
 generalize qint (qfld d 5)=cc at *
 simp only[qsome_s,qnth_s,List.getD_cons_zero,qiteB_c,qcmp_eql,qcmp_geq,qcmp_leq]
 rcases ocases o with h|h|rfl|rfl|h|rfl|rfl|rfl|rfl|rfl|rfl|rfl|rfl|rfl|rfl|rfl|rfl
 ·exfalso
  simp[shp,show¬(0≤o∧o≤2)by omega,show¬o=3 by omega,show¬o=4 by omega,show¬(5≤o∧o≤15)by omega,show¬o=16 by omega,show¬o=17 by omega,show¬o=18 by omega,show¬o=19 by omega,show¬o=20 by omega,show¬o=21 by omega,show¬o=22 by omega,show¬o=23 by omega,show¬o=24 by omega,show¬o=25 by omega,show¬o=26 by omega,show¬o=27 by omega]at h1
 ·rcases h with rfl|rfl|rfl<;>simp[shp]at h1<;>subst h1<;>(simp[qsome_s,qnth_s];rw[qlen_c];rfl)
 ·simp[shp]at h1;subst h1;(simp[qsome_s,qnth_s];rw[qlen_c];rfl)
 ·simp[shp]at h1;subst h1;(simp[qsome_s,qnth_s];rw[qlen_c];rfl)
 ·obtain⟨h2,h3⟩:=h
  simp only[shp,h2,h3,show¬o=3 by omega,show¬o=4 by omega,show¬(0≤o∧o≤2)by omega,true_and,if_true,if_false,or_self]at h1
  simp only[h2,h3,decide_true,cond_true]
  by_cases f0:f=0
  ·rw[if_pos f0]at h1;injection h1 with h1;subst h1;(simp[f0];rw[qlen_c];rfl)
  by_cases f1:f=1
  ·rw[if_neg f0,if_pos f1]at h1;injection h1 with h1;subst h1;(simp[f1];rw[qlen_c];rfl)
  by_cases f2:f=2
  ·rw[if_neg f0,if_neg f1,if_pos f2]at h1;injection h1 with h1;subst h1;(simp[f2];rw[qlen_c];rfl)
  ·rw[if_neg f0,if_neg f1,if_neg f2]at h1;cases h1
 ·have:s=5:=by revert h1;simp only[shp];by_cases w1:w=1∨w=2∨w=4<;>simp[w1]<;>omega
  subst this;(simp;rw[qlen_c];rfl)
 ·have:s=5:=by revert h1;simp only[shp];by_cases w1:w=1∨w=2<;>simp[w1]<;>omega
  subst this;(simp;rw[qlen_c];rfl)
 ·have:s=5:=by revert h1;simp only[shp];by_cases w1:w=1∨w=2∨w=4<;>simp[w1]<;>omega
  subst this;(simp;rw[qlen_c];rfl)
 ·simp[shp]at h1;subst h1;(simp;rw[qlen_c];rfl)
 ·by_cases hcc:0≤cc∧cc≤14
  ·by_cases f1:f=1
   ·simp[shp,hcc,f1]at h1;subst h1;(simp[f1];rw[qlen_c];rfl)
   by_cases f2:f=2
   ·simp[shp,hcc,f2]at h1;subst h1;(simp[f2];rw[qlen_c];rfl)
   ·simp[shp,hcc,f1,f2]at h1
  ·simp[shp,hcc]at h1
 ·simp[shp]at h1;subst h1;(simp[qsome_s,qnth_s];rw[qlen_c];rfl)
 ·simp[shp]at h1;subst h1;(simp[qsome_s,qnth_s];rw[qlen_c];rfl)
 ·simp[shp]at h1;subst h1;(simp[qsome_s,qnth_s];rw[qlen_c];rfl)
 ·simp[shp]at h1;subst h1;(simp[qsome_s,qnth_s];rw[qlen_c];rfl)
 ·by_cases hcc:0≤cc∧cc≤14
  ·simp[shp,hcc]at h1;subst h1;(simp[qsome_s,qnth_s];rw[qlen_c];rfl)
  ·simp[shp,hcc]at h1
 ·simp[shp]at h1;subst h1;(simp[qsome_s,qnth_s];rw[qlen_c];rfl)
 ·simp[shp]at h1;subst h1;(simp[qsome_s,qnth_s];rw[qlen_c];rfl)
open Classical in
noncomputable def lenI (d:D):Int:=if h:∃s,hasS d s then lenS h.choose else 0
noncomputable def vld (d:D):Bool:=decide (lenI d≠0)
theorem hasS_un {d:D} {s s':Int} (h:hasS d s) (h':hasS d s'):s=s':=by
 have:=h.1.symm.trans h'.1;injection this
theorem lenI_of {d:D} {s:Int} (h:hasS d s):lenI d=lenS s:=by
 unfold lenI
 rw[dif_pos ⟨s,h⟩]
 exact congrArg lenS (hasS_un (Exists.choose_spec (⟨s,h⟩:∃s,hasS d s)) h)
theorem lenI_none {d:D} (h:¬∃s,hasS d s):lenI d=0:=by unfold lenI;rw[dif_neg h]
theorem vld_iff {d:D}:vld d=true↔∃s,hasS d s:=by
 unfold vld
 rw[decide_eq_true_iff]
 constructor
 ·intro h
  by_cases hx:∃s,hasS d s
  ·exact hx
  ·exact absurd (lenI_none hx) h
 ·rintro⟨s,hs⟩
  rw[lenI_of hs]
  have:=lenS_pos s
  omega
theorem valid_spec (d:D):q30 [d]=some [.bool (vld d)]∧q40 [d]=some [.bool (vld d)]∧q114 [d]=some [.int (lenI d)]∧q143 [d]=some [.int (lenI d)]:=by
 obtain⟨e',h126,he',_⟩:=chk126 d
 have h71:q40 [d]=some [.bool (vld d)]:=by
  rw[q40_eq,F40_eq,h126]
  simp only[qsome_s,qnth_s,List.getD_cons_zero,qint_i,cond_true,qcmp_eql]
  by_cases hx:∃s,hasS d s
  ·simp[vld_iff.2 hx,he'.2 hx]
  ·have hv:vld d=false:=by rw[Bool.eq_false_iff];exact mt vld_iff.1 hx
   simp[hv,mt he'.1 hx]
 rcases chk69 d with⟨c,s,h69,hs,_⟩|⟨e,h69,he,hn,_⟩
 ·obtain⟨bs,hb,hl⟩:=bytes_spec hs
  have hv:vld d=true:=vld_iff.2 ⟨s,hs⟩
  refine⟨?_,h71,?_,?_⟩
  ·rw[q30_eq,F30_eq,h69,hv];simp[qsome_s,qnth_s,qint_i,qcmp_eql]
  ·rw[q114_eq,F114_eq,h69,lenI_of hs]
   simp only[qsome_s,qnth_s,List.getD_cons_zero,List.getD_cons_succ,qint_i,size_spec (shp_le hs.1),qcmp_neq]
   simp
  ·rw[q143_eq,F143_eq,h71,hv,hb,lenI_of hs]
   simp[qsome_s,qnth_s,qbool_b,qnot_c,hl]
 ·have hx:¬∃s,hasS d s:=fun⟨s,h⟩=>hn s h
  have hv:vld d=false:=by rw[Bool.eq_false_iff];exact mt vld_iff.1 hx
  refine⟨?_,h71,?_,?_⟩
  ·rw[q30_eq,F30_eq,h69,hv];simp[qsome_s,qnth_s,qint_i,qcmp_eql,he]
  ·rw[q114_eq,F114_eq,h69,lenI_none hx];simp[qsome_s,qnth_s,qint_i,qcmp_neq,he]
  ·rw[q143_eq,F143_eq,h71,hv,lenI_none hx];simp[qsome_s,qnth_s,qbool_b,qnot_c]
end Go.Proofs.YtgklbalcneepoaaGreatDoor
namespace Go.Proofs.YtgklbalcneepoaaGreatDoor
set_option linter.unusedSimpArgs false
open Go Go.AM
theorem qlen_l (xs:List D):qlen (.list xs)=(xs.length:Int):=by rw[qlen_c];rfl
theorem qapp_l (xs ys:List D):qapp (.list xs) (.list ys) = .list (xs++ys):=by rw[qapp_eq];rfl
theorem qmem_ok {n z:Nat} (hn:n≤100000) (hz:z≤100):qmem (n:Int) z=true:=by
 rw[qmem_eq]
 unfold rmem
 have h:(n:Int)*z≤100000*100:=by
  have h1:n*z≤100000*100:=Nat.mul_le_mul hn hz
  have h2:((n*z:Nat):Int)=(n:Int)*(z:Int):=by simp
  omega
 simp
 omega
theorem sizes_len:∀xs:List D,xs.length≤D.sizes xs
 | []=>by simp[D.sizes]
 |x::xs=>by
  have:=sizes_len xs
  have:=D.size_pos x
  simp only[D.sizes,List.length_cons];omega
theorem len_size (d:D):d.toList.length≤d.size:=by
 cases d<;>simp only[D.toList,D.size,List.length_nil]<;>first|omega|skip
 all_goals (rename_i xs;have:=sizes_len xs;omega)
theorem fld_size (d:D) (j:Nat):(d.fld j).size≤d.size:=by
 cases d with
 |agg xs=>
  simp only[D.fld,List.getD]
  cases hx:xs[j]? with
  |none=>simp[D.size]
  |some x=>have:=sizes_get hx;simp only[Option.getD_some,D.size];omega
 |_=>simp[D.fld,D.size]
theorem elem_size {d x:D} (h:x∈d.toList):x.size≤d.size:=by
 cases d<;>simp only[D.toList]at h<;>first|(cases h;done)|skip
 all_goals (obtain⟨i,hi⟩:=List.getElem?_of_mem h;have:=sizes_get hi;simp only[D.size];omega)
theorem same15:∀(N:Nat) (d:D),d.size<N→d.size≤1000000→F15 N [d,d]=some [.bool true]:=by
 intro N
 induction N with
 |zero=>intro d h;omega
 |succ N ih=>
  intro d hs hz
  have hl:(d.fld 4).toList.length≤1000000:=by have:=len_size (d.fld 4);have:=fld_size d 4;omega
  have key:∀k i:Nat,i+k=(d.fld 4).toList.length→loW (st15_4 (F15 N) [d,d]) [.int i]=some [.int 0]:=by
   intro k
   induction k with
   |zero=>
    intro i hi
    rw[loW_eq,st15_4_eq,qfld_eq,qlen_c,qcmp_lss]
    simp only[show¬((i:Int)<(d.fld 4).toList.length)by omega,decide_false,cond_false]
   |succ k ihk=>
    intro i hi
    have hlt:i<(d.fld 4).toList.length:=by omega
    have hm:qget (d.fld 4) (i:Int)∈(d.fld 4).toList:=by rw[qget_n,getD_lt hlt];exact List.getElem_mem hlt
    have:=size_elem hm
    rw[loW_eq,st15_4_eq,qfld_eq,qlen_c,qcmp_lss]
    simp only[show((i:Int)<(d.fld 4).toList.length)by omega,decide_true,cond_true,qinb_n hlt,ih _ (show(qget (d.fld 4) (i:Int)).size<N by omega) (by omega),qsome_s,qnth_s,List.getD_cons_zero,qbool_b,qnot_c,Bool.not_true,cond_false,add_nat (i:=i) (by omega)]
    exact ihk (i+1) (by omega)
  have h:=key (d.fld 4).toList.length 0 (by omega)
  have e:l15_4 (F15 N) [d,d] [.int 0]=some [.int 0]:=by rw[l15_4_eq];exact h
  rw[F15_s,Fb15_eq,e]
  simp[qcmp_neq,qcmp_eql,qiteB_c,qsome_s,qnth_s,qint_i]
theorem same78 {d:D} (hz:d.size≤1000000):q78 [d,d]=some [.bool true]:=by
 have hl:d.toList.length≤1000000:=by have:=len_size d;omega
 have key:∀k i:Nat,i+k=d.toList.length→loW (st78_4 [d,d]) [.int i]=some [.int 0]:=by
  intro k
  induction k with
  |zero=>
   intro i hi
   rw[loW_eq,st78_4_eq,qlen_c,qcmp_lss]
   simp only[show¬((i:Int)<d.toList.length)by omega,decide_false,cond_false]
  |succ k ihk=>
   intro i hi
   have hlt:i<d.toList.length:=by omega
   rw[loW_eq,st78_4_eq,qlen_c,qcmp_lss]
   simp only[show((i:Int)<d.toList.length)by omega,decide_true,cond_true,qinb_n hlt,qcmp_neq,Bool.not_true,cond_false,add_nat (i:=i) (by omega)]
   exact ihk (i+1) (by omega)
 have h:=key d.toList.length 0 (by omega)
 have e:l78_4 [d,d] [.int 0]=some [.int 0]:=by rw[l78_4_eq];exact h
 rw[q78_eq,F78_eq,e]
 simp[qcmp_neq,qcmp_eql,qsome_s,qnth_s,qint_i]
theorem fuel_two (l:List D):2≤fuelL l:=by
 induction l with
 |nil=>simp[fuelL]
 |cons x l ih=>simp only[fuelL];omega
theorem wt_ge (d:D):d.size≤d.wt∨∃m,d = .int m:=by
 cases d<;>simp[D.wt]
theorem fuel_in {d:D} {l:List D} (h:d∈l):d.size<fuelL l:=by
 induction l with
 |nil=>cases h
 |cons x l ih=>
  simp only[fuelL]
  rcases List.mem_cons.1 h with rfl|h
  ·have:=fuel_two l
   rcases wt_ge d with h|⟨m,rfl⟩
   ·omega
   ·simp[D.size];omega
  ·have:=ih h;omega
theorem same42 {d:D} (hz:d.size≤1000000):q42 [d,d]=some [.bool true]:=by
 have hl:(d.fld 6).toList.length≤1000000:=by have:=len_size (d.fld 6);have:=fld_size d 6;omega
 have key:∀k i:Nat,i+k=(d.fld 6).toList.length→loW (st42_4 [d,d]) [.int i]=some [.int 0]:=by
  intro k
  induction k with
  |zero=>
   intro i hi
   rw[loW_eq,st42_4_eq,qfld_eq,qlen_c,qcmp_lss]
   simp only[show¬((i:Int)<(d.fld 6).toList.length)by omega,decide_false,cond_false]
  |succ k ihk=>
   intro i hi
   have hlt:i<(d.fld 6).toList.length:=by omega
   have hm:qget (d.fld 6) (i:Int)∈(d.fld 6).toList:=by rw[qget_n,getD_lt hlt];exact List.getElem_mem hlt
   have:=size_elem hm
   have h15:q15 [qget (d.fld 6) (i:Int),qget (d.fld 6) (i:Int)]=some [.bool true]:=by rw[q15_eq];exact same15 _ _ (fuel_in (by simp)) (by omega)
   rw[loW_eq,st42_4_eq,qfld_eq,qlen_c,qcmp_lss]
   simp only[show((i:Int)<(d.fld 6).toList.length)by omega,decide_true,cond_true,qinb_n hlt,h15,qsome_s,qnth_s,List.getD_cons_zero,qbool_b,qnot_c,Bool.not_true,cond_false,add_nat (i:=i) (by omega)]
   exact ihk (i+1) (by omega)
 have h:=key (d.fld 6).toList.length 0 (by omega)
 have e:l42_4 [d,d] [.int 0]=some [.int 0]:=by rw[l42_4_eq];exact h
 have h7:q78 [qfld d 7,qfld d 7]=some [.bool true]:=by rw[qfld_eq];exact same78 (by have:=fld_size d 7;omega)
 rw[q42_eq,F42_eq,e,h7]
 simp[qcmp_neq,qcmp_eql,qiteB_c,qsome_s,qnth_s,qint_i,qbool_b,qnot_c]
theorem cond_eq {c:Int} (h:0≤c∧c≤14):∃n0 n1 n2 n3:Int,∃l,q38 [.int c]=some [.agg [.int n0, .int n1, .int n2, .int n3,l]]∧q76 [.int c]=some [.agg [.int n0, .int n1, .int n2, .int n3,l]]∧l.size≤100:=by
 rw[q38_eq,q76_eq,F76_eq]
 have hs:∀k:Nat,c=k→k<15→F38 [.int c]=runI tb39 38 S38 0 k [] [.int c]:=fun k hk hm=>by unfold F38;exact splitI_at k hk hm
 have hc:c=0∨c=1∨c=2∨c=3∨c=4∨c=5∨c=6∨c=7∨c=8∨c=9∨c=10∨c=11∨c=12∨c=13∨c=14:=by omega
 rcases hc with rfl|rfl|rfl|rfl|rfl|rfl|rfl|rfl|rfl|rfl|rfl|rfl|rfl|rfl|rfl
 ·rw[hs 0 rfl (by omega)];exact⟨_,_,_,_,_,K38_0 _,by simp only[qcmp_eql];rfl,by simp[D.size,D.sizes]⟩
 ·rw[hs 1 rfl (by omega)];exact⟨_,_,_,_,_,K38_1 _,by simp only[qcmp_eql];rfl,by simp[D.size,D.sizes]⟩
 ·rw[hs 2 rfl (by omega)];exact⟨_,_,_,_,_,K38_2 _,by simp only[qcmp_eql];rfl,by simp[D.size,D.sizes]⟩
 ·rw[hs 3 rfl (by omega)];exact⟨_,_,_,_,_,K38_3 _,by simp only[qcmp_eql];rfl,by simp[D.size,D.sizes]⟩
 ·rw[hs 4 rfl (by omega)];exact⟨_,_,_,_,_,K38_4 _,by simp only[qcmp_eql];rfl,by simp[D.size,D.sizes]⟩
 ·rw[hs 5 rfl (by omega)];exact⟨_,_,_,_,_,K38_5 _,by simp only[qcmp_eql];rfl,by simp[D.size,D.sizes]⟩
 ·rw[hs 6 rfl (by omega)];exact⟨_,_,_,_,_,K38_6 _,by simp only[qcmp_eql];rfl,by simp[D.size,D.sizes]⟩
 ·rw[hs 7 rfl (by omega)];exact⟨_,_,_,_,_,K38_7 _,by simp only[qcmp_eql];rfl,by simp[D.size,D.sizes]⟩
 ·rw[hs 8 rfl (by omega)];exact⟨_,_,_,_,_,K38_8 _,by simp only[qcmp_eql];rfl,by simp[D.size,D.sizes]⟩
 ·rw[hs 9 rfl (by omega)];exact⟨_,_,_,_,_,K38_9 _,by simp only[qcmp_eql];rfl,by simp[D.size,D.sizes]⟩
 ·rw[hs 10 rfl (by omega)];exact⟨_,_,_,_,_,K38_10 _,by simp only[qcmp_eql];rfl,by simp[D.size,D.sizes]⟩
 ·rw[hs 11 rfl (by omega)];exact⟨_,_,_,_,_,K38_11 _,by simp only[qcmp_eql];rfl,by simp[D.size,D.sizes]⟩
 ·rw[hs 12 rfl (by omega)];exact⟨_,_,_,_,_,K38_12 _,by simp only[qcmp_eql];rfl,by simp[D.size,D.sizes]⟩
 ·rw[hs 13 rfl (by omega)];exact⟨_,_,_,_,_,K38_13 _,by simp only[qcmp_eql];rfl,by simp[D.size,D.sizes]⟩
 ·rw[hs 14 rfl (by omega)];exact⟨_,_,_,_,_,K38_14 _,by simp only[qcmp_eql];rfl,by simp[D.size,D.sizes]⟩
theorem next_eq (d:D):q68 [d]=some [.int (qbin .add .u32 (qint (qfld d 0)) (qwrap .u32 (lenI d)))]∧q97 [d]=some [.int (qbin .add .u32 (qint (qfld d 0)) (qwrap .u32 (lenI d)))]:=by
 obtain⟨_,_,h1,h2⟩:=valid_spec d
 exact⟨by rw[q68_eq,F68_eq,h1];simp only[qsome_s,qnth_s,List.getD_cons_zero,qint_i,cond_true],by rw[q97_eq,F97_eq,h2];simp only[qsome_s,qnth_s,List.getD_cons_zero,qint_i,cond_true]⟩
theorem stack_eq {d:D}:∃l,q34 [d]=some [l]∧q77 [d]=some [l]∧l.size≤1000:=by
 obtain⟨h1,h2⟩:=next_eq d
 rw[q34_eq,F34_eq,q77_eq,F77_eq,h1,h2]
 simp only[qcmp_eql,qiteB_c,qsome_s,qnth_s,List.getD_cons_zero,qint_i,cond_true]
 by_cases h3:qint (qfld d 2)=3
 ·by_cases h7:qint (qfld d 6)=7
  ·simp only[h3,h7,decide_true,decide_false,cond_true,cond_false,show¬(3:Int)=2 by omega,show¬(3:Int)=4 by omega]
   exact⟨_,rfl,rfl,by simp[D.size,D.sizes]⟩
  ·simp only[h3,h7,decide_true,decide_false,cond_true,cond_false,show¬(3:Int)=2 by omega,show¬(3:Int)=4 by omega]
   exact⟨_,rfl,rfl,by simp[D.size,D.sizes]⟩
 ·by_cases h4:qint (qfld d 2)=4
  ·by_cases h7:qint (qfld d 6)=7
   ·simp only[h4,h7,decide_true,decide_false,cond_true,cond_false,show¬(4:Int)=2 by omega,show¬(4:Int)=3 by omega]
    exact⟨_,rfl,rfl,by simp[D.size,D.sizes]⟩
   ·simp only[h4,h7,decide_true,decide_false,cond_true,cond_false,show¬(4:Int)=2 by omega,show¬(4:Int)=3 by omega]
    exact⟨_,rfl,rfl,by simp[D.size,D.sizes]⟩
  ·by_cases h2:qint (qfld d 2)=2
   ·simp only[h2,decide_true,decide_false,cond_true,cond_false,show¬(2:Int)=3 by omega,show¬(2:Int)=4 by omega]
    exact⟨_,rfl,rfl,by simp[D.size,D.sizes]⟩
   ·simp only[h2,h3,h4,decide_true,decide_false,cond_true,cond_false]
    exact⟨_,rfl,rfl,by simp[D.size,D.sizes]⟩
noncomputable def opr (o:Int):Int:=qint (qget (.list [.int 3, .int 4, .int 6, .int 7, .int 8, .int 5, .int 9, .int 10, .int 11]) (qbin .sub .i64 o 6))
theorem opr_spec {o:Int} (h:6≤o∧o≤14):q50 [.int o]=some [.int (opr o)]∧qinb (.list [.int 3, .int 4, .int 6, .int 7, .int 8, .int 5, .int 9, .int 10, .int 11]) (qbin .sub .i64 o 6)=true:=by
 have hsub:qbin .sub .i64 o 6=o-6:=sub64 (by omega) (by omega)
 have hg:∀n:Nat,qget (.list [.int 3, .int 4, .int 6, .int 7, .int 8, .int 5, .int 9, .int 10, .int 11]) (n:Int) = [D.int 3, .int 4, .int 6, .int 7, .int 8, .int 5, .int 9, .int 10, .int 11].getD n .other:=fun n=>by rw[qget_n];rfl
 refine⟨?_,?_⟩
 ·rw[q50_eq,F50_eq]
  unfold opr
  rw[hsub]
  have ho:o=6∨o=7∨o=8∨o=9∨o=10∨o=11∨o=12∨o=13∨o=14:=by omega
  rcases ho with rfl|rfl|rfl|rfl|rfl|rfl|rfl|rfl|rfl
  ·rw[show(6:Int)-6=(0:Nat)from rfl,hg];simp only[List.getD_cons_zero,List.getD_cons_succ,qint_i,qcmp_eql];rfl
  ·rw[show(7:Int)-6=(1:Nat)from rfl,hg];simp only[List.getD_cons_zero,List.getD_cons_succ,qint_i,qcmp_eql];rfl
  ·rw[show(8:Int)-6=(2:Nat)from rfl,hg];simp only[List.getD_cons_zero,List.getD_cons_succ,qint_i,qcmp_eql];rfl
  ·rw[show(9:Int)-6=(3:Nat)from rfl,hg];simp only[List.getD_cons_zero,List.getD_cons_succ,qint_i,qcmp_eql];rfl
  ·rw[show(10:Int)-6=(4:Nat)from rfl,hg];simp only[List.getD_cons_zero,List.getD_cons_succ,qint_i,qcmp_eql];rfl
  ·rw[show(11:Int)-6=(5:Nat)from rfl,hg];simp only[List.getD_cons_zero,List.getD_cons_succ,qint_i,qcmp_eql];rfl
  ·rw[show(12:Int)-6=(6:Nat)from rfl,hg];simp only[List.getD_cons_zero,List.getD_cons_succ,qint_i,qcmp_eql];rfl
  ·rw[show(13:Int)-6=(7:Nat)from rfl,hg];simp only[List.getD_cons_zero,List.getD_cons_succ,qint_i,qcmp_eql];rfl
  ·rw[show(14:Int)-6=(8:Nat)from rfl,hg];simp only[List.getD_cons_zero,List.getD_cons_succ,qint_i,qcmp_eql];rfl
 ·rw[hsub,qinb_c]
  simp[D.toList]
  omega
noncomputable abbrev re5 (x:D):D:= .agg [.int (qint (qfld x 0)), .int (qint (qfld x 1)), .int (qint (qfld x 2)), .int (qint (qfld x 3)),qfld x 4]
abbrev setS (v:Int) (x:D):D:= .agg [.int 1, .int v, .int 0, .int 0, .int 0, .int 0, .list [x], .list []]
theorem step73 {a:Int} {y d:D} {l out:List D} {i:Nat} {x:D} (hl:l.length≤100) (hx:l[i]? = some x) (hr:re5 x=x) (ho:out.length≤100):
 st73_5 [.int a,y,d] [.int i, .list l, .list out]=some (.inl [.int ((i+1:Nat):Int), .list l, .list (out ++ [setS (8+i) x])]):=by
 obtain⟨hlt,hx'⟩:=List.getElem?_eq_some_iff.1 hx
 have hlt':i<(D.list l).toList.length:=hlt
 have hg:qget (.list l) (i:Int)=x:=by rw[qget_n,getD_lt hlt'];exact hx'
 have hadd:qbin .add .i64 8 (i:Int)=8+i:=by
  rw[qbin_eq];simp only[rbin];exact wrap64' (by omega) (by omega)
 unfold re5 at hr
 rw[st73_5_eq,hg,hr,hadd,qlen_l,qapp_l,qlen_l,qinb_n hlt',qmem_ok (by simp;omega) (by omega),add_nat (i:=i) (by omega)]
 simp only[qcmp_lss,qcmp_leq,show((i:Int)<(l.length:Int))by omega,show(0:Int)≤(i:Int)by omega,decide_true,cond_true]
theorem end73 {a:Int} {y d:D} {l out:List D}:st73_5 [.int a,y,d] [.int (l.length:Int), .list l, .list out]=some (.inr [.int 0, .list out]):=by
 rw[st73_5_eq,qlen_l,qcmp_lss]
 simp only[show¬((l.length:Int)<(l.length:Int))by omega,decide_false,cond_false]
theorem loop73 {a:Int} {y d x0 x1 x2 x3:D} (h0:re5 x0=x0) (h1:re5 x1=x1) (h2:re5 x2=x2) (h3:re5 x3=x3):
 l73_5 [.int a,y,d] [.int 0, .list [x0,x1,x2,x3], .list []]=some [.int 0, .list [setS 8 x0,setS 9 x1,setS 10 x2,setS 11 x3]]:=by
 rw[l73_5_eq]
 have e0:=step73 (a:=a) (y:=y) (d:=d) (l:=[x0,x1,x2,x3]) (out:=[]) (i:=0) (by simp) rfl h0 (by simp)
 have e1:=step73 (a:=a) (y:=y) (d:=d) (l:=[x0,x1,x2,x3]) (out:=[setS 8 x0]) (i:=1) (by simp) rfl h1 (by simp)
 have e2:=step73 (a:=a) (y:=y) (d:=d) (l:=[x0,x1,x2,x3]) (out:=[setS 8 x0,setS 9 x1]) (i:=2) (by simp) rfl h2 (by simp)
 have e3:=step73 (a:=a) (y:=y) (d:=d) (l:=[x0,x1,x2,x3]) (out:=[setS 8 x0,setS 9 x1,setS 10 x2]) (i:=3) (by simp) rfl h3 (by simp)
 have e4:=end73 (a:=a) (y:=y) (d:=d) (l:=[x0,x1,x2,x3]) (out:=[setS 8 x0,setS 9 x1,setS 10 x2,setS 11 x3])
 show loW (st73_5 [.int a,y,d]) [.int ((0:Nat):Int), .list [x0,x1,x2,x3], .list []]=_
 rw[loW_eq,e0]
 show loW (st73_5 [.int a,y,d]) [.int ((1:Nat):Int), .list [x0,x1,x2,x3], .list [setS 8 x0]]=_
 rw[loW_eq,e1]
 show loW (st73_5 [.int a,y,d]) [.int ((2:Nat):Int), .list [x0,x1,x2,x3], .list [setS 8 x0,setS 9 x1]]=_
 rw[loW_eq,e2]
 show loW (st73_5 [.int a,y,d]) [.int ((3:Nat):Int), .list [x0,x1,x2,x3], .list [setS 8 x0,setS 9 x1,setS 10 x2]]=_
 rw[loW_eq,e3]
 show loW (st73_5 [.int a,y,d]) [.int ((4:Nat):Int), .list [x0,x1,x2,x3], .list [setS 8 x0,setS 9 x1,setS 10 x2,setS 11 x3]]=_
 rw[loW_eq]
 rw[show((4:Nat):Int)=(([x0,x1,x2,x3].length:Nat):Int)from rfl,e4]
end Go.Proofs.YtgklbalcneepoaaGreatDoor
namespace Go.Proofs.YtgklbalcneepoaaGreatDoor
set_option linter.unusedSimpArgs false
open Go Go.AM
noncomputable abbrev vA (d:D):D:= .agg [.int 2, .int 0, .int (qint (qfld d 6)), .int 0, .list []]
abbrev cZ:D:= .agg [.int 1, .int 0, .int 0, .int 0, .list []]
abbrev tw (o:Int) (x y:D):D:= .agg [.int o, .int 0, .int 0, .int 0, .list [x,y]]
noncomputable def arith (d y:D):List D:=
 if qint (qfld d 2)=6 then[setS 8 (tw 12 (tw 3 (vA d) y) cZ),setS 9 (tw 14 (tw 3 (vA d) y) cZ),setS 10 (tw 15 (tw 3 (vA d) y) (vA d)),setS 11 (tw 14 (tw 6 (tw 8 (vA d) (tw 3 (vA d) y)) (tw 8 y (tw 3 (vA d) y))) cZ),setS (qint (qfld d 6)) (tw (opr (qint (qfld d 2))) (vA d) y)]
 else if qint (qfld d 2)=7 then[setS 8 (tw 12 (vA d) y),setS 9 (tw 14 (tw 4 (vA d) y) cZ),setS 10 (tw 15 (vA d) y),setS 11 (tw 8 (tw 14 (vA d) y) (tw 14 (tw 4 (vA d) y) cZ)),setS (qint (qfld d 6)) (tw (opr (qint (qfld d 2))) (vA d) y)]
 else if qint (qfld d 2)=15 then[setS 8 (tw 12 (vA d) y),setS 9 (tw 14 (tw 4 (vA d) y) cZ),setS 10 (tw 15 (vA d) y),setS 11 (tw 8 (tw 14 (vA d) y) (tw 14 (tw 4 (vA d) y) cZ))]
 else[setS 8 (tw 12 (tw (opr (qint (qfld d 2))) (vA d) y) cZ),setS 9 (tw 14 (tw (opr (qint (qfld d 2))) (vA d) y) cZ),setS 10 cZ,setS 11 cZ,setS (qint (qfld d 6)) (tw (opr (qint (qfld d 2))) (vA d) y)]
theorem re5_lit (a b c e:Int) (l:D):re5 (.agg [.int a, .int b, .int c, .int e,l]) = .agg [.int a, .int b, .int c, .int e,l]:=by
 simp only[re5,qfld_agg,List.getD_cons_zero,List.getD_cons_succ,qint_i]
theorem arith73 {d y:D} (h:6≤qint (qfld d 2)∧qint (qfld d 2)≤15) (hy:re5 y=y):q73 [d,y]=some [.list (arith d y)]:=by
 have hl:∀x0 x1 x2 x3:D,re5 x0=x0→re5 x1=x1→re5 x2=x2→re5 x3=x3→l73_5 [.int (qint (qfld d 6)),y,d] [.int 0, .list [x0,x1,x2,x3], .list []]=some [.int 0, .list [setS 8 x0,setS 9 x1,setS 10 x2,setS 11 x3]]:=fun _ _ _ _=>loop73
 have hq:∀x0 x1 x2 x3 x4:D,qmem (qlen (.list [x0,x1,x2,x3,x4])) 96=true:=fun _ _ _ _ _=>by rw[qlen_l];exact qmem_ok (by simp) (by omega)
 have hy':D.agg [.int (qint (qfld y 0)), .int (qint (qfld y 1)), .int (qint (qfld y 2)), .int (qint (qfld y 3)),qfld y 4]=y:=hy
 rw[q73_eq,F73_eq]
 unfold arith
 simp only[F73_a20,F73_a19,F73_a18,F73_a17,F73_a16,F73_a15,F73_a14,F73_a13,F73_a12,F73_a11,F73_a10,F73_a9,F73_a8,F73_a7,F73_a6,F73_a5,F73_a4,F73_a3,F73_a2,F73_a1,F73_a0,hy',
  qcmp_lss,qcmp_gtr,qcmp_eql,qcmp_neq,qiteB_c,decide_eq_false (show¬qint (qfld d 2)<6 by omega),decide_eq_false (show¬(15:Int)<qint (qfld d 2)by omega),cond_false]
 by_cases e6:qint (qfld d 2)=6
 ·obtain⟨h50,_⟩:=opr_spec (o:=qint (qfld d 2)) (by omega)
  simp only[if_pos e6,decide_eq_true e6,decide_eq_false (show¬qint (qfld d 2)=15 by omega),cond_true,cond_false,Bool.not_false,hl _ _ _ _ (re5_lit ..) (re5_lit ..) (re5_lit ..) (re5_lit ..),qsome_s,qnth_s,List.getD_cons_zero,List.getD_cons_succ,h50,qint_i,hq,qapp_l,List.cons_append,List.nil_append]
 ·by_cases e7:qint (qfld d 2)=7
  ·obtain⟨h50,_⟩:=opr_spec (o:=qint (qfld d 2)) (by omega)
   simp only[if_neg e6,if_pos e7,decide_eq_true e7,decide_eq_false e6,decide_eq_false (show¬qint (qfld d 2)=15 by omega),cond_true,cond_false,Bool.not_false,hl _ _ _ _ (re5_lit ..) (re5_lit ..) (re5_lit ..) (re5_lit ..),qsome_s,qnth_s,List.getD_cons_zero,List.getD_cons_succ,h50,qint_i,hq,qapp_l,List.cons_append,List.nil_append]
  ·by_cases e15:qint (qfld d 2)=15
   ·simp only[if_neg e6,if_neg e7,if_pos e15,decide_eq_false e7,decide_eq_false e6,decide_eq_true e15,cond_true,cond_false,Bool.not_true,hl _ _ _ _ (re5_lit ..) (re5_lit ..) (re5_lit ..) (re5_lit ..),qsome_s,qnth_s,List.getD_cons_zero,List.getD_cons_succ]
   ·obtain⟨h50,_⟩:=opr_spec (o:=qint (qfld d 2)) (by omega)
    simp only[if_neg e6,if_neg e7,if_neg e15,decide_eq_false e7,decide_eq_false e6,decide_eq_false e15,cond_true,cond_false,Bool.not_false,hl _ _ _ _ (re5_lit ..) (re5_lit ..) (re5_lit ..) (re5_lit ..),qsome_s,qnth_s,List.getD_cons_zero,List.getD_cons_succ,h50,qint_i,hq,qapp_l,List.cons_append,List.nil_append]
noncomputable def argY (d:D):D:=if qint (qfld d 3)=0 then .agg [.int 2, .int 0, .int (qint (qfld d 7)), .int 0, .list []]else .agg [.int 1, .int (qint (qfld d 1)), .int 0, .int 0, .list []]
theorem comp39 {d:D} (h:5≤qint (qfld d 2)∧qint (qfld d 2)≤15):q39 [d]=some [.list (if qint (qfld d 2)=5 then[setS (qint (qfld d 6)) (argY d)]else arith d (argY d))]:=by
 have hop:∀o:Int,qint (qget (.list [.int 3, .int 4, .int 6, .int 7, .int 8, .int 5, .int 9, .int 10, .int 11]) (qbin .sub .i64 o 6))=opr o:=fun _=>rfl
 have hib:6≤qint (qfld d 2)∧qint (qfld d 2)≤14→qinb (.list [.int 3, .int 4, .int 6, .int 7, .int 8, .int 5, .int 9, .int 10, .int 11]) (qbin .sub .i64 (qint (qfld d 2)) 6)=true:=fun h=>(opr_spec h).2
 rw[q39_eq,F39_eq]
 unfold arith argY
 simp only[F39_a63,F39_a62,F39_a61,F39_a60,F39_a59,F39_a58,F39_a57,F39_a56,F39_a55,F39_a54,F39_a53,F39_a52,F39_a51,F39_a50,F39_a49,F39_a48,F39_a47,F39_a46,F39_a45,F39_a44,F39_a43,F39_a42,F39_a41,F39_a40,F39_a39,F39_a38,F39_a37,F39_a36,F39_a35,F39_a34,F39_a33,F39_a32,F39_a31,F39_a30,F39_a29,F39_a28,F39_a27,F39_a26,F39_a25,F39_a24,F39_a23,F39_a22,F39_a21,F39_a20,F39_a19,F39_a18,F39_a17,F39_a16,F39_a15,F39_a14,F39_a13,F39_a12,F39_a11,F39_a10,F39_a9,F39_a8,F39_a7,F39_a6,F39_a5,F39_a4,F39_a3,F39_a2,F39_a1,F39_a0,
  hop,qcmp_gtr,qcmp_leq,qcmp_eql,qcmp_neq,qiteB_c]
 by_cases hf:qint (qfld d 3)=0
 all_goals simp only[hf,decide_true,decide_false,cond_true,cond_false,if_true,if_false]
 all_goals by_cases e5:qint (qfld d 2)=5
 ·simp only[if_pos e5,decide_eq_true e5,cond_true]
 ·by_cases e15:qint (qfld d 2)=15
  ·simp only[if_neg e5,decide_eq_false e5,decide_eq_false (show¬qint (qfld d 2)=6 by omega),if_neg (show¬qint (qfld d 2)=6 by omega),decide_eq_false (show¬qint (qfld d 2)=7 by omega),if_neg (show¬qint (qfld d 2)=7 by omega),if_pos e15,decide_eq_true e15,cond_true,cond_false,Bool.not_true]
  ·have hib:=hib (by omega)
   simp only[if_neg e5,decide_eq_false e5,if_neg e15,decide_eq_false e15,hib,cond_true,cond_false,Bool.not_false]
   by_cases e6:qint (qfld d 2)=6
   ·simp only[if_pos e6,decide_eq_true e6,cond_true]
   ·by_cases e7:qint (qfld d 2)=7
    ·simp only[if_neg e6,decide_eq_false e6,if_pos e7,decide_eq_true e7,cond_true,cond_false]
    ·simp only[if_neg e6,decide_eq_false e6,if_neg e7,decide_eq_false e7,cond_true,cond_false,decide_eq_true (show(7:Int)<qint (qfld d 2)by omega),decide_eq_true (show qint (qfld d 2)≤14 by omega)]
 ·simp only[if_pos e5,decide_eq_true e5,cond_true]
 ·by_cases e15:qint (qfld d 2)=15
  ·simp only[if_neg e5,decide_eq_false e5,decide_eq_false (show¬qint (qfld d 2)=6 by omega),if_neg (show¬qint (qfld d 2)=6 by omega),decide_eq_false (show¬qint (qfld d 2)=7 by omega),if_neg (show¬qint (qfld d 2)=7 by omega),if_pos e15,decide_eq_true e15,cond_true,cond_false,Bool.not_true]
  ·have hib:=hib (by omega)
   simp only[if_neg e5,decide_eq_false e5,if_neg e15,decide_eq_false e15,hib,cond_true,cond_false,Bool.not_false]
   by_cases e6:qint (qfld d 2)=6
   ·simp only[if_pos e6,decide_eq_true e6,cond_true]
   ·by_cases e7:qint (qfld d 2)=7
    ·simp only[if_neg e6,decide_eq_false e6,if_pos e7,decide_eq_true e7,cond_true,cond_false]
    ·simp only[if_neg e6,decide_eq_false e6,if_neg e7,decide_eq_false e7,cond_true,cond_false,decide_eq_true (show(7:Int)<qint (qfld d 2)by omega),decide_eq_true (show qint (qfld d 2)≤14 by omega)]
theorem comp41 {d:D} (h:5≤qint (qfld d 2)∧qint (qfld d 2)≤15):q41 [d]=some [.list (if qint (qfld d 2)=5 then[setS (qint (qfld d 6)) (argY d)]else arith d (argY d))]:=by
 rw[q41_eq,F41_eq]
 have h73:6≤qint (qfld d 2)→q73 [d,argY d]=some [.list (arith d (argY d))]:=fun h6=>arith73 ⟨h6,h.2⟩ (by unfold argY;split<;>exact re5_lit ..)
 simp only[qcmp_geq,qcmp_leq,qcmp_eql,qcmp_neq,qiteB_c]
 by_cases hf:qint (qfld d 3)=0
 ·have hy:argY d = .agg [.int 2, .int 0, .int (qint (qfld d 7)), .int 0, .list []]:=if_pos hf
  rw[hy]at h73
  simp only[decide_eq_true hf,Bool.not_true,cond_false,hy]
  by_cases e5:qint (qfld d 2)=5
  ·simp only[if_pos e5,decide_eq_true e5,cond_true]
  ·simp only[if_neg e5,decide_eq_false e5,cond_false,decide_eq_true (show 6≤qint (qfld d 2)by omega),decide_eq_true h.2,cond_true,h73 (by omega),qsome_s,qnth_s,List.getD_cons_zero]
 ·have hy:argY d = .agg [.int 1, .int (qint (qfld d 1)), .int 0, .int 0, .list []]:=if_neg hf
  rw[hy]at h73
  simp only[decide_eq_false hf,Bool.not_false,cond_true,hy]
  by_cases e5:qint (qfld d 2)=5
  ·simp only[if_pos e5,decide_eq_true e5,cond_true]
  ·simp only[if_neg e5,decide_eq_false e5,cond_false,decide_eq_true (show 6≤qint (qfld d 2)by omega),decide_eq_true h.2,cond_true,h73 (by omega),qsome_s,qnth_s,List.getD_cons_zero]
theorem arith_size (d y:D) (hy:y.size≤10):D.sizes (arith d y)≤1000:=by
 unfold arith
 repeat' split
 all_goals (simp only[setS,tw,vA,cZ,D.size,D.sizes];omega)
end Go.Proofs.YtgklbalcneepoaaGreatDoor
namespace Go.Proofs.YtgklbalcneepoaaGreatDoor
set_option linter.unusedSimpArgs false
open Go Go.AM
theorem shp_facts {o f w cc s:Int} (h:shp o f w cc=some s):(0≤o∧o≤27)∧(o=25∨o=20→0≤cc∧cc≤14):=by
 refine⟨?_,fun ho=> ?_⟩
 ·apply Classical.byContradiction
  intro hn
  have:shp o f w cc=none:=by
   unfold shp
   rw[if_neg (by omega),if_neg (by omega),if_neg (by omega),if_neg (by omega),if_neg (by omega),if_neg (by omega),if_neg (by omega),if_neg (by omega),if_neg (by omega),if_neg (by omega),if_neg (by omega)]
  rw[this]at h;cases h
 ·apply Classical.byContradiction
  intro hn
  have:shp o f w cc=none:=by
   unfold shp
   rcases ho with rfl|rfl<;>simp[hn]
  rw[this]at h;cases h
theorem vld_facts {d:D} (h:vld d=true):(0≤qint (qfld d 2)∧qint (qfld d 2)≤27)∧(qint (qfld d 2)=25→0≤qint (qfld d 5)∧qint (qfld d 5)≤14)∧(qint (qfld d 2)=20→0≤qint (qfld d 5)∧qint (qfld d 5)≤14)∧(¬(5≤qint (qfld d 2)∧qint (qfld d 2)≤15)→qint (qfld d 2)≠20→qint (qfld d 3)=0):=by
 obtain⟨s,hs,hk⟩:=vld_iff.1 h
 obtain⟨a,b⟩:=shp_facts hs
 refine⟨a,fun e=>b (.inl e),fun e=>b (.inr e),fun h1 h2=> ?_⟩
 obtain⟨_,_,_,h4,_⟩:=hk
 rcases h4 with h4|h4|h4
 ·exact absurd h4 h1
 ·exact absurd h4 h2
 ·exact h4
theorem stmts_eq {d:D} {f:Int} (h:vld d=true):∃l,q7 [d, .int f]=some [.list l, .int f]∧q41 [d]=some [.list l]∧D.sizes l≤5000:=by
 obtain⟨h27,h25,_,hf0⟩:=vld_facts h
 by_cases h5:5≤qint (qfld d 2)∧qint (qfld d 2)≤15
 ·refine⟨_,?_,comp41 h5,?_⟩
  ·rw[q7_eq,F7_eq,(valid_spec d).1,h,comp39 h5]
   have hn:∀k:Int,k<5∨15<k→decide (qint (qfld d 2)=k)=false:=fun k hk=>decide_eq_false (by omega)
   simp only[qsome_s,qnth_s,List.getD_cons_zero,qbool_b,qnot_c,Bool.not_true,cond_true,cond_false,qcmp_eql,qiteB_c,hn 2 (by omega),hn 3 (by omega),hn 4 (by omega),hn 23 (by omega),hn 24 (by omega),hn 16 (by omega),hn 17 (by omega),hn 18 (by omega),hn 19 (by omega),hn 25 (by omega),hn 26 (by omega),hn 27 (by omega),hn 0 (by omega),hn 1 (by omega),hn 20 (by omega),hn 21 (by omega),hn 22 (by omega)]
  ·have hy:(argY d).size≤10:=by unfold argY;split<;>simp[D.size,D.sizes]
   have:=arith_size d (argY d) hy
   split
   ·simp only[setS,D.size,D.sizes];omega
   ·omega
 ·by_cases hst:qint (qfld d 2)=2∨qint (qfld d 2)=3∨qint (qfld d 2)=4∨qint (qfld d 2)=23∨qint (qfld d 2)=24
  ·obtain⟨l,h34,h77,hl⟩:=stack_eq (d:=d)
   have hz:=hf0 h5 (by omega)
   have hlist:∃xs,l = .list xs:=by
    rw[q77_eq,F77_eq]at h77
    revert h77
    cases qcmp .eql (qint (qfld d 2)) 3<;>cases qcmp .eql (qint (qfld d 2)) 4<;>cases qcmp .eql (qint (qfld d 2)) 2<;>cases qcmp .eql (qint (qfld d 6)) 7<;>cases qsome (q97 [d])<;>simp only[cond_true,cond_false]<;>intro h77<;>first|(cases h77;done)|(cases h77;exact⟨_,rfl⟩)
   obtain⟨xs,rfl⟩:=hlist
   refine⟨xs,?_,?_,by simp only[D.size]at hl;omega⟩
   ·rw[q7_eq,F7_eq,(valid_spec d).1,h,h34]
    rcases hst with e|e|e|e|e<;>simp[e,qsome_s,qnth_s,qbool_b,qnot_c,qcmp_eql,qiteB_c]
   ·rw[q41_eq,F41_eq,h77]
    rcases hst with e|e|e|e|e<;>simp[e,hz,qsome_s,qnth_s,qbool_b,qnot_c,qcmp_eql,qcmp_neq,qcmp_geq,qcmp_leq,qiteB_c]
  ·by_cases h0:qint (qfld d 2)=0∨qint (qfld d 2)=1∨qint (qfld d 2)=20∨qint (qfld d 2)=21∨qint (qfld d 2)=22
   ·refine⟨[],?_,?_,by simp[D.sizes]⟩
    ·rw[q7_eq,F7_eq,(valid_spec d).1,h]
     rcases h0 with e|e|e|e|e<;>simp[e,qsome_s,qnth_s,qbool_b,qnot_c,qcmp_eql,qiteB_c]
    ·rw[q41_eq,F41_eq]
     by_cases hz:qint (qfld d 3)=0
     ·rcases h0 with e|e|e|e|e<;>simp[e,hz,qsome_s,qnth_s,qbool_b,qnot_c,qcmp_eql,qcmp_neq,qcmp_geq,qcmp_leq,qiteB_c]
     ·rcases h0 with e|e|e|e|e<;>simp[e,hz,qsome_s,qnth_s,qbool_b,qnot_c,qcmp_eql,qcmp_neq,qcmp_geq,qcmp_leq,qiteB_c]
   ·have hz:=hf0 h5 (by omega)
    have ho:qint (qfld d 2)=16∨qint (qfld d 2)=17∨qint (qfld d 2)=18∨qint (qfld d 2)=19∨qint (qfld d 2)=25∨qint (qfld d 2)=26∨qint (qfld d 2)=27:=by omega
    have key:∃l,F7 [d, .int f]=some [.list l, .int f]∧F41 [d]=some [.list l]∧D.sizes l≤5000:=by
     rw[F7_eq,F41_eq,(valid_spec d).1,h]
     simp only[qsome_s,qnth_s,List.getD_cons_zero,qbool_b,qnot_c,qcmp_eql,qcmp_neq,qcmp_geq,qcmp_leq,qiteB_c,hz,Bool.not_true,cond_true,cond_false,decide_true]
     rcases ho with e|e|e|e|e|e|e
     ·simp[e,D.size,D.sizes]
     ·simp[e,D.size,D.sizes]
     ·simp[e,D.size,D.sizes]
     ·simp[e,D.size,D.sizes]
     ·obtain⟨n0,n1,n2,n3,l,c1,c2,c3⟩:=cond_eq (h25 e)
      simp[e,c1,c2,qsome_s,qnth_s,qfld_agg,qint_i,D.size,D.sizes]
      omega
     ·simp[e,D.size,D.sizes]
     ·simp[e,D.size,D.sizes]
    obtain⟨l,h1,h2,h3⟩:=key
    exact⟨l,by rw[q7_eq];exact h1,by rw[q41_eq];exact h2,h3⟩
end Go.Proofs.YtgklbalcneepoaaGreatDoor
namespace Go.Proofs.YtgklbalcneepoaaGreatDoor
set_option linter.unusedSimpArgs false
open Go Go.AM
abbrev cN (n:Int):D:= .agg [.int 1, .int n, .int 0, .int 0, .list []]
def Cp (d:D):Prop:=∀N,d.size<N→F67 N [d]=some [.int (qint (qfld d 0)), .int (qint (qfld d 1)), .int (qint (qfld d 2)), .int (qint (qfld d 3)),qfld d 4]
theorem qset_same {l:List D} {i:Nat} (h:i<l.length):qset (.list l) (i:Int) l[i] = .list l:=by
 rw[qset_eq]
 simp[D.upd,D.toList]
theorem cp_step {d:D} {l:List D} (hl:qfld d 4 = .list l) (hn:l.length≤100) (h:∀x∈l,Cp x∧re5 x=x):Cp d:=by
 intro N hN
 cases N with
 |zero=>omega
 |succ N=>
  have h113:q113 [qfld d 4]=some [.list l]:=by
   rw[q113_eq,hl]
   unfold F113
   simp only[List.headD_cons,qapp_l,List.nil_append,qlen_l,qmem_ok (show l.length≤100000 by omega) (show 56≤100 by omega),cond_true]
  have hsz:∀x∈l,x.size<N:=fun x hx=>by
   have:x∈(d.fld 4).toList:=by rw[← qfld_eq,hl];exact hx
   have:=size_elem this
   omega
  have key:∀(p0 p1 p2 p3:Int) (k i:Nat),i+k=l.length→loW (st67_3 (F67 N) [.int (qlen (.list l)), .int p0, .int p1, .int p2, .int p3]) [.int i, .list l]=some [.int 0, .list l]:=by
   intro p0 p1 p2 p3 k
   induction k with
   |zero=>
    intro i hi
    rw[loW_eq,st67_3_eq,qlen_l,qcmp_lss]
    simp only[show¬((i:Int)<(l.length:Int))by omega,decide_false,cond_false]
   |succ k ih=>
    intro i hi
    have hlt:i<l.length:=by omega
    have hlt':i<(D.list l).toList.length:=hlt
    have hg:qget (.list l) (i:Int)=l[i]:=by rw[qget_n,getD_lt hlt'];rfl
    obtain⟨hc,hr⟩:=h l[i] (List.getElem_mem hlt)
    have hq:=hc N (hsz _ (List.getElem_mem hlt))
    have hr':D.agg [.int (qint (qfld l[i] 0)), .int (qint (qfld l[i] 1)), .int (qint (qfld l[i] 2)), .int (qint (qfld l[i] 3)),qfld l[i] 4]=l[i]:=hr
    have hs:qset (.list l) (i:Int) l[i] = .list l:=qset_same hlt
    rw[loW_eq,st67_3_eq,hg,hq]
    simp only[qsome_s,qnth_s,List.getD_cons_zero,List.getD_cons_succ,qint_i,hr',hs,qlen_l,qcmp_lss,qcmp_leq,qcmp_eql,show((i:Int)<(l.length:Int))by omega,show(0:Int)≤(i:Int)by omega,decide_true,cond_true,qinb_n hlt',add_nat (i:=i) (by omega)]
    have:=ih (i+1) (by omega)
    rw[qlen_l]at this
    exact this
  have e:∀p0 p1 p2 p3:Int,l67_3 (F67 N) [.int (qlen (.list l)), .int p0, .int p1, .int p2, .int p3] [.int 0, .list l]=some [.int 0, .list l]:=fun p0 p1 p2 p3=>by rw[l67_3_eq];exact key p0 p1 p2 p3 l.length 0 (by omega)
  rw[F67_s,Fb67_eq,h113]
  simp only[qsome_s,qnth_s,List.getD_cons_zero,List.getD_cons_succ,e,cond_true,hl]
def Gd (d:D):Prop:=Cp d∧re5 d=d
theorem gd_c (n:Int):Gd (cN n):=⟨cp_step (l:=[]) (by simp[qfld_agg]) (by simp) (by simp),re5_lit ..⟩
theorem gd_tw (o:Int) {x y:D} (hx:Gd x) (hy:Gd y):Gd (tw o x y):=
 ⟨cp_step (l:=[x,y]) (by simp[qfld_agg]) (by simp) (by
  intro z hz
  have hz':z=x∨z=y:=by simpa using hz
  rcases hz' with rfl|rfl
  ·exact hx
  ·exact hy),re5_lit ..⟩
theorem two_q (o:Int) {x y:D} (hx:Gd x) (hy:Gd y):q31 [.int o,x,y]=some [.int o, .int 0, .int 0, .int 0, .list [x,y]]:=by
 have h1:q67 [x]=some [.int (qint (qfld x 0)), .int (qint (qfld x 1)), .int (qint (qfld x 2)), .int (qint (qfld x 3)),qfld x 4]:=by rw[q67_eq];exact hx.1 (fuelL [x]) (fuel_in (by simp))
 have h2:q67 [y]=some [.int (qint (qfld y 0)), .int (qint (qfld y 1)), .int (qint (qfld y 2)), .int (qint (qfld y 3)),qfld y 4]:=by rw[q67_eq];exact hy.1 (fuelL [y]) (fuel_in (by simp))
 have r1:D.agg [.int (qint (qfld x 0)), .int (qint (qfld x 1)), .int (qint (qfld x 2)), .int (qint (qfld x 3)),qfld x 4]=x:=hx.2
 have r2:D.agg [.int (qint (qfld y 0)), .int (qint (qfld y 1)), .int (qint (qfld y 2)), .int (qint (qfld y 3)),qfld y 4]=y:=hy.2
 rw[q31_eq,F31_eq,h1,h2]
 simp only[qsome_s,qnth_s,List.getD_cons_zero,List.getD_cons_succ,qint_i,cond_true,r1,r2]
end Go.Proofs.YtgklbalcneepoaaGreatDoor
namespace Go.Proofs.YtgklbalcneepoaaGreatDoor
set_option linter.unusedSimpArgs false
open Go Go.AM
theorem pos_spec {l:D} {x:Int} (hl:l.toList.length≤1000000):∃k:Int,q55 [l, .int x]=some [.int k]∧q59 [l, .int x]=some [.int k]∧q142 [l, .int x]=some [.bool (decide (0≤k))]∧q141 [l, .int x]=some [.bool (decide (0≤k))]∧k<1000000:=by
 have key:∀k i:Nat,i+k=l.toList.length→(∃j:Nat,j<l.toList.length∧loW (st55_2 [l, .int x, .int (qlen l)]) [.int i]=some [.int 1, .int j]∧loW (st59_2 [l, .int x]) [.int i]=some [.int 1, .int j]∧loW (st142_2 [l, .int x]) [.int i]=some [.int 1])∨
  (loW (st55_2 [l, .int x, .int (qlen l)]) [.int i]=some [.int 0]∧loW (st59_2 [l, .int x]) [.int i]=some [.int 0]∧loW (st142_2 [l, .int x]) [.int i]=some [.int 0]):=by
  intro k
  induction k with
  |zero=>
   intro i hi
   rw[loW_eq,st55_2_eq,loW_eq,st59_2_eq,loW_eq,st142_2_eq,qlen_c,qcmp_lss]
   simp only[show¬((i:Int)<l.toList.length)by omega,decide_false,cond_false]
   exact .inr ⟨trivial,trivial,trivial⟩
  |succ k ih=>
   intro i hi
   have hlt:i<l.toList.length:=by omega
   rw[loW_eq,st55_2_eq,loW_eq,st59_2_eq,loW_eq,st142_2_eq,qlen_c,qcmp_lss,qinb_n hlt,qcmp_eql,qcmp_eql]
   simp only[show((i:Int)<l.toList.length)by omega,decide_true,cond_true]
   by_cases h:qint (qget l i)=x
   ·left
    refine⟨i,hlt,?_,?_,?_⟩
    ·rw[decide_eq_true h.symm];rfl
    ·rw[decide_eq_true h];rfl
    ·rw[decide_eq_true h];rfl
   ·rw[decide_eq_false h,decide_eq_false (fun e=>h e.symm)]
    simp only[cond_false]
    rw[add_nat (by omega), ← qlen_c]
    exact ih (i+1) (by omega)
 have h55:q55 [l, .int x]=F55 [l, .int x]:=by rw[q55_eq]
 rw[q59_eq,F59_eq,q142_eq,F142_eq,q141_eq,F141_eq,h55,F55_eq]
 rcases key l.toList.length 0 (by omega)with⟨j,hj,h1,h2,h3⟩|⟨h1,h2,h3⟩
 ·simp only[Int.natCast_zero]at h1 h2 h3
  have e1:l55_2 [l, .int x, .int (qlen l)] [.int 0]=some [.int 1, .int j]:=by rw[l55_2_eq];exact h1
  have e2:l59_2 [l, .int x] [.int 0]=some [.int 1, .int j]:=by rw[l59_2_eq];exact h2
  have e3:l142_2 [l, .int x] [.int 0]=some [.int 1]:=by rw[l142_2_eq];exact h3
  rw[e1,e2,e3]
  refine⟨j,?_,?_,?_,?_,by omega⟩<;>simp[qsome_s,qnth_s,qint_i,qcmp_eql,qcmp_geq]
 ·simp only[Int.natCast_zero]at h1 h2 h3
  have e1:l55_2 [l, .int x, .int (qlen l)] [.int 0]=some [.int 0]:=by rw[l55_2_eq];exact h1
  have e2:l59_2 [l, .int x] [.int 0]=some [.int 0]:=by rw[l59_2_eq];exact h2
  have e3:l142_2 [l, .int x] [.int 0]=some [.int 0]:=by rw[l142_2_eq];exact h3
  rw[e1,e2,e3]
  refine⟨-1,?_,?_,?_,?_,by omega⟩<;>simp[qsome_s,qnth_s,qint_i,qcmp_eql,qcmp_geq]
theorem once_spec {l:D} (hl:l.toList.length≤1000):∃u:List D,q94 [l]=some [.list u]∧q96 [l]=some [.list u]∧u.length≤l.toList.length∧(0<l.toList.length→0<u.length):=by
 have key:∀(k i:Nat) (a:List D),i+k=l.toList.length→a.length≤i→(0<i→0<a.length)→∃u,loW (st94_3 [l, .int (qlen l)]) [.int i, .list a]=some [.int 0, .list u]∧loW (st96_3 [l]) [.int i, .list a]=some [.int 0, .list u]∧u.length≤l.toList.length∧(0<l.toList.length→0<u.length):=by
  intro k
  induction k with
  |zero=>
   intro i a hi ha h0
   rw[loW_eq,st94_3_eq,loW_eq,st96_3_eq,qlen_c,qcmp_lss]
   simp only[show¬((i:Int)<l.toList.length)by omega,decide_false,cond_false]
   exact⟨a,rfl,rfl,by omega,fun h=>h0 (by omega)⟩
  |succ k ih=>
   intro i a hi ha h0
   have hlt:i<l.toList.length:=by omega
   obtain⟨z,_,_,h3,h4,_⟩:=pos_spec (l:= .list a) (x:=qint (qget l i)) (by show a.length≤1000000;omega)
   rw[loW_eq,st94_3_eq,loW_eq,st96_3_eq,qlen_c,qcmp_lss,qinb_n hlt,h3,h4,qapp_l,qlen_l,qmem_ok (by simp;omega) (by omega)]
   simp only[show((i:Int)<l.toList.length)by omega,decide_true,cond_true,qsome_s,qnth_s,List.getD_cons_zero,qbool_b,qnot_c]
   rw[add_nat (by omega), ← qlen_c]
   by_cases hz:0≤z
   ·simp only[hz,decide_true,Bool.not_true,cond_false]
    refine ih (i+1) a (by omega) (by omega) fun _=> ?_
    by_cases ha0:0<a.length
    ·exact ha0
    ·exfalso
     have hnil:a = []:=List.length_eq_zero_iff.1 (by omega)
     subst hnil
     have:q142 [.list [], .int (qint (qget l i))]=some [.bool false]:=by
      rw[q142_eq,F142_eq]
      have e:l142_2 [.list [], .int (qint (qget l i))] [.int 0]=some [.int 0]:=by
       rw[l142_2_eq]
       show loW (st142_2 [.list [], .int (qint (qget l i))]) [.int 0]=some [.int 0]
       rw[loW_eq,st142_2_eq,qlen_l,qcmp_lss];rfl
      rw[e]
      simp[qsome_s,qnth_s,qint_i,qcmp_eql]
     rw[this]at h3
     simp[hz]at h3
   ·simp only[hz,decide_false,Bool.not_false,cond_true]
    exact ih (i+1) _ (by omega) (by simp;omega) (by simp)
 obtain⟨u,h1,h2,h3,h4⟩:=key l.toList.length 0 [] (by omega) (by simp) (by omega)
 simp only[Int.natCast_zero]at h1 h2
 have e1:l94_3 [l, .int (qlen l)] [.int 0, .list []]=some [.int 0, .list u]:=by rw[l94_3_eq];exact h1
 have e2:l96_3 [l] [.int 0, .list []]=some [.int 0, .list u]:=by rw[l96_3_eq];exact h2
 refine⟨u,?_,?_,h3,h4⟩
 ·rw[q94_eq,F94_eq,e1];simp[qsome_s,qnth_s]
 ·rw[q96_eq,F96_eq,e2];simp[qsome_s,qnth_s]
def callsOk (I C:D):Nat→Nat→Nat→Prop
 |0,_,_=>True
 |k+1,i,c=>if qint (qfld (qget I (i:Nat)) 2)=24 then c<C.toList.length∧(qget C (c:Nat)).toList.length=1∧callsOk I C k (i+1) (c+1)else callsOk I C k (i+1) c
theorem calls_loop {b b' la I C:D} (h2:qfld b 2=I) (h4:qfld b 4=C) (h4':qfld b' 4=C) (hn:I.toList.length≤20):∀k i c:Nat,i+k=I.toList.length→c≤i→
 (loW (st53_5 [I, .int (qlen I),b']) [.int c, .int i]=some [.int 0]∧loW (st57_11 [la,b]) [.int c, .int i]=some [.int 0]∧callsOk I C k i c)∨
 (loW (st53_5 [I, .int (qlen I),b']) [.int c, .int i]=some [.int 1]∧loW (st57_11 [la,b]) [.int c, .int i]=some [.int 1]):=by
 intro k
 induction k with
 |zero=>
  intro i c hi hc
  rw[loW_eq,st53_5_eq,loW_eq,st57_11_eq,h2,qlen_c,qcmp_lss]
  simp only[show¬((i:Int)<I.toList.length)by omega,decide_false,cond_false]
  exact .inl ⟨trivial,trivial,trivial⟩
 |succ k ih=>
  intro i c hi hc
  have hlt:i<I.toList.length:=by omega
  rw[loW_eq,st53_5_eq,loW_eq,st57_11_eq,h2,h4,h4',qlen_c,qlen_c,qlen_c,qcmp_lss,qinb_n hlt,qcmp_neq]
  simp only[show((i:Int)<I.toList.length)by omega,decide_true,cond_true,callsOk]
  by_cases h24:qint (qfld (qget I (i:Nat)) 2)=24
  ·simp only[h24,decide_true,Bool.not_true,cond_false,if_true,qcmp_geq,qcmp_neq,qiteB_c]
   by_cases hcl:c<C.toList.length
   ·simp only[show¬((C.toList.length:Int)≤c)by omega,decide_false,cond_false,qinb_n hcl,cond_true]
    by_cases h1:(qget C (c:Nat)).toList.length=1
    ·have h1':((qget C (c:Nat)).toList.length:Int)=1:=by omega
     simp only[h1',decide_true,Bool.not_true,cond_false,add_nat (i:=c) (by omega),add_nat (i:=i) (by omega)]
     have:=ih (i+1) (c+1) (by omega) (by omega)
     rw[qlen_c]at this
     rcases this with⟨a1,a2,a3⟩|⟨a1,a2⟩
     ·exact .inl ⟨a1,a2,hcl,h1,a3⟩
     ·exact .inr ⟨a1,a2⟩
    ·have h1':¬((qget C (c:Nat)).toList.length:Int)=1:=by omega
     simp only[h1',decide_false,Bool.not_false,cond_true]
     exact .inr ⟨trivial,trivial⟩
   ·simp only[show((C.toList.length:Int)≤c)by omega,decide_true,cond_true]
    exact .inr ⟨trivial,trivial⟩
  ·simp only[h24,decide_false,Bool.not_false,cond_true,if_false,add_nat (i:=i) (by omega)]
   have:=ih (i+1) c (by omega) (by omega)
   rw[qlen_c]at this
   exact this
end Go.Proofs.YtgklbalcneepoaaGreatDoor
namespace Go.Proofs.YtgklbalcneepoaaGreatDoor
set_option linter.unusedSimpArgs false
open Go Go.AM
theorem val_any {I:D} (hn:I.toList.length≤20):q92_93 [I]=some [.bool (I.toList.any fun x=> !vld x)]:=by
 have h93:∀x,q93_93 [x]=some [.bool (!vld x)]:=fun x=>by
  rw[q93_93_eq,F93_93_eq,(valid_spec x).1]
  simp[qsome_s,qnth_s,qbool_b,qnot_c]
 have hloop:=idxLoop (st:=st140_93_2 [I, .int (qlen I)]) (l:=I) (c:=fun x=>q93_93 [x]) (p:=fun x=> !vld x) (r1:=fun i=>[.int 1, .int i]) (r0:=[.int 0])
  (fun i=>by rw[st140_93_2_eq]) (by unfold maxLen;omega) (fun x _=>h93 x)
 rw[q92_93_eq,F92_93_eq,q140_93_eq,F140_93_eq,l140_93_2_eq]
 rcases hloop with⟨h1,h2⟩|⟨i,h1,h2⟩
 ·rw[h2];simp[h1,qsome_s,qnth_s,qint_i,qcmp_eql,qcmp_geq]
 ·rw[h2];simp[h1,qsome_s,qnth_s,qint_i,qcmp_eql,qcmp_geq]
theorem val_loop {b I:D} (h2:qfld b 2=I) (hn:I.toList.length≤20):l57_4 [b] [.int 0]=some [.int (bif (I.toList.any fun x=> !vld x)then 1 else 0)]:=by
 have hloop:=idxLoop (st:=st57_4 [b]) (l:=I) (c:=fun x=>(q40 [x]).map fun r=>[.bool (qnot (qbool (r.getD 0 .other)))]) (p:=fun x=> !vld x) (r1:=fun _=>[.int 1]) (r0:=[.int 0])
  (fun i=>by
   rw[st57_4_eq,h2]
   rw[(valid_spec (qget I i)).2.1]
   simp[qsome_s,qnth_s,qbool_b]) (by unfold maxLen;omega) (fun x _=>by rw[(valid_spec x).2.1];simp[qbool_b,qnot_c])
 rw[l57_4_eq]
 rcases hloop with⟨h1,h2⟩|⟨i,h1,h2⟩
 ·rw[h2];exact h1
 ·rw[h2];exact h1
noncomputable def lastI (I:D):D:=qget I ((I.toList.length-1:Nat):Int)
theorem last_ix {I:D} (h0:0<I.toList.length) (hn:I.toList.length≤20):qbin .sub .i64 (qlen I) 1=((I.toList.length-1:Nat):Int)∧qinb I ((I.toList.length-1:Nat):Int)=true:=by
 refine⟨?_,qinb_n (by omega)⟩
 rw[qlen_c,sub64 (by omega) (by omega)];omega
theorem check_spec {b b' I S C:D} (h2:qfld b 2=I) (h2':qfld b' 2=I) (h3:qfld b 3=S) (h3':qfld b' 3=S) (h4:qfld b 4=C) (h4':qfld b' 4=C) (hn:I.toList.length≤20) (hs:S.toList.length≤80):
 ∃e,q53 [b']=some [.int e]∧q57 [b]=some [.int e]∧(e=0→0<I.toList.length∧(∀x∈I.toList,vld x=true)∧callsOk I C I.toList.length 0 0∧(qint (qfld (lastI I) 2)=21∨qint (qfld (lastI I) 2)=22→0<S.toList.length)):=by
 obtain⟨u,u1,u2,u3,_⟩:=once_spec (l:=S) (by omega)
 rw[q53_eq,F53_eq,q57_eq,F57_eq,h2,h2',h3,h3',val_any hn,val_loop h2 hn,u1,u2]
 by_cases h0:I.toList.length=0
 ·refine⟨2,?_,?_,by omega⟩<;>simp[qlen_c,h0,qcmp_eql,qiteB_c]
 ·have hc0:¬(I.toList.length:Int)=0:=by omega
  cases hv:(I.toList.any fun x=> !vld x)with
  |true=>
   refine⟨2,?_,?_,by omega⟩
   ·simp[qcmp_eql,qiteB_c,qsome_s,qnth_s,qbool_b]
   ·simp[qlen_c,hc0,h0,qcmp_eql,qiteB_c,qsome_s,qnth_s,qint_i]
  |false=>
   have hall:∀x∈I.toList,vld x=true:=by
    intro x hx
    have:=List.any_eq_false.1 hv x hx
    simpa using this
   obtain⟨ix1,ix2⟩:=last_ix (by omega) hn
   have hl:qget I ((I.toList.length-1:Nat):Int)=lastI I:=rfl
   rw[ix1,hl]
   rcases calls_loop (b:=b) (b':=b') (la:=lastI I) h2 h4 h4' hn I.toList.length 0 0 (by omega) (by omega)with⟨c1,c2,c3⟩|⟨c1,c2⟩
   ·simp only[Int.natCast_zero]at c1 c2
    have e1:l53_5 [I, .int (qlen I),b'] [.int 0, .int 0]=some [.int 0]:=by rw[l53_5_eq];exact c1
    have e2:l57_11 [lastI I,b] [.int 0, .int 0]=some [.int 0]:=by rw[l57_11_eq];exact c2
    rw[e1,e2,ix2]
    simp only[qlen_c,qcmp_eql,qcmp_neq,qcmp_gtr,qiteB_c,qsome_s,qnth_s,List.getD_cons_zero,qint_i,qbool_b,hc0,decide_false,decide_true,cond_true,cond_false,Bool.cond_self]
    have hu:(D.list u).toList=u:=rfl
    rw[hu]
    by_cases o21:qint (qfld (lastI I) 2)=21
    ·by_cases s0:S.toList.length=0
     ·exact⟨19,by simp[o21,s0],by simp[o21,s0],by omega⟩
     ·by_cases h32:(32:Int)<(u.length:Int)
      ·exact⟨6,by simp[o21,s0,h32],by simp[o21,s0,h32],by omega⟩
      ·exact⟨0,by simp[o21,s0,h32],by simp[o21,s0,h32],fun _=>⟨by omega,hall,c3,fun _=>by omega⟩⟩
    ·by_cases o22:qint (qfld (lastI I) 2)=22
     ·by_cases s0:S.toList.length=0
      ·exact⟨19,by simp[o22,s0],by simp[o22,s0],by omega⟩
      ·by_cases h64:(64:Int)<(S.toList.length:Int)
       ·exact⟨6,by simp[o22,s0,h64],by simp[o22,s0,h64],by omega⟩
       ·exact⟨0,by simp[o22,s0,h64],by simp[o22,s0,h64],fun _=>⟨by omega,hall,c3,fun _=>by omega⟩⟩
     ·exact⟨0,by simp[o21,o22],by simp[o21,o22],fun _=>⟨by omega,hall,c3,fun h=>by omega⟩⟩
   ·simp only[Int.natCast_zero]at c1 c2
    have e1:l53_5 [I, .int (qlen I),b'] [.int 0, .int 0]=some [.int 1]:=by rw[l53_5_eq];exact c1
    have e2:l57_11 [lastI I,b] [.int 0, .int 0]=some [.int 1]:=by rw[l57_11_eq];exact c2
    rw[e1,e2,ix2]
    refine⟨19,?_,?_,by omega⟩
    ·simp[qlen_c,hc0,h0,qcmp_eql,qiteB_c,qsome_s,qnth_s,qint_i,qbool_b]
    ·simp[qlen_c,hc0,h0,qcmp_eql,qiteB_c,qsome_s,qnth_s,qint_i,qbool_b]
theorem qmem_big {n z:Nat} (hn:n≤1000000) (hz:z≤100):qmem (n:Int) z=true:=by
 rw[qmem_eq]
 unfold rmem
 have h:(n:Int)*z≤1000000*100:=by
  have h1:n*z≤1000000*100:=Nat.mul_le_mul hn hz
  have h2:((n*z:Nat):Int)=(n:Int)*(z:Int):=by simp
  omega
 simp
 omega
theorem sizes_app:∀xs ys:List D,D.sizes (xs++ys)=D.sizes xs+D.sizes ys
 | [],ys=>by simp[D.sizes]
 |x::xs,ys=>by simp only[List.cons_append,D.sizes,sizes_app xs ys];omega
abbrev callS (t:Int):D:= .agg [.int 5, .int 0, .int 0, .int 0, .int 0, .int t, .list [], .list []]
theorem main_step {b b' I C ix:D} {f ad:Int} (h2:qfld b 2=I) (h2':qfld b' 2=I) (h4:qfld b 4=C) (h4':qfld b' 4=C) (hn:I.toList.length≤20) (hv:∀x∈I.toList,vld x=true)
 {k i c:Nat} {out:List D} (hi:i<I.toList.length) (hc:c≤i) (hok:callsOk I C (k+1) i c) (hz:D.sizes out≤6000*i):
 ∃(out1:List D) (c':Nat),st21_9 [ix, .int ad,b'] [.int f, .int c, .int i, .list out]=(bif decide (i=I.toList.length-1)then some (.inr [.int 0, .int f, .list out1,qget I (i:Nat)])else some (.inl [.int f, .int c', .int ((i+1:Nat):Int), .list out1]))∧
  st23_7 [ix, .int f, .int ad,b] [.int c, .int i, .list out]=some (.inl [.int c', .int ((i+1:Nat):Int), .list out1])∧D.sizes out1≤6000*(i+1)∧callsOk I C k (i+1) c'∧c'≤i+1:=by
 have hm:qget I (i:Nat)∈I.toList:=by rw[qget_n,getD_lt hi];exact List.getElem_mem hi
 obtain⟨l,h7,h41,hl⟩:=stmts_eq (f:=f) (hv _ hm)
 have hq:∀xs:List D,D.sizes xs≤200000→qmem (qlen (.list xs)) 96=true:=fun xs hx=>by
  have:=sizes_len xs
  rw[qlen_l];exact qmem_big (by omega) (by omega)
 obtain⟨ix1,_⟩:=last_ix (show 0<I.toList.length by omega) hn
 have hd:decide ((i:Int)=((I.toList.length-1:Nat):Int))=decide (i=I.toList.length-1):=by
  rw[Bool.eq_iff_iff];simp only[decide_eq_true_eq];omega
 have z1:D.sizes (out++l)≤200000:=by rw[sizes_app];omega
 have zc:∀t,D.sizes (out++l ++ [callS t])≤6000*(i+1)∧D.sizes (out++l ++ [callS t])≤200000:=fun t=>by
  rw[sizes_app,sizes_app]
  simp only[callS,D.sizes,D.size]
  omega
 have hlI:qlen I=(I.toList.length:Int):=qlen_c I
 rw[st21_9_eq,st23_7_eq,h2,h2',h4,h4',h7,h41,ix1]
 simp only[qsome_s,qnth_s,List.getD_cons_zero,List.getD_cons_succ,qint_i,qapp_l,hq _ z1,hq _ (zc _).2,qinb_n hi,qcmp_eql,qcmp_lss,hlI,show((i:Int)<(I.toList.length:Int))by omega,decide_true,cond_true,hd,add_nat (i:=i) (by omega)]
 by_cases h23:qint (qfld (qget I (i:Nat)) 2)=23
 ·have hok':callsOk I C k (i+1) c:=by
   simp only[callsOk,h23]at hok
   simpa using hok
  refine⟨out++l ++ [callS (qint (qfld (qget I (i:Nat)) 1))],c,?_,?_,(zc _).1,hok',by omega⟩
  ·simp only[h23,decide_true,cond_true]
  ·simp only[h23,decide_true,cond_true,show¬(23:Int)=24 by omega,decide_false,cond_false]
 ·by_cases h24:qint (qfld (qget I (i:Nat)) 2)=24
  ·simp only[callsOk,h24,if_true]at hok
   obtain⟨hcl,h1,hok'⟩:=hok
   have b0:qinb (qget C (c:Nat)) 0=true:=by have:=qinb_n (d:=qget C (c:Nat)) (i:=0) (by omega);simpa using this
   refine⟨out++l ++ [callS (qint (qget (qget C (c:Nat)) 0))],c+1,?_,?_,(zc _).1,hok',by omega⟩
   ·simp only[h24,show¬(24:Int)=23 by omega,decide_true,decide_false,cond_true,cond_false,qinb_n hcl,b0,add_nat (i:=c) (by omega)]
   ·simp only[h24,show¬(24:Int)=23 by omega,decide_true,decide_false,cond_true,cond_false,qinb_n hcl,b0,add_nat (i:=c) (by omega)]
  ·have hok':callsOk I C k (i+1) c:=by
    simp only[callsOk,h24,if_false]at hok
    exact hok
   refine⟨out++l,c,?_,?_,by rw[sizes_app];omega,hok',by omega⟩
   ·simp only[h23,h24,decide_false,cond_false]
   ·simp only[h23,h24,decide_false,cond_false]
theorem main_loop {b b' I C ix:D} {f ad:Int} (h2:qfld b 2=I) (h2':qfld b' 2=I) (h4:qfld b 4=C) (h4':qfld b' 4=C) (hn:I.toList.length≤20) (hv:∀x∈I.toList,vld x=true):
 ∀(k i c:Nat) (out:List D),i+(k+1)=I.toList.length→c≤i→callsOk I C (k+1) i c→D.sizes out≤6000*i→
  ∃out',loW (st21_9 [ix, .int ad,b']) [.int f, .int c, .int i, .list out]=some [.int 0, .int f, .list out',lastI I]∧loW (st23_7 [ix, .int f, .int ad,b]) [.int c, .int i, .list out]=some [.int 0, .list out']∧D.sizes out'≤6000*I.toList.length:=by
 intro k
 induction k with
 |zero=>
  intro i c out hi hc hok hz
  obtain⟨out1,c',s1,s2,z1,_,_⟩:=main_step (ix:=ix) (f:=f) (ad:=ad) h2 h2' h4 h4' hn hv (show i<I.toList.length by omega) hc hok hz
  refine⟨out1,?_,?_,by rw[← hi];exact z1⟩
  ·rw[loW_eq,s1]
   have hl:qget I (i:Nat)=lastI I:=by unfold lastI;rw[show I.toList.length-1=i by omega]
   simp only[show i=I.toList.length-1 by omega,decide_true,cond_true]
   rfl
  ·rw[loW_eq,s2]
   show loW (st23_7 [ix, .int f, .int ad,b]) [.int c', .int ((i+1:Nat):Int), .list out1]=some [.int 0, .list out1]
   rw[loW_eq,st23_7_eq,h2,qlen_c,qcmp_lss]
   simp only[show¬(((i+1:Nat):Int)<(I.toList.length:Int))by omega,decide_false,cond_false]
 |succ k ih=>
  intro i c out hi hc hok hz
  obtain⟨out1,c',s1,s2,z1,hok',hc'⟩:=main_step (ix:=ix) (f:=f) (ad:=ad) h2 h2' h4 h4' hn hv (show i<I.toList.length by omega) hc hok hz
  obtain⟨out',r1,r2,r3⟩:=ih (i+1) c' out1 (by omega) hc' hok' z1
  refine⟨out',?_,?_,r3⟩
  ·rw[loW_eq,s1]
   simp only[show¬i=I.toList.length-1 by omega,decide_false,cond_false]
   exact r1
  ·rw[loW_eq,s2]
   exact r2
end Go.Proofs.YtgklbalcneepoaaGreatDoor
namespace Go.Proofs.YtgklbalcneepoaaGreatDoor
set_option linter.unusedSimpArgs false
open Go Go.AM
abbrev vE (a:Int):D:= .agg [.int 2, .int 0, .int a, .int 0, .list []]
theorem gd_v (a:Int):Gd (vE a):=⟨cp_step (l:=[]) (by simp[qfld_agg]) (by simp) (by simp),re5_lit ..⟩
theorem two47 (o a b c e a' b' c' e':Int) (l l':D):q47 [.int o, .agg [.int a, .int b, .int c, .int e,l], .agg [.int a', .int b', .int c', .int e',l']]=some [.int o, .int 0, .int 0, .int 0, .list [.agg [.int a, .int b, .int c, .int e,l], .agg [.int a', .int b', .int c', .int e',l']]]:=by
 rw[q47_eq,F47_eq]
 simp only[qfld_agg,List.getD_cons_zero,List.getD_cons_succ,qint_i]
theorem size_tw (o:Int) (x y:D):(tw o x y).size=x.size+y.size+6:=by
 simp only[tw,D.size,D.sizes];omega
theorem sel_step {d l:D} {i:Nat} (hi:i<l.toList.length) (hn:l.toList.length≤1000) {s1 s2 s3 s4:Int} {s5:D} (hg:i≠1→Gd (.agg [.int s1, .int s2, .int s3, .int s4,s5])):
 ∃(o:Int) (x y:D),Gd (tw o x y)∧(tw o x y).size≤(D.agg [.int s1, .int s2, .int s3, .int s4,s5]).size+100∧
  st95_3 [.int (qint (qfld d 6)),l] [.int i, .int s1, .int s2, .int s3, .int s4,s5]=some (.inl [.int ((i+1:Nat):Int), .int o, .int 0, .int 0, .int 0, .list [x,y]])∧
  st98_6 [l,d] [.int i, .int s1, .int s2, .int s3, .int s4,s5]=some (.inl [.int ((i+1:Nat):Int), .int o, .int 0, .int 0, .int 0, .list [x,y]]):=by
 have g1:Gd (tw 12 (vE (qint (qfld d 6))) (cN (qint (qget l (i:Nat))))):=gd_tw 12 (gd_v _) (gd_c _)
 have g2:Gd (tw 5 (tw 12 (vE (qint (qfld d 6))) (cN (qint (qget l (i:Nat))))) (cN (qwrap .u32 (i:Nat)))):=gd_tw 5 g1 (gd_c _)
 have z1:(tw 5 (tw 12 (vE (qint (qfld d 6))) (cN (qint (qget l (i:Nat))))) (cN (qwrap .u32 (i:Nat)))).size≤60:=by
  simp only[size_tw,vE,cN,D.size,D.sizes];omega
 have t1:=two_q 12 (gd_v (qint (qfld d 6))) (gd_c (qint (qget l (i:Nat))))
 have t2:=two_q 5 g1 (gd_c (qwrap .u32 (i:Nat)))
 rw[st95_3_eq,st98_6_eq]
 simp only[st95_3_a0,st95_3_a1,st95_3_a2,st95_3_a3,st95_3_a4,st95_3_a5,st98_6_a0,st98_6_a1,st98_6_a2,st98_6_a3,st98_6_a4,st98_6_a5,two47,t1,qsome_s,qnth_s,List.getD_cons_zero,List.getD_cons_succ,qint_i,t2,qlen_c,qcmp_lss,qcmp_eql,show((i:Int)<(l.toList.length:Int))by omega,decide_true,cond_true,qinb_n hi,add_nat (i:=i) (by omega)]
 by_cases h1:i=1
 ·refine⟨5,_,_,g2,by omega,?_,?_⟩
  ·simp only[show(i:Int)=1 by omega,decide_true,cond_true]
  ·simp only[show(i:Int)=1 by omega,decide_true,cond_true]
 ·have t3:=two_q 3 (hg h1) g2
  refine⟨3,_,_,gd_tw 3 (hg h1) g2,by rw[size_tw];omega,?_,?_⟩
  ·simp only[show¬(i:Int)=1 by omega,decide_false,cond_false,t3,qsome_s,qnth_s,List.getD_cons_zero,List.getD_cons_succ,qint_i,cond_true]
  ·simp only[show¬(i:Int)=1 by omega,decide_false,cond_false,t3,qsome_s,qnth_s,List.getD_cons_zero,List.getD_cons_succ,qint_i,cond_true]
theorem sel_loop {d l:D} (hn:l.toList.length≤1000):∀(k i:Nat) (o:Int) (x y:D),i+k=l.toList.length→2≤i→Gd (tw o x y)→(tw o x y).size≤100*i→
 ∃(o':Int) (L:D),loW (st95_3 [.int (qint (qfld d 6)),l]) [.int i, .int o, .int 0, .int 0, .int 0, .list [x,y]]=some [.int 0, .int o', .int 0, .int 0, .int 0,L]∧
  loW (st98_6 [l,d]) [.int i, .int o, .int 0, .int 0, .int 0, .list [x,y]]=some [.int 0, .int o', .int 0, .int 0, .int 0,L]∧L.size≤100*l.toList.length:=by
 intro k
 induction k with
 |zero=>
  intro i o x y hi h1 hg hz
  refine⟨o, .list [x,y],?_,?_,?_⟩
  ·rw[loW_eq,st95_3_eq,qlen_c,qcmp_lss]
   simp only[show¬((i:Int)<l.toList.length)by omega,decide_false,cond_false]
  ·rw[loW_eq,st98_6_eq,qlen_c,qcmp_lss]
   simp only[show¬((i:Int)<l.toList.length)by omega,decide_false,cond_false]
  ·have:(D.list [x,y]).size≤(tw o x y).size:=by simp only[tw,D.size,D.sizes];omega
   have:i=l.toList.length:=by omega
   omega
 |succ k ih=>
  intro i o x y hi h1 hg hz
  obtain⟨o',x',y',g',z',s1,s2⟩:=sel_step (d:=d) (show i<l.toList.length by omega) hn (fun _=>hg)
  have z2:(tw o' x' y').size≤(tw o x y).size+100:=z'
  obtain⟨o2,L,r1,r2,r3⟩:=ih (i+1) o' x' y' (by omega) (by omega) g' (by omega)
  refine⟨o2,L,?_,?_,r3⟩
  ·rw[loW_eq,s1];exact r1
  ·rw[loW_eq,s2];exact r2
theorem sel_spec {d l:D} (h2:2≤l.toList.length) (hn:l.toList.length≤100):∃(o:Int) (L:D),L.size≤10000∧q95 [.int (qint (qfld d 6)),l]=some [.agg [.int o, .int 0, .int 0, .int 0,L]]∧
 l98_6 [l,d] [.int 1, .int 0, .int 0, .int 0, .int 0, .list []]=some [.int 0, .int o, .int 0, .int 0, .int 0,L]:=by
 obtain⟨o,x,y,g,z,s1,s2⟩:=sel_step (d:=d) (l:=l) (i:=1) (s1:=0) (s2:=0) (s3:=0) (s4:=0) (s5:= .list []) (by omega) (by omega) (fun h=>absurd rfl h)
 obtain⟨o',L,r1,r2,r3⟩:=sel_loop (d:=d) (l:=l) (by omega) (l.toList.length-2) 2 o x y (by omega) (by omega) g (by
  have:(D.agg [.int 0, .int 0, .int 0, .int 0, .list []]).size=6:=rfl
  omega)
 refine⟨o',L,by omega,?_,?_⟩
 ·have e:l95_3 [.int (qint (qfld d 6)),l] [.int 1, .int 0, .int 0, .int 0, .int 0, .list []]=some [.int 0, .int o', .int 0, .int 0, .int 0,L]:=by
   rw[l95_3_eq]
   show loW _ _=_
   rw[loW_eq]
   rw[show(D.int 1)=D.int ((1:Nat):Int)from rfl,s1]
   exact r1
  rw[q95_eq,F95_eq,e]
  simp only[qsome_s,qnth_s,List.getD_cons_zero,List.getD_cons_succ,qint_i,cond_true]
 ·rw[l98_6_eq]
  show loW _ _=_
  rw[loW_eq]
  rw[show(D.int 1)=D.int ((1:Nat):Int)from rfl,s2]
  exact r2
abbrev stS (o n e:Int) (E C:D):D:= .agg [.int o, .int 0, .int 0, .int n, .int e, .int 0,E,C]
theorem term_spec {b' S la:D} (h3:qfld b' 3=S) (hs:S.toList.length≤80) (hv:vld la=true) (hS:qint (qfld la 2)=21∨qint (qfld la 2)=22→0<S.toList.length):
 ∃(to E:D) (o:Int),q54 [b',la]=some [to]∧q58 [la,S]=some [.int o, .int 0, .int 0, .int 0, .int 0, .int 0,E,to]∧to.toList.length≤80∧E.size≤20000∧
  ((o=8∧∀at':List D,at'.length=to.toList.length→q56 [la,to, .list at']=some [stS 8 0 0 E (.list at')])∨
   (o≠8∧((to = .list []∧q56 [la,to, .list []]=some [stS o 0 0 E (.list [])])∨
    (∃x,to = .list [x]∧∀p,q56 [la,to, .list [.int p]]=some [stS o p 0 E (.list [])])∨
    (∃x y,to = .list [x,y]∧∀p q,q56 [la,to, .list [.int p, .int q]]=some [stS o p q E (.list [])])))):=by
 obtain⟨n1,n2⟩:=next_eq la
 obtain⟨_,_,hcc,_⟩:=vld_facts hv
 obtain⟨u,u1,u2,u3,u4⟩:=once_spec (l:=S) (by omega)
 have b0:∀xs:List D,qinb (.list xs) 0=decide (0<xs.length):=fun xs=>by rw[qinb_c];simp[D.toList]
 have b1:∀xs:List D,qinb (.list xs) 1=decide (1<xs.length):=fun xs=>by
  rw[qinb_c,Bool.eq_iff_iff,Bool.and_eq_true,decide_eq_true_eq,decide_eq_true_eq,decide_eq_true_eq]
  show(0≤(1:Int)∧(1:Int)<(xs.length:Int))↔1<xs.length
  omega
 have g0:∀(x:D) (xs:List D),qget (.list (x::xs)) 0=x:=fun x xs=>by rw[show(0:Int)=((0:Nat):Int)from rfl,qget_n];rfl
 have g1:∀(x y:D) (xs:List D),qget (.list (x::y::xs)) 1=y:=fun x y xs=>by rw[show(1:Int)=((1:Nat):Int)from rfl,qget_n];rfl
 rw[q54_eq,F54_eq,q58_eq,F58_eq,h3,n1,n2]
 simp only[qsome_s,qnth_s,List.getD_cons_zero,qint_i,qiteB_c,qcmp_eql,cond_true]
 by_cases o1:qint (qfld la 2)=1
 ·refine⟨.list [], .list [],10,by simp[o1],by simp[o1],by simp[D.toList],by simp[D.size,D.sizes], .inr ⟨by omega, .inl ⟨rfl,?_⟩⟩⟩
  rw[q56_eq,F56_eq];simp[o1,qcmp_eql]
 by_cases o2:qint (qfld la 2)=2
 ·refine⟨.list [], .list [],9,by simp[o2],by simp[o2],by simp[D.toList],by simp[D.size,D.sizes], .inr ⟨by omega, .inl ⟨rfl,?_⟩⟩⟩
  rw[q56_eq,F56_eq];simp[o2,qcmp_eql]
 by_cases o20:qint (qfld la 2)=20
 ·by_cases c0:qint (qfld la 5)=0
  ·refine⟨.list [.int (qint (qfld la 1))], .list [],6,by simp[o20,c0],by simp[o20,c0],by simp[D.toList],by simp[D.size,D.sizes], .inr ⟨by omega, .inr (.inl ⟨_,rfl,fun p=> ?_⟩)⟩⟩
   rw[q56_eq,F56_eq];simp[o20,c0,qcmp_eql,qcmp_neq,qiteB_c,b0,g0,qint_i]
  ·obtain⟨m0,m1,m2,m3,l,k1,k2,k3⟩:=cond_eq (hcc o20)
   refine⟨.list [.int (qint (qfld la 1)), .int (qbin .add .u32 (qint (qfld la 0)) (qwrap .u32 (lenI la)))], .list [.agg [.int m0, .int m1, .int m2, .int m3,l]],7,by simp[o20,c0],?_,by simp[D.toList],by simp only[D.size,D.sizes];omega, .inr ⟨by omega, .inr (.inr ⟨_,_,rfl,fun p q=> ?_⟩)⟩⟩
   ·simp only[o20,k2,qsome_s,qnth_s,List.getD_cons_zero,List.getD_cons_succ,qfld_agg,qint_i]
    simp[c0]
   ·rw[q56_eq,F56_eq,k1]
    simp only[o20,qsome_s,qnth_s,List.getD_cons_zero,List.getD_cons_succ,qfld_agg,qint_i,qcmp_eql,qcmp_neq,qiteB_c,b0,b1,g0,g1]
    simp[c0]
 by_cases o22:qint (qfld la 2)=22
 ·refine⟨S, .list [vE (qint (qfld la 6))],8,by simp[o22],by simp[o22],by omega,by simp[vE,D.size,D.sizes], .inl ⟨rfl,fun at' _=> ?_⟩⟩
  rw[q56_eq,F56_eq];simp[o22,qcmp_eql]
 by_cases o21:qint (qfld la 2)=21
 ·have hu:=u4 (hS (.inl o21))
  by_cases hu1:u.length=1
  ·obtain⟨x,rfl⟩:=List.length_eq_one_iff.1 hu1
   refine⟨.list [x], .list [],6,by simp[o21,u1,qsome_s,qnth_s],?_,by simp[D.toList],by simp[D.size,D.sizes], .inr ⟨by omega, .inr (.inl ⟨_,rfl,fun p=> ?_⟩)⟩⟩
   ·have e:q98 [la,S]=some [.int 6, .int 0, .int 0, .int 0, .int 0, .int 0, .list [], .list [x]]:=by
     rw[q98_eq,F98_eq,u2]
     simp[qsome_s,qnth_s,qcmp_eql,qlen_l]
    simp[o21,e,qsome_s,qnth_s,qint_i]
   ·rw[q56_eq,F56_eq];simp[o21,qcmp_eql,qcmp_gtr,qiteB_c,qlen_l,b0,g0,qint_i]
  ·have ht:(D.list u).toList=u:=rfl
   obtain⟨o,L,hz,e1,e2⟩:=sel_spec (d:=la) (l:= .list u) (by rw[ht];omega) (by rw[ht];omega)
   refine⟨.list u, .list [.agg [.int o, .int 0, .int 0, .int 0,L]],8,by simp[o21,u1,qsome_s,qnth_s],?_,by rw[ht];omega,by simp only[D.size,D.sizes];omega, .inl ⟨rfl,fun at' ha=> ?_⟩⟩
   ·have e:q98 [la,S]=some [.int 8, .int 0, .int 0, .int 0, .int 0, .int 0, .list [.agg [.int o, .int 0, .int 0, .int 0,L]], .list u]:=by
     rw[q98_eq,F98_eq,u2]
     have hne:decide ((u.length:Int)=1)=false:=decide_eq_false (by omega)
     simp only[qsome_s,qnth_s,List.getD_cons_zero,List.getD_cons_succ,cond_true,qcmp_eql,qlen_l,hne,cond_false,e2,qint_i]
    simp[o21,e,qsome_s,qnth_s,qint_i]
   ·have hgt:(1:Int)<(at'.length:Int):=by rw[ht]at ha;omega
    rw[q56_eq,F56_eq,e1]
    simp only[o21,qcmp_eql,qcmp_gtr,qiteB_c,qlen_l,hgt,qsome_s,qnth_s,List.getD_cons_zero,List.getD_cons_succ,qfld_agg,qint_i,decide_true,cond_true]
    simp
 ·refine⟨.list [.int (qbin .add .u32 (qint (qfld la 0)) (qwrap .u32 (lenI la)))], .list [],6,by simp[o1,o2,o20,o21,o22],by simp[o1,o2,o20,o21,o22],by simp[D.toList],by simp[D.size,D.sizes], .inr ⟨by omega, .inr (.inl ⟨_,rfl,fun p=> ?_⟩)⟩⟩
  rw[q56_eq,F56_eq];simp[o1,o2,o20,o21,o22,qcmp_eql,qiteB_c,b0,g0,qint_i]
end Go.Proofs.YtgklbalcneepoaaGreatDoor
namespace Go.Proofs.YtgklbalcneepoaaGreatDoor
set_option linter.unusedSimpArgs false
open Go Go.AM
theorem loW_inr {S R:Type} {st:S→Option (Sum S R)} {s:S} {r:R} (h:st s=some (.inr r)):loW st s=some r:=by rw[loW_eq,h]
noncomputable def pl (l:D) (x:Int):Int:=qint (qnth (q55 [l, .int x]) 0)
theorem pl_spec {l:D} {x:Int} (hl:l.toList.length≤1000000):q55 [l, .int x]=some [.int (pl l x)]∧q59 [l, .int x]=some [.int (pl l x)]:=by
 obtain⟨p,h1,h2,_⟩:=pos_spec (l:=l) (x:=x) hl
 have e:pl l x=p:=by unfold pl;rw[h1,qnth_s,List.getD_cons_zero,qint_i]
 rw[e];exact⟨h1,h2⟩
theorem at_step {l to a1 a2 a3 a4 a5:D} {f ad op m1 m2 m3:Int} {i:Nat} {acc:List D} (hl:l.toList.length≤1000000) (ht:to.toList.length≤100) (hi:i<to.toList.length) (ha:acc.length≤100) (n2 n3:Int):
 st21_24 [l, .int f,a1,to, .int (qlen to),a2,a3, .int ad] [.int i, .list acc]=(bif decide (pl l (qint (qget to (i:Nat)))<0)then some (.inr [.int 1])else some (.inl [.int ((i+1:Nat):Int), .list (acc ++ [.int (pl l (qint (qget to (i:Nat))))])]))∧
  st23_17 [l, .int f,to, .int op, .int m1, .int m2, .int m3,a4,a5, .int ad] [.int i, .list acc, .int n2, .int n3]=(bif decide (pl l (qint (qget to (i:Nat)))<0)then some (.inr [.int 1])else
   bif decide (op=8)then some (.inl [.int ((i+1:Nat):Int), .list (acc ++ [.int (pl l (qint (qget to (i:Nat))))]), .int n2, .int n3])
   else bif decide ((i:Int)=0)then some (.inl [.int ((i+1:Nat):Int), .list acc, .int (pl l (qint (qget to (i:Nat)))), .int n3])else some (.inl [.int ((i+1:Nat):Int), .list acc, .int n2, .int (pl l (qint (qget to (i:Nat))))])):=by
 obtain⟨h1,h2⟩:=pl_spec (l:=l) (x:=qint (qget to (i:Nat))) hl
 have hm:qmem (((acc ++ [D.int (pl l (qint (qget to (i:Nat))))]).length:Nat):Int) 8=true:=qmem_ok (by simp;omega) (by omega)
 refine⟨?_,?_⟩
 ·rw[st21_24_eq,h1]
  simp only[qsome_s,qnth_s,List.getD_cons_zero,qint_i,qlen_c to,qcmp_lss,show((i:Int)<(to.toList.length:Int))by omega,decide_true,cond_true,qinb_n hi,qapp_l,add_nat (i:=i) (by omega),qlen_l,hm]
 ·rw[st23_17_eq,h2]
  simp only[qsome_s,qnth_s,List.getD_cons_zero,qint_i,qlen_c to,qcmp_lss,qcmp_eql,show((i:Int)<(to.toList.length:Int))by omega,decide_true,cond_true,qinb_n hi,qapp_l,add_nat (i:=i) (by omega),qlen_l,hm]
theorem at_end {l to a1 a2 a3 a4 a5:D} {f ad op m1 m2 m3:Int} {i:Nat} {acc:List D} (hi:i=to.toList.length) (n2 n3:Int):
 st21_24 [l, .int f,a1,to, .int (qlen to),a2,a3, .int ad] [.int i, .list acc]=some (.inr [.int 0, .list acc])∧
  st23_17 [l, .int f,to, .int op, .int m1, .int m2, .int m3,a4,a5, .int ad] [.int i, .list acc, .int n2, .int n3]=some (.inr [.int 0, .list acc, .int n2, .int n3]):=by
 constructor
 ·rw[st21_24_eq,qlen_c,qcmp_lss]
  simp only[show¬((i:Int)<to.toList.length)by omega,decide_false,cond_false]
 ·rw[st23_17_eq,qlen_c,qcmp_lss]
  simp only[show¬((i:Int)<to.toList.length)by omega,decide_false,cond_false]
theorem at_loop {l to a1 a2 a3 a4 a5:D} {f ad m1 m2 m3 n2 n3:Int} (hl:l.toList.length≤1000000) (ht:to.toList.length≤100):∀(k i:Nat) (acc:List D),i+k=to.toList.length→acc.length=i→
 (∃at':List D,at'.length=k∧D.sizes at'≤k∧loW (st21_24 [l, .int f,a1,to, .int (qlen to),a2,a3, .int ad]) [.int i, .list acc]=some [.int 0, .list (acc++at')]∧
  loW (st23_17 [l, .int f,to, .int 8, .int m1, .int m2, .int m3,a4,a5, .int ad]) [.int i, .list acc, .int n2, .int n3]=some [.int 0, .list (acc++at'), .int n2, .int n3])∨
 (loW (st21_24 [l, .int f,a1,to, .int (qlen to),a2,a3, .int ad]) [.int i, .list acc]=some [.int 1]∧
  loW (st23_17 [l, .int f,to, .int 8, .int m1, .int m2, .int m3,a4,a5, .int ad]) [.int i, .list acc, .int n2, .int n3]=some [.int 1]):=by
 intro k
 induction k with
 |zero=>
  intro i acc hi ha
  obtain⟨e1,e2⟩:=at_end (l:=l) (to:=to) (a1:=a1) (a2:=a2) (a3:=a3) (a4:=a4) (a5:=a5) (f:=f) (ad:=ad) (op:=8) (m1:=m1) (m2:=m2) (m3:=m3) (acc:=acc) (i:=i) (by omega) n2 n3
  refine .inl ⟨[],rfl,by simp[D.sizes],?_,?_⟩
  ·rw[loW_eq,e1,List.append_nil]
  ·rw[loW_eq,e2,List.append_nil]
 |succ k ih=>
  intro i acc hi ha
  obtain⟨e1,e2⟩:=at_step (l:=l) (to:=to) (a1:=a1) (a2:=a2) (a3:=a3) (a4:=a4) (a5:=a5) (f:=f) (ad:=ad) (op:=8) (m1:=m1) (m2:=m2) (m3:=m3) (acc:=acc) (i:=i) hl ht (by omega) (by omega) n2 n3
  generalize pl l (qint (qget to (i:Nat)))=p at e1 e2
  by_cases hp:p<0
  ·refine .inr ⟨?_,?_⟩
   ·rw[loW_eq,e1];simp only[hp,decide_true,cond_true]
   ·rw[loW_eq,e2];simp only[hp,decide_true,cond_true]
  ·simp only[hp,decide_false,cond_false,decide_true,cond_true]at e1 e2
   rcases ih (i+1) (acc ++ [.int p]) (by omega) (by simp;omega)with⟨at',h1,h2,h3,h4⟩|⟨h3,h4⟩
   ·refine .inl ⟨.int p::at',by simp[h1],by simp only[D.sizes,D.size];omega,?_,?_⟩
    ·rw[loW_eq,e1]
     show loW _ _=_
     rw[h3];simp
    ·rw[loW_eq,e2]
     show loW _ _=_
     rw[h4];simp
   ·refine .inr ⟨?_,?_⟩
    ·rw[loW_eq,e1];exact h3
    ·rw[loW_eq,e2];exact h4
theorem at_one {l x a1 a2 a3 a4 a5:D} {f ad op m1 m2 m3:Int} (hl:l.toList.length≤1000000) (ho:op≠8):
 (∃p:Int,loW (st21_24 [l, .int f,a1, .list [x], .int (qlen (.list [x])),a2,a3, .int ad]) [.int 0, .list []]=some [.int 0, .list [.int p]]∧
  loW (st23_17 [l, .int f, .list [x], .int op, .int m1, .int m2, .int m3,a4,a5, .int ad]) [.int 0, .list [], .int 0, .int 0]=some [.int 0, .list [], .int p, .int 0])∨
 (loW (st21_24 [l, .int f,a1, .list [x], .int (qlen (.list [x])),a2,a3, .int ad]) [.int 0, .list []]=some [.int 1]∧
  loW (st23_17 [l, .int f, .list [x], .int op, .int m1, .int m2, .int m3,a4,a5, .int ad]) [.int 0, .list [], .int 0, .int 0]=some [.int 1]):=by
 obtain⟨e1,e2⟩:=at_step (l:=l) (to:= .list [x]) (a1:=a1) (a2:=a2) (a3:=a3) (a4:=a4) (a5:=a5) (f:=f) (ad:=ad) (op:=op) (m1:=m1) (m2:=m2) (m3:=m3) (acc:=[]) (i:=0) hl (by simp[D.toList]) (by simp[D.toList]) (by simp) 0 0
 generalize pl l (qint (qget (.list [x]) ((0:Nat):Int)))=p at e1 e2
 obtain⟨z1,_⟩:=at_end (l:=l) (to:= .list [x]) (a1:=a1) (a2:=a2) (a3:=a3) (a4:=a4) (a5:=a5) (f:=f) (ad:=ad) (op:=op) (m1:=m1) (m2:=m2) (m3:=m3) (acc:=[.int p]) (i:=1) rfl 0 0
 obtain⟨_,z2⟩:=at_end (l:=l) (to:= .list [x]) (a1:=a1) (a2:=a2) (a3:=a3) (a4:=a4) (a5:=a5) (f:=f) (ad:=ad) (op:=op) (m1:=m1) (m2:=m2) (m3:=m3) (acc:=[]) (i:=1) rfl p 0
 simp only[Int.natCast_zero,ho,decide_false,cond_false,decide_true,cond_true,List.nil_append]at e1 e2
 by_cases hp:p<0
 ·simp only[hp,decide_true,cond_true]at e1 e2
  exact .inr ⟨by rw[loW_eq,e1],by rw[loW_eq,e2]⟩
 ·simp only[hp,decide_false,cond_false]at e1 e2
  refine .inl ⟨p,?_,?_⟩
  ·rw[loW_eq,e1]
   show loW _ _=_
   rw[loW_eq,z1]
  ·rw[loW_eq,e2]
   show loW _ _=_
   rw[loW_eq,z2]
theorem at_two {l x y a1 a2 a3 a4 a5:D} {f ad op m1 m2 m3:Int} (hl:l.toList.length≤1000000) (ho:op≠8):
 (∃p q:Int,loW (st21_24 [l, .int f,a1, .list [x,y], .int (qlen (.list [x,y])),a2,a3, .int ad]) [.int 0, .list []]=some [.int 0, .list [.int p, .int q]]∧
  loW (st23_17 [l, .int f, .list [x,y], .int op, .int m1, .int m2, .int m3,a4,a5, .int ad]) [.int 0, .list [], .int 0, .int 0]=some [.int 0, .list [], .int p, .int q])∨
 (loW (st21_24 [l, .int f,a1, .list [x,y], .int (qlen (.list [x,y])),a2,a3, .int ad]) [.int 0, .list []]=some [.int 1]∧
  loW (st23_17 [l, .int f, .list [x,y], .int op, .int m1, .int m2, .int m3,a4,a5, .int ad]) [.int 0, .list [], .int 0, .int 0]=some [.int 1]):=by
 obtain⟨e1,e2⟩:=at_step (l:=l) (to:= .list [x,y]) (a1:=a1) (a2:=a2) (a3:=a3) (a4:=a4) (a5:=a5) (f:=f) (ad:=ad) (op:=op) (m1:=m1) (m2:=m2) (m3:=m3) (acc:=[]) (i:=0) hl (by simp[D.toList]) (by simp[D.toList]) (by simp) 0 0
 generalize pl l (qint (qget (.list [x,y]) ((0:Nat):Int)))=p at e1 e2
 obtain⟨f1,_⟩:=at_step (l:=l) (to:= .list [x,y]) (a1:=a1) (a2:=a2) (a3:=a3) (a4:=a4) (a5:=a5) (f:=f) (ad:=ad) (op:=op) (m1:=m1) (m2:=m2) (m3:=m3) (acc:=[.int p]) (i:=1) hl (by simp[D.toList]) (by simp[D.toList]) (by simp) p 0
 obtain⟨_,f2⟩:=at_step (l:=l) (to:= .list [x,y]) (a1:=a1) (a2:=a2) (a3:=a3) (a4:=a4) (a5:=a5) (f:=f) (ad:=ad) (op:=op) (m1:=m1) (m2:=m2) (m3:=m3) (acc:=[]) (i:=1) hl (by simp[D.toList]) (by simp[D.toList]) (by simp) p 0
 generalize pl l (qint (qget (.list [x,y]) ((1:Nat):Int)))=q at f1 f2
 obtain⟨z1,_⟩:=at_end (l:=l) (to:= .list [x,y]) (a1:=a1) (a2:=a2) (a3:=a3) (a4:=a4) (a5:=a5) (f:=f) (ad:=ad) (op:=op) (m1:=m1) (m2:=m2) (m3:=m3) (acc:=[.int p, .int q]) (i:=2) rfl 0 0
 obtain⟨_,z2⟩:=at_end (l:=l) (to:= .list [x,y]) (a1:=a1) (a2:=a2) (a3:=a3) (a4:=a4) (a5:=a5) (f:=f) (ad:=ad) (op:=op) (m1:=m1) (m2:=m2) (m3:=m3) (acc:=[]) (i:=2) rfl p q
 simp only[Int.natCast_zero,ho,decide_false,cond_false,decide_true,cond_true,List.nil_append]at e1 e2
 simp only[ho,decide_false,cond_false,show¬(((1:Nat):Int)=0)by omega]at f1 f2
 by_cases hp:p<0
 ·simp only[hp,decide_true,cond_true]at e1 e2
  exact .inr ⟨by rw[loW_eq,e1],by rw[loW_eq,e2]⟩
 ·simp only[hp,decide_false,cond_false]at e1 e2
  by_cases hq:q<0
  ·simp only[hq,decide_true,cond_true]at f1 f2
   refine .inr ⟨?_,?_⟩
   ·rw[loW_eq,e1]
    show loW _ _=_
    rw[loW_eq,f1]
   ·rw[loW_eq,e2]
    show loW _ _=_
    rw[loW_eq,f2]
  ·simp only[hq,decide_false,cond_false]at f1 f2
   refine .inl ⟨p,q,?_,?_⟩
   ·rw[loW_eq,e1]
    show loW _ _=_
    rw[loW_eq,f1]
    show loW _ _=_
    exact loW_inr z1
   ·rw[loW_eq,e2]
    show loW _ _=_
    rw[loW_eq,f2]
    show loW _ _=_
    exact loW_inr z2
theorem block_eq {b b' I S C ix:D} {f:Int} (h0:qint (qfld b' 0)=qint (qfld b 0)) (h2:qfld b 2=I) (h2':qfld b' 2=I) (h3:qfld b 3=S) (h3':qfld b' 3=S) (h4:qfld b 4=C) (h4':qfld b' 4=C) (hn:I.toList.length≤20) (hs:S.toList.length≤80) (hx:ix.toList.length≤1000000):
 ∃(r:Int) (l:List D) (n e:Int),q21 [b',ix, .int f]=some [.int r, .list l, .int n, .int e]∧q23 [b,ix, .int f]=some [.int r, .list l, .int n, .int e]∧D.sizes l≤200000∧(e=0→r=qint (qfld b 0)∧n=f):=by
 obtain⟨e,k1,k2,k3⟩:=check_spec h2 h2' h3 h3' h4 h4' hn hs
 by_cases he:e=0
 ·obtain⟨i0,hv,hok,hS⟩:=k3 he
  subst he
  obtain⟨out,m1,m2,m3⟩:=main_loop (ix:=ix) (f:=f) (ad:=qint (qfld b 0)) h2 h2' h4 h4' hn hv (I.toList.length-1) 0 0 [] (by omega) (by omega) (by rw[show I.toList.length-1+1=I.toList.length by omega];exact hok) (by simp[D.sizes])
  simp only[Int.natCast_zero]at m1 m2
  have e9:l21_9 [ix, .int (qint (qfld b 0)),b'] [.int f, .int 0, .int 0, .list []]=some [.int 0, .int f, .list out,lastI I]:=by rw[l21_9_eq];exact m1
  have e7:l23_7 [ix, .int f, .int (qint (qfld b 0)),b] [.int 0, .int 0, .list []]=some [.int 0, .list out]:=by rw[l23_7_eq];exact m2
  obtain⟨ix1,ix2⟩:=last_ix (by omega) hn
  have hvl:vld (lastI I)=true:=hv _ (by unfold lastI;rw[qget_n,getD_lt (by omega)];exact List.getElem_mem _)
  obtain⟨to,E,o,t1,t2,t3,t4,t5⟩:=term_spec (b':=b') h3' hs hvl hS
  have fin:∀(s:D) (at1:List D) (n2 n3:Int) (at2:List D),s.size≤40000→
   l21_24 [ix, .int f,to,to, .int (qlen to),lastI I, .list out, .int (qint (qfld b 0))] [.int 0, .list []]=some [.int 0, .list at1]→
   l23_17 [ix, .int f,to, .int o, .int 0, .int 0, .int 0,E, .list out, .int (qint (qfld b 0))] [.int 0, .list [], .int 0, .int 0]=some [.int 0, .list at2, .int n2, .int n3]→
   q56 [lastI I,to, .list at1]=some [s]→s=stS o n2 n3 E (.list at2)→
   ∃(r:Int) (l:List D) (n e:Int),q21 [b',ix, .int f]=some [.int r, .list l, .int n, .int e]∧q23 [b,ix, .int f]=some [.int r, .list l, .int n, .int e]∧D.sizes l≤200000∧(e=0→r=qint (qfld b 0)∧n=f):=by
   intro s at1 n2 n3 at2 hz l1 l2 l3 hs'
   subst hs'
   have hz2:D.sizes (out ++ [stS o n2 n3 E (.list at2)])≤200000:=by
    rw[sizes_app]
    have:D.sizes [stS o n2 n3 E (.list at2)]=(stS o n2 n3 E (.list at2)).size:=by simp[D.sizes]
    omega
   have hm:qmem (qlen (.list (out ++ [stS o n2 n3 E (.list at2)]))) 96=true:=by
    have:=sizes_len (out ++ [stS o n2 n3 E (.list at2)])
    rw[qlen_l];exact qmem_big (by omega) (by omega)
   refine⟨qint (qfld b 0),out ++ [stS o n2 n3 E (.list at2)],f,0,?_,?_,hz2,fun _=>⟨rfl,rfl⟩⟩
   ·have ha:F21_a0 b' ix f=stS o n2 n3 E (.list at2):=by
     unfold F21_a0
     simp only[h0,e9,qsome_s,qnth_s,List.getD_cons_zero,List.getD_cons_succ,qint_i,t1,l1,l3,qfld_agg]
    rw[q21_eq,F21_eq,k1,ha]
    simp only[h0,e9,qsome_s,qnth_s,List.getD_cons_zero,List.getD_cons_succ,qint_i,t1,l1,l3,qcmp_neq,qcmp_eql,decide_true,Bool.not_true,cond_true,cond_false,qapp_l,hm]
   ·have ha:F23_a0 b ix f=stS o n2 n3 E (.list at2):=by
     unfold F23_a0
     simp only[h2,h3,ix1,show qget I ((I.toList.length-1:Nat):Int)=lastI I from rfl,e7,qsome_s,qnth_s,List.getD_cons_zero,List.getD_cons_succ,qint_i,t2,l2]
    rw[q23_eq,F23_eq,k2,ha]
    simp only[h2,h3,ix1,ix2,show qget I ((I.toList.length-1:Nat):Int)=lastI I from rfl,e7,qsome_s,qnth_s,List.getD_cons_zero,List.getD_cons_succ,qint_i,t2,l2,qcmp_neq,qcmp_eql,decide_true,Bool.not_true,cond_true,cond_false,qapp_l,hm]
  have bad:l21_24 [ix, .int f,to,to, .int (qlen to),lastI I, .list out, .int (qint (qfld b 0))] [.int 0, .list []]=some [.int 1]→
   l23_17 [ix, .int f,to, .int o, .int 0, .int 0, .int 0,E, .list out, .int (qint (qfld b 0))] [.int 0, .list [], .int 0, .int 0]=some [.int 1]→
   ∃(r:Int) (l:List D) (n e:Int),q21 [b',ix, .int f]=some [.int r, .list l, .int n, .int e]∧q23 [b,ix, .int f]=some [.int r, .list l, .int n, .int e]∧D.sizes l≤200000∧(e=0→r=qint (qfld b 0)∧n=f):=by
   intro l1 l2
   refine⟨0,[],0,9,?_,?_,by simp[D.sizes],fun h=>by omega⟩
   ·rw[q21_eq,F21_eq,k1]
    simp only[h0,e9,qsome_s,qnth_s,List.getD_cons_zero,List.getD_cons_succ,qint_i,t1,l1,qcmp_neq,qcmp_eql,decide_true,Bool.not_true,cond_true,cond_false,show¬((1:Int)=0)by omega,decide_false]
   ·rw[q23_eq,F23_eq,k2]
    simp only[h2,h3,ix1,ix2,show qget I ((I.toList.length-1:Nat):Int)=lastI I from rfl,e7,qsome_s,qnth_s,List.getD_cons_zero,List.getD_cons_succ,qint_i,t2,l2,qcmp_neq,qcmp_eql,decide_true,Bool.not_true,cond_true,cond_false,show¬((1:Int)=0)by omega,decide_false]
  have zS:∀(n2 n3:Int) (at2:List D),D.sizes at2≤100→(stS o n2 n3 E (.list at2)).size≤40000:=fun n2 n3 at2 h=>by
   simp only[stS,D.size,D.sizes];omega
  rcases t5 with⟨rfl,t5⟩|⟨ho,⟨rfl,t5⟩|⟨x,rfl,t5⟩|⟨x,y,rfl,t5⟩⟩
  ·rcases at_loop (l:=ix) (to:=to) (a1:=to) (a2:=lastI I) (a3:= .list out) (a4:=E) (a5:= .list out) (f:=f) (ad:=qint (qfld b 0)) (m1:=0) (m2:=0) (m3:=0) (n2:=0) (n3:=0) hx (by omega) to.toList.length 0 [] (by omega) rfl with⟨at',a1,a2,a3,a4⟩|⟨a3,a4⟩
   ·exact fin _ at' 0 0 at' (zS 0 0 at' (by omega)) (by rw[l21_24_eq];exact a3) (by rw[l23_17_eq];exact a4) (t5 at' a1) rfl
   ·exact bad (by rw[l21_24_eq];exact a3) (by rw[l23_17_eq];exact a4)
  ·obtain⟨z1,z2⟩:=at_end (l:=ix) (to:= .list []) (a1:= .list []) (a2:=lastI I) (a3:= .list out) (a4:=E) (a5:= .list out) (f:=f) (ad:=qint (qfld b 0)) (op:=o) (m1:=0) (m2:=0) (m3:=0) (acc:=[]) (i:=0) rfl 0 0
   exact fin _ [] 0 0 [] (zS 0 0 [] (by simp[D.sizes])) (by rw[l21_24_eq];exact loW_inr z1) (by rw[l23_17_eq];exact loW_inr z2) t5 rfl
  ·rcases at_one (l:=ix) (x:=x) (a1:= .list [x]) (a2:=lastI I) (a3:= .list out) (a4:=E) (a5:= .list out) (f:=f) (ad:=qint (qfld b 0)) (op:=o) (m1:=0) (m2:=0) (m3:=0) hx ho with⟨p,a3,a4⟩|⟨a3,a4⟩
   ·exact fin _ [.int p] p 0 [] (zS p 0 [] (by simp[D.sizes])) (by rw[l21_24_eq];exact a3) (by rw[l23_17_eq];exact a4) (t5 p) rfl
   ·exact bad (by rw[l21_24_eq];exact a3) (by rw[l23_17_eq];exact a4)
  ·rcases at_two (l:=ix) (x:=x) (y:=y) (a1:= .list [x,y]) (a2:=lastI I) (a3:= .list out) (a4:=E) (a5:= .list out) (f:=f) (ad:=qint (qfld b 0)) (op:=o) (m1:=0) (m2:=0) (m3:=0) hx ho with⟨p,q,a3,a4⟩|⟨a3,a4⟩
   ·exact fin _ [.int p, .int q] p q [] (zS p q [] (by simp[D.sizes])) (by rw[l21_24_eq];exact a3) (by rw[l23_17_eq];exact a4) (t5 p q) rfl
   ·exact bad (by rw[l21_24_eq];exact a3) (by rw[l23_17_eq];exact a4)
 ·refine⟨0,[],0,e,?_,?_,by simp[D.sizes],fun h=>absurd h he⟩
  ·rw[q21_eq,F21_eq,k1]
   simp[qsome_s,qnth_s,qint_i,qcmp_neq,he]
  ·rw[q23_eq,F23_eq,k2]
   simp[qsome_s,qnth_s,qint_i,qcmp_neq,he]
end Go.Proofs.YtgklbalcneepoaaGreatDoor
namespace Go.Proofs.YtgklbalcneepoaaGreatDoor
set_option linter.unusedSimpArgs false
open Go Go.AM
theorem few_loop (d:D):∀(k i:Nat),i+k=30→loW (st20_2 [d]) [.int i]=some [.int 0]∨loW (st20_2 [d]) [.int i]=some [.int 1]:=by
 intro k
 induction k with
 |zero=>
  intro i hi
  rw[loW_eq,st20_2_eq,qiteB_c,qcmp_lss,qcmp_lss]
  simp only[show¬((i:Int)<30)by omega,decide_false,Bool.cond_self,cond_false]
  exact .inl trivial
 |succ k ih=>
  intro i hi
  rw[loW_eq,st20_2_eq,qiteB_c,qcmp_lss,qcmp_lss,qcmp_gtr,qlen_c]
  simp only[show((i:Int)<30)by omega,decide_true]
  by_cases h:i<(qfld d 4).toList.length
  ·simp only[show((i:Int)<((qfld d 4).toList.length:Int))by omega,decide_true,cond_true,qinb_n h]
   by_cases h12:(12:Int)<qlen (qget (qfld d 4) (i:Nat))
   ·simp only[h12,decide_true,cond_true]
    exact .inr trivial
   ·simp only[h12,decide_false,cond_false,add_nat (i:=i) (by omega)]
    exact ih (i+1) (by omega)
  ·simp only[show¬((i:Int)<((qfld d 4).toList.length:Int))by omega,decide_false,cond_false]
   exact .inl trivial
theorem few_spec (d:D):∃t:Bool,q20 [d]=some [.bool t]∧(t=true→(qfld d 2).toList.length≤20∧(qfld d 3).toList.length≤80∧(qfld d 4).toList.length≤20):=by
 rw[q20_eq,F20_eq]
 rcases few_loop d 30 0 rfl with h|h
 ·have e:l20_2 [d] [.int 0]=some [.int 0]:=by rw[l20_2_eq];exact h
  rw[e]
  refine⟨_,by simp only[qsome_s,qnth_s,List.getD_cons_zero,qint_i,qcmp_eql,decide_true,cond_true];rfl,?_⟩
  simp only[qiteB_c,qcmp_leq,qlen_c]
  intro h
  by_cases h1:(((qfld d 2).toList.length:Int)≤20)<;>by_cases h2:(((qfld d 3).toList.length:Int)≤80)<;>by_cases h3:(((qfld d 4).toList.length:Int)≤20)<;>simp[h1,h2,h3]at h
  omega
 ·have e:l20_2 [d] [.int 0]=some [.int 1]:=by rw[l20_2_eq];exact h
  rw[e]
  exact⟨false,by simp[qsome_s,qnth_s,qint_i,qcmp_eql],by simp⟩
noncomputable def reB (x:D):D:= .agg [.int (qint (qfld x 0)), .int (qint (qfld x 1)),qfld x 2,qfld x 3,qfld x 4]
theorem basics_loop {l:D} (hl:l.toList.length≤1000):∀(k i:Nat) (acc:List D),i+k=l.toList.length→acc.length=i→loW (st22_3 [l]) [.int i, .list acc]=some [.int 0, .list (acc++(l.toList.drop i).map reB)]:=by
 intro k
 induction k with
 |zero=>
  intro i acc hi ha
  rw[loW_eq,st22_3_eq,qlen_c,qcmp_lss]
  simp only[show¬((i:Int)<l.toList.length)by omega,decide_false,cond_false]
  rw[List.drop_eq_nil_of_le (by omega)];simp
 |succ k ih=>
  intro i acc hi ha
  have hlt:i<l.toList.length:=by omega
  have hm:qmem (((acc ++ [reB (qget l (i:Nat))]).length:Nat):Int) 80=true:=qmem_ok (by simp;omega) (by omega)
  rw[loW_eq,st22_3_eq]
  simp only[show D.agg [.int (qint (qfld (qget l (i:Nat)) 0)), .int (qint (qfld (qget l (i:Nat)) 1)),qfld (qget l (i:Nat)) 2,qfld (qget l (i:Nat)) 3,qfld (qget l (i:Nat)) 4]=reB (qget l (i:Nat))from rfl,qapp_l,qlen_l,hm,qlen_c l,qcmp_lss,show((i:Int)<(l.toList.length:Int))by omega,decide_true,cond_true,qinb_n hlt,add_nat (i:=i) (by omega)]
  show loW _ _=_
  rw[ih (i+1) _ (by omega) (by simp;omega),List.drop_eq_getElem_cons hlt,qget_n,getD_lt hlt,List.map_cons,List.append_assoc]
  rfl
theorem basics_spec {l:D} (hl:l.toList.length≤1000):q22 [l]=some [.list (l.toList.map reB)]:=by
 have h:=basics_loop hl l.toList.length 0 [] (by omega) rfl
 have e:l22_3 [l] [.int 0, .list []]=some [.int 0, .list (l.toList.map reB)]:=by
  rw[l22_3_eq]
  show loW _ _=_
  exact h
 rw[q22_eq,F22_eq,e]
 simp only[qsome_s,qnth_s,List.getD_cons_zero,List.getD_cons_succ,cond_true]
end Go.Proofs.YtgklbalcneepoaaGreatDoor
namespace Go.Proofs.YtgklbalcneepoaaGreatDoor
open Go Go.AM
def lim:Nat:=100000000
theorem sz_elems {j:Nat} {d:D} (h:d.size≤lim):(d.fld j).toList.length≤maxLen∧∀x∈(d.fld j).toList,x.size≤lim:=by
 have h1:=fld_size d j
 have h2:=len_size (d.fld j)
 refine⟨by unfold maxLen;unfold lim at h;omega,fun x hx=> ?_⟩
 have:=elem_size hx
 omega
theorem contains167 {Q:List D→Option (List D)} {l:D} {n:Int} {p:D→Bool} (hl:l.toList.length≤maxLen) (hc:∀x∈l.toList,q167 Q [x, .int n]=some [.bool (p x)]):q166_167 Q [l, .int n]=some [.bool (l.toList.any p)]:=by
 rw[q166_167_eq,F166_167_eq,q179_167_eq,F179_167_eq,l179_167_2_eq]
 rcases idxLoop (st:=st179_167_2 Q [l, .int n, .int (qlen l)]) (c:=fun x=>q167 Q [x, .int n]) (r1:=fun i=>[.int 1, .int i]) (r0:=[.int 0]) (fun i=>st179_167_2_eq Q l n (qlen l) i) hl hc with⟨h1,h2⟩|⟨i,h1,h2⟩
 ·simp[h1,h2,qsome_s,qnth_s,qint_i,qcmp_eql,qcmp_geq]
 ·simp[h1,h2,qsome_s,qnth_s,qint_i,qcmp_eql,qcmp_geq]
def deepS:Nat→D→Int→Bool
 |0,_,_=>false
 |N+1,d,n=>decide (n<1)||(d.fld 4).toList.any fun x=>deepS N x (n-1)
theorem deep_spec:∀(N:Nat) (d:D) (n:Int),d.size≤lim→d.size<N→ -9223372036854775808≤n→n≤9223372036854775807→F44 N [d, .int n]=some [.bool (deepS N d n)]∧F151 N [d, .int n]=some [.bool (!deepS N d n)]:=by
 intro N
 induction N with
 |zero=>intro d n _ h;omega
 |succ N ih=>
  intro d n hd hs h0 h1
  obtain⟨hl,hx⟩:=sz_elems hd
  rw[F44_s,F151_s,Fb44_eq,Fb151_eq]
  by_cases hn:n<1
  ·simp[qcmp_lss,qcmp_geq,hn,qiteB_c,deepS,show¬1≤n by omega]
  ·have hsub:qbin .sub .i64 n 1=n-1:=sub64 (by omega) (by omega)
   have hel:∀x∈(d.fld 4).toList,F44 N [x, .int (n-1)]=some [.bool (deepS N x (n-1))]∧F151 N [x, .int (n-1)]=some [.bool (!deepS N x (n-1))]:=
    fun x hm=>ih x (n-1) (hx x hm) (by have:=size_elem hm;omega) (by omega) (by omega)
   have h82:∀x∈(d.fld 4).toList,q167 (F151 N) [x, .int n]=some [.bool (deepS N x (n-1))]:=fun x hm=>by
    rw[q167_eq,F167_eq,hsub,(hel x hm).2]
    simp[qsome_s,qnth_s,qbool_b,qnot_c]
   have hcon:=contains167 (n:=n) hl h82
   rw[l44_4_eq,qfld_eq,hcon]
   have hloop:=idxLoop (st:=st44_4 (F44 N) [.int n,d]) (l:=d.fld 4) (c:=fun x=>F44 N [x, .int (n-1)]) (p:=fun x=>deepS N x (n-1)) (r1:=fun _=>[.int 1]) (r0:=[.int 0])
    (fun i=>by rw[st44_4_eq,hsub,qfld_eq]) hl (fun x hm=>(hel x hm).1)
   rcases hloop with⟨h3,h4⟩|⟨i,h3,h4⟩
   ·simp[h3,h4,qcmp_lss,qcmp_geq,hn,show 1≤n by omega,qsome_s,qnth_s,qint_i,qbool_b,qnot_c,qcmp_eql,qiteB_c,deepS]
   ·simp[h3,h4,qcmp_lss,qcmp_geq,hn,show 1≤n by omega,qsome_s,qnth_s,qint_i,qbool_b,qnot_c,qcmp_eql,qiteB_c,deepS]
theorem contains168 {Q:List D→Option (List D)} {l:D} {p:D→Bool} (hl:l.toList.length≤maxLen) (hc:∀x∈l.toList,q168 Q [x]=some [.bool (p x)]):q166_168 Q [l]=some [.bool (l.toList.any p)]:=by
 rw[q166_168_eq,F166_168_eq,q179_168_eq,F179_168_eq,l179_168_2_eq]
 rcases idxLoop (st:=st179_168_2 Q [l, .int (qlen l)]) (c:=fun x=>q168 Q [x]) (r1:=fun i=>[.int 1, .int i]) (r0:=[.int 0]) (fun i=>st179_168_2_eq Q l (qlen l) i) hl hc with⟨h1,h2⟩|⟨i,h1,h2⟩
 ·simp[h1,h2,qsome_s,qnth_s,qint_i,qcmp_eql,qcmp_geq]
 ·simp[h1,h2,qsome_s,qnth_s,qint_i,qcmp_eql,qcmp_geq]
theorem var_spec (v:Int):q153 [.int v]=some [.bool (decide (0≤v)&&decide (v<65536))]:=by
 rw[q153_eq,F153_eq];simp only[qiteB_c,qcmp_geq,qcmp_lss];cases h:decide (0≤v)<;>simp
theorem isVar_spec (v:Int):q85 [.int v]=some [.bool (decide (0≤v)&&decide (v<65536))]:=by
 rw[q85_eq,F85_eq];simp only[qiteB_c,qcmp_geq,qcmp_lss];cases h:decide (0≤v)<;>simp
theorem access_spec (v:Int):q154 [.int v]=some [.bool (decide (v=1)||decide (v=2)||decide (v=4))]:=by
 rw[q154_eq,F154_eq];simp only[qiteB_c,qcmp_eql];cases h:decide (v=1)<;>cases h2:decide (v=2)<;>simp
theorem formed_eq:∀(N:Nat) (d:D),d.size≤lim→d.size<N→∃b,F152 N [d]=some [.bool b]∧F45 N [d]=some [.bool b]:=by
 intro N
 induction N with
 |zero=>intro d _ h;omega
 |succ N ih=>
  intro d hd hs
  obtain⟨hl,hx⟩:=sz_elems hd
  have hel:∀x∈(d.fld 4).toList,∃b,F152 N [x]=some [.bool b]∧F45 N [x]=some [.bool b]:=fun x hm=>ih x (hx x hm) (by have:=size_elem hm;omega)
  let p:D→Bool:=fun x=>match F152 N [x]with|some [.bool b]=> !b|_=>false
  have h85:∀x∈(d.fld 4).toList,q168 (F152 N) [x]=some [.bool (p x)]:=fun x hm=>by
   obtain⟨b,h1,h2⟩:=hel x hm
   rw[q168_eq,F168_eq]
   simp[p,h1,qsome_s,qnth_s,qbool_b,qnot_c]
  have hcon:=contains168 hl h85
  rw[F152_s,F45_s,Fb152_eq,Fb45_eq]
  rw[l45_2_eq,qfld_eq,hcon]
  have hloop:=idxLoop (st:=st45_2 (F45 N) [d]) (l:=d.fld 4) (c:=fun x=>(F45 N [x]).map fun r=>[.bool (qnot (qbool (r.getD 0 .other)))]) (p:=p) (r1:=fun _=>[.int 1]) (r0:=[.int 0])
   (fun i=>by
    rw[st45_2_eq,qfld_eq]
    cases hq:F45 N [qget (d.fld 4) i]with
    |none=>simp[qsome_n]
    |some r=>simp[qsome_s,qnth_s,qbool_b]) hl (fun x hm=>by
    obtain⟨b,h1,h2⟩:=hel x hm
    simp[h1,h2,p,qbool_b,qnot_c])
  generalize (d.fld 4).toList.any p=an at *
  simp only[var_spec,isVar_spec,access_spec,qsome_s,qnth_s,List.getD_cons_zero,qbool_b,qnot_c,qcmp_eql,qcmp_geq,qcmp_leq,qiteB_c,decide_true,cond_true]
  generalize qint (d.fld 0)=o
  generalize qint (d.fld 1)=n
  generalize qint (d.fld 2)=v
  generalize qint (d.fld 3)=w
  generalize qlen (d.fld 4)=z
  rcases hloop with⟨h3,rfl⟩|⟨i,h3,rfl⟩
  ·simp only[h3,qsome_s,qnth_s,List.getD_cons_zero,qint_i,decide_true,cond_true,Bool.cond_self]
   by_cases e1:o=1
   ·subst e1;simp<;>grind
   by_cases e2:o=2
   ·subst e2;simp<;>grind
   by_cases e16:o=16
   ·subst e16;simp<;>grind
   by_cases e17:o=17
   ·subst e17;simp<;>grind
   by_cases e18:o=18
   ·subst e18;simp<;>grind
   by_cases e19:o=19
   ·subst e19;simp<;>grind
   simp[e1,e2,e16,e17,e18,e19]<;>grind
  ·simp only[h3,qsome_s,qnth_s,List.getD_cons_zero,qint_i,decide_true,cond_true,Bool.cond_self]
   by_cases e1:o=1
   ·subst e1;simp
   by_cases e2:o=2
   ·subst e2;simp<;>grind
   by_cases e16:o=16
   ·subst e16;simp
   by_cases e17:o=17
   ·subst e17;simp
   by_cases e18:o=18
   ·subst e18;simp<;>grind
   by_cases e19:o=19
   ·subst e19;simp<;>grind
   simp[e1,e2,e16,e17,e18,e19]<;>grind
end Go.Proofs.YtgklbalcneepoaaGreatDoor
namespace Go.Proofs.YtgklbalcneepoaaGreatDoor
open Go Go.AM
def firstErr (e:D→Int):List D→Int
 | []=>0
 |x::xs=>if e x=0 then firstErr e xs else e x
def errOut (n:Int):List D:=if n=0 then[.int 0]else[.int 1, .int n]
theorem errLoop {st:List D→Option (Sum (List D) (List D))} {l:D} {c:D→Option (List D)} {e:D→Int}
 (hst:∀i:Int,st [.int i]=bif qcmp .lss i (qlen l)then bif qinb l i then bif qsome (c (qget l i))then bif qcmp .neq (qint (qnth (c (qget l i)) 0)) 0 then some (.inr [.int 1, .int (qint (qnth (c (qget l i)) 0))])else some (.inl [.int (qbin .add .i64 i 1)])else none else none else some (.inr [.int 0]))
 (hl:l.toList.length≤maxLen) (hc:∀x∈l.toList,c x=some [.int (e x)]):loW st [.int 0]=some (errOut (firstErr e l.toList)):=by
 unfold maxLen at hl
 have key:∀k i:Nat,i+k=l.toList.length→loW st [.int i]=some (errOut (firstErr e (l.toList.drop i))):=by
  intro k
  induction k with
  |zero=>
   intro i hi
   rw[loW_eq,hst,qcmp_lss,qlen_c,List.drop_of_length_le (by omega)]
   simp[show¬((i:Int)<l.toList.length)by omega,firstErr,errOut]
  |succ k ih=>
   intro i hi
   have hlt:i<l.toList.length:=by omega
   rw[loW_eq,hst,qcmp_lss,qlen_c,qinb_n hlt,qget_n,getD_lt hlt,hc _ (List.getElem_mem hlt),List.drop_eq_getElem_cons hlt]
   simp only[show((i:Int)<l.toList.length)by omega,decide_true,cond_true,qsome_s,qnth_s,List.getD_cons_zero,qint_i,qcmp_neq,firstErr]
   by_cases he:e l.toList[i]=0
   ·simp only[he,decide_true,Bool.not_true,cond_false,if_true]
    rw[add_nat (by omega)]
    exact ih (i+1) (by omega)
   ·simp only[he,decide_false,Bool.not_false,cond_true,if_false]
    rw[errOut,if_neg he]
 have:=key l.toList.length 0 (by omega)
 simpa using this
theorem errOut_0 {n:Int}:qcmp .eql (qint (qnth (some (errOut n)) 0)) 0=decide (n=0):=by
 unfold errOut
 split<;>simp[qnth_s,qint_i,qcmp_eql, *]
theorem errOut_1 {n:Int} (h:n≠0):qint (qnth (some (errOut n)) 1)=n:=by
 unfold errOut
 rw[if_neg h];simp[qnth_s,qint_i]
theorem qsome_bif (c:Bool) (x y:Option (List D)):qsome (bif c then x else y)=bif c then qsome x else qsome y:=by cases c<;>rfl
theorem qnth_bif (c:Bool) (x y:Option (List D)) (j:Nat):qnth (bif c then x else y) j=bif c then qnth x j else qnth y j:=by cases c<;>rfl
theorem qint_bif (c:Bool) (x y:D):qint (bif c then x else y)=bif c then qint x else qint y:=by cases c<;>rfl
theorem qbool_bif (c:Bool) (x y:D):qbool (bif c then x else y)=bif c then qbool x else qbool y:=by cases c<;>rfl
theorem int_bif (c:Bool) (x y:Int):(bif c then some [D.int x]else some [D.int y])=some [D.int (bif c then x else y)]:=by cases c<;>rfl
noncomputable def eExpr (d:D):Int:=qint (qnth (F107 [d]) 0)
theorem fuel2 (d:D) (n:Int):d.size<fuelL [d, .int n]∧d.size<fuelL [d]:=by
 simp only[fuelL]
 have:d.size≤d.wt∨∃m,d = .int m:=by
  cases d<;>simp[D.wt]
 rcases this with h|⟨m,rfl⟩
 ·omega
 ·simp[D.size];omega
theorem expr_eq {d:D} (hd:d.size≤lim):F107 [d]=some [.int (eExpr d)]∧F12 [d]=some [.int (eExpr d)]:=by
 obtain⟨h1,h2⟩:=fuel2 d 64
 obtain⟨a,b⟩:=deep_spec (fuelL [d, .int 64]) d 64 hd h1 (by omega) (by omega)
 obtain⟨c,f1,f2⟩:=formed_eq (fuelL [d]) d hd h2
 have key:∃e,F107 [d]=some [.int e]∧F12 [d]=some [.int e]:=by
  rw[F107_eq,F12_eq,q151_eq,q44_eq,q152_eq,q45_eq]
  simp only[a,b,f1,f2,qsome_s,qnth_s,List.getD_cons_zero,qbool_b,qnot_c,cond_true]
  cases deepS (fuelL [d, .int 64]) d 64<;>cases c<;>simp
 obtain⟨e,h1,h2⟩:=key
 have:eExpr d=e:=by unfold eExpr;rw[h1];simp[qnth_s,qint_i]
 rw[this];exact⟨h1,h2⟩
noncomputable def eStmt (d:D):Int:=qint (qnth (F65 [d]) 0)
theorem exprsOf (d:D) (hd:d.size≤lim):(d.fld 6).toList.length≤maxLen∧∀x∈(d.fld 6).toList,x.size≤lim:=sz_elems hd
theorem stmt_eq {d:D} (hd:d.size≤lim):F65 [d]=some [.int (eStmt d)]∧F100 [d]=some [.int (eStmt d)]:=by
 obtain⟨hl,hx⟩:=exprsOf d hd
 have key:∃e,F65 [d]=some [.int e]∧F100 [d]=some [.int e]:=by
  have h1:=errLoop (st:=st65_5 [qfld d 6, .int (qlen (qfld d 6)),d]) (l:=d.fld 6) (c:=fun x=>q107 [x]) (e:=eExpr) (fun i=>by rw[st65_5_eq,qfld_eq]) hl (fun x hm=>by rw[q107_eq];exact(expr_eq (hx x hm)).1)
  have h2:=errLoop (st:=st100_4 [d]) (l:=d.fld 6) (c:=fun x=>q12 [x]) (e:=eExpr) (fun i=>by rw[st100_4_eq,qfld_eq]) hl (fun x hm=>by rw[q12_eq];exact(expr_eq (hx x hm)).2)
  rw[F65_eq,F100_eq,l65_5_eq,l100_4_eq]
  simp only[h1,h2]
  generalize firstErr eExpr (d.fld 6).toList=fe
  simp only[q106_eq,q146_eq,q108_eq,q147_eq,q85_eq,F106_eq,F146_eq,F108_eq,F147_eq,var_spec,isVar_spec,access_spec,F85_eq,errOut_0,qsome_bif,qnth_bif,qint_bif,qbool_bif,qsome_s,qnth_s,List.getD_cons_zero,qint_i,qbool_b,qnot_c,qiteB_c,qcmp_eql,qcmp_neq,qcmp_lss,qcmp_gtr,qcmp_geq,qcmp_leq,Bool.cond_self,cond_true]
  generalize qint (qnth (some (errOut fe)) 1)=fe1
  simp only[int_bif]
  refine⟨_,rfl,?_⟩
  congr 3
  generalize qint (qfld d 0)=o
  generalize qint (qfld d 1)=v
  generalize qint (qfld d 2)=w
  generalize qint (qfld d 3)=nx
  generalize qint (qfld d 4)=el
  generalize qint (qfld d 5)=tg
  generalize qlen (qfld d 6)=ne
  generalize qlen (qfld d 7)=nc
  by_cases a1:o=1
  ·subst a1;simp;grind
  by_cases a2:o=2
  ·subst a2;simp;grind
  by_cases a3:o=3
  ·subst a3;simp;grind
  by_cases a4:o=4
  ·subst a4;simp;grind
  by_cases a5:o=5
  ·subst a5;simp;grind
  by_cases a6:o=6
  ·subst a6;simp;grind
  by_cases a7:o=7
  ·subst a7;simp;grind
  by_cases a8:o=8
  ·subst a8;simp;grind
  by_cases a9:o=9
  ·subst a9;simp;grind
  by_cases a10:o=10
  ·subst a10;simp;grind
  simp[a1,a2,a3,a4,a5,a6,a7,a8,a9,a10];grind
 obtain⟨e,h1,h2⟩:=key
 have:eStmt d=e:=by unfold eStmt;rw[h1];simp[qnth_s,qint_i]
 rw[this];exact⟨h1,h2⟩
end Go.Proofs.YtgklbalcneepoaaGreatDoor
namespace Go.Proofs.YtgklbalcneepoaaGreatDoor
open Go Go.AM
theorem tl_list (xs:List D):(D.list xs).toList=xs:=rfl
theorem qand_c (a b:Bool):qand a b=(a&&b):=by rw[qand_eq]
theorem anyFor {st:List D→Option (Sum (List D) (List D))} {n:Nat} {p:Nat→Bool} {r1:Nat→List D} {r0:List D} (hn:n≤maxLen)
 (h1:∀i:Nat,i<n→st [.int i]=bif p i then some (.inr (r1 i))else some (.inl [.int (qbin .add .i64 i 1)])) (h0:st [.int n]=some (.inr r0)):
 (loW st [.int 0]=some r0∧∀i,i<n→p i=false)∨∃i,i<n∧p i=true∧(∀j,j<i→p j=false)∧loW st [.int 0]=some (r1 i):=by
 unfold maxLen at hn
 have key:∀k i:Nat,i+k=n→(∀j,j<i→p j=false)→(loW st [.int i]=some r0∧∀i,i<n→p i=false)∨∃i',i'<n∧p i'=true∧(∀j,j<i'→p j=false)∧loW st [.int i]=some (r1 i'):=by
  intro k
  induction k with
  |zero=>
   intro i hi hp
   obtain rfl:i=n:=by omega
   exact .inl ⟨by rw[loW_eq,h0],hp⟩
  |succ k ih=>
   intro i hi hp
   have hlt:i<n:=by omega
   rw[loW_eq,h1 i hlt]
   cases hc:p i with
   |true=>exact .inr ⟨i,hlt,hc,hp,rfl⟩
   |false=>
    simp only[cond_false]
    rw[add_nat (by omega)]
    exact ih (i+1) (by omega) fun j hj=>by
     by_cases h:j=i
     ·subst h;exact hc
     ·exact hp j (by omega)
 exact key n 0 (by omega) (fun j hj=>absurd hj (Nat.not_lt_zero _))
def fErr (e:Nat→Int):Nat→Nat→Int
 |_,0=>0
 |i,k+1=>if e i=0 then fErr e (i+1) k else e i
theorem errFor {st:List D→Option (Sum (List D) (List D))} {n:Nat} {e:Nat→Int} (hn:n≤maxLen)
 (h1:∀i:Nat,i<n→st [.int i]=if e i=0 then some (.inl [.int (qbin .add .i64 i 1)])else some (.inr [.int 1, .int (e i)]))
 (h0:st [.int n]=some (.inr [.int 0])):loW st [.int 0]=some (errOut (fErr e 0 n)):=by
 unfold maxLen at hn
 have key:∀k i:Nat,i+k=n→loW st [.int i]=some (errOut (fErr e i k)):=by
  intro k
  induction k with
  |zero=>
   intro i hi
   obtain rfl:i=n:=by omega
   rw[loW_eq,h0];simp[fErr,errOut]
  |succ k ih=>
   intro i hi
   have hlt:i<n:=by omega
   rw[loW_eq,h1 i hlt]
   by_cases he:e i=0
   ·simp only[he,if_true,fErr]
    rw[add_nat (by omega)]
    exact ih (i+1) (by omega)
   ·simp only[he,if_false,fErr]
    rw[errOut,if_neg he]
 exact key n 0 (by omega)
theorem contG {st:List D→Option (Sum (List D) (List D))} {l:D} {c:D→Option (List D)} {p:D→Bool}
 (hst:∀i:Int,st [.int i]=bif qcmp .lss i (qlen l)then bif qinb l i then bif qsome (c (qget l i))then bif qbool (qnth (c (qget l i)) 0)then some (.inr [.int 1, .int i])else some (.inl [.int (qbin .add .i64 i 1)])else none else none else some (.inr [.int 0]))
 (hl:l.toList.length≤maxLen) (hc:∀x∈l.toList,c x=some [.bool (p x)]):
 ∃k:Int,(bif qsome (loW st [.int 0])then bif qcmp .eql (qint (qnth (loW st [.int 0]) 0)) 0 then some [D.int (-1)]else some [.int (qint (qnth (loW st [.int 0]) 1))]else none)=some [.int k]∧decide (0≤k)=l.toList.any p:=by
 rcases idxLoop (r1:=fun i=>[.int 1, .int i]) hst hl hc with⟨h1,h2⟩|⟨i,h1,h2⟩
 ·exact⟨-1,by simp[h1,qsome_s,qnth_s,qint_i,qcmp_eql],by rw[h2];rfl⟩
 ·exact⟨i,by simp[h1,qsome_s,qnth_s,qint_i,qcmp_eql],by rw[h2];simp⟩
theorem take_any {p:D→Bool} {xs:List D} {i:Nat} (hi:i≤xs.length):(xs.take i).any p=true↔∃k,k<i∧p (xs.getD k .other)=true:=by
 rw[List.any_eq_true]
 constructor
 ·rintro⟨x,hx,hp⟩
  obtain⟨k,hk,rfl⟩:=List.getElem_of_mem hx
  simp only[List.length_take]at hk
  refine⟨k,by omega,?_⟩
  rw[List.getElem_take]at hp
  rw[getD_lt (by omega)];exact hp
 ·rintro⟨k,hk,hp⟩
  rw[getD_lt (by omega)]at hp
  exact⟨_,List.mem_take_iff_getElem.2 ⟨k,by omega,rfl⟩,hp⟩
theorem qsub_l (d:D) (i:Nat):(qsub d 0 (i:Int)).toList=d.toList.take i:=by rw[qsub_eq];simp[D.sub,D.toList]
noncomputable def term (d:D):Bool:=decide (6≤qint (qfld d 0))&&decide (qint (qfld d 0)≤10)
theorem term_p (d:D):q101 [d]=some [.bool (term d)]:=by
 rw[q101_eq,F101_eq];simp only[qiteB_c,qcmp_geq,qcmp_leq,term];cases decide (6≤qint (qfld d 0))<;>simp
theorem term_r (d:D):q144 [d]=some [.bool (term d)]:=by
 rw[q144_eq,F144_eq];simp only[qiteB_c,qcmp_geq,qcmp_leq,term];cases decide (6≤qint (qfld d 0))<;>simp
theorem contains101 {l:D} (hl:l.toList.length≤maxLen):q102_101 [l]=some [.bool (l.toList.any term)]:=by
 obtain⟨k,h1,h2⟩:=contG (st:=st148_101_2 [l, .int (qlen l)]) (c:=fun x=>q101 [x]) (p:=term) (fun i=>by rw[st148_101_2_eq]) hl (fun x _=>term_p x)
 rw[q102_101_eq,F102_101_eq,q148_101_eq,F148_101_eq,l148_101_2_eq,h1]
 simp only[qsome_s,cond_true,qnth_s,List.getD_cons_zero,qint_i,qcmp_geq,h2]
noncomputable def outside (n:Int) (x:D):Bool:=decide (qint x<0)||decide (n≤qint x)
theorem outside_p (x g:D):q105 [.int (qint x),g]=some [.bool (outside (qlen (qfld g 1)) x)]:=by
 rw[q105_eq,F105_eq];simp only[qiteB_c,qcmp_lss,qcmp_geq,outside];cases decide (qint x<0)<;>simp
theorem contains105 {l g:D} (hl:l.toList.length≤maxLen):q103_105 [l,g]=some [.bool (l.toList.any (outside (qlen (qfld g 1))))]:=by
 obtain⟨k,h1,h2⟩:=contG (st:=st149_105_2 [l,g, .int (qlen l)]) (c:=fun x=>q105 [.int (qint x),g]) (p:=outside (qlen (qfld g 1))) (fun i=>by rw[st149_105_2_eq]) hl (fun x _=>outside_p x g)
 rw[q103_105_eq,F103_105_eq,q149_105_eq,F149_105_eq,l149_105_2_eq,h1]
 simp only[qsome_s,cond_true,qnth_s,List.getD_cons_zero,qint_i,qcmp_geq,h2]
noncomputable def tgts (s:D):List D:=
 if qint (qfld s 0)=6 then[.int (qint (qfld s 3))]else if qint (qfld s 0)=7 then[.int (qint (qfld s 3)), .int (qint (qfld s 4))]else if qint (qfld s 0)=8 then(qfld s 7).toList else[]
theorem tgts_r (s:D):∃X,q145 [s]=some [X]∧X.toList=tgts s:=by
 rw[q145_eq,F145_eq]
 simp only[qcmp_eql,tgts]
 by_cases h6:qint (qfld s 0)=6
 ·simp[h6,tl_list]
 by_cases h7:qint (qfld s 0)=7
 ·simp[h7,tl_list]
 by_cases h8:qint (qfld s 0)=8
 ·simp[h8]
 simp[h6,h7,h8,tl_list]
noncomputable def lastS (b:D):D:=qget (qfld b 1) (((qfld b 1).toList.length-1:Nat):Int)
theorem last_ixO {l:D} (h:l.toList.length≠0) (hl:l.toList.length≤maxLen):qbin .sub .i64 (qlen l) 1=((l.toList.length-1:Nat):Int):=by
 unfold maxLen at hl
 rw[qlen_c,sub64 (by omega) (by omega)];omega
theorem tgts_p {b:D} (h:(qfld b 1).toList.length≠0) (hl:(qfld b 1).toList.length≤maxLen) (hm:(qfld (lastS b) 7).toList.length≤lim):∃X,q104 [b]=some [X]∧X.toList=tgts (lastS b):=by
 rw[q104_eq,F104_eq,last_ixO h hl,qinb_n (by omega)]
 simp only[qcmp_eql,tgts,qlen_c]
 rw[show qget (qfld b 1) (((qfld b 1).toList.length-1:Nat):Int)=lastS b from rfl]
 have h0:¬(((qfld b 1).toList.length:Int)=0):=by omega
 simp only[h0,decide_false,cond_false,cond_true]
 by_cases h6:qint (qfld (lastS b) 0)=6
 ·simp[h6,tl_list]
 by_cases h7:qint (qfld (lastS b) 0)=7
 ·simp[h7,tl_list]
 by_cases h8:qint (qfld (lastS b) 0)=8
 ·have hq:q150 [qfld (lastS b) 7]=some [qapp (.list []) (qfld (lastS b) 7)]:=by
   rw[q150_eq]
   unfold F150
   have:qapp (.list []) (qfld (lastS b) 7) = .list (qfld (lastS b) 7).toList:=by rw[qapp_eq];simp[D.app,tl_list]
   simp only[List.headD_cons,this,qlen_c,tl_list]
   rw[qmem_eq]
   have hr:rmem ((qfld (lastS b) 7).toList.length:Int) 8=true:=by
    simp[rmem];have hlim:lim=100000000:=rfl;omega
   rw[hr];rfl
  have ha:(qapp (.list []) (qfld (lastS b) 7)).toList=(qfld (lastS b) 7).toList:=by rw[qapp_eq];simp[D.app,tl_list]
  simp[h8,hq,qsome_s,qnth_s,ha]
 simp[h6,h7,h8,tl_list]
end Go.Proofs.YtgklbalcneepoaaGreatDoor
namespace Go.Proofs.YtgklbalcneepoaaGreatDoor
open Go Go.AM
theorem len_lt (d:D):d.toList.length<d.size:=by
 cases d with
 |list xs=>have:=sizes_len xs;simp only[D.toList,D.size];omega
 |_=>simp only[D.toList,D.size,List.length_nil];omega
theorem fld_le (d:D) (j:Nat):(qfld d j).size≤d.size:=by
 rw[qfld_eq]
 cases d with
 |agg xs=>
  simp only[D.fld,List.getD]
  cases h:xs[j]? with
  |none=>simp[D.size]
  |some y=>have:=sizes_get h;simp only[Option.getD_some,D.size];omega
 |_=>simp[D.fld,D.size]
theorem elem_le {l x:D} (h:x∈l.toList):x.size≤l.size:=by
 cases l with
 |list xs=>
  simp only[D.toList]at h
  obtain⟨i,hi⟩:=List.getElem?_of_mem h
  have:=sizes_get hi
  simp only[D.size];omega
 |_=>simp[D.toList]at h
theorem get_mem {l:D} {i:Nat} (h:i<l.toList.length):qget l i∈l.toList:=by
 rw[qget_n,getD_lt h];exact List.getElem_mem h
theorem sz_el {j:Nat} {d:D} (h:d.size≤lim):(qfld d j).toList.length≤maxLen∧∀x∈(qfld d j).toList,x.size≤lim:=by rw[qfld_eq];exact sz_elems h
theorem qeqB_c (a b:Bool):qeqB a b=(a==b):=by rw[qeqB_eq]
noncomputable def sumK:List D→Int→Int
 | [],s=>s
 |x::xs,s=>sumK xs (qbin .add .i64 s (qlen (qfld x 1)))
theorem sumLoop {st:List D→Option (Sum (List D) (List D))} {l:D}
 (hst:∀s i:Int,st [.int s, .int i]=bif qcmp .lss i (qlen l)then bif qinb l i then some (.inl [.int (qbin .add .i64 s (qlen (qfld (qget l i) 1))), .int (qbin .add .i64 i 1)])else none else some (.inr [.int 0, .int s]))
 (hl:l.toList.length≤maxLen):loW st [.int 0, .int 0]=some [.int 0, .int (sumK l.toList 0)]:=by
 unfold maxLen at hl
 have key:∀k i:Nat,∀s:Int,i+k=l.toList.length→loW st [.int s, .int i]=some [.int 0, .int (sumK (l.toList.drop i) s)]:=by
  intro k
  induction k with
  |zero=>
   intro i s hi
   rw[loW_eq,hst,qcmp_lss,qlen_c,List.drop_of_length_le (by omega)]
   simp[show¬((i:Int)<l.toList.length)by omega,sumK]
  |succ k ih=>
   intro i s hi
   have hlt:i<l.toList.length:=by omega
   rw[loW_eq,hst,qcmp_lss,qinb_n hlt,qget_n,getD_lt hlt,List.drop_eq_getElem_cons hlt,show decide ((i:Int)<qlen l)=true by rw[qlen_c];simp;omega]
   simp only[cond_true,sumK]
   rw[add_nat (by omega)]
   exact ih (i+1) _ (by omega)
 exact key l.toList.length 0 0 (by omega)
noncomputable def badB (n:Int) (b:D):Bool:=
 decide ((qfld b 1).toList.length=0)||(!term (lastS b)||((qfld b 1).toList.take ((qfld b 1).toList.length-1)).any term||(tgts (lastS b)).any (outside n))
theorem last_mem {b:D} (h:(qfld b 1).toList.length≠0):lastS b∈(qfld b 1).toList:=get_mem (by omega)
theorem tgts_len {s:D} (hs:s.size≤lim):(tgts s).length≤maxLen:=by
 unfold tgts
 split
 ·simp[maxLen]
 ·split
  ·simp[maxLen]
  ·split
   ·exact(sz_el hs).1
   ·simp[maxLen]
theorem closed_r {b:D} {n:Int} (hb:b.size≤lim):q99 [b, .int n]=some [.bool (!badB n b)]:=by
 obtain⟨hl,hx⟩:=sz_el hb
 rw[q99_eq,F99_eq]
 unfold badB
 by_cases h0:(qfld b 1).toList.length=0
 ·simp[qcmp_eql,qlen_c,h0]
 have hi:=last_ixO h0 hl
 have hloop:=anyFor (st:=st99_4 [.int n,b]) (n:=(qfld b 1).toList.length) (p:=fun i=> !(term (qget (qfld b 1) i)==decide (i=(qfld b 1).toList.length-1))) (r1:=fun _=>[.int 1]) (r0:=[.int 0]) hl
  (fun i hlt=>by
   rw[st99_4_eq,hi,qinb_n hlt,term_r,show qcmp .lss (i:Int) (qlen (qfld b 1))=true by rw[qcmp_lss,qlen_c];simp;omega]
   simp only[cond_true,qsome_s,qnth_s,List.getD_cons_zero,qbool_b,qnot_c,qcmp_eql,qeqB_c]
   congr 3
   simp only[Int.natCast_inj])
  (by rw[st99_4_eq,show qcmp .lss ((qfld b 1).toList.length:Int) (qlen (qfld b 1))=false by rw[qcmp_lss,qlen_c];simp];rfl)
 obtain⟨X,hX,hXl⟩:=tgts_r (lastS b)
 have hT:=tgts_len (hx _ (last_mem h0))
 have hloop2:=anyFor (st:=st99_10 [.int n,X]) (n:=X.toList.length) (p:=fun i=>outside n (X.toList.getD i .other)) (r1:=fun _=>[.int 1]) (r0:=[.int 0]) (by rw[hXl];exact hT)
  (fun i hlt=>by
   rw[st99_10_eq,qinb_n hlt,show qcmp .lss (i:Int) (qlen X)=true by rw[qcmp_lss,qlen_c];simp;omega,qget_n]
   simp only[cond_true,qcmp_lss,qcmp_geq,qiteB_c,outside]
   cases decide (qint (X.toList.getD i .other)<0)<;>simp)
  (by rw[st99_10_eq,show qcmp .lss (X.toList.length:Int) (qlen X)=false by rw[qcmp_lss,qlen_c];simp];rfl)
 rw[l99_4_eq,l99_10_eq,hi,qinb_n (by omega)]
 rw[show qget (qfld b 1) (((qfld b 1).toList.length-1:Nat):Int)=lastS b from rfl,hX]
 have hn0:qcmp .eql (qlen (qfld b 1)) 0=false:=by rw[qcmp_eql,qlen_c];simp;intro h;exact h0 (by rw[h];rfl)
 simp only[hn0,cond_false,cond_true,qsome_s,qnth_s,List.getD_cons_zero,decide_eq_false h0,Bool.false_or]
 have hlast:qget (qfld b 1) (((qfld b 1).toList.length-1:Nat):Int)=lastS b:=rfl
 rcases hloop with⟨h1,h2⟩|⟨i,hlt,hp,_,h1⟩
 ·have ht:term (lastS b)=true:=by
   have:=h2 ((qfld b 1).toList.length-1) (by omega)
   simp only[hlast,decide_true,Bool.not_eq_false',beq_iff_eq]at this
   exact this
  have ha:((qfld b 1).toList.take ((qfld b 1).toList.length-1)).any term=false:=by
   rw[← Bool.not_eq_true,take_any (by omega)]
   rintro⟨k,hk,hp⟩
   have:=h2 k (by omega)
   rw[qget_n,hp]at this
   simp[show¬k=(qfld b 1).toList.length-1 by omega]at this
  simp only[h1,qsome_s,qnth_s,List.getD_cons_zero,qint_i,qcmp_eql,decide_true,cond_true,ht,ha,Bool.not_true,Bool.false_or]
  rw[← hXl]
  rcases hloop2 with⟨h3,h4⟩|⟨i,hlt,hp,_,h3⟩
  ·have:X.toList.any (outside n)=false:=by
    rw[← Bool.not_eq_true]
    intro h
    obtain⟨x,hx,hp⟩:=List.any_eq_true.1 h
    obtain⟨k,hk,rfl⟩:=List.getElem_of_mem hx
    have:=h4 k hk
    rw[getD_lt hk,hp]at this;cases this
   simp[h3,qsome_s,qnth_s,qint_i,this]
  ·have:X.toList.any (outside n)=true:=by
    rw[getD_lt hlt]at hp
    exact List.any_eq_true.2 ⟨_,List.getElem_mem hlt,hp⟩
   simp[h3,qsome_s,qnth_s,qint_i,this]
 ·have hbad:(!term (lastS b)||((qfld b 1).toList.take ((qfld b 1).toList.length-1)).any term)=true:=by
   by_cases he:i=(qfld b 1).toList.length-1
   ·subst he
    simp only[hlast,decide_true]at hp
    have:term (lastS b)=false:=by simpa using hp
    rw[this];rfl
   ·have ht:term (qget (qfld b 1) i)=true:=by simpa[he]using hp
    have:((qfld b 1).toList.take ((qfld b 1).toList.length-1)).any term=true:=(take_any (by omega)).2 ⟨i,by omega,by rw[← qget_n];exact ht⟩
    rw[this];simp
  simp only[h1,qsome_s,qnth_s,List.getD_cons_zero,qint_i,qcmp_eql,cond_true,hbad,Bool.true_or,Bool.not_true]
  rfl
theorem closed_p {g:D} {i:Nat} {n:Int} (hi:i<(qfld g 1).toList.length) (hb:(qget (qfld g 1) i).size≤lim) (hg:(qget (qfld g 1) i).size≤lim) (hn:n=qlen (qfld g 1)):
 st64_4 [qfld g 1, .int n,g] [.int i]=bif badB n (qget (qfld g 1) i)then some (.inr [.int 1])else some (.inl [.int (qbin .add .i64 i 1)]):=by
 subst hn
 rw[st64_4_eq,show qcmp .lss (i:Int) (qlen (qfld g 1))=true by(rw[qcmp_lss,qlen_c];simp;omega),qinb_n hi]
 generalize qget (qfld g 1) i=b at *
 obtain⟨hl,hx⟩:=sz_el hb
 unfold badB
 by_cases h0:(qfld b 1).toList.length=0
 ·simp[qcmp_eql,qlen_c,h0,qiteB_c]
 have hix:=last_ixO h0 hl
 have hn0:qcmp .eql (qlen (qfld b 1)) 0=false:=by rw[qcmp_eql,qlen_c];simp;intro h;exact h0 (by rw[h];rfl)
 have hm:(qfld (lastS b) 7).toList.length≤lim:=by
  have h1:=len_lt (qfld (lastS b) 7)
  have h2:=fld_le (lastS b) 7
  have h3:=elem_le (last_mem h0)
  have h4:=fld_le b 1
  unfold lim at hg
  omega
 obtain⟨X,hX,hXl⟩:=tgts_p h0 hl hm
 have hT:=tgts_len (hx _ (last_mem h0))
 rw[hix,qinb_n (by omega),show qget (qfld b 1) (((qfld b 1).toList.length-1:Nat):Int)=lastS b from rfl,hn0,term_p,contains101 (by rw[qsub_l];simp only[List.length_take];omega),qsub_l,hX]
 simp only[qsome_s,qnth_s,List.getD_cons_zero,qbool_b,contains105 (l:=X) (g:=g) (by rw[hXl];exact hT),hXl,qcmp_leq,qlen_c,qiteB_c,qand_c,qnot_c,cond_true,cond_false,decide_eq_false h0,Bool.false_or,Bool.and_true]
 have e1:decide ((0:Int)≤(((qfld b 1).toList.length-1:Nat):Int))=true:=by simp
 have e2:decide ((((qfld b 1).toList.length-1:Nat):Int)≤((qfld b 1).toList.length:Int))=true:=by rw[decide_eq_true_iff];omega
 simp only[e1,e2,Int.le_refl,decide_true,Bool.and_self,Bool.cond_self,cond_true]
 cases term (lastS b)<;>cases ((qfld b 1).toList.take ((qfld b 1).toList.length-1)).any term<;>simp
theorem blocksOf {g:D} (hg:g.size≤lim):(qfld g 1).toList.length≤maxLen∧∀x∈(qfld g 1).toList,x.size≤lim:=sz_el hg
theorem shaped_eq {g:D} (hg:g.size≤lim) (hs:g.size≤lim):∃b:Bool,q64 [g]=some [.bool b]∧((qfld g 1).toList.length=0→b=false)∧
 ((qfld g 1).toList.length≠0→((loW (st63_13 [g]) [.int 0]=some [.int 0]∧b=true)∨(loW (st63_13 [g]) [.int 0]=some [.int 1]∧b=false))):=by
 obtain⟨hl,hx⟩:=blocksOf hg
 rw[q64_eq,F64_eq,l64_4_eq]
 by_cases h0:(qfld g 1).toList.length=0
 ·exact⟨false,by simp[qcmp_eql,qlen_c,h0],fun _=>rfl,fun h=>absurd h0 h⟩
 have hn0:qcmp .eql (qlen (qfld g 1)) 0=false:=by rw[qcmp_eql,qlen_c];simp;intro h;exact h0 (by rw[h];rfl)
 have hsz:∀i:Nat,i<(qfld g 1).toList.length→(qget (qfld g 1) i).size≤lim:=fun i hi=>by
  have h1:=elem_le (get_mem hi)
  have h2:=fld_le g 1
  omega
 have hp:=anyFor (st:=st64_4 [qfld g 1, .int (qlen (qfld g 1)),g]) (n:=(qfld g 1).toList.length) (p:=fun i=>badB (qlen (qfld g 1)) (qget (qfld g 1) i)) (r1:=fun _=>[.int 1]) (r0:=[.int 0]) hl
  (fun i hi=>closed_p hi (hx _ (get_mem hi)) (hsz i hi) rfl)
  (by rw[st64_4_eq,show qcmp .lss ((qfld g 1).toList.length:Int) (qlen (qfld g 1))=false by rw[qcmp_lss,qlen_c];simp];rfl)
 have hr:=anyFor (st:=st63_13 [g]) (n:=(qfld g 1).toList.length) (p:=fun i=>badB (qlen (qfld g 1)) (qget (qfld g 1) i)) (r1:=fun _=>[.int 1]) (r0:=[.int 0]) hl
  (fun i hi=>by
   rw[st63_13_eq,show qcmp .lss (i:Int) (qlen (qfld g 1))=true by rw[qcmp_lss,qlen_c];simp;omega,qinb_n hi,closed_r (hx _ (get_mem hi))]
   simp only[cond_true,qsome_s,qnth_s,List.getD_cons_zero,qbool_b,qnot_c,Bool.not_not])
  (by rw[st63_13_eq,show qcmp .lss ((qfld g 1).toList.length:Int) (qlen (qfld g 1))=false by rw[qcmp_lss,qlen_c];simp];rfl)
 simp only[hn0,cond_false]
 rcases hp with⟨h1,h2⟩|⟨i,hlt,hpi,_,h1⟩
 ·refine⟨true,by simp[h1,qsome_s,qnth_s,qint_i,qcmp_eql],fun h=>absurd h h0,fun _=> .inl ⟨?_,rfl⟩⟩
  rcases hr with⟨h3,_⟩|⟨j,hj,hpj,_,_⟩
  ·exact h3
  ·rw[h2 j hj]at hpj;cases hpj
 ·refine⟨false,by simp[h1,qsome_s,qnth_s,qint_i,qcmp_eql],fun h=>rfl,fun _=> .inr ⟨?_,rfl⟩⟩
  rcases hr with⟨_,h4⟩|⟨j,hj,hpj,_,h3⟩
  ·rw[h4 i hlt]at hpi;cases hpi
  ·exact h3
noncomputable def eBlock (b:D):Int:=firstErr eStmt (qfld b 1).toList
theorem block_p {b a0:D} {a1 a2:Int} (hb:b.size≤lim):l29_15 [a0, .int a1, .int a2,qfld b 1, .int (qlen (qfld b 1))] [.int 0]=some (errOut (eBlock b)):=by
 obtain⟨hl,hx⟩:=sz_el hb
 rw[l29_15_eq]
 exact errLoop (st:=st29_15 [a0, .int a1, .int a2,qfld b 1, .int (qlen (qfld b 1))]) (l:=qfld b 1) (c:=fun x=>q65 [x]) (e:=eStmt) (fun i=>by rw[st29_15_eq]) hl (fun x hm=>by rw[q65_eq];exact(stmt_eq (hx x hm)).1)
theorem block_r {g:D} {i:Nat} (hi:i<(qfld g 1).toList.length) (hb:(qget (qfld g 1) i).size≤lim):l63_21 [.int i,g] [.int 0]=some (errOut (eBlock (qget (qfld g 1) i))):=by
 obtain⟨hl,hx⟩:=sz_el hb
 rw[l63_21_eq]
 exact errLoop (st:=st63_21 [.int i,g]) (l:=qfld (qget (qfld g 1) i) 1) (c:=fun x=>q100 [x]) (e:=eStmt) (fun k=>by rw[st63_21_eq,qinb_n hi];simp only[cond_true]) hl (fun x hm=>by rw[q100_eq];exact(stmt_eq (hx x hm)).2)
noncomputable def eGraph (g:D):Int:=qint (qnth (F29 [g]) 0)
theorem graph_eq {g:D} (hg:g.size≤lim) (hs:g.size≤lim):q29 [g]=some [.int (eGraph g)]∧q63 [g]=some [.int (eGraph g)]:=by
 obtain⟨hl,hx⟩:=blocksOf hg
 have key:∃e,F29 [g]=some [.int e]∧F63 [g]=some [.int e]:=by
  obtain⟨b,hb,hb0,hb1⟩:=shaped_eq hg hs
  have s1:=sumLoop (st:=st29_3 [qfld g 1, .int (qlen (qfld g 1)),g]) (l:=qfld g 1) (fun s i=>by rw[st29_3_eq]) hl
  have s2:=sumLoop (st:=st63_5 [g]) (l:=qfld g 1) (fun s i=>by rw[st63_5_eq]) hl
  have e1:=errFor (st:=st29_12 [qfld g 1, .int (qlen (qfld g 1))]) (n:=(qfld g 1).toList.length) (e:=fun i=>eBlock (qget (qfld g 1) i)) hl
   (fun i hi=>by
    rw[st29_12_eq,show qcmp .lss (i:Int) (qlen (qfld g 1))=true by rw[qcmp_lss,qlen_c];simp;omega,qinb_n hi,block_p (hx _ (get_mem hi)),errOut_0]
    simp only[cond_true,qsome_s]
    by_cases he:eBlock (qget (qfld g 1) i)=0
    ·simp[he]
    ·simp[he,errOut_1 he])
   (by rw[st29_12_eq,show qcmp .lss ((qfld g 1).toList.length:Int) (qlen (qfld g 1))=false by rw[qcmp_lss,qlen_c];simp];rfl)
  have e2:=errFor (st:=st63_18 [g]) (n:=(qfld g 1).toList.length) (e:=fun i=>eBlock (qget (qfld g 1) i)) hl
   (fun i hi=>by
    rw[st63_18_eq,show qcmp .lss (i:Int) (qlen (qfld g 1))=true by rw[qcmp_lss,qlen_c];simp;omega,block_r hi (hx _ (get_mem hi)),errOut_0]
    simp only[cond_true,qsome_s]
    by_cases he:eBlock (qget (qfld g 1) i)=0
    ·simp[he]
    ·simp[he,errOut_1 he])
   (by rw[st63_18_eq,show qcmp .lss ((qfld g 1).toList.length:Int) (qlen (qfld g 1))=false by rw[qcmp_lss,qlen_c];simp];rfl)
  rw[F29_eq,F63_eq,l29_3_eq,l63_5_eq,l29_12_eq,l63_13_eq,l63_18_eq]
  simp only[s1,s2,e1,e2,hb]
  simp only[qsome_s,qnth_s,List.getD_cons_zero,List.getD_cons_succ,qint_i,qbool_b,qnot_c,qcmp_gtr,qcmp_eql,qiteB_c,cond_true,qlen_c]
  generalize sumK (qfld g 1).toList 0=sm
  generalize fErr (fun i=>eBlock (qget (qfld g 1) i)) 0 (qfld g 1).toList.length=fe
  have hz:∀m:Int,decide (qint (qnth (some (errOut m)) 0)=0)=decide (m=0):=fun m=>by rw[← qcmp_eql];exact errOut_0
  have hL:((qfld g 1).toList.length=0)↔(((qfld g 1).toList.length:Int)=0):=by omega
  simp only[ne_eq,hL]at hb0 hb1
  generalize ((qfld g 1).toList.length:Int)=L at *
  by_cases hmx:256<L
  ·refine⟨6,?_,?_⟩<;>simp[hmx]
  by_cases hsm:1024<sm
  ·refine⟨6,?_,?_⟩<;>simp[hmx,hsm]
  by_cases h0:L=0
  ·refine⟨18,?_,?_⟩<;>simp[hsm,h0,hb0 h0]
  ·rcases hb1 h0 with⟨h1,rfl⟩|⟨h1,rfl⟩
   ·by_cases hf:fe=0
    ·refine⟨0,?_,?_⟩<;>simp[hmx,hsm,h0,h1,hf,qsome_s,qnth_s,qint_i,errOut]
    ·refine⟨fe,?_,?_⟩<;>simp[hmx,hsm,h0,h1,hf,qsome_s,qnth_s,qint_i,errOut]
   ·refine⟨18,?_,?_⟩<;>simp[hmx,hsm,h0,h1,qsome_s,qnth_s,qint_i]
 obtain⟨e,h1,h2⟩:=key
 have:eGraph g=e:=by unfold eGraph;rw[h1];simp[qnth_s,qint_i]
 rw[this,q29_eq,q63_eq];exact⟨h1,h2⟩
end Go.Proofs.YtgklbalcneepoaaGreatDoor
namespace Go.Proofs.YtgklbalcneepoaaGreatDoor
set_option linter.unusedSimpArgs false
open Go Go.AM
noncomputable def notE (e:Int) (x:D):List D:=if qint x=e then[]else[.int (qint x)]
theorem notE_len (e:Int) (x:D):(notE e x).length≤1:=by unfold notE;split<;>simp
theorem ix25 {p0 B p3:D} (hl:B.toList.length≤1000):∀(k i:Nat) (acc:List D),i+k=B.toList.length→acc.length≤i+1→
 loW (st25_3 [p0,B, .int (qlen B),p3]) [.int i, .list acc]=some [.int 0, .list (acc++(B.toList.drop i).flatMap (notE (qint (qfld p3 0))))]:=by
 intro k
 induction k with
 |zero=>
  intro i acc hi ha
  rw[loW_eq,st25_3_eq,qlen_c,qcmp_lss]
  simp only[show¬((i:Int)<B.toList.length)by omega,decide_false,cond_false]
  rw[List.drop_eq_nil_of_le (by omega)];simp
 |succ k ih=>
  intro i acc hi ha
  have hlt:i<B.toList.length:=by omega
  have hm:qmem (((acc ++ [D.int (qint (qget B (i:Nat)))]).length:Nat):Int) 4=true:=qmem_ok (by simp;omega) (by omega)
  rw[loW_eq,st25_3_eq]
  simp only[qapp_l,qlen_l,hm,qlen_c B,qcmp_lss,qcmp_neq,show((i:Int)<(B.toList.length:Int))by omega,decide_true,cond_true,qinb_n hlt,add_nat (i:=i) (by omega)]
  rw[List.drop_eq_getElem_cons hlt,List.flatMap_cons]
  have hg:qget B (i:Nat)=B.toList[i]:=by rw[qget_n,getD_lt hlt]
  by_cases h:qint (qget B (i:Nat))=qint (qfld p3 0)
  ·simp only[h,decide_true,Bool.not_true,cond_false]
   rw[← qlen_c B]
   show loW _ _=_
   rw[ih (i+1) acc (by omega) (by omega)]
   have:notE (qint (qfld p3 0)) B.toList[i] = []:=by rw[← hg];simp[notE,h]
   rw[this];rfl
  ·simp only[h,decide_false,Bool.not_false,cond_true]
   rw[← qlen_c B]
   show loW _ _=_
   rw[ih (i+1) _ (by omega) (by simp;omega)]
   have:notE (qint (qfld p3 0)) B.toList[i] = [.int (qint (qget B (i:Nat)))]:=by rw[← hg];simp[notE,h]
   rw[this,List.append_assoc]
theorem ix27 {p0 p1:D} (hl:(qfld p1 2).toList.length≤1000):∀(k i:Nat) (acc:List D),i+k=(qfld p1 2).toList.length→acc.length≤i+1→
 loW (st27_3 [p0,p1]) [.int i, .list acc]=some [.int 0, .list (acc++((qfld p1 2).toList.drop i).flatMap (notE (qint (qfld p1 0))))]:=by
 intro k
 induction k with
 |zero=>
  intro i acc hi ha
  rw[loW_eq,st27_3_eq,qlen_c,qcmp_lss]
  simp only[show¬((i:Int)<(qfld p1 2).toList.length)by omega,decide_false,cond_false]
  rw[List.drop_eq_nil_of_le (by omega)];simp
 |succ k ih=>
  intro i acc hi ha
  have hlt:i<(qfld p1 2).toList.length:=by omega
  have hm:qmem (((acc ++ [D.int (qint (qget (qfld p1 2) (i:Nat)))]).length:Nat):Int) 4=true:=qmem_ok (by simp;omega) (by omega)
  rw[loW_eq,st27_3_eq]
  simp only[qapp_l,qlen_l,hm,qlen_c (qfld p1 2),qcmp_lss,qcmp_neq,show((i:Int)<((qfld p1 2).toList.length:Int))by omega,decide_true,cond_true,qinb_n hlt,add_nat (i:=i) (by omega)]
  rw[List.drop_eq_getElem_cons hlt,List.flatMap_cons]
  have hg:qget (qfld p1 2) (i:Nat)=(qfld p1 2).toList[i]:=by rw[qget_n,getD_lt hlt]
  by_cases h:qint (qget (qfld p1 2) (i:Nat))=qint (qfld p1 0)
  ·simp only[h,decide_true,Bool.not_true,cond_false]
   show loW _ _=_
   rw[ih (i+1) acc (by omega) (by omega)]
   have:notE (qint (qfld p1 0)) (qfld p1 2).toList[i] = []:=by rw[← hg];simp[notE,h]
   rw[this];rfl
  ·simp only[h,decide_false,Bool.not_false,cond_true]
   show loW _ _=_
   rw[ih (i+1) _ (by omega) (by simp;omega)]
   have:notE (qint (qfld p1 0)) (qfld p1 2).toList[i] = [.int (qint (qget (qfld p1 2) (i:Nat)))]:=by rw[← hg];simp[notE,h]
   rw[this,List.append_assoc]
noncomputable def bp (b:D) (a:Int):Int:=qint (qnth (q62 [b, .int a]) 0)
theorem re_get {b:D} {i:Nat} (h:i<b.toList.length):qget (.list (b.toList.map reB)) (i:Nat)=reB (qget b (i:Nat)):=by
 rw[qget_n,qget_n,getD_lt h,getD_lt (by simpa[D.toList]using h)];simp[D.toList]
theorem re_f0 (x:D):qint (qfld (reB x) 0)=qint (qfld x 0):=by simp[reB,qfld_agg,qint_i]
theorem bp_spec {b:D} {a:Int} (hl:b.toList.length≤1000):q62 [b, .int a]=some [.int (bp b a)]∧q60_61 [.list (b.toList.map reB), .int a]=some [.int (bp b a)]∧
 (bp b a = -1∨∃j:Nat,bp b a=j∧j<b.toList.length∧qint (qfld (qget b (j:Nat)) 0)=a):=by
 have hlen:(D.list (b.toList.map reB)).toList.length=b.toList.length:=by simp[D.toList]
 have key:∀k i:Nat,i+k=b.toList.length→(∃j:Nat,j<b.toList.length∧qint (qfld (qget b (j:Nat)) 0)=a∧loW (st62_2 [b, .int a]) [.int i]=some [.int 1, .int j]∧loW (st60_61_2 [.list (b.toList.map reB), .int a, .int (qlen (.list (b.toList.map reB)))]) [.int i]=some [.int 1, .int j])∨
  (loW (st62_2 [b, .int a]) [.int i]=some [.int 0]∧loW (st60_61_2 [.list (b.toList.map reB), .int a, .int (qlen (.list (b.toList.map reB)))]) [.int i]=some [.int 0]):=by
  intro k
  induction k with
  |zero=>
   intro i hi
   rw[loW_eq,st62_2_eq,loW_eq,st60_61_2_eq,qlen_c,qlen_c,hlen,qcmp_lss]
   simp only[show¬((i:Int)<b.toList.length)by omega,decide_false,cond_false]
   exact .inr ⟨trivial,trivial⟩
  |succ k ih=>
   intro i hi
   have hlt:i<b.toList.length:=by omega
   rw[loW_eq,st62_2_eq,loW_eq,st60_61_2_eq,qlen_c,qlen_c,hlen,qcmp_lss,qinb_n hlt,qinb_n (show i<(D.list (b.toList.map reB)).toList.length by omega),q61_eq,F61_eq,re_get hlt,re_f0,qcmp_eql]
   simp only[show((i:Int)<b.toList.length)by omega,decide_true,cond_true,qsome_s,qnth_s,List.getD_cons_zero,qbool_b]
   by_cases h:qint (qfld (qget b (i:Nat)) 0)=a
   ·left
    refine⟨i,hlt,h,?_,?_⟩
    ·rw[decide_eq_true h];rfl
    ·rw[decide_eq_true h];rfl
   ·rw[decide_eq_false h]
    simp only[cond_false]
    rw[add_nat (by omega)]
    have h5:=ih (i+1) (by omega)
    rw[qlen_c,hlen]at h5
    exact h5
 have res:∃k:Int,q62 [b, .int a]=some [.int k]∧q60_61 [.list (b.toList.map reB), .int a]=some [.int k]∧(k = -1∨∃j:Nat,k=j∧j<b.toList.length∧qint (qfld (qget b (j:Nat)) 0)=a):=by
  rw[q62_eq,F62_eq,q60_61_eq,F60_61_eq]
  rcases key b.toList.length 0 (by omega)with⟨j,hj,ha,h1,h2⟩|⟨h1,h2⟩
  ·simp only[Int.natCast_zero]at h1 h2
   have e1:l62_2 [b, .int a] [.int 0]=some [.int 1, .int j]:=by rw[l62_2_eq];exact h1
   have e2:l60_61_2 [.list (b.toList.map reB), .int a, .int (qlen (.list (b.toList.map reB)))] [.int 0]=some [.int 1, .int j]:=by rw[l60_61_2_eq];exact h2
   rw[e1,e2]
   refine⟨j,?_,?_, .inr ⟨j,rfl,hj,ha⟩⟩<;>simp[qsome_s,qnth_s,qint_i,qcmp_eql]
  ·simp only[Int.natCast_zero]at h1 h2
   have e1:l62_2 [b, .int a] [.int 0]=some [.int 0]:=by rw[l62_2_eq];exact h1
   have e2:l60_61_2 [.list (b.toList.map reB), .int a, .int (qlen (.list (b.toList.map reB)))] [.int 0]=some [.int 0]:=by rw[l60_61_2_eq];exact h2
   rw[e1,e2]
   refine⟨-1,?_,?_, .inl rfl⟩<;>simp[qsome_s,qnth_s,qint_i,qcmp_eql]
 obtain⟨k,h1,h2,h3⟩:=res
 have:bp b a=k:=by unfold bp;rw[h1];simp[qnth_s,qint_i]
 rw[this]
 exact⟨h1,h2,h3⟩
noncomputable def has (b:D) (x:D):Bool:=decide (0≤bp b (qint x))
noncomputable def colB (b:D) (x:D):D:=reB (qget b (bp b (qint x)))
theorem re_re (x:D):reB (reB x)=reB x:=by simp[reB,qfld_agg,qint_i]
theorem bp_in {b x:D} (hl:b.toList.length≤1000) (h:has b x=true):∃j:Nat,bp b (qint x)=j∧j<b.toList.length∧qint (qfld (qget b (j:Nat)) 0)=qint x:=by
 simp only[has,decide_eq_true_eq]at h
 rcases(bp_spec (a:=qint x) hl).2.2 with h1|h1
 ·omega
 ·exact h1
theorem col25 {b p3:D} {xs:List D} (hl:b.toList.length≤1000) (hx:xs.length≤1000):∀(k i:Nat) (acc:List D),i+k=xs.length→acc.length=i→
 loW (st25_10 [.list (b.toList.map reB), .int (qlen (.list xs)), .list xs,p3]) [.int i, .list acc]=some (if(xs.drop i).all (has b)=true then[.int 0, .list (acc++(xs.drop i).map (colB b))]else[.int 1]):=by
 intro k
 induction k with
 |zero=>
  intro i acc hi ha
  rw[loW_eq,st25_10_eq,qlen_l,qcmp_lss]
  simp only[show¬((i:Int)<(xs.length:Int))by omega,decide_false,cond_false]
  rw[List.drop_eq_nil_of_le (by omega)];simp
 |succ k ih=>
  intro i acc hi ha
  have hlt:i<xs.length:=by omega
  have hlt':i<(D.list xs).toList.length:=hlt
  obtain⟨x,hxi⟩:∃x,x=xs[i]'hlt:=⟨_,rfl⟩
  have hg:qget (.list xs) (i:Nat)=x:=by rw[qget_n,getD_lt hlt',hxi];rfl
  obtain⟨_,s2,_⟩:=bp_spec (b:=b) (a:=qint (qget (.list xs) (i:Nat))) hl
  rw[loW_eq,st25_10_eq,s2,qlen_l]
  simp only[qcmp_lss,qcmp_leq,show((i:Int)<(xs.length:Int))by omega,show((0:Int)≤(i:Int))by omega,decide_true,cond_true,qinb_n hlt',qsome_s,qnth_s,List.getD_cons_zero,qint_i]
  rw[hg,List.drop_eq_getElem_cons hlt,List.all_cons,List.map_cons, ← hxi]
  by_cases h:has b x=true
  ·obtain⟨j,hj,hjl,_⟩:=bp_in hl h
   have h0:¬(bp b (qint x)<0):=by omega
   have hjl':j<(D.list (b.toList.map reB)).toList.length:=by simpa[D.toList]using hjl
   simp only[h0,decide_false,cond_false]
   rw[hj,qinb_n hjl',re_get hjl]
   have hc:D.agg [.int (qint (qfld (reB (qget b (j:Nat))) 0)), .int (qint (qfld (reB (qget b (j:Nat))) 1)),qfld (reB (qget b (j:Nat))) 2,qfld (reB (qget b (j:Nat))) 3,qfld (reB (qget b (j:Nat))) 4]=colB b x:=by
    show reB (reB (qget b (j:Nat)))=_
    rw[re_re,colB,hj]
   simp only[cond_true,hc,qapp_l,qlen_l]
   have hm:qmem (((acc ++ [colB b x]).length:Nat):Int) 80=true:=qmem_ok (by simp;omega) (by omega)
   rw[hm,add_nat (i:=i) (by omega),h]
   simp only[cond_true,Bool.true_and]
   rw[← qlen_l]
   show loW _ _=_
   rw[ih (i+1) _ (by omega) (by simp;omega),List.append_assoc]
   rfl
  ·have h0:bp b (qint x)<0:=by simp only[has,decide_eq_true_eq]at h;omega
   simp only[h0,decide_true,cond_true]
   rw[Bool.not_eq_true]at h
   simp[h]
theorem chk27 {b:D} {e:Int} {xs:List D} (hl:b.toList.length≤1000) (hx:xs.length≤1000):∀(k i:Nat),i+k=xs.length→
 loW (st27_9 [b, .int e, .list xs]) [.int i]=some (if(xs.drop i).all (has b)=true then[.int 0]else[.int 1]):=by
 intro k
 induction k with
 |zero=>
  intro i hi
  rw[loW_eq,st27_9_eq,qlen_l,qcmp_lss]
  simp only[show¬((i:Int)<(xs.length:Int))by omega,decide_false,cond_false]
  rw[List.drop_eq_nil_of_le (by omega)];simp
 |succ k ih=>
  intro i hi
  have hlt:i<xs.length:=by omega
  have hlt':i<(D.list xs).toList.length:=hlt
  obtain⟨x,hxi⟩:∃x,x=xs[i]'hlt:=⟨_,rfl⟩
  have hg:qget (.list xs) (i:Nat)=x:=by rw[qget_n,getD_lt hlt',hxi];rfl
  obtain⟨s1,_,_⟩:=bp_spec (b:=b) (a:=qint (qget (.list xs) (i:Nat))) hl
  rw[loW_eq,st27_9_eq,s1,qlen_l]
  simp only[qcmp_lss,qcmp_leq,show((i:Int)<(xs.length:Int))by omega,show((0:Int)≤(i:Int))by omega,decide_true,cond_true,qinb_n hlt',qsome_s,qnth_s,List.getD_cons_zero,qint_i]
  rw[hg,List.drop_eq_getElem_cons hlt,List.all_cons, ← hxi]
  by_cases h:has b x=true
  ·obtain⟨j,hj,_,_⟩:=bp_in hl h
   have h0:¬(bp b (qint x)<0):=by omega
   simp only[h0,decide_false,cond_false]
   rw[add_nat (i:=i) (by omega),h]
   simp only[Bool.true_and]
   exact ih (i+1) (by omega)
  ·have h0:bp b (qint x)<0:=by simp only[has,decide_eq_true_eq]at h;omega
   simp only[h0,decide_true,cond_true]
   rw[Bool.not_eq_true]at h
   simp[h]
theorem few24 (b:D):∃t:Bool,q24 [b]=some [.bool t]∧(t=true→b.toList.length≤20∧∀x∈b.toList,(qfld x 2).toList.length≤20∧(qfld x 3).toList.length≤80∧(qfld x 4).toList.length≤20):=by
 have key:∀k i:Nat,i+k=30→(loW (st24_2 [b]) [.int i]=some [.int 0]∧∀j,i≤j→j<30→j<b.toList.length→(qfld (qget b (j:Nat)) 2).toList.length≤20∧(qfld (qget b (j:Nat)) 3).toList.length≤80∧(qfld (qget b (j:Nat)) 4).toList.length≤20)∨loW (st24_2 [b]) [.int i]=some [.int 1]:=by
  intro k
  induction k with
  |zero=>
   intro i hi
   left
   refine⟨?_,fun j h1 h2=>by omega⟩
   rw[loW_eq,st24_2_eq,qiteB_c,qcmp_lss,qcmp_lss]
   simp only[show¬((i:Int)<30)by omega,decide_false]
   cases decide ((i:Int)<qlen b)<;>rfl
  |succ k ih=>
   intro i hi
   rw[loW_eq,st24_2_eq,qiteB_c,qcmp_lss,qcmp_lss,qlen_c]
   simp only[show((i:Int)<30)by omega,decide_true]
   by_cases h:i<b.toList.length
   ·obtain⟨t,ht,hs⟩:=few_spec (qget b (i:Nat))
    simp only[show((i:Int)<(b.toList.length:Int))by omega,decide_true,cond_true,qinb_n h,ht,qsome_s,qnth_s,List.getD_cons_zero,qbool_b,qnot_c]
    cases t with
    |false=>exact .inr rfl
    |true=>
     simp only[Bool.not_true,cond_false,add_nat (i:=i) (by omega)]
     rcases ih (i+1) (by omega)with⟨h1,h2⟩|h1
     ·refine .inl ⟨h1,fun j h3 h4 h5=> ?_⟩
      by_cases e:j=i
      ·subst e;exact hs rfl
      ·exact h2 j (by omega) h4 h5
     ·exact .inr h1
   ·simp only[show¬((i:Int)<(b.toList.length:Int))by omega,decide_false,cond_false]
    exact .inl ⟨trivial,fun j h1 h2 h3=>by omega⟩
 rw[q24_eq,F24_eq]
 rcases key 30 0 rfl with⟨h1,h2⟩|h1
 ·have e:l24_2 [b] [.int 0]=some [.int 0]:=by rw[l24_2_eq];exact h1
  rw[e]
  refine⟨decide ((b.toList.length:Int)≤20),by simp[qsome_s,qnth_s,qint_i,qcmp_eql,qcmp_leq,qlen_c],fun ht=> ?_⟩
  have hb:b.toList.length≤20:=by simp only[decide_eq_true_eq]at ht;omega
  refine⟨hb,fun x hx=> ?_⟩
  obtain⟨j,hj,rfl⟩:=List.getElem_of_mem hx
  have:=h2 j (by omega) (by omega) hj
  rwa [qget_n,getD_lt hj]at this
 ·have e:l24_2 [b] [.int 0]=some [.int 1]:=by rw[l24_2_eq];exact h1
  rw[e]
  exact⟨false,by simp[qsome_s,qnth_s,qint_i,qcmp_eql],fun h=>by cases h⟩
end Go.Proofs.YtgklbalcneepoaaGreatDoor
namespace Go.Proofs.YtgklbalcneepoaaGreatDoor
set_option linter.unusedSimpArgs false
open Go Go.AM
def Small (x:D):Prop:=(qfld x 2).toList.length≤20∧(qfld x 3).toList.length≤80∧(qfld x 4).toList.length≤20
noncomputable def bl25 (b:D) (xs:List D):D:= .list (xs.map (colB b))
theorem lift_loop {b:D} {xs:List D} {e:Int} (hl:b.toList.length≤1000) (hb:∀x∈b.toList,Small x) (hx:xs.length≤31) (hall:xs.all (has b)=true):∀(k i:Nat) (acc:List D),i+k=xs.length→acc.length=i→D.sizes acc≤200100*i→
 acc.map (fun y=>qint (qfld y 0))=(xs.take i).map qint→(∀y∈acc,y.size≤200100)→
 (∃out:List D,loW (st25_20 [.list xs, .int (qlen (bl25 b xs)),bl25 b xs, .int e]) [.int 12, .int i, .list acc]=some [.int 0, .list out]∧loW (st27_14 [b, .list xs, .int e]) [.int i, .list acc]=some [.int 0, .list out]∧
  D.sizes out≤200100*xs.length∧out.map (fun y=>qint (qfld y 0))=xs.map qint∧∀y∈out,y.size≤200100)∨
 ∃er:Int,er≠0∧loW (st25_20 [.list xs, .int (qlen (bl25 b xs)),bl25 b xs, .int e]) [.int 12, .int i, .list acc]=some [.int 1, .int er]∧loW (st27_14 [b, .list xs, .int e]) [.int i, .list acc]=some [.int 1, .int er]:=by
 intro k
 have hbl:qlen (bl25 b xs)=(xs.length:Int):=by rw[bl25,qlen_l,List.length_map]
 induction k with
 |zero=>
  intro i acc hi ha hz hm hs
  left
  refine⟨acc,?_,?_,by rw[show xs.length=i by omega];exact hz,by rw[hm,List.take_of_length_le (by omega)],hs⟩
  ·rw[loW_eq,st25_20_eq,hbl,qcmp_lss]
   simp only[show¬((i:Int)<(xs.length:Int))by omega,decide_false,cond_false]
  ·rw[loW_eq,st27_14_eq,qlen_l,qcmp_lss]
   simp only[show¬((i:Int)<(xs.length:Int))by omega,decide_false,cond_false]
 |succ k ih=>
  intro i acc hi ha hz hm hs
  have hlt:i<xs.length:=by omega
  obtain⟨x,hxi⟩:∃x,x=xs[i]'hlt:=⟨_,rfl⟩
  have hg:qget (.list xs) (i:Nat)=x:=by rw[qget_n,getD_lt (show i<(D.list xs).toList.length from hlt),hxi];rfl
  have hgb:qget (bl25 b xs) (i:Nat)=colB b x:=by
   rw[qget_n,getD_lt (show i<(bl25 b xs).toList.length by simpa[bl25,D.toList]using hlt),hxi];simp[bl25,D.toList]
  have hin:qinb (bl25 b xs) (i:Nat)=true:=qinb_n (by simpa[bl25,D.toList]using hlt)
  have hin2:qinb (.list xs) (i:Nat)=true:=qinb_n (show i<(D.list xs).toList.length from hlt)
  have hh:has b x=true:=List.all_eq_true.1 hall x (by rw[hxi];exact List.getElem_mem hlt)
  obtain⟨j,hj,hjl,hja⟩:=bp_in hl hh
  have hsm:=hb (qget b (j:Nat)) (by rw[qget_n,getD_lt hjl];exact List.getElem_mem hjl)
  obtain⟨s1,_,_⟩:=bp_spec (b:=b) (a:=qint x) hl
  have hc:colB b x=reB (qget b (j:Nat)):=by rw[colB,hj]
  obtain⟨r,l,n,er,h21,h23,hsz,he⟩:=block_eq (b:=qget b (j:Nat)) (b':=reB (qget b (j:Nat))) (ix:= .list xs) (f:=12) (re_f0 _) rfl (by simp[reB,qfld_agg]) rfl (by simp[reB,qfld_agg]) rfl (by simp[reB,qfld_agg]) hsm.1 hsm.2.1 (by simp[D.toList];omega)
  have e1:st25_20 [.list xs, .int (qlen (bl25 b xs)),bl25 b xs, .int e] [.int 12, .int i, .list acc]=if er=0 then some (.inl [.int n, .int (i+1:Nat), .list (acc ++ [.agg [.int r, .list l]])])else some (.inr [.int 1, .int er]):=by
   have hm':qmem (((acc ++ [D.agg [.int r, .list l]]).length:Nat):Int) 32=true:=qmem_ok (by simp;omega) (by omega)
   rw[st25_20_eq,hgb,hc,h21]
   simp only[hbl,qcmp_lss,qcmp_leq,qcmp_neq,show((i:Int)<(xs.length:Int))by omega,show((0:Int)≤(i:Int))by omega,decide_true,cond_true,hin,qsome_s,qnth_s,List.getD_cons_zero,List.getD_cons_succ,qint_i,qapp_l,qlen_l,hm',add_nat (i:=i) (by omega)]
   by_cases h:er=0<;>simp[h]
  have e2:st27_14 [b, .list xs, .int e] [.int i, .list acc]=if er=0 then some (.inl [.int (i+1:Nat), .list (acc ++ [.agg [.int r, .list l]])])else some (.inr [.int 1, .int er]):=by
   have hm':qmem (((acc ++ [D.agg [.int r, .list l]]).length:Nat):Int) 32=true:=qmem_ok (by simp;omega) (by omega)
   rw[st27_14_eq,hg,s1]
   simp only[qsome_s,qnth_s,List.getD_cons_zero,List.getD_cons_succ,qint_i,hj]
   rw[h23,qinb_n hjl]
   simp only[qlen_l,qcmp_lss,qcmp_neq,show((i:Int)<(xs.length:Int))by omega,decide_true,cond_true,hin2,qsome_s,qnth_s,List.getD_cons_zero,List.getD_cons_succ,qint_i,qapp_l,hm',add_nat (i:=i) (by omega)]
   by_cases h:er=0<;>simp[h]
  rw[loW_eq,e1,loW_eq,e2]
  by_cases h:er=0
  ·obtain⟨hr,hn⟩:=he h
   subst hn
   simp only[h,if_true]
   have hy:(D.agg [.int r, .list l]).size≤200100:=by simp only[D.size,D.sizes];omega
   refine ih (i+1) _ (by omega) (by simp;omega) ?_ ?_ ?_
   ·rw[sizes_app]
    have:D.sizes [D.agg [.int r, .list l]]=(D.agg [.int r, .list l]).size:=by simp[D.sizes]
    omega
   ·rw[List.map_append,hm,List.take_add_one,List.map_append]
    have h9:xs[i]?.toList = [x]:=by rw[List.getElem?_eq_getElem hlt, ← hxi];rfl
    have h10:qint (qfld (D.agg [.int r, .list l]) 0)=qint x:=by rw[qfld_agg];simp only[List.getD_cons_zero,qint_i];rw[hr,hja]
    rw[h9,List.map_singleton,List.map_singleton,h10]
   ·intro y hy'
    rcases List.mem_append.1 hy' with h1|h1
    ·exact hs y h1
    ·rw[List.mem_singleton.1 h1];exact hy
  ·simp only[h,if_false]
   exact .inr ⟨er,h,rfl,rfl⟩
theorem flat_len (e:Int):∀l:List D,(l.flatMap (notE e)).length≤l.length
 | []=>by simp
 |x::l=>by
  have:=flat_len e l
  have:=notE_len e x
  simp only[List.flatMap_cons,List.length_append,List.length_cons];omega
theorem fun_eq {b f f':D} (hl:b.toList.length≤20) (hb:∀x∈b.toList,Small x) (h0:qint (qfld f' 0)=qint (qfld f 0)) (h2:qfld f' 2=qfld f 2) (hf:(qfld f 2).toList.length≤30):
 ∃(r:Int) (l:List D) (er:Int),q25 [.list (b.toList.map reB),f']=some [.int r, .list l, .int er]∧q27 [b,f]=some [.int r, .list l, .int er]∧(∀y∈l,y.size≤200100)∧l.length≤31∧(er≠0→l = [])∧
  (er=0→r=qint (qfld f 0)∧q29 [.agg [.int r, .list l]]=some [.int 0]∧0<l.length∧qint (qfld (qget (.list l) 0) 0)=qint (qfld f 0)):=by
 generalize hE:qint (qfld f 0)=E at *
 obtain⟨xs,hxs⟩:∃xs,xs = [D.int E]++(qfld f 2).toList.flatMap (notE E):=⟨_,rfl⟩
 have hxl:xs.length≤31:=by
  have:=flat_len E (qfld f 2).toList
  rw[hxs];simp only[List.length_append,List.length_cons,List.length_nil];omega
 have a3:l25_3 [.list (b.toList.map reB),qfld f' 2, .int (qlen (qfld f' 2)),f'] [.int 0, .list [.int E]]=some [.int 0, .list xs]:=by
  rw[l25_3_eq]
  have:=ix25 (p0:= .list (b.toList.map reB)) (B:=qfld f' 2) (p3:=f') (by rw[h2];omega) (qfld f' 2).toList.length 0 [.int E] (by omega) (by simp)
  rw[h0,List.drop_zero,h2]at this
  rw[h2,hxs];exact this
 have b3:l27_3 [b,f] [.int 0, .list [.int E]]=some [.int 0, .list xs]:=by
  rw[l27_3_eq]
  have:=ix27 (p0:=b) (p1:=f) (by omega) (qfld f 2).toList.length 0 [.int E] (by omega) (by simp)
  rw[hE,List.drop_zero]at this
  rw[hxs];exact this
 have a10:=col25 (b:=b) (p3:=f') (xs:=xs) (by omega) (by omega) xs.length 0 [] (by omega) rfl
 have b9:=chk27 (b:=b) (e:=E) (xs:=xs) (by omega) (by omega) xs.length 0 (by omega)
 simp only[List.drop_zero,List.nil_append,Int.natCast_zero]at a10 b9
 rw[q25_eq,F25_eq,q27_eq,F27_eq]
 simp only[a3,b3,h0,hE,qsome_s,qnth_s,List.getD_cons_zero,List.getD_cons_succ,cond_true]
 by_cases hall:xs.all (has b)=true
 ·have a10':l25_10 [.list (b.toList.map reB), .int (qlen (.list xs)), .list xs,f'] [.int 0, .list []]=some [.int 0,bl25 b xs]:=by
   rw[l25_10_eq];show loW _ _=_;rw[a10,if_pos hall];rfl
  have b9':l27_9 [b, .int E, .list xs] [.int 0]=some [.int 0]:=by
   rw[l27_9_eq];show loW _ _=_;rw[b9,if_pos hall]
  simp only[a10',b9',qsome_s,qnth_s,List.getD_cons_zero,List.getD_cons_succ,qint_i,qcmp_eql,decide_true,cond_true]
  rcases lift_loop (b:=b) (xs:=xs) (e:=E) (by omega) hb hxl hall xs.length 0 [] (by omega) rfl (by simp[D.sizes]) (by simp) (by simp)with⟨out,c1,c2,c3,c4,c5⟩|⟨er,he,c1,c2⟩
  ·simp only[Int.natCast_zero]at c1 c2
   have a20:l25_20 [.list xs, .int (qlen (bl25 b xs)),bl25 b xs, .int E] [.int 12, .int 0, .list []]=some [.int 0, .list out]:=by rw[l25_20_eq];exact c1
   have b14:l27_14 [b, .list xs, .int E] [.int 0, .list []]=some [.int 0, .list out]:=by rw[l27_14_eq];exact c2
   have hol:out.length=xs.length:=by have:=congrArg List.length c4;simpa using this
   have hgz:(D.agg [.int E, .list out]).size≤lim:=by
    have hlim:lim=100000000:=rfl
    simp only[D.size,D.sizes];omega
   obtain⟨g1,g2⟩:=graph_eq hgz hgz
   simp only[a20,b14,qsome_s,qnth_s,List.getD_cons_zero,List.getD_cons_succ,qint_i,qcmp_eql,decide_true,cond_true,g1,g2,qcmp_neq]
   by_cases hg:eGraph (D.agg [.int E, .list out])=0
   ·simp only[hg,decide_true,Bool.not_true,cond_false]
    refine⟨E,out,0,rfl,rfl,c5,by omega,fun h=>(h rfl).elim,fun _=>⟨rfl,?_,?_,?_⟩⟩
    ·rw[g1,hg]
    ·rw[hol,hxs];simp
    ·cases out with
     |nil=>rw[hxs]at hol;simp at hol
     |cons y out=>
      rw[hxs]at c4
      simp only[List.map_cons,List.cons_append,List.nil_append,List.cons.injEq,qint_i]at c4
      rw[show(0:Int)=((0:Nat):Int)from rfl,qget_n]
      exact c4.1
   ·simp only[hg,decide_false,Bool.not_false,cond_true]
    exact⟨0,[],_,rfl,rfl,by simp,by simp,fun _=>rfl,fun h=>(hg h).elim⟩
  ·simp only[Int.natCast_zero]at c1 c2
   have a20:l25_20 [.list xs, .int (qlen (bl25 b xs)),bl25 b xs, .int E] [.int 12, .int 0, .list []]=some [.int 1, .int er]:=by rw[l25_20_eq];exact c1
   have b14:l27_14 [b, .list xs, .int E] [.int 0, .list []]=some [.int 1, .int er]:=by rw[l27_14_eq];exact c2
   simp only[a20,b14,qsome_s,qnth_s,List.getD_cons_zero,List.getD_cons_succ,qint_i,qcmp_eql,show¬((1:Int)=0)by omega,decide_false,cond_true,cond_false]
   exact⟨0,[],er,rfl,rfl,by simp,by simp,fun _=>rfl,fun h=>(he h).elim⟩
 ·have a10':l25_10 [.list (b.toList.map reB), .int (qlen (.list xs)), .list xs,f'] [.int 0, .list []]=some [.int 1]:=by
   rw[l25_10_eq];show loW _ _=_;rw[a10,if_neg hall]
  have b9':l27_9 [b, .int E, .list xs] [.int 0]=some [.int 1]:=by
   rw[l27_9_eq];show loW _ _=_;rw[b9,if_neg hall]
  simp only[a10',b9',qsome_s,qnth_s,List.getD_cons_zero,List.getD_cons_succ,qint_i,qcmp_eql,show¬((1:Int)=0)by omega,decide_false,cond_true,cond_false]
  exact⟨0,[],9,rfl,rfl,by simp,by simp,fun _=>rfl,fun h=>by omega⟩
theorem same28 {g:D} (hs:∀y∈(qfld g 1).toList,y.size≤1000000) (hn:(qfld g 1).toList.length≤1000):q28 [g,g]=some [.bool true]:=by
 have inner:∀(i:Int) (y:D),y.size≤1000000→l28_10 [.int i,y,y,g,g] [.int 0]=some [.int 0]:=by
  intro i y hy
  have hl:(qfld y 1).toList.length≤1000000:=by rw[qfld_eq];have:=len_size (y.fld 1);have:=fld_size y 1;omega
  have key:∀k q:Nat,q+k=(qfld y 1).toList.length→loW (st28_10 [.int i,y,y,g,g]) [.int q]=some [.int 0]:=by
   intro k
   induction k with
   |zero=>
    intro q hq
    rw[loW_eq,st28_10_eq,qlen_c,qcmp_lss]
    simp only[show¬((q:Int)<((qfld y 1).toList.length:Int))by omega,decide_false,cond_false]
   |succ k ih=>
    intro q hq
    have hlt:q<(qfld y 1).toList.length:=by omega
    have hm:qget (qfld y 1) (q:Int)∈(y.fld 1).toList:=by rw[← qfld_eq,qget_n,getD_lt hlt];exact List.getElem_mem hlt
    have hsz:=size_elem hm
    rw[loW_eq,st28_10_eq,qlen_c,qcmp_lss]
    simp only[show((q:Int)<((qfld y 1).toList.length:Int))by omega,decide_true,cond_true,qinb_n hlt,same42 (show(qget (qfld y 1) (q:Int)).size≤1000000 by omega),qsome_s,qnth_s,List.getD_cons_zero,qbool_b,qnot_c,Bool.not_true,cond_false,add_nat (i:=q) (by omega)]
    exact ih (q+1) (by omega)
  rw[l28_10_eq]
  exact key (qfld y 1).toList.length 0 (by omega)
 have key:∀k q:Nat,q+k=(qfld g 1).toList.length→loW (st28_4 [g,g]) [.int q]=some [.int 0]:=by
  intro k
  induction k with
  |zero=>
   intro q hq
   rw[loW_eq,st28_4_eq,qlen_c,qcmp_lss]
   simp only[show¬((q:Int)<((qfld g 1).toList.length:Int))by omega,decide_false,cond_false]
  |succ k ih=>
   intro q hq
   have hlt:q<(qfld g 1).toList.length:=by omega
   have hm:qget (qfld g 1) (q:Int)∈(qfld g 1).toList:=by rw[qget_n,getD_lt hlt];exact List.getElem_mem hlt
   rw[loW_eq,st28_4_eq,qlen_c (qfld g 1),qcmp_lss,inner q _ (hs _ hm)]
   simp only[show((q:Int)<((qfld g 1).toList.length:Int))by omega,decide_true,cond_true,qinb_n hlt,qiteB_c,qcmp_neq,qcmp_eql,Bool.not_true,cond_false,qsome_s,qnth_s,List.getD_cons_zero,qint_i,add_nat (i:=q) (by omega)]
   exact ih (q+1) (by omega)
 have e:l28_4 [g,g] [.int 0]=some [.int 0]:=by rw[l28_4_eq];exact key (qfld g 1).toList.length 0 (by omega)
 rw[q28_eq,F28_eq,e]
 simp[qcmp_neq,qcmp_eql,qiteB_c,qsome_s,qnth_s,qint_i]
theorem law6 (b f:D):q6 [b,f]=some [.bool true]:=by
 obtain⟨t,ht,hs⟩:=few24 b
 rw[q6_eq,F6_eq,ht]
 simp only[qsome_s,qnth_s,List.getD_cons_zero,qbool_b,cond_true,qiteB_c,qnot_c,qcmp_gtr,q10_eq]
 by_cases hg:t=true∧(qfld f 2).toList.length≤30
 ·obtain⟨rfl,hf⟩:=hg
  obtain⟨hl,hb⟩:=hs rfl
  have h26:=F26_eq f
  rw[← q26_eq]at h26
  rw[basics_spec (by omega),h26]
  simp only[qsome_s,qnth_s,List.getD_cons_zero,cond_true]
  obtain⟨r,l,er,h25,h27,hsz,hll,he,hok⟩:=fun_eq (b:=b) (f:=f) (f':= .agg [.int (qint (qfld f 0)), .str (qstr (qfld f 1)),qfld f 2,qfld f 3, .bool (qbool (qfld f 4))]) hl hb (by simp[qfld_agg,qint_i]) (by simp[qfld_agg]) hf
  have hgt:¬(30:Int)<qlen (qfld f 2):=by rw[qlen_c];omega
  have h28:q28 [.agg [.int r, .list l], .agg [.int r, .list l]]=some [.bool true]:=same28 (by simp only[qfld_agg,List.getD_cons_succ,List.getD_cons_zero];intro y hy;have:=hsz y hy;omega) (by simp only[qfld_agg,List.getD_cons_succ,List.getD_cons_zero];show l.length≤_;omega)
  simp only[hgt,decide_false,Bool.not_true,cond_false,h25,h27,qsome_s,qnth_s,List.getD_cons_zero,List.getD_cons_succ,qint_i,qcmp_neq,decide_true,h28,qbool_b,cond_true]
  by_cases h0:er=0
  ·obtain⟨hr,h29,hpos,hent⟩:=hok h0
   rw[hr]at h29
   have hin:qinb (.list l) 0=true:=by have:=qinb_n (d:= .list l) (i:=0) (by simpa[D.toList]using hpos);simpa using this
   simp only[h0,decide_true,Bool.not_true,cond_false,h29,hin,hent,hr,qsome_s,qnth_s,List.getD_cons_zero,qint_i,qcmp_eql,cond_true]
  ·have hl0:=he h0
   subst hl0
   simp[h0,qlen_l,qcmp_eql]
 ·have:(bif !t then true else decide ((30:Int)<qlen (qfld f 2)))=true:=by
   cases t with
   |false=>rfl
   |true=>
    have:(30:Int)<qlen (qfld f 2):=by rw[qlen_c];have:¬(qfld f 2).toList.length≤30:=fun h=>hg ⟨rfl,h⟩;omega
    simp[this]
  simp only[this,cond_true]
end Go.Proofs.YtgklbalcneepoaaGreatDoor
namespace Go.Proofs.YtgklbalcneepoaaGreatDoor
open Go Go.AM
def isLitV:AV→Bool
 | .ui _ _=>true
 | .ub _=>true
 |_=>false
def litV:AV→Value
 | .ui k n=> .int k n
 | .ub b=> .bool b
 |_=> .bool false
theorem repL_lits {ρ:Nat→Option Nat} {E:Nat→Prop} {w:World}:∀(l:List AV) (cs:List Value),l.all isLitV=true→RepL ρ E w l cs→cs=l.map litV
 | [],cs,_,h=>by simpa[RepL]using h
 |c::l,cs,hl,h=>by
  simp only[List.all_cons,Bool.and_eq_true]at hl
  simp only[RepL]at h
  obtain⟨v,vs,rfl,h1,h2⟩:=h
  rw[repL_lits l vs hl.2 h2]
  cases c<;>simp only[isLitV]at hl<;>first|(cases hl.1;done)|skip
  all_goals (simp only[Rep]at h1;subst h1;rfl)
theorem okT:okTypes PG=true:=by kernel_rfl
theorem pg:PG=Tryz.prog:=by unfold PG;rfl
theorem arr_len {H:Type} {enc:TypeId×Value→H} {P:Program} {w:World} {base:Nat} {sp:Nat→Bool} {held:Bool} {fuel:Nat} {t e:TypeId} {n:Nat} {cs:List Value} {d:DataW H} {p:List MemPlace}
 (ht:P.underlying t=some (.array n e)) (h:DataW.trod enc P w base sp held fuel t cs=some (d,p)):cs.length=P.cellsOf t:=by
 cases fuel with
 |zero=>simp[DataW.trod]at h
 |succ fuel=>
  simp only[DataW.trod,ht]at h
  split at h
  ·rename_i hl
   exact hl
  ·cases h
theorem cs_of_laid {w:World} {fuel:Nat} {t e:TypeId} {n:Nat} {cs:List Value} {d:DataW Unit} {p:List MemPlace} {enc:TypeId×Value→Unit} {held:Bool}
 (ht:Tryz.prog.underlying t=some (.array n e)) (hs:t<Tryz.prog.types.size) (hl:layOk PG 8 t=true) (hlit:(cellsT 8 t (toD d)).all isLitV=true)
 (h:DataW.trod enc Tryz.prog w 0 (fun _=>true) held fuel t cs=some (d,p)):cs=(cellsT 8 t (toD d)).map litV:=by
 have hlen:=arr_len ht h
 have h':DataW.trod enc PG w 0 (fun _=>true) held fuel t cs=some (d,p):=by rw[pg];exact h
 obtain⟨hr,_⟩:=trod_rep (P:=PG) okT fuel t cs d p h' (by rw[pg];exact hlen) (by rw[pg];exact hs)
 exact repL_lits _ _ hlit (cellsT_rep (ρ:=nowhere) 8 t (toD d) cs hl hr)
theorem cells100 (d:D):cellsT 8 100 d=(List.range 9).map fun i=> .ui .i64 (qint (qfld d i)):=by kernel_rfl
theorem cells120 (d:D):cellsT 8 120 d=(List.range 15).flatMap fun i=>[.ui .i64 (qint (qfld (qfld d i) 0)), .ui .i64 (qint (qfld (qfld d i) 1)), .ub (qbool (qfld (qfld d i) 2))]:=by kernel_rfl
theorem lit100 (d:D):(cellsT 8 100 d).all isLitV=true:=by rw[cells100];rfl
theorem lit120 (d:D):(cellsT 8 120 d).all isLitV=true:=by rw[cells120];rfl
theorem int_un (d:D):qint d=d.toInt:=by rw[qint_eq]
theorem bool_un (d:D):qbool d=d.toBool:=by rw[qbool_eq]
def tabCells (g:Nat):List Value:=((findG g GLT).getD []).map fun a=>match a with | .sc v=>v|_=> .bool false
theorem vals100:(cellsT 8 100 (toD (Rows.laid_decompiler_lift_operators (H:=Unit)))).map litV=tabCells 0:=by
 rw[cells100];simp only[int_un,qfld_eq];rfl
theorem vals120:(cellsT 8 120 (toD (Rows.laid_decompiler_lift_conditions (H:=Unit)))).map litV=tabCells 1:=by
 rw[cells120];simp only[int_un,bool_un,qfld_eq];rfl
theorem glob0:Tryz.prog.globalNamed "decompiler/lift.operators" = some 0:=by kernel_rfl
theorem glob1:Tryz.prog.globalNamed "decompiler/lift.conditions" = some 1:=by kernel_rfl
theorem gty0:(Tryz.prog.globals[0]?).map (·.type)=some 100:=by kernel_rfl
theorem gty1:(Tryz.prog.globals[1]?).map (·.type)=some 120:=by kernel_rfl
theorem var_of {W:World} {name:String} {d:DataW Unit} {g t e n:Nat} {rest:List (String×DataW Unit)} (hg:Tryz.prog.globalNamed name=some g) (hty:(Tryz.prog.globals[g]?).map (·.type)=some t) (ht:Tryz.prog.underlying t=some (.array n e)) (hs:t<Tryz.prog.types.size)
 (hl:layOk PG 8 t=true) (hlit:(cellsT 8 t (toD d)).all isLitV=true) (h:laidMet Tryz.prog ((name,d)::rest) W):∃cs:Array Value,W.var? Tryz.prog name=some cs∧cs.toList=(cellsT 8 t (toD d)).map litV:=by
 obtain⟨ps,⟨g',t',cs,fuel,p,q,hg',ht',hvar,hd,_,_⟩,_⟩:=h
 obtain rfl:=Option.some.inj (hg.symm.trans hg')
 obtain rfl:=Option.some.inj (hty.symm.trans ht')
 exact⟨cs,hvar,cs_of_laid ht hs hl hlit hd⟩
theorem repAt_of {W:World} {E:Nat→Prop} {g:Nat} {name:String} {cs:Array Value} {vs:List Value} (hg:Tryz.prog.globalNamed name=some g) (hvar:W.var? Tryz.prog name=some cs) (he:cs.toList=vs) (h0:0<vs.length):g<W.heap.size∧RepAt nowhere E W g 0 (vs.map AV.sc):=by
 have hc:∀(i:Nat),W.cell? ⟨g,i,none⟩=vs[i]? :=fun i=>by rw[World.var?_cell hg hvar i, ← he,Array.getElem?_toList]
 refine⟨?_,RepAt.ofL (RepL.sc vs) fun j u hu=>by rw[Nat.zero_add,hc];exact hu⟩
 by_cases hlt:g<W.heap.size
 ·exact hlt
 ·exfalso
  have h1:W.heap[g]? = none:=Array.getElem?_eq_none (by omega)
  have h2:=hc 0
  rw[List.getElem?_eq_getElem h0]at h2
  simp[World.cell?,h1]at h2
theorem tabs {W:World} {E:Nat→Prop} {l:List (String×DataW Unit)} (hl:l=Rows.liftInsRow.laid) (h:laidMetH Tryz.prog l W) {S:FunS} {p s:List D} (g:Nat) (cs:List AV) (hgl:(heapF S p s).glob g=some cs):g<W.heap.size∧RepAt nowhere E W g 0 cs:=by
 subst hl
 have hp:∀g,(heapF S p s).glob g=findG g GLT:=fun _=>rfl
 rw[hp]at hgl
 cases g with
 |zero=>
  have hf:=laidMetH.filter (fun x=>x.1 == "decompiler/lift.operators") h
  have e:Rows.liftInsRow.laid.filter (fun x=>x.1 == "decompiler/lift.operators") = [("decompiler/lift.operators",Rows.laid_decompiler_lift_operators)]:=by rfl
  rw[e,MakeChecks.laidMetH_plain _ _ _ (by kernel_rfl)]at hf
  obtain⟨a,h1,h2⟩:=var_of glob0 gty0 Tryz.underlying100 (of_decide_eq_true (by kernel_rfl)) (by kernel_rfl) (lit100 _) hf
  rw[vals100]at h2
  have:=repAt_of (E:=E) glob0 h1 h2 (of_decide_eq_true (by kernel_rfl))
  have e2:findG 0 GLT=some ((tabCells 0).map AV.sc):=by rfl
  rw[e2]at hgl
  cases hgl
  exact this
 |succ g=>
  cases g with
  |zero=>
   have hf:=laidMetH.filter (fun x=>x.1 == "decompiler/lift.conditions") h
   have e:Rows.liftInsRow.laid.filter (fun x=>x.1 == "decompiler/lift.conditions") = [("decompiler/lift.conditions",Rows.laid_decompiler_lift_conditions)]:=by rfl
   rw[e,MakeChecks.laidMetH_plain _ _ _ (by kernel_rfl)]at hf
   obtain⟨a,h1,h2⟩:=var_of glob1 gty1 Tryz.underlying120 (of_decide_eq_true (by kernel_rfl)) (by kernel_rfl) (lit120 _) hf
   rw[vals120]at h2
   have:=repAt_of (E:=E) glob1 h1 h2 (of_decide_eq_true (by kernel_rfl))
   have e2:findG (0+1) GLT=some ((tabCells 1).map AV.sc):=by rfl
   rw[e2]at hgl
   cases hgl
   exact this
  |succ g=>
   have e2:findG (g+1+1) GLT=none:=rfl
   rw[e2]at hgl;cases hgl
end Go.Proofs.YtgklbalcneepoaaGreatDoor
namespace Go.Proofs.YtgklbalcneepoaaGreatDoor
open Go Go.AM
theorem sound6:SoundF env2.P 6 S6 q6:=by rw[q6_eq];exact liftX_sound envOk2 ok2_tb27 60 12
theorem rep67 {w:World} {E:Nat→Prop} {d:D} {v:Value} (h:RepD PG E w 67 d [v]):Rep nowhere E w (.rows 58 d) v:=by
 have hc:cellsT 8 67 d = [.rows 58 d]:=by kernel_rfl
 have:=cellsT_rep (ρ:=nowhere) 8 67 d [v] (by kernel_rfl) h
 rw[hc]at this
 simpa[RepL]using this
theorem top6 {d0 d1:D} (w:World) (hL:laidMetH Tryz.prog Rows.liftFunctionRow.laid w) {v0 v1:Value} (r0:RepD PG (fun b=>b<w.heap.size) w 67 d0 [v0]) (r1:Rep nowhere (fun b=>b<w.heap.size) w (.dat 71 d1) v1):
 Calls Tryz.prog 6 #[v0,v1] w fun e w'=>e = .returned (.bool true)∧RowKit.Below w.heap.size w w':=by
 refine(sound6 [] [d0,d1] [.bool true] rfl (law6 d0 d1) (fun b=>b<w.heap.size) w nowhere _ w #[v0,v1] (Inv.empty w _ (fun _ h=>h) rfl rfl (fun g cs h=>tabs rfl hL g cs h))
  (RepL.cons (rep67 r0) (RepL.cons r1 RepL.nil))).mono ?_
 rintro e w' ⟨u,ρ',E',rfl,inv,reach,rep⟩
 have hr:resF S6 [] (bdL [.bool true]) = .ub true:=rfl
 rw[hr]at rep
 simp only[Rep]at rep
 subst rep
 exact⟨rfl,⟨inv.io.1,inv.io.2.1,inv.io.2.2,reach.size,inv.old⟩⟩
end Go.Proofs.YtgklbalcneepoaaGreatDoor
