/-
  Plain laws: what is not known, unveiled; loops over numbers.
-/
import Derived.Test.YtobhhfbdelnhfaaGreatDoorAmS
import Derived.Test.YtobhhfbdelnhfaaGreatDoorM1
import Derived.Test.YtobhhfbdelnhfaaGreatDoorM2
import Derived.Lib.ItoaNum
import Derived.Lib.SplitLaws
set_option linter.unusedVariables false
set_option linter.unusedSimpArgs false
namespace Go.AM
theorem qsome_s (r:List D):qsome (some r)=true:=by rw[qsome_eq];rfl
theorem qnth_s (r:List D) (j:Nat):qnth (some r) j=r.getD j .other:=by rw[qnth_eq];rfl
theorem qint_i (n:Int):qint (.int n)=n:=by rw[qint_eq];rfl
theorem qbool_b (b:Bool):qbool (.bool b)=b:=by rw[qbool_eq];rfl
theorem qstr_s (s:ByteArray):qstr (.str s)=s:=by rw[qstr_eq];rfl
theorem qcmp_lss (a b:Int):qcmp .lss a b=decide (a<b):=by rw[qcmp_eq];rfl
theorem qcmp_leq (a b:Int):qcmp .leq a b=decide (a≤b):=by rw[qcmp_eq];rfl
theorem qcmp_gtr (a b:Int):qcmp .gtr a b=decide (b<a):=by rw[qcmp_eq];rfl
theorem qcmp_geq (a b:Int):qcmp .geq a b=decide (b≤a):=by rw[qcmp_eq];rfl
theorem qcmp_eql (a b:Int):qcmp .eql a b=decide (a=b):=by rw[qcmp_eq];simp only[rcmp];cases h:decide (a=b)<;>simp_all
theorem qcmp_neq (a b:Int):qcmp .neq a b = !decide (a=b):=by rw[qcmp_eq];simp only[rcmp,bne];cases h:decide (a=b)<;>simp_all
theorem qiteB_c (c a b:Bool):qiteB c a b=bif c then a else b:=by rw[qiteB_eq]
theorem qnot_c (a:Bool):qnot a = !a:=by rw[qnot_eq]
theorem qlen_c (d:D):qlen d=(d.toList.length:Int):=by rw[qlen_eq];rfl
theorem qinb_c (d:D) (i:Int):qinb d i=(decide (0≤i)&&decide (i<d.toList.length)):=by rw[qinb_eq];rfl
theorem qget_n (d:D) (i:Nat):qget d (i:Int)=d.toList.getD i .other:=by rw[qget_eq];simp[D.get]
theorem getD_lt {xs:List D} {i:Nat} (h:i<xs.length):xs.getD i .other=xs[i]:=by simp[List.getD,h]
theorem wrap64' {n:Int} (h0: -9223372036854775808≤n) (h1:n≤9223372036854775807):IntKind.i64.wrap n=n:=wrap64 h0 h1
theorem add_nat {i:Nat} (h:i<9223372036854775807):qbin .add .i64 (i:Int) 1=((i+1:Nat):Int):=by
 rw[add64 (by omega) (by omega)];omega
end Go.AM
namespace Go.Proofs.YtobhhfbdelnhfaaGreatDoor
set_option linter.unusedSimpArgs false
open Go Go.AM
def shp (o f w cc:Int):Option Int:=
 if 0≤o∧o≤2 then some 0
 else if o=3∨o=4 then some 1
 else if 5≤o∧o≤15 then(if f=0 then some 3 else if f=1 then some 4 else if f=2 then some 6 else none)
 else if o=16∨o=18 then(if w=1∨w=2∨w=4 then some 5 else none)
 else if o=17 then(if w=1∨w=2 then some 5 else none)
 else if o=19 then some 5
 else if o=20 then(if 0≤cc∧cc≤14 then(if f=1 then some 7 else if f=2 then some 8 else none)else none)
 else if o=25 then(if 0≤cc∧cc≤14 then some 2 else none)
 else if o=23 then some 8
 else if o=24∨o=21∨o=26∨o=27 then some 2
 else if o=22 then some 6
 else none
theorem ocases (o:Int):(o<0∨27<o)∨(o=0∨o=1∨o=2)∨o=3∨o=4∨(5≤o∧o≤15)∨o=16∨o=17∨o=18∨o=19∨o=20∨o=21∨o=22∨o=23∨o=24∨o=25∨o=26∨o=27:=by omega
theorem acc_spec (d:D) (ho:qint (qfld d 2)=16∨qint (qfld d 2)=17∨qint (qfld d 2)=18):
 (∃c,q128 [d]=some [.int c, .int 5, .bool true]∧shp (qint (qfld d 2)) (qint (qfld d 3)) (qint (qfld d 4)) (qint (qfld d 5))=some 5)∨
 (∃c,q128 [d]=some [.int c, .int 5, .bool false]∧shp (qint (qfld d 2)) (qint (qfld d 3)) (qint (qfld d 4)) (qint (qfld d 5))=none):=by
 rw[q128_eq,F128_eq]
 generalize qint (qfld d 2)=o at *
 generalize qint (qfld d 3)=f at *
 generalize qint (qfld d 4)=w at *
 simp only[qand_eq,qcmp_eql]
 rcases ho with rfl|rfl|rfl<;>by_cases h1:w=1<;>by_cases h2:w=2<;>by_cases h4:w=4<;>first|omega|simp[*,shp]
theorem cc_spec (d:D) (ho:qint (qfld d 2)=20∨qint (qfld d 2)=25):
 (∃c s,q129 [d]=some [.int c, .int s, .bool true]∧shp (qint (qfld d 2)) (qint (qfld d 3)) (qint (qfld d 4)) (qint (qfld d 5))=some s)∨
 (∃c s,q129 [d]=some [.int c, .int s, .bool false]∧shp (qint (qfld d 2)) (qint (qfld d 3)) (qint (qfld d 4)) (qint (qfld d 5))=none):=by
 rw[q129_eq,F129_eq]
 generalize qint (qfld d 2)=o at *
 generalize qint (qfld d 3)=f at *
 generalize qint (qfld d 4)=w at *
 generalize qint (qfld d 5)=cc at *
 simp only[qiteB_c,qcmp_eql,qcmp_lss,qcmp_gtr]
 rcases ho with rfl|rfl<;>by_cases h1:cc<0<;>by_cases h2:14<cc<;>by_cases h3:f=1<;>by_cases h4:f=2<;>first|omega|(simp[*,shp];done)|(simp[*,shp];omega)
theorem op_spec (d:D):
 (∃c s,q92 [d]=some [.int c, .int s, .bool true]∧shp (qint (qfld d 2)) (qint (qfld d 3)) (qint (qfld d 4)) (qint (qfld d 5))=some s)∨
 (∃c s,q92 [d]=some [.int c, .int s, .bool false]∧shp (qint (qfld d 2)) (qint (qfld d 3)) (qint (qfld d 4)) (qint (qfld d 5))=none):=by
 have hacc:=acc_spec d
 have hcc:=cc_spec d
 rw[q92_eq,F92_eq]
 generalize qint (qfld d 2)=o at *
 generalize qint (qfld d 3)=f at *
 generalize qint (qfld d 4)=w at *
 generalize qint (qfld d 5)=cc at *
 generalize qint (qfld d 6)=a at *
 simp only[qiteB_c,qcmp_eql,qcmp_geq,qcmp_leq]
 rcases ocases o with h|h|rfl|rfl|h|rfl|rfl|rfl|rfl|rfl|rfl|rfl|rfl|rfl|rfl|rfl|rfl
 ·right
  simp[shp,show¬o=0 by omega,show¬o=1 by omega,show¬o=2 by omega,show¬o=3 by omega,show¬o=4 by omega,show¬(5≤o∧o≤15)by omega,show¬(0≤o∧o≤2)by omega,show¬o=16 by omega,show¬o=17 by omega,show¬o=18 by omega,show¬o=19 by omega,show¬o=20 by omega,show¬o=21 by omega,show¬o=22 by omega,show¬o=23 by omega,show¬o=24 by omega,show¬o=25 by omega,show¬o=26 by omega,show¬o=27 by omega]
  rcases h with h|h
  ·simp[show¬5≤o by omega]
  ·simp[show¬o≤15 by omega]
 ·left
  rcases h with rfl|rfl|rfl<;>simp[shp]
 ·left;simp[shp]
 ·left;simp[shp]
 ·obtain⟨h1,h2⟩:=h
  by_cases f0:f=0
  ·left;subst f0;simp[shp,h1,h2,show¬o=0 by omega,show¬o=1 by omega,show¬o=2 by omega,show¬o=3 by omega,show¬o=4 by omega,show¬o≤2 by omega]
  by_cases f1:f=1
  ·left;subst f1;simp[shp,h1,h2,show¬o=0 by omega,show¬o=1 by omega,show¬o=2 by omega,show¬o=3 by omega,show¬o=4 by omega,show¬o≤2 by omega]
  by_cases f2:f=2
  ·left;subst f2;simp[shp,h1,h2,show¬o=0 by omega,show¬o=1 by omega,show¬o=2 by omega,show¬o=3 by omega,show¬o=4 by omega,show¬o≤2 by omega]
  ·right;simp[shp,f0,f1,f2,h1,h2,show¬o=0 by omega,show¬o=1 by omega,show¬o=2 by omega,show¬o=3 by omega,show¬o=4 by omega,show¬o≤2 by omega]
 ·rcases hacc (by simp)with⟨c,h,hs⟩|⟨c,h,hs⟩
  ·left;exact⟨c,5,by simp[h,qsome_s,qnth_s,qint_i,qbool_b],hs⟩
  ·right;exact⟨c,5,by simp[h,qsome_s,qnth_s,qint_i,qbool_b],hs⟩
 ·rcases hacc (by simp)with⟨c,h,hs⟩|⟨c,h,hs⟩
  ·left;exact⟨c,5,by simp[h,qsome_s,qnth_s,qint_i,qbool_b],hs⟩
  ·right;exact⟨c,5,by simp[h,qsome_s,qnth_s,qint_i,qbool_b],hs⟩
 ·rcases hacc (by simp)with⟨c,h,hs⟩|⟨c,h,hs⟩
  ·left;exact⟨c,5,by simp[h,qsome_s,qnth_s,qint_i,qbool_b],hs⟩
  ·right;exact⟨c,5,by simp[h,qsome_s,qnth_s,qint_i,qbool_b],hs⟩
 ·left;simp[shp]
 ·rcases hcc (by simp)with⟨c,s,h,hs⟩|⟨c,s,h,hs⟩
  ·left;exact⟨c,s,by simp[h,qsome_s,qnth_s,qint_i,qbool_b],hs⟩
  ·right;exact⟨c,s,by simp[h,qsome_s,qnth_s,qint_i,qbool_b],hs⟩
 ·left;simp[shp]
 ·left;simp[shp]
 ·left;simp[shp]
 ·left;simp[shp]
 ·rcases hcc (by simp)with⟨c,s,h,hs⟩|⟨c,s,h,hs⟩
  ·left;exact⟨c,s,by simp[h,qsome_s,qnth_s,qint_i,qbool_b],hs⟩
  ·right;exact⟨c,s,by simp[h,qsome_s,qnth_s,qint_i,qbool_b],hs⟩
 ·left;simp[shp]
 ·left;simp[shp]
theorem kept_spec (d:D) (s:Int):q94 [d, .int s]=some [.agg [.int (qint (qfld d 0)), .int (if 4≤s∧s≤8 then qint (qfld d 1)else 0), .int (qint (qfld d 2)),
 .int (if 5≤qint (qfld d 2)∧qint (qfld d 2)≤15∨qint (qfld d 2)=20 then qint (qfld d 3)else 0), .int (if 16≤qint (qfld d 2)∧qint (qfld d 2)≤18 then qint (qfld d 4)else 0),
 .int (if qint (qfld d 2)=20∨qint (qfld d 2)=25 then qint (qfld d 5)else 0), .int (if 1≤s∧s≤6 then qint (qfld d 6)else 0), .int (if s=3∨s=5 then qint (qfld d 7)else 0), .int (qint (qfld d 8))]]:=by
 rw[q94_eq,F94_eq]
 generalize qint (qfld d 2)=o at *
 simp only[qiteB_c,qcmp_eql,qcmp_geq,qcmp_leq]
 have hsc:(s<1∨8<s)∨s=1∨s=2∨s=3∨s=4∨s=5∨s=6∨s=7∨s=8:=by omega
 have hoc:(o<5∨(18<o∧o≠20∧o≠25))∨(5≤o∧o≤15)∨o=16∨o=17∨o=18∨o=20∨o=25:=by omega
 rcases hoc with ho|ho|rfl|rfl|rfl|rfl|rfl
 ·have e1:¬(5≤o∧o≤15):=by omega
  have e2:(decide (5≤o)&&decide (o≤15))=false:=by simp;omega
  rcases hsc with hs|rfl|rfl|rfl|rfl|rfl|rfl|rfl|rfl
  ·simp[e1,e2,show¬o=16 by omega,show¬o=17 by omega,show¬o=18 by omega,show¬o=20 by omega,show¬o=25 by omega,show¬(16≤o∧o≤18)by omega,show¬s=1 by omega,show¬s=2 by omega,show¬s=3 by omega,show¬s=4 by omega,show¬s=5 by omega,show¬s=6 by omega,show¬s=7 by omega,show¬s=8 by omega,show¬(1≤s∧s≤6)by omega,show¬(4≤s∧s≤8)by omega]
  all_goals
   simp[e1,e2,show¬o=16 by omega,show¬o=17 by omega,show¬o=18 by omega,show¬o=20 by omega,show¬o=25 by omega,show¬(16≤o∧o≤18)by omega]
 ·rcases hsc with hs|rfl|rfl|rfl|rfl|rfl|rfl|rfl|rfl
  ·simp[ho.1,ho.2,show¬o=16 by omega,show¬o=17 by omega,show¬o=18 by omega,show¬o=20 by omega,show¬o=25 by omega,show¬(16≤o∧o≤18)by omega,show¬s=1 by omega,show¬s=2 by omega,show¬s=3 by omega,show¬s=4 by omega,show¬s=5 by omega,show¬s=6 by omega,show¬s=7 by omega,show¬s=8 by omega,show¬(1≤s∧s≤6)by omega,show¬(4≤s∧s≤8)by omega]
  all_goals simp[ho.1,ho.2,show¬o=16 by omega,show¬o=17 by omega,show¬o=18 by omega,show¬o=20 by omega,show¬o=25 by omega,show¬(16≤o∧o≤18)by omega]
 all_goals
  rcases hsc with hs|rfl|rfl|rfl|rfl|rfl|rfl|rfl|rfl
  ·simp[show¬s=1 by omega,show¬s=2 by omega,show¬s=3 by omega,show¬s=4 by omega,show¬s=5 by omega,show¬s=6 by omega,show¬s=7 by omega,show¬s=8 by omega,show¬(1≤s∧s≤6)by omega,show¬(4≤s∧s≤8)by omega]
  all_goals simp
def okA (s o f w cc a b imm j:Int):Prop:=
 (0≤a∧a<8)∧(0≤b∧b<8)∧(4≤s∧s≤8∨imm=0)∧(5≤o∧o≤15∨o=20∨f=0)∧(16≤o∧o≤18∨w=0)∧(o=20∨o=25∨cc=0)∧(1≤s∧s≤6∨a=0)∧(s=3∨s=5∨b=0)∧
 (s=4∨s=5→imm≤127∨4294967168≤imm)∧(s=7→j≤127∨4294967168≤j)
def okArg (s o f w cc a b imm:Int):Prop:=
 (0≤a∧a<8)∧(0≤b∧b<8)∧(4≤s∧s≤8∨imm=0)∧(5≤o∧o≤15∨o=20∨f=0)∧(16≤o∧o≤18∨w=0)∧(o=20∨o=25∨cc=0)∧(1≤s∧s≤6∨a=0)∧(s=3∨s=5∨b=0)
noncomputable def short (d:D):Int:=qbin .sub .u32 (qbin .sub .u32 (qint (qfld d 1)) (qint (qfld d 0))) 2
def hasS (d:D) (s:Int):Prop:=
 shp (qint (qfld d 2)) (qint (qfld d 3)) (qint (qfld d 4)) (qint (qfld d 5))=some s∧okA s (qint (qfld d 2)) (qint (qfld d 3)) (qint (qfld d 4)) (qint (qfld d 5)) (qint (qfld d 6)) (qint (qfld d 7)) (qint (qfld d 1)) (short d)
def argOk (d:D):Prop:=
 ∃s,shp (qint (qfld d 2)) (qint (qfld d 3)) (qint (qfld d 4)) (qint (qfld d 5))=some s∧okArg s (qint (qfld d 2)) (qint (qfld d 3)) (qint (qfld d 4)) (qint (qfld d 5)) (qint (qfld d 6)) (qint (qfld d 7)) (qint (qfld d 1))
theorem qfld_agg (xs:List D) (j:Nat):qfld (.agg xs) j=xs.getD j .other:=by rw[qfld_eq];rfl
theorem keq (C:Prop) [Decidable C] (x:Int):decide ((if C then x else 0)=x)=decide (C∨x=0):=by
 by_cases h:C
 ·simp[h]
 ·simp[h];exact⟨fun e=>e.symm,fun e=>e.symm⟩
theorem dself (x:Int):decide (x=x)=true:=by simp
theorem narB (s i j:Int):(bif bif (bif decide (s=4)then true else decide (s=5))then !(bif decide (i≤127)then true else decide (4294967168≤i))else false then true else
 bif decide (s=7)then !(bif decide (j≤127)then true else decide (4294967168≤j))else false) = !decide ((s=4∨s=5→i≤127∨4294967168≤i)∧(s=7→j≤127∨4294967168≤j)):=by
 by_cases i1:i≤127<;>by_cases i2:4294967168≤i<;>by_cases j1:j≤127<;>by_cases j2:4294967168≤j<;>simp only[i1,i2,j1,j2,decide_true,decide_false,cond_true,cond_false,Bool.not_true,Bool.not_false,true_or,or_true,or_false,imp_true_iff,and_true,true_and,Bool.cond_self]<;>
  by_cases e4:s=4<;>by_cases e5:s=5<;>by_cases e7:s=7<;>first|omega|simp[e4,e5,e7]
theorem chk69 (d:D):(∃c s,q47 [d]=some [.int c, .int s, .int 0]∧hasS d s∧q92 [d]=some [.int c, .int s, .bool true])∨(∃e,q47 [d]=some [.int 0, .int 0, .int e]∧e≠0∧(∀s,¬hasS d s)∧(e=2∧¬argOk d∨e=7∧argOk d)):=by
 rw[q47_eq,F47_eq]
 rcases op_spec d with⟨c,s,h,hs⟩|⟨c,s,h,hs⟩
 ·rw[h]
  simp only[qsome_s,qnth_s,List.getD_cons_zero,List.getD_cons_succ,qint_i,qbool_b,qnot_c,qiteB_c,qcmp_eql,qcmp_geq,qcmp_lss,qcmp_leq,kept_spec,qfld_agg,qand_eq]
  have key:hasS d s↔okA s (qint (qfld d 2)) (qint (qfld d 3)) (qint (qfld d 4)) (qint (qfld d 5)) (qint (qfld d 6)) (qint (qfld d 7)) (qint (qfld d 1)) (short d):=by
   unfold hasS;simp[hs]
  have keyn:∀s',s'≠s→¬hasS d s':=fun s' hne h'=>by
   have:=h'.1;rw[hs]at this;simp at this;omega
  have kna:¬okArg s (qint (qfld d 2)) (qint (qfld d 3)) (qint (qfld d 4)) (qint (qfld d 5)) (qint (qfld d 6)) (qint (qfld d 7)) (qint (qfld d 1))→¬argOk d:=fun h1 ⟨s',h2,h3⟩=>by
   rw[hs]at h2;injection h2 with h2;subst h2;exact h1 h3
  have kn:¬hasS d s→∀s',¬hasS d s':=fun h1 s' h2=>by
   by_cases e:s'=s
   ·exact h1 (e▸h2)
   ·exact keyn s' e h2
  change _∨_
  rw[show qbin BinOp.sub IntKind.u32 (qbin BinOp.sub IntKind.u32 (qint (qfld d 1)) (qint (qfld d 0))) 2=short d from rfl]
  by_cases ha:0≤qint (qfld d 6)∧qint (qfld d 6)<8
  ·by_cases hb:0≤qint (qfld d 7)∧qint (qfld d 7)<8
   ·by_cases hk:(4≤s∧s≤8∨qint (qfld d 1)=0)∧(5≤qint (qfld d 2)∧qint (qfld d 2)≤15∨qint (qfld d 2)=20∨qint (qfld d 3)=0)∧(16≤qint (qfld d 2)∧qint (qfld d 2)≤18∨qint (qfld d 4)=0)∧(qint (qfld d 2)=20∨qint (qfld d 2)=25∨qint (qfld d 5)=0)∧(1≤s∧s≤6∨qint (qfld d 6)=0)∧(s=3∨s=5∨qint (qfld d 7)=0)
    ·simp only[keq,dself,ha.1,ha.2,hb.1,hb.2,decide_true,cond_true,Bool.not_true,cond_false,Bool.true_and,Bool.and_true,
      decide_eq_true hk.1,decide_eq_true hk.2.2.1,decide_eq_true hk.2.2.2.2.1,or_assoc,decide_eq_true hk.2.1,decide_eq_true hk.2.2.2.1,decide_eq_true hk.2.2.2.2.2]
     by_cases hn:(s=4∨s=5→qint (qfld d 1)≤127∨4294967168≤qint (qfld d 1))∧(s=7→short d≤127∨4294967168≤short d)
     ·left
      refine⟨c,s,?_,key.2 ⟨ha,hb,hk.1,hk.2.1,hk.2.2.1,hk.2.2.2.1,hk.2.2.2.2.1,hk.2.2.2.2.2,hn⟩,rfl⟩
      simp only[narB,decide_eq_true hn,Bool.not_true,cond_false]
     ·right
      refine⟨7,?_,by omega,kn (fun h'=>hn (key.1 h').2.2.2.2.2.2.2.2), .inr ⟨rfl,s,hs,ha,hb,hk.1,hk.2.1,hk.2.2.1,hk.2.2.2.1,hk.2.2.2.2.1,hk.2.2.2.2.2⟩⟩
      simp only[narB,decide_eq_false hn,Bool.not_false,cond_true]
    ·right
     refine⟨2,?_,by omega,kn (fun h'=>hk ⟨(key.1 h').2.2.1,(key.1 h').2.2.2.1,(key.1 h').2.2.2.2.1,(key.1 h').2.2.2.2.2.1,(key.1 h').2.2.2.2.2.2.1,(key.1 h').2.2.2.2.2.2.2.1⟩), .inl ⟨rfl,kna fun h'=>hk ⟨h'.2.2.1,h'.2.2.2.1,h'.2.2.2.2.1,h'.2.2.2.2.2.1,h'.2.2.2.2.2.2.1,h'.2.2.2.2.2.2.2⟩⟩⟩
     simp only[keq,dself,ha.1,ha.2,hb.1,hb.2,decide_true,cond_true,Bool.not_true,cond_false,Bool.true_and,Bool.and_true,or_assoc]
     simp only[← Bool.decide_and,decide_eq_false hk,Bool.not_false,cond_true]
   ·right
    refine⟨2,?_,by omega,kn (fun h'=>hb (key.1 h').2.1), .inl ⟨rfl,kna fun h'=>hb h'.2.1⟩⟩
    simp only[ha.1,ha.2,decide_true,cond_true,Bool.not_true,cond_false]
    have:(bif decide (0≤qint (qfld d 7))then decide (qint (qfld d 7)<8)else false)=false:=by
     simp;omega
    rw[this];rfl
  ·right
   refine⟨2,?_,by omega,kn (fun h'=>ha (key.1 h').1), .inl ⟨rfl,kna fun h'=>ha h'.1⟩⟩
   have:(bif decide (0≤qint (qfld d 6))then decide (qint (qfld d 6)<8)else false)=false:=by
    simp;omega
   simp only[this,Bool.not_true,Bool.not_false,cond_true,cond_false]
 ·right
  refine⟨2,?_,by omega,(fun s' h'=>by have:=h'.1;rw[hs]at this;cases this), .inl ⟨rfl,(fun⟨s',h',_⟩=>by rw[hs]at h';cases h')⟩⟩
  simp[h,qsome_s,qnth_s,qbool_b,qnot_c]
theorem form_spec (d:D):q81 [d]=some [.bool (decide (if 5≤qint (qfld d 2)∧qint (qfld d 2)≤15 then 0≤qint (qfld d 3)∧qint (qfld d 3)≤2 else if qint (qfld d 2)=20 then qint (qfld d 3)=1∨qint (qfld d 3)=2 else qint (qfld d 3)=0))]:=by
 rw[q81_eq,F81_eq]
 generalize qint (qfld d 2)=o at *
 generalize qint (qfld d 3)=f at *
 simp only[qiteB_c,qcmp_eql,qcmp_geq,qcmp_leq]
 by_cases h1:5≤o<;>by_cases h2:o≤15<;>by_cases h3:o=20<;>first|omega|(simp[h1,h2,h3])
theorem width_spec (d:D):q82 [d]=some [.bool (decide (if qint (qfld d 2)=17 then qint (qfld d 4)=1∨qint (qfld d 4)=2 else if qint (qfld d 2)=16∨qint (qfld d 2)=18 then qint (qfld d 4)=1∨qint (qfld d 4)=2∨qint (qfld d 4)=4 else qint (qfld d 4)=0))]:=by
 rw[q82_eq,F82_eq]
 generalize qint (qfld d 2)=o at *
 generalize qint (qfld d 4)=w at *
 simp only[qiteB_c,qcmp_eql,qcmp_geq,qcmp_leq]
 by_cases h1:o=16<;>by_cases h2:o=17<;>by_cases h3:o=18<;>first|omega|(simp[h1,h2,h3];done)|(simp[h1,h2,h3,Bool.or_assoc];done)
theorem treeB {n1 n2 c1 c2 c3 c4 c5 c6:Bool} {R A:Prop} (h1:n1=true) (h2:n2=true) (hR:(c1=false∧c2=false∧c3=false∧(c4=true→c5=false)∧c6=false)↔R) (hA:(c1=false∧c2=false∧c3=false)↔A):
 ∃e,(bif n1 then bif n2 then bif c1 then some [D.int 2]else bif c2 then some [D.int 2]else bif c3 then some [D.int 2]else bif c4 then(bif c5 then some [D.int 7]else bif c6 then some [D.int 7]else some [D.int 0])else bif c6 then some [D.int 7]else some [D.int 0]else none else none)=some [D.int e]∧(e=0↔R)∧(e=0∨e=7∨e=2)∧(e=2↔¬A):=by
 subst h1 h2
 rw[← hR, ← hA]
 cases c1<;>cases c2<;>cases c3<;>cases c4<;>cases c5<;>cases c6<;>simp
theorem chk126 (d:D):∃e,q46 [d]=some [.int e]∧(e=0↔∃s,hasS d s)∧(e=0∨e=7∨e=2)∧(e=2↔¬argOk d):=by
 unfold hasS argOk
 rw[q46_eq,F46_eq,form_spec,width_spec]
 rw[show qbin BinOp.sub IntKind.u32 (qbin BinOp.sub IntKind.u32 (qint (qfld d 1)) (qint (qfld d 0))) 2=short d from rfl]
 generalize qint (qfld d 2)=o
 generalize qint (qfld d 3)=f
 generalize qint (qfld d 4)=w
 generalize qint (qfld d 5)=cc
 generalize qint (qfld d 6)=a
 generalize qint (qfld d 7)=b
 generalize qint (qfld d 1)=imm
 generalize short d=j
 simp only[qsome_s,qnth_s,List.getD_cons_zero,qbool_b,qnot_c,qiteB_c,qcmp_eql,qcmp_geq,qcmp_lss,qcmp_leq,qcmp_gtr,qcmp_neq]
 rcases ocases o with h|h|rfl|rfl|h|rfl|rfl|rfl|rfl|rfl|rfl|rfl|rfl|rfl|rfl|rfl|rfl
 ·refine treeB (by simp) (by simp) ?_ ?_
  ·have:(bif decide (o<0)then true else decide (27<o))=true:=by simp;omega
   simp[this,shp,show¬(0≤o∧o≤2)by omega,show¬o=3 by omega,show¬o=4 by omega,show¬(5≤o∧o≤15)by omega,show¬o=16 by omega,show¬o=17 by omega,show¬o=18 by omega,show¬o=19 by omega,show¬o=20 by omega,show¬o=21 by omega,show¬o=22 by omega,show¬o=23 by omega,show¬o=24 by omega,show¬o=25 by omega,show¬o=26 by omega,show¬o=27 by omega]
  ·have:(bif decide (o<0)then true else decide (27<o))=true:=by simp;omega
   simp[this,shp,show¬(0≤o∧o≤2)by omega,show¬o=3 by omega,show¬o=4 by omega,show¬(5≤o∧o≤15)by omega,show¬o=16 by omega,show¬o=17 by omega,show¬o=18 by omega,show¬o=19 by omega,show¬o=20 by omega,show¬o=21 by omega,show¬o=22 by omega,show¬o=23 by omega,show¬o=24 by omega,show¬o=25 by omega,show¬o=26 by omega,show¬o=27 by omega]
 ·refine treeB (by simp) (by simp) ?_ ?_
  ·rcases h with rfl|rfl|rfl<;>simp[shp,okA]<;>grind
  ·rcases h with rfl|rfl|rfl<;>simp[shp,okArg]<;>grind
 ·refine treeB (by simp) (by simp) ?_ ?_
  ·simp[shp,okA]<;>grind
  ·simp[shp,okArg]<;>grind
 ·refine treeB (by simp) (by simp) ?_ ?_
  ·simp[shp,okA]<;>grind
  ·simp[shp,okArg]<;>grind
 ·refine treeB (by simp) (by simp) ?_ ?_
  ·obtain⟨h1,h2⟩:=h
   by_cases f0:f=0
   ·simp[shp,okA,h1,h2,f0,show¬o=3 by omega,show¬o=4 by omega,show¬o≤2 by omega,show 3≤o by omega,show o≤27 by omega,show¬o=16 by omega,show¬o=17 by omega,show¬o=18 by omega,show¬o=19 by omega,show¬o=20 by omega,show¬o=22 by omega,show¬o=23 by omega,show¬o=25 by omega,show¬16≤o by omega]
    grind
   by_cases f1:f=1
   ·simp[shp,okA,h1,h2,f1,show¬o=3 by omega,show¬o=4 by omega,show¬o≤2 by omega,show 3≤o by omega,show o≤27 by omega,show¬o=16 by omega,show¬o=17 by omega,show¬o=18 by omega,show¬o=19 by omega,show¬o=20 by omega,show¬o=22 by omega,show¬o=23 by omega,show¬o=25 by omega,show¬16≤o by omega]
    grind
   by_cases f2:f=2
   ·simp[shp,okA,h1,h2,f2,show¬o=3 by omega,show¬o=4 by omega,show¬o≤2 by omega,show 3≤o by omega,show o≤27 by omega,show¬o=16 by omega,show¬o=17 by omega,show¬o=18 by omega,show¬o=19 by omega,show¬o=20 by omega,show¬o=22 by omega,show¬o=23 by omega,show¬o=25 by omega,show¬16≤o by omega]
    grind
   ·simp[shp,okA,h1,h2,f0,f1,f2,show¬o=3 by omega,show¬o=4 by omega,show¬o≤2 by omega,show 3≤o by omega,show o≤27 by omega,show¬o=16 by omega,show¬o=17 by omega,show¬o=18 by omega,show¬o=19 by omega,show¬o=20 by omega,show¬o=22 by omega,show¬o=23 by omega,show¬o=25 by omega,show¬16≤o by omega]
    try grind
  ·obtain⟨h1,h2⟩:=h
   by_cases f0:f=0
   ·simp[shp,okArg,h1,h2,f0,show¬o=3 by omega,show¬o=4 by omega,show¬o≤2 by omega,show 3≤o by omega,show o≤27 by omega,show¬o=16 by omega,show¬o=17 by omega,show¬o=18 by omega,show¬o=19 by omega,show¬o=20 by omega,show¬o=22 by omega,show¬o=23 by omega,show¬o=25 by omega,show¬16≤o by omega]
    grind
   by_cases f1:f=1
   ·simp[shp,okArg,h1,h2,f1,show¬o=3 by omega,show¬o=4 by omega,show¬o≤2 by omega,show 3≤o by omega,show o≤27 by omega,show¬o=16 by omega,show¬o=17 by omega,show¬o=18 by omega,show¬o=19 by omega,show¬o=20 by omega,show¬o=22 by omega,show¬o=23 by omega,show¬o=25 by omega,show¬16≤o by omega]
    grind
   by_cases f2:f=2
   ·simp[shp,okArg,h1,h2,f2,show¬o=3 by omega,show¬o=4 by omega,show¬o≤2 by omega,show 3≤o by omega,show o≤27 by omega,show¬o=16 by omega,show¬o=17 by omega,show¬o=18 by omega,show¬o=19 by omega,show¬o=20 by omega,show¬o=22 by omega,show¬o=23 by omega,show¬o=25 by omega,show¬16≤o by omega]
    grind
   ·simp[shp,okArg,h1,h2,f0,f1,f2,show¬o=3 by omega,show¬o=4 by omega,show¬o≤2 by omega,show 3≤o by omega,show o≤27 by omega,show¬o=16 by omega,show¬o=17 by omega,show¬o=18 by omega,show¬o=19 by omega,show¬o=20 by omega,show¬o=22 by omega,show¬o=23 by omega,show¬o=25 by omega,show¬16≤o by omega]
    try grind
 ·refine treeB (by simp) (by simp) ?_ ?_
  ·simp[shp,okA]<;>grind
  ·simp[shp,okArg]<;>grind
 ·refine treeB (by simp) (by simp) ?_ ?_
  ·simp[shp,okA]<;>grind
  ·simp[shp,okArg]<;>grind
 ·refine treeB (by simp) (by simp) ?_ ?_
  ·simp[shp,okA]<;>grind
  ·simp[shp,okArg]<;>grind
 ·refine treeB (by simp) (by simp) ?_ ?_
  ·simp[shp,okA]<;>grind
  ·simp[shp,okArg]<;>grind
 ·refine treeB (by simp) (by simp) ?_ ?_
  ·simp[shp,okA]<;>grind
  ·simp[shp,okArg]<;>grind
 ·refine treeB (by simp) (by simp) ?_ ?_
  ·simp[shp,okA]<;>grind
  ·simp[shp,okArg]<;>grind
 ·refine treeB (by simp) (by simp) ?_ ?_
  ·simp[shp,okA]<;>grind
  ·simp[shp,okArg]<;>grind
 ·refine treeB (by simp) (by simp) ?_ ?_
  ·simp[shp,okA]<;>grind
  ·simp[shp,okArg]<;>grind
 ·refine treeB (by simp) (by simp) ?_ ?_
  ·simp[shp,okA]<;>grind
  ·simp[shp,okArg]<;>grind
 ·refine treeB (by simp) (by simp) ?_ ?_
  ·simp[shp,okA]<;>grind
  ·simp[shp,okArg]<;>grind
 ·refine treeB (by simp) (by simp) ?_ ?_
  ·simp[shp,okA]<;>grind
  ·simp[shp,okArg]<;>grind
 ·refine treeB (by simp) (by simp) ?_ ?_
  ·simp[shp,okA]<;>grind
  ·simp[shp,okArg]<;>grind
def sLen (s:Int):Int:=if s=0∨s=1 then 1 else if s=2∨s=3∨s=7 then 2 else if s=4∨s=5 then 3 else if s=6 then 6 else 5
theorem shp_le {o f w cc s:Int} (h:shp o f w cc=some s):0≤s∧s≤8:=by
 unfold shp at h
 repeat' split at h
 all_goals first|(cases h;done)|(injection h with h;omega)
theorem sLen_pos (s:Int):1≤sLen s∧sLen s≤6:=by
 unfold sLen;repeat' split
 all_goals omega
theorem size_spec {s:Int} (h:0≤s∧s≤8):q48 [.int s]=some [.int (sLen s)]:=by
 rw[q48_eq,F48_eq]
 obtain rfl|rfl|rfl|rfl|rfl|rfl|rfl|rfl|rfl:s=0∨s=1∨s=2∨s=3∨s=4∨s=5∨s=6∨s=7∨s=8:=by omega
 all_goals (rw[qinbS_eq,qidxS_eq,qbin_eq,qwrap_eq];kernel_rfl)
theorem acode_spec (d:D):∃c,q141 [d]=some [.int c]:=by
 rw[q141_eq,F141_eq]
 generalize qcmp BinOp.eql (qint (qfld d 2)) 17=c1
 generalize qcmp BinOp.eql (qint (qfld d 4)) 1=c2
 generalize qiteB (qcmp BinOp.eql (qint (qfld d 4)) 2) (qcmp BinOp.eql (qint (qfld d 2)) 16) Bool.false=c3
 generalize qcmp BinOp.eql (qint (qfld d 4)) 2=c4
 cases c1<;>cases c2<;>cases c3<;>cases c4<;>exact⟨_,rfl⟩
theorem bytes_spec {d:D} {s:Int} (h:hasS d s):∃bs,q119 [d]=some [bs]∧qlen bs=sLen s:=by
 obtain⟨c,hc⟩:=acode_spec d
 have h1:=h.1
 rw[q119_eq,F119_eq,hc,q142_eq,F142_eq]
 generalize qint (qfld d 2)=o at *
 generalize qint (qfld d 3)=f at *
 generalize qint (qfld d 4)=w at *
 generalize qint (qfld d 5)=cc at *
 simp only[qsome_s,qnth_s,List.getD_cons_zero,qiteB_c,qcmp_eql,qcmp_geq,qcmp_leq]
 rcases ocases o with h|h|rfl|rfl|h|rfl|rfl|rfl|rfl|rfl|rfl|rfl|rfl|rfl|rfl|rfl|rfl
 ·exfalso
  simp[shp,show¬(0≤o∧o≤2)by omega,show¬o=3 by omega,show¬o=4 by omega,show¬(5≤o∧o≤15)by omega,show¬o=16 by omega,show¬o=17 by omega,show¬o=18 by omega,show¬o=19 by omega,show¬o=20 by omega,show¬o=21 by omega,show¬o=22 by omega,show¬o=23 by omega,show¬o=24 by omega,show¬o=25 by omega,show¬o=26 by omega,show¬o=27 by omega]at h1
 ·rcases h with rfl|rfl|rfl<;>simp[shp]at h1<;>subst h1<;>(simp[qsome_s,qnth_s];rw[qlen_c];rfl)
 ·simp[shp]at h1;subst h1;(simp[qsome_s,qnth_s];rw[qlen_c];rfl)
 ·simp[shp]at h1;subst h1;(simp[qsome_s,qnth_s];rw[qlen_c];rfl)
 ·obtain⟨h2,h3⟩:=h
  simp only[shp,h2,h3,show¬o=3 by omega,show¬o=4 by omega,show¬(0≤o∧o≤2)by omega,true_and,if_true,if_false,or_self]at h1
  simp only[h2,h3,decide_true,cond_true]
  by_cases f0:f=0
  ·rw[if_pos f0]at h1;injection h1 with h1;subst h1;(simp[f0];rw[qlen_c];rfl)
  by_cases f1:f=1
  ·rw[if_neg f0,if_pos f1]at h1;injection h1 with h1;subst h1;(simp[f1];rw[qlen_c];rfl)
  by_cases f2:f=2
  ·rw[if_neg f0,if_neg f1,if_pos f2]at h1;injection h1 with h1;subst h1;(simp[f2];rw[qlen_c];rfl)
  ·rw[if_neg f0,if_neg f1,if_neg f2]at h1;cases h1
 ·have:s=5:=by revert h1;simp only[shp];by_cases w1:w=1∨w=2∨w=4<;>simp[w1]<;>omega
  subst this;(simp;rw[qlen_c];rfl)
 ·have:s=5:=by revert h1;simp only[shp];by_cases w1:w=1∨w=2<;>simp[w1]<;>omega
  subst this;(simp;rw[qlen_c];rfl)
 ·have:s=5:=by revert h1;simp only[shp];by_cases w1:w=1∨w=2∨w=4<;>simp[w1]<;>omega
  subst this;(simp;rw[qlen_c];rfl)
 ·simp[shp]at h1;subst h1;(simp;rw[qlen_c];rfl)
 ·by_cases hcc:0≤cc∧cc≤14
  ·by_cases f1:f=1
   ·simp[shp,hcc,f1]at h1;subst h1;(simp[f1];rw[qlen_c];rfl)
   by_cases f2:f=2
   ·simp[shp,hcc,f2]at h1;subst h1;(simp[f2];rw[qlen_c];rfl)
   ·simp[shp,hcc,f1,f2]at h1
  ·simp[shp,hcc]at h1
 ·simp[shp]at h1;subst h1;(simp[qsome_s,qnth_s];rw[qlen_c];rfl)
 ·simp[shp]at h1;subst h1;(simp[qsome_s,qnth_s];rw[qlen_c];rfl)
 ·simp[shp]at h1;subst h1;(simp[qsome_s,qnth_s];rw[qlen_c];rfl)
 ·simp[shp]at h1;subst h1;(simp[qsome_s,qnth_s];rw[qlen_c];rfl)
 ·by_cases hcc:0≤cc∧cc≤14
  ·simp[shp,hcc]at h1;subst h1;(simp[qsome_s,qnth_s];rw[qlen_c];rfl)
  ·simp[shp,hcc]at h1
 ·simp[shp]at h1;subst h1;(simp[qsome_s,qnth_s];rw[qlen_c];rfl)
 ·simp[shp]at h1;subst h1;(simp[qsome_s,qnth_s];rw[qlen_c];rfl)
open Classical in
noncomputable def lenI (d:D):Int:=if h:∃s,hasS d s then sLen h.choose else 0
noncomputable def vld (d:D):Bool:=decide (lenI d≠0)
theorem hasS_un {d:D} {s s':Int} (h:hasS d s) (h':hasS d s'):s=s':=by
 have:=h.1.symm.trans h'.1;injection this
theorem lenI_of {d:D} {s:Int} (h:hasS d s):lenI d=sLen s:=by
 unfold lenI
 rw[dif_pos ⟨s,h⟩]
 exact congrArg sLen (hasS_un (Exists.choose_spec (⟨s,h⟩:∃s,hasS d s)) h)
theorem lenI_none {d:D} (h:¬∃s,hasS d s):lenI d=0:=by unfold lenI;rw[dif_neg h]
theorem vld_iff {d:D}:vld d=true↔∃s,hasS d s:=by
 unfold vld
 rw[decide_eq_true_iff]
 constructor
 ·intro h
  by_cases hx:∃s,hasS d s
  ·exact hx
  ·exact absurd (lenI_none hx) h
 ·rintro⟨s,hs⟩
  rw[lenI_of hs]
  have:=sLen_pos s
  omega
theorem valid_spec (d:D):q20 [d]=some [.bool (vld d)]∧q16 [d]=some [.bool (vld d)]∧q69 [d]=some [.int (lenI d)]∧q74 [d]=some [.int (lenI d)]:=by
 obtain⟨e',h126,he',_⟩:=chk126 d
 have h71:q16 [d]=some [.bool (vld d)]:=by
  rw[q16_eq,F16_eq,h126]
  simp only[qsome_s,qnth_s,List.getD_cons_zero,qint_i,cond_true,qcmp_eql]
  by_cases hx:∃s,hasS d s
  ·simp[vld_iff.2 hx,he'.2 hx]
  ·have hv:vld d=false:=by rw[Bool.eq_false_iff];exact mt vld_iff.1 hx
   simp[hv,mt he'.1 hx]
 rcases chk69 d with⟨c,s,h69,hs,_⟩|⟨e,h69,he,hn,_⟩
 ·obtain⟨bs,hb,hl⟩:=bytes_spec hs
  have hv:vld d=true:=vld_iff.2 ⟨s,hs⟩
  refine⟨?_,h71,?_,?_⟩
  ·rw[q20_eq,F20_eq,h69,hv];simp[qsome_s,qnth_s,qint_i,qcmp_eql]
  ·rw[q69_eq,F69_eq,h69,lenI_of hs]
   simp only[qsome_s,qnth_s,List.getD_cons_zero,List.getD_cons_succ,qint_i,size_spec (shp_le hs.1),qcmp_neq]
   simp
  ·rw[q74_eq,F74_eq,h71,hv,hb,lenI_of hs]
   simp[qsome_s,qnth_s,qbool_b,qnot_c,hl]
 ·have hx:¬∃s,hasS d s:=fun⟨s,h⟩=>hn s h
  have hv:vld d=false:=by rw[Bool.eq_false_iff];exact mt vld_iff.1 hx
  refine⟨?_,h71,?_,?_⟩
  ·rw[q20_eq,F20_eq,h69,hv];simp[qsome_s,qnth_s,qint_i,qcmp_eql,he]
  ·rw[q69_eq,F69_eq,h69,lenI_none hx];simp[qsome_s,qnth_s,qint_i,qcmp_neq,he]
  ·rw[q74_eq,F74_eq,h71,hv,lenI_none hx];simp[qsome_s,qnth_s,qbool_b,qnot_c]
end Go.Proofs.YtobhhfbdelnhfaaGreatDoor
namespace Go.Proofs.YtobhhfbdelnhfaaGreatDoor
set_option linter.unusedSimpArgs false
open Go Go.AM
def opcB (o f w cc a:Int):Int:=
 if 0≤o∧o≤2 then o else if o=3 then 8+a else if o=4 then 16+a
 else if 5≤o∧o≤15 then(if f=0 then 32+(o-5)else if f=1 then 48+(o-5)else 64+(o-5))
 else if o=16 then(if w=4 then 80 else if w=1 then 81 else 83)
 else if o=17 then(if w=1 then 82 else 84)
 else if o=18 then(if w=4 then 85 else if w=1 then 86 else 87)
 else if o=19 then 90 else if o=20 then(if f=1 then 96+cc else 112+cc)else if o=25 then 144+cc
 else if o=23 then 128 else if o=24 then 129 else if o=21 then 130 else if o=22 then 131 else if o=26 then 160 else 161
theorem wrap8 (n:Int):IntKind.u8.wrap n=n%256:=by
 simp only[IntKind.wrap,IntKind.bits,IntKind.signed]
 simp
theorem wrap32' (n:Int):IntKind.u32.wrap n=n%4294967296:=by
 simp only[IntKind.wrap,IntKind.bits,IntKind.signed]
 simp
theorem add8 {x y:Int} (h0:0≤y) (h:0≤x∧x+y<256):qbin .add .u8 x (qwrap .u8 y)=x+y:=by
 rw[qbin_eq,qwrap_eq];simp only[rbin,wrap8];omega
theorem and7 {a:Int} (h0:0≤a) (h:a<8):qbin .and .i64 a 7=a:=by
 obtain rfl|rfl|rfl|rfl|rfl|rfl|rfl|rfl:a=0∨a=1∨a=2∨a=3∨a=4∨a=5∨a=6∨a=7:=by omega
 all_goals (rw[qbin_eq];kernel_rfl)
theorem wr8 {y:Int} (h0:0≤y) (h:y<256):qwrap .u8 y=y:=by rw[qwrap_eq,wrap8];omega
theorem op_code {d:D} {c s:Int} (h:hasS d s) (hq:q92 [d]=some [.int c, .int s, .bool true]):c=opcB (qint (qfld d 2)) (qint (qfld d 3)) (qint (qfld d 4)) (qint (qfld d 5)) (qint (qfld d 6)):=by
 obtain⟨h1,h2⟩:=h
 unfold okA at h2
 obtain⟨ha,_⟩:=h2
 rw[q92_eq,F92_eq,q128_eq,F128_eq,q129_eq,F129_eq]at hq
 generalize qint (qfld d 2)=o at *
 generalize qint (qfld d 3)=f at *
 generalize qint (qfld d 4)=w at *
 generalize qint (qfld d 5)=cc at *
 generalize qint (qfld d 6)=a at *
 simp only[qiteB_c,qcmp_eql,qcmp_geq,qcmp_leq,qcmp_lss,qcmp_gtr,qand_eq,and7 ha.1 ha.2]at hq
 have h6:qbin .add .u8 8 (qwrap .u8 a)=8+a:=add8 (by omega) (by omega)
 have h7:qbin .add .u8 16 (qwrap .u8 a)=16+a:=add8 (by omega) (by omega)
 rw[h6,h7]at hq
 rcases ocases o with h|h|rfl|rfl|h|rfl|rfl|rfl|rfl|rfl|rfl|rfl|rfl|rfl|rfl|rfl|rfl
 ·exfalso
  simp[shp,show¬o=0 by omega,show¬o=1 by omega,show¬o=2 by omega,show¬o=3 by omega,show¬o=4 by omega,show¬o=16 by omega,show¬o=17 by omega,show¬o=18 by omega,show¬o=19 by omega,show¬o=20 by omega,show¬o=21 by omega,show¬o=22 by omega,show¬o=23 by omega,show¬o=24 by omega,show¬o=25 by omega,show¬o=26 by omega,show¬o=27 by omega,show¬(0≤o∧o≤2)by omega,show¬(5≤o∧o≤15)by omega]at h1
 ·rcases h with rfl|rfl|rfl<;>simp[wr8]at hq<;>simp[opcB, ← hq.1]
 ·simp at hq;simp[opcB, ← hq.1]
 ·simp at hq;simp[opcB, ← hq.1]
 ·obtain⟨h2,h3⟩:=h
  have hs5:qbin .sub .i64 o 5=o-5:=sub64 (by omega) (by omega)
  have e1:qbin .add .u8 32 (qwrap .u8 (o-5))=32+(o-5):=add8 (by omega) (by omega)
  have e2:qbin .add .u8 48 (qwrap .u8 (o-5))=48+(o-5):=add8 (by omega) (by omega)
  have e3:qbin .add .u8 64 (qwrap .u8 (o-5))=64+(o-5):=add8 (by omega) (by omega)
  rw[hs5,e1,e2,e3]at hq
  by_cases f0:f=0
  ·simp[f0,h2,h3,show¬o=0 by omega,show¬o=1 by omega,show¬o=2 by omega,show¬o=3 by omega,show¬o=4 by omega,show¬o=16 by omega,show¬o=17 by omega,show¬o=18 by omega,show¬o=19 by omega,show¬o=20 by omega,show¬o=21 by omega,show¬o=22 by omega,show¬o=23 by omega,show¬o=24 by omega,show¬o=25 by omega,show¬o=26 by omega,show¬o=27 by omega]at hq;simp[opcB,f0,h2,h3,show¬o=0 by omega,show¬o=1 by omega,show¬o=2 by omega,show¬o=3 by omega,show¬o=4 by omega,show¬o=16 by omega,show¬o=17 by omega,show¬o=18 by omega,show¬o=19 by omega,show¬o=20 by omega,show¬o=21 by omega,show¬o=22 by omega,show¬o=23 by omega,show¬o=24 by omega,show¬o=25 by omega,show¬o=26 by omega,show¬o=27 by omega,show¬o≤2 by omega, ← hq.1]
  by_cases f1:f=1
  ·simp[f1,h2,h3,show¬o=0 by omega,show¬o=1 by omega,show¬o=2 by omega,show¬o=3 by omega,show¬o=4 by omega,show¬o=16 by omega,show¬o=17 by omega,show¬o=18 by omega,show¬o=19 by omega,show¬o=20 by omega,show¬o=21 by omega,show¬o=22 by omega,show¬o=23 by omega,show¬o=24 by omega,show¬o=25 by omega,show¬o=26 by omega,show¬o=27 by omega]at hq;simp[opcB,f1,h2,h3,show¬o=0 by omega,show¬o=1 by omega,show¬o=2 by omega,show¬o=3 by omega,show¬o=4 by omega,show¬o=16 by omega,show¬o=17 by omega,show¬o=18 by omega,show¬o=19 by omega,show¬o=20 by omega,show¬o=21 by omega,show¬o=22 by omega,show¬o=23 by omega,show¬o=24 by omega,show¬o=25 by omega,show¬o=26 by omega,show¬o=27 by omega,show¬o≤2 by omega, ← hq.1]
  by_cases f2:f=2
  ·simp[f2,h2,h3,show¬o=0 by omega,show¬o=1 by omega,show¬o=2 by omega,show¬o=3 by omega,show¬o=4 by omega,show¬o=16 by omega,show¬o=17 by omega,show¬o=18 by omega,show¬o=19 by omega,show¬o=20 by omega,show¬o=21 by omega,show¬o=22 by omega,show¬o=23 by omega,show¬o=24 by omega,show¬o=25 by omega,show¬o=26 by omega,show¬o=27 by omega]at hq;simp[opcB,f2,h2,h3,show¬o=0 by omega,show¬o=1 by omega,show¬o=2 by omega,show¬o=3 by omega,show¬o=4 by omega,show¬o=16 by omega,show¬o=17 by omega,show¬o=18 by omega,show¬o=19 by omega,show¬o=20 by omega,show¬o=21 by omega,show¬o=22 by omega,show¬o=23 by omega,show¬o=24 by omega,show¬o=25 by omega,show¬o=26 by omega,show¬o=27 by omega,show¬o≤2 by omega, ← hq.1]
  ·simp[f0,f1,f2,h2,h3,show¬o=0 by omega,show¬o=1 by omega,show¬o=2 by omega,show¬o=3 by omega,show¬o=4 by omega,show¬o=16 by omega,show¬o=17 by omega,show¬o=18 by omega,show¬o=19 by omega,show¬o=20 by omega,show¬o=21 by omega,show¬o=22 by omega,show¬o=23 by omega,show¬o=24 by omega,show¬o=25 by omega,show¬o=26 by omega,show¬o=27 by omega]at hq
 ·simp only[shp]at h1
  by_cases w1:w=1
  ·simp[w1,qsome_s,qnth_s,qint_i,qbool_b]at hq;simp[opcB,w1, ← hq.1]
  by_cases w2:w=2
  ·simp[w2,qsome_s,qnth_s,qint_i,qbool_b]at hq;simp[opcB,w2, ← hq.1]
  by_cases w4:w=4
  ·simp[w4,qsome_s,qnth_s,qint_i,qbool_b]at hq;simp[opcB,w4, ← hq.1]
  ·simp[w1,w2,w4]at h1
 ·simp only[shp]at h1
  by_cases w1:w=1
  ·simp[w1,qsome_s,qnth_s,qint_i,qbool_b]at hq;simp[opcB,w1, ← hq.1]
  by_cases w2:w=2
  ·simp[w2,qsome_s,qnth_s,qint_i,qbool_b]at hq;simp[opcB,w2, ← hq.1]
  ·simp[w1,w2]at h1
 ·simp only[shp]at h1
  by_cases w1:w=1
  ·simp[w1,qsome_s,qnth_s,qint_i,qbool_b]at hq;simp[opcB,w1, ← hq.1]
  by_cases w2:w=2
  ·simp[w2,qsome_s,qnth_s,qint_i,qbool_b]at hq;simp[opcB,w2, ← hq.1]
  by_cases w4:w=4
  ·simp[w4,qsome_s,qnth_s,qint_i,qbool_b]at hq;simp[opcB,w4, ← hq.1]
  ·simp[w1,w2,w4]at h1
 ·simp at hq;simp[opcB, ← hq.1]
 ·by_cases hcc:0≤cc∧cc≤14
  ·have e1:qbin .add .u8 96 (qwrap .u8 cc)=96+cc:=add8 (by omega) (by omega)
   have e2:qbin .add .u8 112 (qwrap .u8 cc)=112+cc:=add8 (by omega) (by omega)
   rw[e1,e2]at hq
   by_cases f1:f=1
   ·simp[f1,show¬cc<0 by omega,show¬14<cc by omega,qsome_s,qnth_s,qint_i,qbool_b]at hq;simp[opcB,f1, ← hq.1]
   by_cases f2:f=2
   ·simp[f2,show¬cc<0 by omega,show¬14<cc by omega,qsome_s,qnth_s,qint_i,qbool_b]at hq;simp[opcB,f2, ← hq.1]
   ·simp[shp,f1,f2]at h1
  ·simp[shp,hcc]at h1
 ·simp at hq;simp[opcB, ← hq.1]
 ·simp at hq;simp[opcB, ← hq.1]
 ·simp at hq;simp[opcB, ← hq.1]
 ·simp at hq;simp[opcB, ← hq.1]
 ·by_cases hcc:0≤cc∧cc≤14
  ·have e1:qbin .add .u8 144 (qwrap .u8 cc)=144+cc:=add8 (by omega) (by omega)
   rw[e1]at hq
   simp[show¬cc<0 by omega,show¬14<cc by omega,qsome_s,qnth_s,qint_i,qbool_b]at hq;simp[opcB, ← hq.1]
  ·simp[shp,hcc]at h1
 ·simp at hq;simp[opcB, ← hq.1]
 ·simp at hq;simp[opcB, ← hq.1]
def wordE (n:Int):List Int:=[n%256,n/256%256,n/65536%256,n/16777216]
noncomputable def nearE (d:D):Int:=qbin .sub .u32 (qbin .sub .u32 (qint (qfld d 1)) (qint (qfld d 0))) 5
noncomputable def encB (d:D) (s:Int):List Int:=
 opcB (qint (qfld d 2)) (qint (qfld d 3)) (qint (qfld d 4)) (qint (qfld d 5)) (qint (qfld d 6)) ::
 (if s=0∨s=1 then[]else if s=2 then[qint (qfld d 6)]else if s=3 then[16*qint (qfld d 6)+qint (qfld d 7)]
  else if s=4 then[qint (qfld d 6),qint (qfld d 1)%256]else if s=5 then[16*qint (qfld d 6)+qint (qfld d 7),qint (qfld d 1)%256]
  else if s=6 then qint (qfld d 6)::wordE (qint (qfld d 1))else if s=7 then[short d%256]else wordE (nearE d))
theorem mul16 {a:Int} (h0:0≤a) (h:a<8):qbin .mul .i64 16 a=16*a:=by rw[qbin_eq];exact wrap64 (by omega) (by omega)
theorem rem8 {n:Int} (h0:0≤n):qwrap .u8 (qbin .rem .u32 n 256)=n%256:=by
 rw[qbin_eq];simp only[rbin]
 rw[Int.tmod_eq_emod_of_nonneg h0,wr8 (by omega) (by omega)]
theorem quo32 {n m:Int} (h0:0≤n) (h:n<4294967296) (hm:0<m):qbin .quo .u32 n m=n/m:=by
 rw[qbin_eq];simp only[rbin,wrap32']
 rw[Int.tdiv_eq_ediv_of_nonneg h0]
 have h1:0≤n/m:=Int.ediv_nonneg h0 (by omega)
 have h2:n/m≤n:=Int.ediv_le_self m h0
 omega
theorem ab8 {a b:Int} (ha:0≤a∧a<8) (hb:0≤b∧b<8):qwrap .u8 (qbin .add .i64 (qbin .mul .i64 16 a) b)=16*a+b:=by
 rw[mul16 ha.1 ha.2,add64 (by omega) (by omega),wr8 (by omega) (by omega)]
theorem sub32 (x y:Int):0≤qbin .sub .u32 x y∧qbin .sub .u32 x y<4294967296:=by
 rw[qbin_eq];simp only[rbin,wrap32'];omega
theorem wordE_spec {n:Int} (h0:0≤n) (h:n<4294967296): [D.int (qwrap .u8 (qbin .rem .u32 n 256)),D.int (qwrap .u8 (qbin .rem .u32 (qbin .quo .u32 n 256) 256)),D.int (qwrap .u8 (qbin .rem .u32 (qbin .quo .u32 n 65536) 256)),D.int (qwrap .u8 (qbin .quo .u32 n 16777216))]=(wordE n).map D.int:=by
 rw[rem8 h0,quo32 h0 h (by omega),quo32 h0 h (by omega),quo32 h0 h (by omega),rem8 (by omega),rem8 (by omega),wr8 (by omega) (by omega)]
 rfl
theorem op8 {x y:Int} (h:0≤x∧0≤y∧x+y<256):qwrap .u8 (qbin .add .i64 x y)=x+y:=by rw[add64 (by omega) (by omega),wr8 (by omega) (by omega)]
theorem cst:(qwrap .u8 (qbin .add .i64 80 1)=81∧qwrap .u8 (qbin .add .i64 80 3)=83∧qwrap .u8 80=80)∧(qwrap .u8 (qbin .add .i64 85 1)=86∧qwrap .u8 (qbin .add .i64 85 2)=87∧qwrap .u8 85=85)∧
 (qwrap .u8 (qbin .add .i64 80 (qbin .mul .i64 2 1))=82∧qwrap .u8 (qbin .add .i64 80 (qbin .mul .i64 2 2))=84)∧(qiteI true 85 80=85∧qiteI false 85 80=80):=by
 rw[qbin_eq,qwrap_eq,qiteI_eq]
 refine⟨⟨?_,?_,?_⟩,⟨?_,?_,?_⟩,⟨?_,?_⟩,?_,?_⟩
 all_goals kernel_rfl
theorem ref_bytes {d:D} {s:Int} (h:hasS d s) (hi:0≤qint (qfld d 1)∧qint (qfld d 1)<4294967296):q119 [d]=some [.list ((encB d s).map D.int)]:=by
 obtain⟨h1,h2⟩:=h
 unfold okA at h2
 obtain⟨ha,hb,_⟩:=h2
 have hw:=wordE_spec hi.1 hi.2
 have hn:=wordE_spec (n:=nearE d) (sub32 _ _).1 (sub32 _ _).2
 have hs8:qwrap .u8 (qbin .rem .u32 (short d) 256)=short d%256:=rem8 (sub32 _ _).1
 have hi8:=rem8 hi.1
 have ha8:qwrap .u8 (qint (qfld d 6))=qint (qfld d 6):=wr8 (by omega) (by omega)
 have hab:=ab8 ha hb
 have p8:qbin .add .u8 8 (qint (qfld d 6))=8+qint (qfld d 6):=by rw[qbin_eq];simp only[rbin,wrap8];omega
 have p16:qbin .add .u8 16 (qint (qfld d 6))=16+qint (qfld d 6):=by rw[qbin_eq];simp only[rbin,wrap8];omega
 unfold encB
 rw[q119_eq,F119_eq,q141_eq,F141_eq,q142_eq,F142_eq]
 rw[show qbin BinOp.sub IntKind.u32 (qbin BinOp.sub IntKind.u32 (qint (qfld d 1)) (qint (qfld d 0))) 2=short d from rfl,show qbin BinOp.sub IntKind.u32 (qbin BinOp.sub IntKind.u32 (qint (qfld d 1)) (qint (qfld d 0))) 5=nearE d from rfl]
 simp only[hw,hn]
 simp only[hs8,hi8,ha8,hab,wordE]
 clear hw hn hs8 hi8 ha8 hab
 generalize short d=j at *
 generalize nearE d=nr at *
 generalize qint (qfld d 2)=o at *
 generalize qint (qfld d 3)=f at *
 generalize qint (qfld d 4)=w at *
 generalize qint (qfld d 5)=cc at *
 generalize qint (qfld d 6)=a at *
 generalize qint (qfld d 7)=b at *
 generalize qint (qfld d 1)=imm at *
 simp only[qiteB_c,qcmp_eql,qcmp_geq,qcmp_leq]
 rcases ocases o with h|h|rfl|rfl|h|rfl|rfl|rfl|rfl|rfl|rfl|rfl|rfl|rfl|rfl|rfl|rfl
 ·exfalso
  simp[shp,show¬o=0 by omega,show¬o=1 by omega,show¬o=2 by omega,show¬o=3 by omega,show¬o=4 by omega,show¬o=16 by omega,show¬o=17 by omega,show¬o=18 by omega,show¬o=19 by omega,show¬o=20 by omega,show¬o=21 by omega,show¬o=22 by omega,show¬o=23 by omega,show¬o=24 by omega,show¬o=25 by omega,show¬o=26 by omega,show¬o=27 by omega,show¬(0≤o∧o≤2)by omega,show¬(5≤o∧o≤15)by omega]at h1
 ·rcases h with rfl|rfl|rfl<;>simp[shp]at h1<;>subst h1<;>simp[opcB,qsome_s,qnth_s,wr8]
 ·simp[shp]at h1;subst h1;simp[opcB,qsome_s,qnth_s,p8]
 ·simp[shp]at h1;subst h1;simp[opcB,qsome_s,qnth_s,p16]
 ·obtain⟨h2,h3⟩:=h
  have hs5:qbin .sub .i64 o 5=o-5:=sub64 (by omega) (by omega)
  have e1:qwrap .u8 (qbin .add .i64 32 (o-5))=32+(o-5):=op8 (by omega)
  have e2:qwrap .u8 (qbin .add .i64 48 (o-5))=48+(o-5):=op8 (by omega)
  have e3:qwrap .u8 (qbin .add .i64 64 (o-5))=64+(o-5):=op8 (by omega)
  rw[hs5,e1,e2,e3]
  simp only[shp,h2,h3,show¬o=3 by omega,show¬o=4 by omega,show¬(0≤o∧o≤2)by omega,true_and,if_true,if_false,or_self]at h1
  by_cases f0:f=0
  ·rw[if_pos f0]at h1;injection h1 with h1;subst h1;simp[opcB,f0,h2,h3,show¬o=0 by omega,show¬o=1 by omega,show¬o=2 by omega,show¬o=3 by omega,show¬o=4 by omega,show¬o=16 by omega,show¬o=17 by omega,show¬o=18 by omega,show¬o=19 by omega,show¬o=20 by omega,show¬o=21 by omega,show¬o=22 by omega,show¬o=23 by omega,show¬o=24 by omega,show¬o=25 by omega,show¬o=26 by omega,show¬o=27 by omega,show¬o≤2 by omega]
  by_cases f1:f=1
  ·rw[if_neg f0,if_pos f1]at h1;injection h1 with h1;subst h1;simp[opcB,f1,h2,h3,show¬o=0 by omega,show¬o=1 by omega,show¬o=2 by omega,show¬o=3 by omega,show¬o=4 by omega,show¬o=16 by omega,show¬o=17 by omega,show¬o=18 by omega,show¬o=19 by omega,show¬o=20 by omega,show¬o=21 by omega,show¬o=22 by omega,show¬o=23 by omega,show¬o=24 by omega,show¬o=25 by omega,show¬o=26 by omega,show¬o=27 by omega,show¬o≤2 by omega]
  by_cases f2:f=2
  ·rw[if_neg f0,if_neg f1,if_pos f2]at h1;injection h1 with h1;subst h1;simp[opcB,f2,h2,h3,show¬o=0 by omega,show¬o=1 by omega,show¬o=2 by omega,show¬o=3 by omega,show¬o=4 by omega,show¬o=16 by omega,show¬o=17 by omega,show¬o=18 by omega,show¬o=19 by omega,show¬o=20 by omega,show¬o=21 by omega,show¬o=22 by omega,show¬o=23 by omega,show¬o=24 by omega,show¬o=25 by omega,show¬o=26 by omega,show¬o=27 by omega,show¬o≤2 by omega]
  ·rw[if_neg f0,if_neg f1,if_neg f2]at h1;cases h1
 ·simp only[shp]at h1
  by_cases w1:w=1
  ·simp[w1]at h1;subst h1;simp[opcB,w1,qsome_s,qnth_s,qint_i,cst]
  by_cases w2:w=2
  ·simp[w2]at h1;subst h1;simp[opcB,w2,qsome_s,qnth_s,qint_i,cst]
  by_cases w4:w=4
  ·simp[w4]at h1;subst h1;simp[opcB,w4,qsome_s,qnth_s,qint_i,cst]
  ·simp[w1,w2,w4]at h1
 ·simp only[shp]at h1
  by_cases w1:w=1
  ·simp[w1]at h1;subst h1;simp[opcB,w1,qsome_s,qnth_s,qint_i,cst]
  by_cases w2:w=2
  ·simp[w2]at h1;subst h1;simp[opcB,w2,qsome_s,qnth_s,qint_i,cst]
  ·simp[w1,w2]at h1
 ·simp only[shp]at h1
  by_cases w1:w=1
  ·simp[w1]at h1;subst h1;simp[opcB,w1,qsome_s,qnth_s,qint_i,cst]
  by_cases w2:w=2
  ·simp[w2]at h1;subst h1;simp[opcB,w2,qsome_s,qnth_s,qint_i,cst]
  by_cases w4:w=4
  ·simp[w4]at h1;subst h1;simp[opcB,w4,qsome_s,qnth_s,qint_i,cst]
  ·simp[w1,w2,w4]at h1
 ·simp[shp]at h1;subst h1;simp[opcB]
 ·by_cases hcc:0≤cc∧cc≤14
  ·have e1:qwrap .u8 (qbin .add .i64 96 cc)=96+cc:=op8 (by omega)
   have e2:qwrap .u8 (qbin .add .i64 112 cc)=112+cc:=op8 (by omega)
   rw[e1,e2]
   by_cases f1:f=1
   ·simp[shp,hcc,f1]at h1;subst h1;simp[opcB,f1]
   by_cases f2:f=2
   ·simp[shp,hcc,f2]at h1;subst h1;simp[opcB,f2]
   ·simp[shp,f1,f2]at h1
  ·simp[shp,hcc]at h1
 ·simp[shp]at h1;subst h1;simp[opcB,qsome_s,qnth_s]
 ·simp[shp]at h1;subst h1;simp[opcB]
 ·simp[shp]at h1;subst h1;simp[opcB]
 ·simp[shp]at h1;subst h1;simp[opcB,qsome_s,qnth_s]
 ·by_cases hcc:0≤cc∧cc≤14
  ·have e1:qwrap .u8 (qbin .add .i64 144 cc)=144+cc:=op8 (by omega)
   simp[shp,hcc]at h1;subst h1;simp[opcB,qsome_s,qnth_s,e1]
  ·simp[shp,hcc]at h1
 ·simp[shp]at h1;subst h1;simp[opcB,qsome_s,qnth_s]
 ·simp[shp]at h1;subst h1;simp[opcB,qsome_s,qnth_s]
end Go.Proofs.YtobhhfbdelnhfaaGreatDoor
namespace Go.Proofs.YtobhhfbdelnhfaaGreatDoor
set_option linter.unusedSimpArgs false
open Go Go.AM
theorem pw (k:Nat) (z:Int) (hz:(2:Int)^(min (Int.toNat (8*k)) IntKind.u32.bits)=z) (h0:0<z) (n:Int):qbin .shr .u32 n ((8*k:Nat):Int)=n/z:=by
 rw[qbin_eq];simp only[rbin]
 rw[show((8*k:Nat):Int)=8*(k:Int)by omega,hz,Int.fdiv_eq_ediv_of_nonneg _ (by omega)]
theorem shr0 (n:Int):qbin .shr .u32 n 0=n:=by have:=pw 0 1 rfl (by omega) n;simpa using this
theorem shr8 (n:Int):qbin .shr .u32 n 8=n/256:=by have:=pw 1 256 rfl (by omega) n;simpa using this
theorem shr16 (n:Int):qbin .shr .u32 n 16=n/65536:=by have:=pw 2 65536 rfl (by omega) n;simpa using this
theorem shr24 (n:Int):qbin .shr .u32 n 24=n/16777216:=by have:=pw 3 16777216 rfl (by omega) n;simpa using this
theorem rd8 (n:Int):qwrap .u8 n=n%256:=by rw[qwrap_eq,wrap8]
theorem mul8 (k:Nat) (h:k≤10):qbin .mul .i64 8 (k:Int)=((8*k:Nat):Int):=by rw[qbin_eq];simp only[rbin];rw[wrap64 (by omega) (by omega)];omega
theorem qmemS {n z:Nat} (hn:n≤1000) (hz:z≤100):qmem (n:Int) z=true:=by
 rw[qmem_eq]
 unfold rmem
 have h:(n:Int)*z≤1000*100:=by
  have h1:n*z≤1000*100:=Nat.mul_le_mul hn hz
  have h2:((n*z:Nat):Int)=(n:Int)*(z:Int):=by simp
  omega
 simp
 omega
theorem app_list (xs ys:List D):qapp (.list xs) (.list ys) = .list (xs++ys):=by rw[qapp_eq];rfl
theorem len_list (xs:List D):qlen (.list xs)=(xs.length:Int):=by rw[qlen_c];rfl
theorem put_step {n:Int} (k:Nat) {xs:List D} (hk:k<4) (hx:xs.length≤900):
 st49_5 [.int n, .int 4] [.int k, .list xs]=some (.inl [.int ((k+1:Nat):Int), .list (xs ++ [.int (qwrap .u8 (qbin .shr .u32 n ((8*k:Nat):Int)))])]):=by
 rw[st49_5_eq,mul8 k (by omega),add_nat (i:=k) (by omega),app_list,len_list]
 have h1:qcmp .lss (k:Int) 4=true:=by rw[qcmp_lss];simp;omega
 have h2:qcmp .geq ((8*k:Nat):Int) 0=true:=by rw[qcmp_geq];simp;omega
 rw[h1,h2,qmemS (by simp;omega) (by omega)]
 rfl
theorem put_spec {n:Int} (h0:0≤n∧n<4294967296) {xs:List D} (hx:xs.length≤800):q49 [.list xs, .int n, .int 4]=some [.list (xs++(wordE n).map D.int)]:=by
 have hcl:q130 [.list xs]=some [.list xs]:=by
  rw[q130_eq]
  simp only[F130,List.headD_cons,app_list,List.nil_append,len_list,qmemS (show xs.length≤1000 by omega) (show 1≤100 by omega),cond_true]
 have hl:l49_5 [.int n, .int 4] [.int 0, .list xs]=some [.int 0, .list (xs++(wordE n).map D.int)]:=by
  rw[l49_5_eq]
  simp only
  have s0:=put_step (n:=n) 0 (xs:=xs) (by omega) (by omega)
  rw[loW_eq,show(0:Int)=((0:Nat):Int)from rfl,s0]
  simp only
  rw[loW_eq,put_step 1 (by omega) (by simp;omega)]
  simp only
  rw[loW_eq,put_step 2 (by omega) (by simp;omega)]
  simp only
  rw[loW_eq,put_step 3 (by omega) (by simp;omega)]
  simp only
  rw[loW_eq,st49_5_eq,show qcmp .lss ((3+1:Nat):Int) 4=false by rw[qcmp_lss];rfl]
  simp only[cond_false]
  rw[show((8*0:Nat):Int)=0 from rfl,show((8*1:Nat):Int)=8 from rfl,show((8*2:Nat):Int)=16 from rfl,show((8*3:Nat):Int)=24 from rfl,shr0,shr8,shr16,shr24,rd8,rd8,rd8,wr8 (by omega) (by omega)]
  simp[wordE]
 rw[q49_eq,F49_eq,hcl]
 simp[qsome_s,qnth_s,hl,qcmp_eql,qiteB_c,qnot_c]
theorem ors:((List.range 8).all fun a=>(List.range 8).all fun b=>decide (IntKind.u8.wrap (rbin .or .i64 (rbin .shl .i64 (a:Int) 4) (b:Int))=16*(a:Int)+(b:Int)))=true:=by kernel_rfl
theorem or8 {a b:Int} (ha:0≤a∧a<8) (hb:0≤b∧b<8):qwrap .u8 (qbin .or .i64 (qbin .shl .i64 a 4) b)=16*a+b:=by
 obtain⟨i,rfl⟩:=Int.eq_ofNat_of_zero_le ha.1
 obtain⟨j,rfl⟩:=Int.eq_ofNat_of_zero_le hb.1
 have h:=List.all_eq_true.1 ors i (by simp;omega)
 have h:=List.all_eq_true.1 h j (by simp;omega)
 rw[qwrap_eq,qbin_eq]
 exact of_decide_eq_true h
theorem next32 (x y:Int) {k:Int} (h:0≤k∧k<100):qbin .sub .u32 x (qbin .add .u32 y (qwrap .u32 k))=qbin .sub .u32 (qbin .sub .u32 x y) k:=by
 rw[qbin_eq,qwrap_eq];simp only[rbin,wrap32'];omega
theorem word_len (n:Int):(wordE n).length=4:=rfl
theorem enc_ok {d:D} {s:Int} (h:hasS d s) (hi:0≤qint (qfld d 1)∧qint (qfld d 1)<4294967296):q17 [d]=some [.list ((encB d s).map D.int), .int 0]:=by
 have h69:q47 [d]=some [.int (opcB (qint (qfld d 2)) (qint (qfld d 3)) (qint (qfld d 4)) (qint (qfld d 5)) (qint (qfld d 6))), .int s, .int 0]:=by
  rcases chk69 d with⟨c,s',h1,h2,h3⟩|⟨e,_,_,hn,_⟩
  ·obtain rfl:=hasS_un h h2
   rw[h1,op_code h h3]
  ·exact absurd h (hn s)
 have h0:=shp_le h.1
 have h2:=h.2
 unfold okA at h2
 obtain⟨ha,hb,_⟩:=h2
 have hs8:qwrap .u8 (short d)=short d%256:=rd8 _
 have hi8:qwrap .u8 (qint (qfld d 1))=qint (qfld d 1)%256:=rd8 _
 have ha8:qwrap .u8 (qint (qfld d 6))=qint (qfld d 6):=wr8 (by omega) (by omega)
 rw[q17_eq,F17_eq,h69]
 simp only[qsome_s,qnth_s,List.getD_cons_zero,List.getD_cons_succ,qint_i,size_spec h0,cond_true,ha8,hi8,or8 ha hb,next32 _ _ (show 0≤sLen s∧sLen s<100 by have:=sLen_pos s;omega)]
 unfold encB
 generalize opcB (qint (qfld d 2)) (qint (qfld d 3)) (qint (qfld d 4)) (qint (qfld d 5)) (qint (qfld d 6))=c
 obtain rfl|rfl|rfl|rfl|rfl|rfl|rfl|rfl|rfl:s=0∨s=1∨s=2∨s=3∨s=4∨s=5∨s=6∨s=7∨s=8:=by omega
 ·simp[qcmp_eql,qcmp_neq]
 ·simp[qcmp_eql,qcmp_neq]
 ·simp[qcmp_eql,qcmp_neq]
 ·simp[qcmp_eql,qcmp_neq]
 ·simp[qcmp_eql,qcmp_neq]
 ·simp[qcmp_eql,qcmp_neq]
 ·simp[qcmp_eql,qcmp_neq,put_spec hi (xs:=[.int c, .int (qint (qfld d 6))]) (by simp),qsome_s,qnth_s]
 ·rw[show qbin BinOp.sub IntKind.u32 (qbin BinOp.sub IntKind.u32 (qint (qfld d 1)) (qint (qfld d 0))) (sLen 7)=short d from rfl,hs8]
  simp[qcmp_eql,qcmp_neq]
 ·rw[show qbin BinOp.sub IntKind.u32 (qbin BinOp.sub IntKind.u32 (qint (qfld d 1)) (qint (qfld d 0))) (sLen 8)=nearE d from rfl]
  simp[qcmp_eql,qcmp_neq,put_spec (n:=nearE d) (sub32 _ _) (xs:=[.int c]) (by simp),qsome_s,qnth_s]
theorem enc_ref {d:D} {s:Int} (h:hasS d s) (hi:0≤qint (qfld d 1)∧qint (qfld d 1)<4294967296):q80 [d]=some [.list ((encB d s).map D.int), .int 0]:=by
 obtain⟨e',h126,he',_⟩:=chk126 d
 obtain rfl:=he'.2 ⟨s,h⟩
 rw[q80_eq,F80_eq,h126,ref_bytes h hi]
 simp[qsome_s,qnth_s,qint_i,qcmp_neq]
end Go.Proofs.YtobhhfbdelnhfaaGreatDoor
namespace Go.Proofs.YtobhhfbdelnhfaaGreatDoor
set_option linter.unusedSimpArgs false
set_option linter.unusedVariables false
open Go Go.AM
def bs (l:List UInt8):ByteArray:=⟨⟨l⟩⟩
theorem bs_size (l:List UInt8):(bs l).size=l.length:=rfl
theorem catB (a b:List UInt8):qcat (bs a) (bs b)=bs (a++b):=by
 simp only[qcat,veil_eq]
 apply ByteArray.ext
 rw[← Array.toList_inj,ByteArray.toList_data_append]
 rfl
theorem catOkB {a b:List UInt8} (h:a.length+b.length≤1000000):qcatOk (bs a) (bs b)=true:=by
 simp only[qcatOk,veil_eq]
 show decide (((a.length+b.length:Nat):Int)≤9223372036854775807)=true
 rw[decide_eq_true_eq];omega
def hx (d:Nat):UInt8:=UInt8.ofNat (if d<10 then 48+d else 87+d)
def digs (b n:Nat):List UInt8:=if h:n<b∨b<2 then[hx n]else digs b (n/b) ++ [hx (n%b)]
termination_by n
decreasing_by exact Nat.div_lt_self (by omega) (by omega)
theorem digs_lt {b n:Nat} (h:n<b):digs b n = [hx n]:=by rw[digs,dif_pos (.inl h)]
theorem digs_ge {b n:Nat} (h:b≤n) (hb:2≤b):digs b n=digs b (n/b) ++ [hx (n%b)]:=by rw[digs,dif_neg (by omega)]
theorem dec_digs (n:Nat):Lib.decDigits n=digs 10 n:=by
 induction n using Nat.strongRecOn with
 |_ n ih=>
  rw[Lib.decDigits]
  by_cases h:n<10
  ·rw[dif_pos h,digs_lt h];simp[hx,h]
  ·rw[dif_neg h,digs_ge (by omega) (by omega),ih _ (by omega)]
   have:n%10<10:=Nat.mod_lt _ (by omega)
   simp[hx,this]
theorem digs_len {b:Nat} (hb:2≤b):∀(k n:Nat),n<b^(k+1)→(digs b n).length≤k+1
 |0,n,h=>by rw[digs_lt (by simpa using h)];simp
 |k+1,n,h=>by
  by_cases h1:n<b
  ·rw[digs_lt h1];simp
  ·rw[digs_ge (by omega) hb,List.length_append]
   have:=digs_len hb k (n/b) (by rw[Nat.div_lt_iff_lt_mul (by omega)];rw[Nat.pow_succ]at h;exact h)
   simp;omega
theorem mU8 (n:Int):IntKind.u8.wrap n=n%256:=by simp[IntKind.wrap,IntKind.bits,IntKind.signed]
theorem mU32 (n:Int):IntKind.u32.wrap n=n%4294967296:=by simp[IntKind.wrap,IntKind.bits,IntKind.signed]
theorem mU64 (n:Int):IntKind.u64.wrap n=n%18446744073709551616:=by simp[IntKind.wrap,IntKind.bits,IntKind.signed]
theorem w64 (n:Nat) (h:n<18446744073709551616):qwrap .u64 (n:Int)=n:=by
 rw[qwrap_eq,mU64];omega
theorem w32 (n:Nat) (h:n<4294967296):qwrap .u32 (n:Int)=n:=by
 rw[qwrap_eq,mU32];omega
theorem shr4 (n:Nat):qbin .shr .u64 (n:Int) 4=((n/16:Nat):Int):=by
 rw[qbin_eq];simp only[rbin,IntKind.bits]
 show Int.fdiv (n:Int) 16=_
 rw[Int.fdiv_eq_ediv_of_nonneg _ (by omega)];omega
theorem and15 (n:Nat):qbin .and .u64 (n:Int) 15=((n%16:Nat):Int):=by
 rw[qbin_eq];simp only[rbin,IntKind.bits]
 have h:(BitVec.ofInt 64 (n:Int) &&& BitVec.ofInt 64 15).toNat=n%16:=by
  rw[BitVec.toNat_and,BitVec.toNat_ofInt,BitVec.toNat_ofInt]
  have e1:((n:Int)%((2^64:Nat):Int)).toNat=n%2^64:=by omega
  have e2:((15:Int)%((2^64:Nat):Int)).toNat=2^4-1:=by decide
  rw[e1,e2,Nat.and_two_pow_sub_one_eq_mod]
  omega
 show IntKind.u64.wrap ((BitVec.ofInt 64 (n:Int) &&& BitVec.ofInt 64 15).toNat:Int)=_
 rw[h,mU64];omega
theorem remN (n k:Nat):qbin .rem .u32 (n:Int) (k:Int)=((n%k:Nat):Int):=by rw[qbin_eq];rfl
theorem quoN (n k:Nat) (h:n<4294967296):qbin .quo .u32 (n:Int) (k:Int)=((n/k:Nat):Int):=by
 rw[qbin_eq];simp only[rbin]
 show IntKind.u32.wrap ((n/k:Nat):Int)=_
 have:=Nat.div_le_self n k
 rw[mU32];generalize n/k=q at *;omega
theorem addN (n k:Nat) (h:n+k<4294967296):qbin .add .u32 (n:Int) (k:Int)=((n+k:Nat):Int):=by
 rw[qbin_eq];simp only[rbin,mU32];omega
theorem geN (n k:Nat):qcmp .geq (n:Int) (k:Int)=decide (k≤n):=by rw[qcmp_geq];exact decide_eq_decide.2 (by omega)
theorem leN (n k:Nat):qcmp .leq (n:Int) (k:Int)=decide (n≤k):=by rw[qcmp_leq];exact decide_eq_decide.2 (by omega)
def d36:ByteArray:=ByteArray.mk #[48,49,50,51,52,53,54,55,56,57,97,98,99,100,101,102,103,104,105,106,107,108,109,110,111,112,113,114,115,116,117,118,119,120,121,122]
theorem d36_def:ByteArray.mk #[48,49,50,51,52,53,54,55,56,57,97,98,99,100,101,102,103,104,105,106,107,108,109,110,111,112,113,114,115,116,117,118,119,120,121,122]=d36:=rfl
theorem idx36_fin:∀k:Fin 16,(d36.data.toList.getD k.val 0)=hx k.val:=by decide +kernel
theorem idx36 (k:Nat) (h:k<16):qidxS d36 (k:Int)=((hx k).toNat:Int):=by
 rw[qidxS_eq];simp only[ridxS,ByteArray.toList_eq,Int.toNat_natCast];rw[idx36_fin ⟨k,h⟩]
theorem inb36 (k:Nat) (h:k<16):qinbS d36 (k:Int)=true:=by
 have hs:d36.size=36:=rfl
 rw[qinbS_eq];simp only[rinbS,hs,Bool.and_eq_true,decide_eq_true_eq];omega
def d16:ByteArray:=ByteArray.mk #[48,49,50,51,52,53,54,55,56,57,97,98,99,100,101,102]
theorem d16_def:ByteArray.mk #[48,49,50,51,52,53,54,55,56,57,97,98,99,100,101,102]=d16:=rfl
theorem sub16_fin:∀k:Fin 16,(d16.data.toList.drop k.val).take 1 = [hx k.val]:=by decide +kernel
theorem sub16 (k:Nat) (h:k<16):qsubS d16 (k:Int) ((k+1:Nat):Int)=bs [hx k]:=by
 rw[qsubS_eq]
 apply ByteArray.ext
 rw[← Array.toList_inj]
 simp only[Int.toNat_natCast,ByteArray.data_extract,Array.toList_extract,List.extract_eq_take_drop]
 rw[show k+1-k=1 by omega]
 exact sub16_fin ⟨k,h⟩
theorem len16:qlenS d16=((16:Nat):Int):=by rw[qlenS_eq];rfl
theorem push_list (l:List D):∀(r:ByteArray),(l.foldl (fun r x=>r.push (UInt8.ofNat x.toInt.toNat)) r).data.toList=r.data.toList++l.map fun x=>UInt8.ofNat x.toInt.toNat:=by
 induction l with
 |nil=>intro r;simp
 |cons x l ih=>intro r;rw[List.foldl_cons,ih];simp[ByteArray.push]
theorem textL (l:List D):qtext (.list l)=bs (l.map fun x=>UInt8.ofNat x.toInt.toNat):=by
 rw[qtext_eq]
 apply ByteArray.ext
 rw[← Array.toList_inj]
 unfold D.text
 rw[push_list]
 rfl
theorem of8 (c:UInt8):UInt8.ofNat (Int.toNat (D.toInt (.int (c.toNat:Int))))=c:=by simp[D.toInt]
theorem spec25 (n:Nat) (h:n<4294967296):q25 [.int n]=some [.str (bs (48::120::digs 16 n))]:=by
 rw[q25_eq,F25_eq]
 have m16:∀k:Nat,k%16<16:=fun k=>Nat.mod_lt _ (by omega)
 have i15:∀k:Nat,qinbS d36 ((k%16:Nat):Int)=true:=fun k=>inb36 _ (m16 k)
 have x15:∀k:Nat,qidxS d36 ((k%16:Nat):Int)=((hx (k%16)).toNat:Int):=fun k=>idx36 _ (m16 k)
 have b0:ByteArray.mk #[48,120]=bs [48,120]:=rfl
 have g16:∀k:Nat,qcmp .geq (k:Int) 16=decide (16≤k):=fun k=>geN k 16
 simp only[d36_def,w64 n (by omega),shr4,and15,g16,i15,x15,cond_true,b0,textL,List.map_cons,List.map_nil,of8]
 by_cases h0:16≤n
 ·simp only[h0,decide_true,cond_true]
  by_cases h1:16≤(n/16)
  ·simp only[h1,decide_true,cond_true]
   by_cases h2:16≤((n/16)/16)
   ·simp only[h2,decide_true,cond_true]
    by_cases h3:16≤(((n/16)/16)/16)
    ·simp only[h3,decide_true,cond_true]
     by_cases h4:16≤((((n/16)/16)/16)/16)
     ·simp only[h4,decide_true,cond_true]
      by_cases h5:16≤(((((n/16)/16)/16)/16)/16)
      ·simp only[h5,decide_true,cond_true]
       by_cases h6:16≤((((((n/16)/16)/16)/16)/16)/16)
       ·simp only[h6,decide_true,cond_true]
        by_cases h7:16≤(((((((n/16)/16)/16)/16)/16)/16)/16)
        ·simp only[h7,decide_true,cond_true]
         exfalso;omega
        ·simp only[h7,decide_false,cond_false,inb36 _ (Nat.lt_of_not_le h7),idx36 _ (Nat.lt_of_not_le h7),of8,cond_true]
         rw[catOkB (by simp),catB,digs_ge h0 (by omega),digs_ge h1 (by omega),digs_ge h2 (by omega),digs_ge h3 (by omega),digs_ge h4 (by omega),digs_ge h5 (by omega),digs_ge h6 (by omega),digs_lt (Nat.lt_of_not_le h7)]
         rfl
       ·simp only[h6,decide_false,cond_false,inb36 _ (Nat.lt_of_not_le h6),idx36 _ (Nat.lt_of_not_le h6),of8,cond_true]
        rw[catOkB (by simp),catB,digs_ge h0 (by omega),digs_ge h1 (by omega),digs_ge h2 (by omega),digs_ge h3 (by omega),digs_ge h4 (by omega),digs_ge h5 (by omega),digs_lt (Nat.lt_of_not_le h6)]
        rfl
      ·simp only[h5,decide_false,cond_false,inb36 _ (Nat.lt_of_not_le h5),idx36 _ (Nat.lt_of_not_le h5),of8,cond_true]
       rw[catOkB (by simp),catB,digs_ge h0 (by omega),digs_ge h1 (by omega),digs_ge h2 (by omega),digs_ge h3 (by omega),digs_ge h4 (by omega),digs_lt (Nat.lt_of_not_le h5)]
       rfl
     ·simp only[h4,decide_false,cond_false,inb36 _ (Nat.lt_of_not_le h4),idx36 _ (Nat.lt_of_not_le h4),of8,cond_true]
      rw[catOkB (by simp),catB,digs_ge h0 (by omega),digs_ge h1 (by omega),digs_ge h2 (by omega),digs_ge h3 (by omega),digs_lt (Nat.lt_of_not_le h4)]
      rfl
    ·simp only[h3,decide_false,cond_false,inb36 _ (Nat.lt_of_not_le h3),idx36 _ (Nat.lt_of_not_le h3),of8,cond_true]
     rw[catOkB (by simp),catB,digs_ge h0 (by omega),digs_ge h1 (by omega),digs_ge h2 (by omega),digs_lt (Nat.lt_of_not_le h3)]
     rfl
   ·simp only[h2,decide_false,cond_false,inb36 _ (Nat.lt_of_not_le h2),idx36 _ (Nat.lt_of_not_le h2),of8,cond_true]
    rw[catOkB (by simp),catB,digs_ge h0 (by omega),digs_ge h1 (by omega),digs_lt (Nat.lt_of_not_le h2)]
    rfl
  ·simp only[h1,decide_false,cond_false,inb36 _ (Nat.lt_of_not_le h1),idx36 _ (Nat.lt_of_not_le h1),of8,cond_true]
   rw[catOkB (by simp),catB,digs_ge h0 (by omega),digs_lt (Nat.lt_of_not_le h1)]
   rfl
 ·simp only[h0,decide_false,cond_false,inb36 _ (Nat.lt_of_not_le h0),idx36 _ (Nat.lt_of_not_le h0),of8,cond_true]
  rw[catOkB (by simp),catB,digs_lt (Nat.lt_of_not_le h0)]
  rfl
noncomputable def nxt (st:List D→Option (Sum (List D) (List D))) (x:Option (Sum (List D) (List D))):Option (List D):=match x with|none=>none|some (.inl s')=>loW st s'|some (.inr d)=>some d
theorem nxt_l (st:List D→Option (Sum (List D) (List D))) (s:List D):nxt st (some (.inl s))=loW st s:=rfl
theorem nxt_r (st:List D→Option (Sum (List D) (List D))) (s:List D):nxt st (some (.inr s))=some s:=rfl
theorem nxtW (st:List D→Option (Sum (List D) (List D))) (s:List D):loW st s=nxt st (st s):=by
 rw[loW_eq];unfold nxt
 cases st s with
 |none=>rfl
 |some x=>cases x<;>rfl
theorem loop30 (ps:ByteArray):∀(k n:Nat) (r:List UInt8),n<10^(k+1)→n<4294967296→r.length+k≤1000→l30_2 [.str ps] [.int n, .str (bs (hx (n%10)::r))]=some [.int 0, .str (bs (digs 10 n++r))]:=by
 intro k
 induction k with
 |zero=>
  intro n r h0 h hr
  rw[l30_2_eq]
  show loW (st30_2 [.str ps]) _=_
  rw[nxtW,st30_2_eq,show qcmp .geq (n:Int) 10=decide (10≤n)from geN n 10,decide_eq_false (by omega),digs_lt (by omega)]
  simp only[cond_false,nxt_r]
  rw[Nat.mod_eq_of_lt (by omega)];rfl
 |succ k ih=>
  intro n r h0 h hr
  rw[l30_2_eq]
  show loW (st30_2 [.str ps]) _=_
  rw[nxtW,st30_2_eq]
  have h10:n/10%10<10:=Nat.mod_lt _ (by omega)
  have e1:qbin .quo .u32 (n:Int) 10=((n/10:Nat):Int):=quoN n 10 h
  have e2:qbin .rem .u32 ((n/10:Nat):Int) 10=((n/10%10:Nat):Int):=remN _ 10
  have e3:qbin .add .u32 48 ((n/10%10:Nat):Int)=((48+n/10%10:Nat):Int):=addN 48 _ (by omega)
  have e4:qwrap .u8 ((48+n/10%10:Nat):Int)=((hx (n/10%10)).toNat:Int):=by
   rw[qwrap_eq,mU8];simp only[hx,h10,if_true,UInt8.toNat_ofNat'];omega
  rw[show qcmp .geq (n:Int) 10=decide (10≤n)from geN n 10,e1,e2,e3,e4]
  simp only[textL,List.map_cons,List.map_nil,of8]
  by_cases hn:10≤n
  ·rw[decide_eq_true hn,catOkB (by simp;omega),catB]
   simp only[cond_true,List.cons_append,List.nil_append,nxt_l]
   have:=ih (n/10) (hx (n%10)::r) (by rw[Nat.div_lt_iff_lt_mul (by omega)];rw[Nat.pow_succ]at h0;exact h0) (by omega) (by simp;omega)
   rw[l30_2_eq]at this
   rw[show loW (st30_2 [.str ps]) [.int ((n/10:Nat):Int), .str (bs (hx (n/10%10)::hx (n%10)::r))]=_ from this,digs_ge hn (by omega)]
   simp
  ·rw[decide_eq_false hn,digs_lt (by omega)]
   simp only[cond_false,nxt_r]
   rw[Nat.mod_eq_of_lt (by omega)];rfl
theorem spec30 (n:Nat) (h:n<4294967296):q30 [.int n]=some [.str (bs (digs 10 n))]:=by
 rw[q30_eq,F30_eq]
 have h10:n%10<10:=Nat.mod_lt _ (by omega)
 have e2:qbin .rem .u32 (n:Int) 10=((n%10:Nat):Int):=remN _ 10
 have e3:qbin .add .u32 48 ((n%10:Nat):Int)=((48+n%10:Nat):Int):=addN 48 _ (by omega)
 have e4:qwrap .u8 ((48+n%10:Nat):Int)=((hx (n%10)).toNat:Int):=by
  rw[qwrap_eq,mU8];simp only[hx,h10,if_true,UInt8.toNat_ofNat'];omega
 rw[e2,e3,e4]
 simp only[textL,List.map_cons,List.map_nil,of8]
 have:=loop30 (ByteArray.mk #[]) 9 n [] (by omega) h (by simp)
 rw[this]
 simp[qsome_s,qnth_s,qstr_s]
theorem loop34 (ps:ByteArray):∀(k n:Nat) (r:List UInt8),n<16^(k+1)→n<4294967296→r.length+k≤1000→l34_3 [.str ps, .str d16] [.int n, .str (bs (hx (n%16)::r))]=some [.int 0, .str (bs (digs 16 n++r))]:=by
 intro k
 induction k with
 |zero=>
  intro n r h0 h hr
  rw[l34_3_eq]
  show loW (st34_3 [.str ps, .str d16]) _=_
  rw[nxtW,st34_3_eq,show qcmp .geq (n:Int) 16=decide (16≤n)from geN n 16,decide_eq_false (by omega),digs_lt (by omega)]
  simp only[cond_false,nxt_r]
  rw[Nat.mod_eq_of_lt (by omega)];rfl
 |succ k ih=>
  intro n r h0 h hr
  rw[l34_3_eq]
  show loW (st34_3 [.str ps, .str d16]) _=_
  rw[nxtW,st34_3_eq]
  have h16:n/16%16<16:=Nat.mod_lt _ (by omega)
  have e1:qbin .quo .u32 (n:Int) 16=((n/16:Nat):Int):=quoN n 16 h
  have e2:qbin .rem .u32 ((n/16:Nat):Int) 16=((n/16%16:Nat):Int):=remN _ 16
  have e3:qbin .add .u32 ((n/16%16:Nat):Int) 1=((n/16%16+1:Nat):Int):=addN _ 1 (by omega)
  rw[show qcmp .geq (n:Int) 16=decide (16≤n)from geN n 16,e1,e2,e3,sub16 _ h16,len16,leN,leN,show qcmp .leq 0 ((n/16%16:Nat):Int)=decide (0≤n/16%16)from leN 0 _,
   decide_eq_true (show 0≤n/16%16 by omega),decide_eq_true (show n/16%16≤n/16%16+1 by omega),decide_eq_true (show n/16%16+1≤16 by omega)]
  simp only[cond_true]
  by_cases hn:16≤n
  ·rw[decide_eq_true hn,catOkB (by simp;omega),catB]
   simp only[cond_true,List.cons_append,List.nil_append,nxt_l]
   have:=ih (n/16) (hx (n%16)::r) (by rw[Nat.div_lt_iff_lt_mul (by omega)];rw[Nat.pow_succ]at h0;exact h0) (by omega) (by simp;omega)
   rw[l34_3_eq]at this
   rw[show loW (st34_3 [.str ps, .str d16]) [.int ((n/16:Nat):Int), .str (bs (hx (n/16%16)::hx (n%16)::r))]=_ from this,digs_ge hn (by omega)]
   simp
  ·rw[decide_eq_false hn,digs_lt (by omega)]
   simp only[cond_false,nxt_r]
   rw[Nat.mod_eq_of_lt (by omega)];rfl
theorem spec34 (n:Nat) (h:n<4294967296):q34 [.int n]=some [.str (bs (48::120::digs 16 n))]:=by
 rw[q34_eq,F34_eq]
 have h16:n%16<16:=Nat.mod_lt _ (by omega)
 have e2:qbin .rem .u32 (n:Int) 16=((n%16:Nat):Int):=remN _ 16
 have e3:qbin .add .u32 ((n%16:Nat):Int) 1=((n%16+1:Nat):Int):=addN _ 1 (by omega)
 have b0:ByteArray.mk #[48,120]=bs [48,120]:=rfl
 have:=loop34 (ByteArray.mk #[]) 7 n [] (by omega) h (by simp)
 rw[d16_def,e2,e3,sub16 _ h16,len16,leN,leN,show qcmp .leq 0 ((n%16:Nat):Int)=decide (0≤n%16)from leN 0 _,
  decide_eq_true (show 0≤n%16 by omega),decide_eq_true (show n%16≤n%16+1 by omega),decide_eq_true (show n%16+1≤16 by omega),this,b0]
 have hl:=digs_len (b:=16) (by omega) 7 n (by omega)
 simp only[cond_true,qsome_s,qnth_s,List.getD_cons_succ,List.getD_cons_zero,qstr_s,List.append_nil]
 rw[catOkB (by simp;omega),catB]
 rfl
end Go.Proofs.YtobhhfbdelnhfaaGreatDoor
namespace Go.Proofs.YtobhhfbdelnhfaaGreatDoor
set_option linter.unusedSimpArgs false
set_option linter.unusedVariables false
open Go Go.AM
theorem mkB (l:List UInt8):ByteArray.mk l.toArray=bs l:=rfl
def nameL (l:List (List UInt8)):D:= .list (l.map fun x=> .str (bs x))
theorem nameL_get {l:List (List UInt8)} {k:Nat} (h:k<l.length):qget (nameL l) (k:Int) = .str (bs (l.getD k [])):=by
 rw[qget_n];simp[nameL,D.toList,List.getD,h]
theorem nameL_inb {l:List (List UInt8)} {k:Nat} (h:k<l.length):qinb (nameL l) (k:Int)=true:=by
 rw[qinb_c];simp[nameL,D.toList];omega
def ccL:List (List UInt8):=[[97,108],[101,113],[110,101],[108,116],[103,101],[108,101],[103,116],[98],[97,101],[98,101],[97],[110,101,103],[112,111,115],[111,118],[110,111]]
def opL:List (List UInt8):=[[109,111,118],[97,100,100],[115,117,98],[97,110,100],[111,114],[120,111,114],[109,117,108],[115,104,108],[115,104,114],[115,97,114],[99,109,112]]
def plL:List (List UInt8):=[[110,111,112],[104,97,108,116],[114,101,116],[112,117,115,104,32],[112,111,112,32]]
def ccT (k:Nat):List UInt8:=ccL.getD k []
def opT (k:Nat):List UInt8:=opL.getD k []
theorem short_of {l:List (List UInt8)} (h:l.all (fun x=>decide (x.length≤5))=true) (k:Nat):(l.getD k []).length≤5:=by
 rw[List.getD]
 cases hk:l[k]? with
 |none=>simp
 |some x=>
  have:=List.all_eq_true.1 h x (List.mem_of_getElem? hk)
  simpa using this
theorem ccT_len (k:Nat):(ccT k).length≤5:=short_of (by decide +kernel) k
theorem opT_len (k:Nat):(opT k).length≤5:=short_of (by decide +kernel) k
theorem spec26 {k:Nat} (h:k<15):q26 [.int k]=some [.str (bs (ccT k))]:=by
 rw[q26_eq]
 have e:F26 [.int (k:Int)]=(bif qcmp .leq 0 (k:Int)then(bif qcmp .lss (k:Int) 15 then(bif qinb (nameL ccL) (k:Int)then some [.str (qstr (qget (nameL ccL) (k:Int)))]else none)else none)else none):=F26_eq (k:Int)
 rw[e,nameL_inb (l:=ccL) h,nameL_get (l:=ccL) h,qcmp_leq,qcmp_lss,decide_eq_true (show(0:Int)≤(k:Int)by omega),decide_eq_true (show(k:Int)<15 by omega),qstr_s]
 rfl
theorem sub5 {o:Int} (h:5≤o∧o≤15):qbin .sub .i64 o 5=(((o-5).toNat:Nat):Int):=by
 rw[qbin_eq];simp only[rbin];rw[wrap64' (by omega) (by omega)];omega
theorem spec56 {o:Int} (h:5≤o∧o≤15):q56 [.int o]=some [.str (bs (opT (o-5).toNat))]:=by
 rw[q56_eq]
 have hk:(o-5).toNat<opL.length:=by show _<11;omega
 have e:F56 [.int o]=(bif qcmp .leq 0 (qbin .sub .i64 o 5)then(bif qcmp .lss (qbin .sub .i64 o 5) 11 then(bif qinb (nameL opL) (qbin .sub .i64 o 5)then some [.str (qstr (qget (nameL opL) (qbin .sub .i64 o 5)))]else none)else none)else none):=F56_eq o
 rw[e,sub5 h,nameL_inb hk,nameL_get hk,qcmp_leq,qcmp_lss,decide_eq_true (show(0:Int)≤((o-5).toNat:Int)by omega),decide_eq_true (show((o-5).toNat:Int)<11 by omega),qstr_s]
 rfl
theorem spec35:q35 []=some [nameL ccL]:=by rw[q35_eq];exact F35_eq
theorem spec57:q57 []=some [nameL opL]:=by rw[q57_eq];exact F57_eq
theorem mI32 (n:Int):IntKind.i32.wrap n=if n%4294967296<2147483648 then n%4294967296 else n%4294967296-4294967296:=by
 simp[IntKind.wrap,IntKind.bits,IntKind.signed]
 by_cases h:n%4294967296<2147483648
 ·rw[if_pos h,if_neg (by omega)]
 ·rw[if_neg h,if_pos (by omega)]
theorem mI8 (n:Int):IntKind.i8.wrap n=if n%256<128 then n%256 else n%256-256:=by
 simp[IntKind.wrap,IntKind.bits,IntKind.signed]
 by_cases h:n%256<128
 ·rw[if_pos h,if_neg (by omega)]
 ·rw[if_neg h,if_pos (by omega)]
theorem itoaN (n:Nat):qitoa (n:Int)=bs (digs 10 n):=by
 simp only[qitoa,veil_eq,Lib.itoa]
 rw[if_neg (by omega),Int.toNat_natCast,dec_digs];rfl
theorem itoaM (n:Nat) (h:0<n):qitoa (-(n:Int))=bs (45::digs 10 n):=by
 simp only[qitoa,veil_eq,Lib.itoa]
 rw[if_pos (by omega),Int.natAbs_neg,Int.natAbs_natCast,dec_digs];rfl
def rg (k:Int):UInt8:=hx k.toNat
theorem bnd (n:Nat) (h:n≤4294967296):qcmp .leq (-9223372036854775808) (n:Int)=true∧qcmp .leq (n:Int) 9223372036854775807=true:=by
 rw[qcmp_leq,qcmp_leq];exact⟨decide_eq_true (by omega),decide_eq_true (by omega)⟩
theorem spec21 {k:Int} (h:0≤k∧k<8):q21 [.int k]=some [.str (bs [114,rg k])]:=by
 obtain⟨n,rfl⟩:=Int.eq_ofNat_of_zero_le h.1
 obtain⟨b1,b2⟩:=bnd n (by omega)
 rw[q21_eq,F21_eq,b1,b2,itoaN,digs_lt (by omega)]
 simp(disch:=(simp only[List.length_append,List.length_cons,List.length_nil];omega)) only[qsome_s,qnth_s,List.getD_cons_zero,qstr_s,qbool_b,cond_true,cond_false,mkB,catOkB,catB]
 rfl
theorem spec29 {k:Int} (h:0≤k∧k<8):q29 [.int k]=some [.str (bs [114,rg k])]:=by
 obtain⟨n,rfl⟩:=Int.eq_ofNat_of_zero_le h.1
 rw[q29_eq,F29_eq,w32 n (by omega),spec30 n (by omega),digs_lt (by omega)]
 simp(disch:=(simp only[List.length_append,List.length_cons,List.length_nil];omega)) only[qsome_s,qnth_s,List.getD_cons_zero,qstr_s,qbool_b,cond_true,cond_false,mkB,catOkB,catB]
 rfl
def near (n:Nat):Prop:=n≤127∨4294967168≤n
instance (n:Nat):Decidable (near n):=by unfold near;infer_instance
def signT (n:Nat):List UInt8:=if 4294967168≤n then 45::digs 10 (4294967296-n)else digs 10 n
theorem dlen (n:Nat) (h:n<4294967296):(digs 10 n).length≤10:=digs_len (by omega) 9 n (by omega)
theorem hlen (n:Nat) (h:n<4294967296):(digs 16 n).length≤8:=digs_len (by omega) 7 n (by omega)
theorem signT_len (n:Nat) (h:n<4294967296):(signT n).length≤11:=by
 unfold signT
 split
 ·have:=dlen (4294967296-n) (by omega);simp;omega
 ·have:=dlen n h;omega
theorem i32w (n:Nat) (h:near n) (h2:n<4294967296):qwrap .i64 (qwrap .i32 (n:Int))=if 4294967168≤n then -((4294967296-n:Nat):Int)else(n:Int):=by
 rw[qwrap_eq]
 unfold near at h
 have e:IntKind.i32.wrap (n:Int)=if 4294967168≤n then -((4294967296-n:Nat):Int)else(n:Int):=by
  rw[mI32]
  split<;>split<;>omega
 rw[e]
 split
 ·exact wrap64' (by omega) (by omega)
 ·exact wrap64' (by omega) (by omega)
theorem spec53 (n:Nat) (h:near n) (h2:n<4294967296):q53 [.int n]=some [.str (bs (signT n))]:=by
 rw[q53_eq,F53_eq,i32w n h h2,qcmp_leq,qcmp_leq]
 by_cases hn:4294967168≤n
 ·rw[if_pos hn,decide_eq_true (by omega),decide_eq_true (by omega),itoaM _ (by omega)]
  simp only[cond_true,signT,if_pos hn]
 ·rw[if_neg hn,decide_eq_true (by omega),decide_eq_true (by omega),itoaN]
  simp only[cond_true,signT,if_neg hn]
theorem spec58 (n:Nat) (h2:n<4294967296):q58 [.int n]=some [.str (bs (signT n))]:=by
 rw[q58_eq,F58_eq,show qcmp .geq (n:Int) 4294967168=decide (4294967168≤n)from geN n 4294967168]
 by_cases hn:4294967168≤n
 ·have e:qbin .sub .u32 0 (n:Int)=((4294967296-n:Nat):Int):=by rw[qbin_eq];simp only[rbin,mU32];omega
  have:=dlen (4294967296-n) (by omega)
  rw[decide_eq_true hn,e,spec30 (4294967296-n) (by omega)]
  simp(disch:=(simp only[List.length_append,List.length_cons,List.length_nil];omega)) only[qsome_s,qnth_s,List.getD_cons_zero,qstr_s,qbool_b,cond_true,cond_false,mkB,catOkB,catB]
  simp only[signT,if_pos hn];rfl
 ·rw[decide_eq_false hn,spec30 _ h2]
  simp(disch:=(simp only[List.length_append,List.length_cons,List.length_nil];omega)) only[qsome_s,qnth_s,List.getD_cons_zero,qstr_s,qbool_b,cond_true,cond_false,mkB,catOkB,catB]
  simp only[signT,if_neg hn]
def placeT (c:UInt8) (n:Nat):List UInt8:=[91,114,c]++((if n=0 then[]else if n≤127 then 43::digs 10 n else 45::digs 10 (4294967296-n)) ++ [93])
theorem placeT_len (c:UInt8) (n:Nat) (h:n<4294967296):(placeT c n).length≤20:=by
 unfold placeT
 have h1:=dlen n h
 split
 ·simp
 ·split
  ·simp;omega
  ·have h2:=dlen (4294967296-n) (by omega);simp;omega
theorem spec23 {d:D} {n:Nat} (hb:0≤qint (qfld d 7)∧qint (qfld d 7)<8) (hn:qint (qfld d 1)=n) (h:near n) (h2:n<4294967296):q23 [d]=some [.str (bs (placeT (rg (qint (qfld d 7))) n))]:=by
 rw[q23_eq,F23_eq,spec21 hb,hn,spec53 n h h2]
 have hl:=signT_len n h2
 have e0:qcmp .eql (n:Int) 0=decide (n=0):=by rw[qcmp_eql];exact decide_eq_decide.2 (by omega)
 have e1:qcmp .eql (qbin .shr .u32 (n:Int) 31) 0=decide (n≤127):=by
  rw[qcmp_eql]
  refine decide_eq_decide.2 ?_
  rw[qbin_eq];simp only[rbin,IntKind.bits]
  show Int.fdiv (n:Int) 2147483648=0↔_
  rw[Int.fdiv_eq_ediv_of_nonneg _ (by omega)]
  unfold near at h
  omega
 rw[e0,e1]
 by_cases z:n=0
 ·rw[decide_eq_true z]
  simp(disch:=(simp only[List.length_append,List.length_cons,List.length_nil];omega)) only[qsome_s,qnth_s,List.getD_cons_zero,qstr_s,qbool_b,cond_true,cond_false,mkB,catOkB,catB]
  simp only[placeT,if_pos z];rfl
 ·rw[decide_eq_false z]
  by_cases p:n≤127
  ·rw[decide_eq_true p]
   simp(disch:=(simp only[List.length_append,List.length_cons,List.length_nil];omega)) only[qsome_s,qnth_s,List.getD_cons_zero,qstr_s,qbool_b,cond_true,cond_false,mkB,catOkB,catB]
   simp only[placeT,if_neg z,if_pos p,signT,if_neg (show¬4294967168≤n by omega),List.append_assoc,List.cons_append,List.nil_append]
  ·have q:4294967168≤n:=by unfold near at h;omega
   rw[decide_eq_false p]
   simp(disch:=(simp only[List.length_append,List.length_cons,List.length_nil];omega)) only[qsome_s,qnth_s,List.getD_cons_zero,qstr_s,qbool_b,cond_true,cond_false,mkB,catOkB,catB]
   simp only[placeT,if_neg z,if_neg p,signT,if_pos q,List.append_assoc,List.cons_append,List.nil_append]
theorem spec31 {d:D} {n:Nat} (hb:0≤qint (qfld d 7)∧qint (qfld d 7)<8) (hn:qint (qfld d 1)=n) (h:near n) (h2:n<4294967296):q31 [d]=some [.str (bs (placeT (rg (qint (qfld d 7))) n))]:=by
 rw[q31_eq,F31_eq,spec29 hb,hn]
 have e0:qcmp .eql (n:Int) 0=decide (n=0):=by rw[qcmp_eql];exact decide_eq_decide.2 (by omega)
 have e1:qcmp .leq (n:Int) 127=decide (n≤127):=leN n 127
 rw[e0,e1]
 by_cases z:n=0
 ·rw[decide_eq_true z]
  simp(disch:=(simp only[List.length_append,List.length_cons,List.length_nil];omega)) only[qsome_s,qnth_s,List.getD_cons_zero,qstr_s,qbool_b,cond_true,cond_false,mkB,catOkB,catB]
  simp only[placeT,if_pos z];rfl
 ·rw[decide_eq_false z]
  by_cases p:n≤127
  ·have hl:=dlen n h2
   rw[decide_eq_true p,spec30 n h2]
   simp(disch:=(simp only[List.length_append,List.length_cons,List.length_nil];omega)) only[qsome_s,qnth_s,List.getD_cons_zero,qstr_s,qbool_b,cond_true,cond_false,mkB,catOkB,catB]
   simp only[placeT,if_neg z,if_pos p,List.append_assoc,List.cons_append,List.nil_append]
  ·have q:4294967168≤n:=by unfold near at h;omega
   have e:qbin .sub .u32 0 (n:Int)=((4294967296-n:Nat):Int):=by rw[qbin_eq];simp only[rbin,mU32];omega
   have hl:=dlen (4294967296-n) (by omega)
   rw[decide_eq_false p,e,spec30 (4294967296-n) (by omega)]
   simp(disch:=(simp only[List.length_append,List.length_cons,List.length_nil];omega)) only[qsome_s,qnth_s,List.getD_cons_zero,qstr_s,qbool_b,cond_true,cond_false,mkB,catOkB,catB]
   simp only[placeT,if_neg z,if_neg p,List.append_assoc,List.cons_append,List.nil_append]
theorem spec32 (n:Nat):q32 [.int n]=some [.bool (decide (near n))]:=by
 rw[q32_eq,F32_eq,qiteB_c,show qcmp .leq (n:Int) 127=decide (n≤127)from leN n 127,show qcmp .geq (n:Int) 4294967168=decide (4294967168≤n)from geN n 4294967168]
 unfold near
 by_cases a:n≤127<;>simp[a]
theorem nearW (n:Nat) (h2:n<4294967296):qcmp .eql (qwrap .u32 (qwrap .i8 (n:Int))) (n:Int)=decide (near n):=by
 rw[qcmp_eql,qwrap_eq,mU32]
 refine decide_eq_decide.2 ?_
 unfold near
 rw[mI8]
 split<;>omega
def arT (f:Int) (ra rb:UInt8) (n:Nat):List UInt8:=
 if f=0 then[32,114,ra,44,32,114,rb]else if f=1 then[32,114,ra,44,32]++signT n
 else if near n then[46,119,32,114,ra,44,32]++signT n else[32,114,ra,44,32,48,120]++digs 16 n
theorem spec27 {d:D} {n:Nat} (ho:5≤qint (qfld d 2)∧qint (qfld d 2)≤15) (ha:0≤qint (qfld d 6)∧qint (qfld d 6)<8) (hb:0≤qint (qfld d 7)∧qint (qfld d 7)<8) (hn:qint (qfld d 1)=n) (h:qint (qfld d 3)=1→near n) (h2:n<4294967296):
 q27 [d]=some [.str (bs (opT (qint (qfld d 2)-5).toNat++arT (qint (qfld d 3)) (rg (qint (qfld d 6))) (rg (qint (qfld d 7))) n))]:=by
 rw[q27_eq,F27_eq,spec56 ho,spec21 ha,spec21 hb,hn,spec25 n h2,nearW n h2,qcmp_eql,qcmp_eql]
 have ol:=opT_len (qint (qfld d 2)-5).toNat
 have sl:=signT_len n h2
 have gl:=hlen n h2
 by_cases f0:qint (qfld d 3)=0
 ·rw[decide_eq_true f0]
  simp(disch:=(simp only[List.length_append,List.length_cons,List.length_nil];omega)) only[qsome_s,qnth_s,List.getD_cons_zero,qstr_s,qbool_b,cond_true,cond_false,mkB,catOkB,catB]
  simp only[arT,if_pos f0,List.append_assoc,List.cons_append,List.nil_append]
 ·rw[decide_eq_false f0]
  by_cases f1:qint (qfld d 3)=1
  ·rw[decide_eq_true f1,spec53 n (h f1) h2]
   simp(disch:=(simp only[List.length_append,List.length_cons,List.length_nil];omega)) only[qsome_s,qnth_s,List.getD_cons_zero,qstr_s,qbool_b,cond_true,cond_false,mkB,catOkB,catB]
   simp only[arT,if_neg f0,if_pos f1,List.append_assoc,List.cons_append,List.nil_append]
  ·rw[decide_eq_false f1]
   by_cases g:near n
   ·rw[decide_eq_true g,spec53 n g h2]
    simp(disch:=(simp only[List.length_append,List.length_cons,List.length_nil];omega)) only[qsome_s,qnth_s,List.getD_cons_zero,qstr_s,qbool_b,cond_true,cond_false,mkB,catOkB,catB]
    simp only[arT,if_neg f0,if_neg f1,if_pos g,List.append_assoc,List.cons_append,List.nil_append]
   ·rw[decide_eq_false g]
    simp(disch:=(simp only[List.length_append,List.length_cons,List.length_nil];omega)) only[qsome_s,qnth_s,List.getD_cons_zero,qstr_s,qbool_b,cond_true,cond_false,mkB,catOkB,catB]
    simp only[arT,if_neg f0,if_neg f1,if_neg g,List.append_assoc,List.cons_append,List.nil_append]
theorem spec28 {d:D} {n:Nat} (ho:5≤qint (qfld d 2)∧qint (qfld d 2)≤15) (ha:0≤qint (qfld d 6)∧qint (qfld d 6)<8) (hb:0≤qint (qfld d 7)∧qint (qfld d 7)<8) (hn:qint (qfld d 1)=n) (h2:n<4294967296):
 q28 [d]=some [.str (bs (opT (qint (qfld d 2)-5).toNat++arT (qint (qfld d 3)) (rg (qint (qfld d 6))) (rg (qint (qfld d 7))) n))]:=by
 have hk:(qint (qfld d 2)-5).toNat<opL.length:=by show _<11;omega
 rw[q28_eq,F28_eq,spec57,sub5 ho,spec29 ha,spec29 hb,hn,spec34 n h2,spec32,spec58 n h2,qcmp_eql,qcmp_eql]
 simp only[qsome_s,qnth_s,List.getD_cons_zero,cond_true,nameL_inb hk,nameL_get hk,qstr_s,qbool_b]
 rw[show opL.getD (qint (qfld d 2)-5).toNat []=opT (qint (qfld d 2)-5).toNat from rfl]
 have ol:=opT_len (qint (qfld d 2)-5).toNat
 have sl:=signT_len n h2
 have gl:=hlen n h2
 by_cases f0:qint (qfld d 3)=0
 ·rw[decide_eq_true f0]
  simp(disch:=(simp only[List.length_append,List.length_cons,List.length_nil];omega)) only[qsome_s,qnth_s,List.getD_cons_zero,qstr_s,qbool_b,cond_true,cond_false,mkB,catOkB,catB]
  simp only[arT,if_pos f0,List.append_assoc,List.cons_append,List.nil_append]
 ·rw[decide_eq_false f0]
  by_cases f1:qint (qfld d 3)=1
  ·rw[decide_eq_true f1]
   simp(disch:=(simp only[List.length_append,List.length_cons,List.length_nil];omega)) only[qsome_s,qnth_s,List.getD_cons_zero,qstr_s,qbool_b,cond_true,cond_false,mkB,catOkB,catB]
   simp only[arT,if_neg f0,if_pos f1,List.append_assoc,List.cons_append,List.nil_append]
  ·rw[decide_eq_false f1]
   by_cases g:near n
   ·rw[decide_eq_true g]
    simp(disch:=(simp only[List.length_append,List.length_cons,List.length_nil];omega)) only[qsome_s,qnth_s,List.getD_cons_zero,qstr_s,qbool_b,cond_true,cond_false,mkB,catOkB,catB]
    simp only[arT,if_neg f0,if_neg f1,if_pos g,List.append_assoc,List.cons_append,List.nil_append]
   ·rw[decide_eq_false g]
    simp(disch:=(simp only[List.length_append,List.length_cons,List.length_nil];omega)) only[qsome_s,qnth_s,List.getD_cons_zero,qstr_s,qbool_b,cond_true,cond_false,mkB,catOkB,catB]
    simp only[arT,if_neg f0,if_neg f1,if_neg g,List.append_assoc,List.cons_append,List.nil_append]
def jmT (cc f:Int) (n j:Nat):List UInt8:=(if cc=0 then[106,109,112]else 106::ccT cc.toNat)++((if f=2∧near j then[46,119]else[])++([32,48,120]++digs 16 n))
theorem spec33 {c:Int} (h:0≤c∧c≤14):q33 [.int c]=some [.str (bs (if c=0 then[106,109,112]else 106::ccT c.toNat))]:=by
 obtain⟨k,rfl⟩:=Int.eq_ofNat_of_zero_le h.1
 have hk:k<ccL.length:=by show _<15;omega
 rw[q33_eq,F33_eq,spec35,qcmp_eql]
 have cl:=ccT_len k
 by_cases c0:(k:Int)=0
 ·rw[decide_eq_true c0,if_pos c0];rfl
 ·rw[decide_eq_false c0,if_neg c0]
  simp only[qsome_s,qnth_s,List.getD_cons_zero,cond_true,cond_false,nameL_inb hk,nameL_get hk,qstr_s]
  rw[show ccL.getD k []=ccT k from rfl]
  simp(disch:=(simp only[List.length_append,List.length_cons,List.length_nil];omega)) only[qsome_s,qnth_s,List.getD_cons_zero,qstr_s,qbool_b,cond_true,cond_false,mkB,catOkB,catB]
  rw[Int.toNat_natCast];rfl
theorem spec24 {d:D} {n j:Nat} (hc:0≤qint (qfld d 5)∧qint (qfld d 5)≤14) (hn:qint (qfld d 1)=n) (h2:n<4294967296) (hj:short d=j) (hj2:j<4294967296):q24 [d]=some [.str (bs (jmT (qint (qfld d 5)) (qint (qfld d 3)) n j))]:=by
 obtain⟨k,hk⟩:=Int.eq_ofNat_of_zero_le hc.1
 have hj':qbin .sub .u32 (qbin .sub .u32 (qint (qfld d 1)) (qint (qfld d 0))) 2=(j:Int):=hj
 rw[q24_eq,F24_eq,hj',nearW j hj2,hn,spec25 n h2,hk,spec26 (by omega),qcmp_neq,qcmp_eql]
 have cl:=ccT_len k
 have gl:=hlen n h2
 by_cases c0:(k:Int)=0<;>by_cases f2:qint (qfld d 3)=2<;>by_cases g:near j
 all_goals
  simp only[c0,f2,g,decide_true,decide_false,Bool.not_true,Bool.not_false,qiteB_eq,qiteS_eq,show qand=fun a b=>a&&b from veil_eq _,Bool.true_and,Bool.and_true,jmT,and_true,and_false,true_and,false_and,if_true,if_false,Int.toNat_natCast]
  simp(disch:=(simp only[List.length_append,List.length_cons,List.length_nil];omega)) only[qsome_s,qnth_s,List.getD_cons_zero,qstr_s,qbool_b,cond_true,cond_false,mkB,catOkB,catB]
  first|rfl|simp only[Bool.and_self,cond_true,List.append_assoc,List.cons_append,List.nil_append]
end Go.Proofs.YtobhhfbdelnhfaaGreatDoor
namespace Go.Proofs.YtobhhfbdelnhfaaGreatDoor
set_option linter.unusedSimpArgs false
set_option linter.unusedVariables false
open Go Go.AM
noncomputable def PT (d:D) (n j:Nat):List UInt8:=
 if qint (qfld d 2)=0 then[110,111,112]else if qint (qfld d 2)=1 then[104,97,108,116]else if qint (qfld d 2)=2 then[114,101,116]
 else if qint (qfld d 2)=3 then[112,117,115,104,32,114] ++ [rg (qint (qfld d 6))]else if qint (qfld d 2)=4 then[112,111,112,32,114] ++ [rg (qint (qfld d 6))]
 else if qint (qfld d 2)≤15 then opT (qint (qfld d 2)-5).toNat++arT (qint (qfld d 3)) (rg (qint (qfld d 6))) (rg (qint (qfld d 7))) n
 else if qint (qfld d 2)=16 then[108,111,97,100]++(digs 10 (qint (qfld d 4)).toNat++([32,114,rg (qint (qfld d 6)),44,32]++placeT (rg (qint (qfld d 7))) n))
 else if qint (qfld d 2)=17 then[108,111,97,100]++(digs 10 (qint (qfld d 4)).toNat++([115,32,114,rg (qint (qfld d 6)),44,32]++placeT (rg (qint (qfld d 7))) n))
 else if qint (qfld d 2)=18 then[115,116,111,114,101]++(digs 10 (qint (qfld d 4)).toNat++(32::(placeT (rg (qint (qfld d 7))) n ++ [44,32,114,rg (qint (qfld d 6))])))
 else if qint (qfld d 2)=19 then[108,101,97,32,114]++([rg (qint (qfld d 6)),44,32]++placeT (rg (qint (qfld d 7))) n)
 else if qint (qfld d 2)=20 then jmT (qint (qfld d 5)) (qint (qfld d 3)) n j
 else if qint (qfld d 2)=21 then[106,117,109,112,114,32,114] ++ [rg (qint (qfld d 6))]
 else if qint (qfld d 2)=24 then[99,97,108,108,114,32,114] ++ [rg (qint (qfld d 6))]
 else if qint (qfld d 2)=22 then[106,117,109,112,116,32,114]++([rg (qint (qfld d 6)),44,32,48,120]++digs 16 n)
 else if qint (qfld d 2)=23 then[99,97,108,108,32,48,120]++digs 16 n
 else if qint (qfld d 2)=25 then[115,101,116]++(ccT (qint (qfld d 5)).toNat ++ [32,114,rg (qint (qfld d 6))])
 else if qint (qfld d 2)=26 then[105,110,32,114] ++ [rg (qint (qfld d 6))]
 else[111,117,116,32,114] ++ [rg (qint (qfld d 6))]
theorem pl_def:D.list [(D.str (ByteArray.mk #[110,111,112])),(D.str (ByteArray.mk #[104,97,108,116])),(D.str (ByteArray.mk #[114,101,116])),(D.str (ByteArray.mk #[112,117,115,104,32])),(D.str (ByteArray.mk #[112,111,112,32]))]=nameL plL:=rfl
theorem pl0:qget (nameL plL) 0 = .str (bs [110,111,112])∧qinb (nameL plL) 0=true:=⟨nameL_get (l:=plL) (k:=0) (by decide),nameL_inb (l:=plL) (k:=0) (by decide)⟩
theorem pl1:qget (nameL plL) 1 = .str (bs [104,97,108,116])∧qinb (nameL plL) 1=true:=⟨nameL_get (l:=plL) (k:=1) (by decide),nameL_inb (l:=plL) (k:=1) (by decide)⟩
theorem pl2:qget (nameL plL) 2 = .str (bs [114,101,116])∧qinb (nameL plL) 2=true:=⟨nameL_get (l:=plL) (k:=2) (by decide),nameL_inb (l:=plL) (k:=2) (by decide)⟩
theorem pl3:qget (nameL plL) 3 = .str (bs [112,117,115,104,32])∧qinb (nameL plL) 3=true:=⟨nameL_get (l:=plL) (k:=3) (by decide),nameL_inb (l:=plL) (k:=3) (by decide)⟩
theorem pl4:qget (nameL plL) 4 = .str (bs [112,111,112,32])∧qinb (nameL plL) 4=true:=⟨nameL_get (l:=plL) (k:=4) (by decide),nameL_inb (l:=plL) (k:=4) (by decide)⟩
theorem print_spec {d:D} {n j:Nat} (hv:vld d=true) (hn:qint (qfld d 1)=n) (h2:n<4294967296) (hj:short d=j) (hj2:j<4294967296):
 q8 [d]=some [.str (bs (PT d n j))]∧q9 [d]=some [.str (bs (PT d n j))]:=by
 obtain⟨s,hs,hA,hB,hI,hF,hW,hC,hA0,hB0,hN,hJ⟩:=vld_iff.1 hv
 rw[hn]at hI hN
 have hl:=hlen n h2
 have hpl:=placeT_len (rg (qint (qfld d 7))) n h2
 have ho28:0≤qint (qfld d 2)∧qint (qfld d 2)≤27:=by
  apply Classical.byContradiction
  intro hx
  unfold shp at hs
  rw[if_neg (by omega),if_neg (by omega),if_neg (by omega),if_neg (by omega),if_neg (by omega),if_neg (by omega),if_neg (by omega),if_neg (by omega),if_neg (by omega),if_neg (by omega),if_neg (by omega)]at hs
  cases hs
 rw[q8_eq,q9_eq,F8_eq,F9_eq,(valid_spec d).1,(valid_spec d).2.1,hv]
 by_cases h5:5≤qint (qfld d 2)∧qint (qfld d 2)≤15
 ·have hnear:qint (qfld d 3)=1→near n:=by
   intro f1
   have h4:s=4:=by
    unfold shp at hs
    rw[if_neg (by omega),if_neg (by omega),if_pos h5,if_neg (by omega),if_pos f1]at hs
    cases hs;rfl
   have:=hN (.inl h4)
   unfold near;omega
  have e27:=spec27 h5 hA hB hn hnear h2
  have e28:=spec28 h5 hA hB hn h2
  have nk:∀k:Int,k<5∨15<k→decide (qint (qfld d 2)=k)=false:=fun k hk=>decide_eq_false (by omega)
  have PTe:PT d n j=opT (qint (qfld d 2)-5).toNat++arT (qint (qfld d 3)) (rg (qint (qfld d 6))) (rg (qint (qfld d 7))) n:=by
   unfold PT
   rw[if_neg (by omega),if_neg (by omega),if_neg (by omega),if_neg (by omega),if_neg (by omega),if_pos h5.2]
  rw[e27,e28,PTe]
  simp only[qcmp_eql,qcmp_geq,qcmp_leq,qiteB_c,qnot_c,qsome_s,qnth_s,List.getD_cons_zero,qbool_b,qstr_s,Bool.not_true,cond_true,cond_false,nk 0 (by omega),nk 1 (by omega),nk 2 (by omega),nk 3 (by omega),nk 4 (by omega),nk 16 (by omega),nk 17 (by omega),nk 18 (by omega),nk 19 (by omega),nk 20 (by omega),nk 21 (by omega),nk 22 (by omega),nk 23 (by omega),nk 24 (by omega),nk 25 (by omega),nk 26 (by omega),nk 27 (by omega),decide_eq_true h5.1,decide_eq_true h5.2]
  exact⟨by trivial,by trivial⟩
 ·have hoc:qint (qfld d 2)=0∨qint (qfld d 2)=1∨qint (qfld d 2)=2∨qint (qfld d 2)=3∨qint (qfld d 2)=4∨qint (qfld d 2)=16∨qint (qfld d 2)=17∨qint (qfld d 2)=18∨qint (qfld d 2)=19∨qint (qfld d 2)=20∨qint (qfld d 2)=21∨qint (qfld d 2)=22∨qint (qfld d 2)=23∨qint (qfld d 2)=24∨qint (qfld d 2)=25∨qint (qfld d 2)=26∨qint (qfld d 2)=27:=by omega
  rcases hoc with ho|ho|ho|ho|ho|ho|ho|ho|ho|ho|ho|ho|ho|ho|ho|ho|ho
  ·have PTe:PT d n j = [110,111,112]:=by
    unfold PT
    simp only[ho,Int.reduceEq,Int.reduceLE,if_true,if_false]
   rw[PTe,pl_def]
   simp only[ho,qcmp_eql,qcmp_neq,qcmp_leq,qcmp_lss,qcmp_geq,qiteB_c,qnot_c,qsome_s,qnth_s,List.getD_cons_zero,qbool_b,Int.reduceEq,Int.reduceLE,Int.reduceLT,decide_true,decide_false,Bool.not_true,Bool.not_false,cond_true,cond_false]
   simp(disch:=(simp only[List.length_append,List.length_cons,List.length_nil];omega)) only[qsome_s,qnth_s,List.getD_cons_zero,qstr_s,qbool_b,cond_true,cond_false,mkB,catOkB,catB,pl0.1,pl0.2]
   first|exact⟨rfl,rfl⟩|simp only[List.append_assoc,List.cons_append,List.nil_append,and_self]
  ·have PTe:PT d n j = [104,97,108,116]:=by
    unfold PT
    simp only[ho,Int.reduceEq,Int.reduceLE,if_true,if_false]
   rw[PTe,pl_def]
   simp only[ho,qcmp_eql,qcmp_neq,qcmp_leq,qcmp_lss,qcmp_geq,qiteB_c,qnot_c,qsome_s,qnth_s,List.getD_cons_zero,qbool_b,Int.reduceEq,Int.reduceLE,Int.reduceLT,decide_true,decide_false,Bool.not_true,Bool.not_false,cond_true,cond_false]
   simp(disch:=(simp only[List.length_append,List.length_cons,List.length_nil];omega)) only[qsome_s,qnth_s,List.getD_cons_zero,qstr_s,qbool_b,cond_true,cond_false,mkB,catOkB,catB,pl1.1,pl1.2]
   first|exact⟨rfl,rfl⟩|simp only[List.append_assoc,List.cons_append,List.nil_append,and_self]
  ·have PTe:PT d n j = [114,101,116]:=by
    unfold PT
    simp only[ho,Int.reduceEq,Int.reduceLE,if_true,if_false]
   rw[PTe,pl_def]
   simp only[ho,qcmp_eql,qcmp_neq,qcmp_leq,qcmp_lss,qcmp_geq,qiteB_c,qnot_c,qsome_s,qnth_s,List.getD_cons_zero,qbool_b,Int.reduceEq,Int.reduceLE,Int.reduceLT,decide_true,decide_false,Bool.not_true,Bool.not_false,cond_true,cond_false]
   simp(disch:=(simp only[List.length_append,List.length_cons,List.length_nil];omega)) only[qsome_s,qnth_s,List.getD_cons_zero,qstr_s,qbool_b,cond_true,cond_false,mkB,catOkB,catB,pl2.1,pl2.2]
   first|exact⟨rfl,rfl⟩|simp only[List.append_assoc,List.cons_append,List.nil_append,and_self]
  ·have PTe:PT d n j = [112,117,115,104,32,114] ++ [rg (qint (qfld d 6))]:=by
    unfold PT
    simp only[ho,Int.reduceEq,Int.reduceLE,if_true,if_false]
   rw[PTe,pl_def]
   simp only[ho,qcmp_eql,qcmp_neq,qcmp_leq,qcmp_lss,qcmp_geq,qiteB_c,qnot_c,qsome_s,qnth_s,List.getD_cons_zero,qbool_b,Int.reduceEq,Int.reduceLE,Int.reduceLT,decide_true,decide_false,Bool.not_true,Bool.not_false,cond_true,cond_false]
   rw[spec21 hA,spec29 hA]
   simp(disch:=(simp only[List.length_append,List.length_cons,List.length_nil];omega)) only[qsome_s,qnth_s,List.getD_cons_zero,qstr_s,qbool_b,cond_true,cond_false,mkB,catOkB,catB,pl3.1,pl3.2]
   first|exact⟨rfl,rfl⟩|simp only[List.append_assoc,List.cons_append,List.nil_append,and_self]
  ·have PTe:PT d n j = [112,111,112,32,114] ++ [rg (qint (qfld d 6))]:=by
    unfold PT
    simp only[ho,Int.reduceEq,Int.reduceLE,if_true,if_false]
   rw[PTe,pl_def]
   simp only[ho,qcmp_eql,qcmp_neq,qcmp_leq,qcmp_lss,qcmp_geq,qiteB_c,qnot_c,qsome_s,qnth_s,List.getD_cons_zero,qbool_b,Int.reduceEq,Int.reduceLE,Int.reduceLT,decide_true,decide_false,Bool.not_true,Bool.not_false,cond_true,cond_false]
   rw[spec21 hA,spec29 hA]
   simp(disch:=(simp only[List.length_append,List.length_cons,List.length_nil];omega)) only[qsome_s,qnth_s,List.getD_cons_zero,qstr_s,qbool_b,cond_true,cond_false,mkB,catOkB,catB,pl4.1,pl4.2]
   first|exact⟨rfl,rfl⟩|simp only[List.append_assoc,List.cons_append,List.nil_append,and_self]
  ·have h5:s=5∧(qint (qfld d 4)=1∨qint (qfld d 4)=2∨qint (qfld d 4)=4):=by
    unfold shp at hs
    rw[ho]at hs
    simp only[Int.reduceEq,Int.reduceLE,or_true,or_false,and_true,and_false,true_and,false_and,if_true,if_false,or_self]at hs
    split at hs
    ·rename_i hw;cases hs;exact⟨rfl,by omega⟩
    ·cases hs
   have hnr:near n:=by have:=hN (.inr h5.1);unfold near;omega
   obtain⟨w,hw⟩:=Int.eq_ofNat_of_zero_le (show 0≤qint (qfld d 4)by omega)
   obtain⟨b1,b2⟩:=bnd w (by omega)
   have dl:=dlen w (by omega)
   have PTe:PT d n j = [108,111,97,100]++(digs 10 (qint (qfld d 4)).toNat++([32,114,rg (qint (qfld d 6)),44,32]++placeT (rg (qint (qfld d 7))) n)):=by
    unfold PT
    simp only[ho,Int.reduceEq,Int.reduceLE,if_true,if_false]
   rw[PTe,pl_def,hw,Int.toNat_natCast]
   simp only[ho,b1,b2,qcmp_eql,qcmp_neq,qcmp_leq,qcmp_lss,qcmp_geq,qiteB_c,qnot_c,qsome_s,qnth_s,List.getD_cons_zero,qbool_b,Int.reduceEq,Int.reduceLE,Int.reduceLT,decide_true,decide_false,Bool.not_true,Bool.not_false,cond_true,cond_false]
   rw[w32 w (by omega),spec30 w (by omega),itoaN,spec21 hA,spec29 hA,spec23 hB hn hnr h2,spec31 hB hn hnr h2]
   simp(disch:=(simp only[List.length_append,List.length_cons,List.length_nil];omega)) only[qsome_s,qnth_s,List.getD_cons_zero,qstr_s,qbool_b,cond_true,cond_false,mkB,catOkB,catB]
   first|exact⟨rfl,rfl⟩|simp only[List.append_assoc,List.cons_append,List.nil_append,and_self]
  ·have h5:s=5∧(qint (qfld d 4)=1∨qint (qfld d 4)=2):=by
    unfold shp at hs
    rw[ho]at hs
    simp only[Int.reduceEq,Int.reduceLE,or_true,or_false,and_true,and_false,true_and,false_and,if_true,if_false,or_self]at hs
    split at hs
    ·rename_i hw;cases hs;exact⟨rfl,by omega⟩
    ·cases hs
   have hnr:near n:=by have:=hN (.inr h5.1);unfold near;omega
   obtain⟨w,hw⟩:=Int.eq_ofNat_of_zero_le (show 0≤qint (qfld d 4)by omega)
   obtain⟨b1,b2⟩:=bnd w (by omega)
   have dl:=dlen w (by omega)
   have PTe:PT d n j = [108,111,97,100]++(digs 10 (qint (qfld d 4)).toNat++([115,32,114,rg (qint (qfld d 6)),44,32]++placeT (rg (qint (qfld d 7))) n)):=by
    unfold PT
    simp only[ho,Int.reduceEq,Int.reduceLE,if_true,if_false]
   rw[PTe,pl_def,hw,Int.toNat_natCast]
   simp only[ho,b1,b2,qcmp_eql,qcmp_neq,qcmp_leq,qcmp_lss,qcmp_geq,qiteB_c,qnot_c,qsome_s,qnth_s,List.getD_cons_zero,qbool_b,Int.reduceEq,Int.reduceLE,Int.reduceLT,decide_true,decide_false,Bool.not_true,Bool.not_false,cond_true,cond_false]
   rw[w32 w (by omega),spec30 w (by omega),itoaN,spec21 hA,spec29 hA,spec23 hB hn hnr h2,spec31 hB hn hnr h2]
   simp(disch:=(simp only[List.length_append,List.length_cons,List.length_nil];omega)) only[qsome_s,qnth_s,List.getD_cons_zero,qstr_s,qbool_b,cond_true,cond_false,mkB,catOkB,catB]
   first|exact⟨rfl,rfl⟩|simp only[List.append_assoc,List.cons_append,List.nil_append,and_self]
  ·have h5:s=5∧(qint (qfld d 4)=1∨qint (qfld d 4)=2∨qint (qfld d 4)=4):=by
    unfold shp at hs
    rw[ho]at hs
    simp only[Int.reduceEq,Int.reduceLE,or_true,or_false,and_true,and_false,true_and,false_and,if_true,if_false,or_self]at hs
    split at hs
    ·rename_i hw;cases hs;exact⟨rfl,by omega⟩
    ·cases hs
   have hnr:near n:=by have:=hN (.inr h5.1);unfold near;omega
   obtain⟨w,hw⟩:=Int.eq_ofNat_of_zero_le (show 0≤qint (qfld d 4)by omega)
   obtain⟨b1,b2⟩:=bnd w (by omega)
   have dl:=dlen w (by omega)
   have PTe:PT d n j = [115,116,111,114,101]++(digs 10 (qint (qfld d 4)).toNat++(32::(placeT (rg (qint (qfld d 7))) n ++ [44,32,114,rg (qint (qfld d 6))]))):=by
    unfold PT
    simp only[ho,Int.reduceEq,Int.reduceLE,if_true,if_false]
   rw[PTe,pl_def,hw,Int.toNat_natCast]
   simp only[ho,b1,b2,qcmp_eql,qcmp_neq,qcmp_leq,qcmp_lss,qcmp_geq,qiteB_c,qnot_c,qsome_s,qnth_s,List.getD_cons_zero,qbool_b,Int.reduceEq,Int.reduceLE,Int.reduceLT,decide_true,decide_false,Bool.not_true,Bool.not_false,cond_true,cond_false]
   rw[w32 w (by omega),spec30 w (by omega),itoaN,spec21 hA,spec29 hA,spec23 hB hn hnr h2,spec31 hB hn hnr h2]
   simp(disch:=(simp only[List.length_append,List.length_cons,List.length_nil];omega)) only[qsome_s,qnth_s,List.getD_cons_zero,qstr_s,qbool_b,cond_true,cond_false,mkB,catOkB,catB]
   first|exact⟨rfl,rfl⟩|simp only[List.append_assoc,List.cons_append,List.nil_append,and_self]
  ·have h5:s=5∧True:=by
    unfold shp at hs
    rw[ho]at hs
    simp only[Int.reduceEq,Int.reduceLE,or_true,or_false,and_true,and_false,true_and,false_and,if_true,if_false,or_self]at hs
    cases hs;exact⟨rfl,trivial⟩
   have hnr:near n:=by have:=hN (.inr h5.1);unfold near;omega
   have PTe:PT d n j = [108,101,97,32,114]++([rg (qint (qfld d 6)),44,32]++placeT (rg (qint (qfld d 7))) n):=by
    unfold PT
    simp only[ho,Int.reduceEq,Int.reduceLE,if_true,if_false]
   rw[PTe,pl_def]
   simp only[ho,qcmp_eql,qcmp_neq,qcmp_leq,qcmp_lss,qcmp_geq,qiteB_c,qnot_c,qsome_s,qnth_s,List.getD_cons_zero,qbool_b,Int.reduceEq,Int.reduceLE,Int.reduceLT,decide_true,decide_false,Bool.not_true,Bool.not_false,cond_true,cond_false]
   rw[spec21 hA,spec29 hA,spec23 hB hn hnr h2,spec31 hB hn hnr h2]
   simp(disch:=(simp only[List.length_append,List.length_cons,List.length_nil];omega)) only[qsome_s,qnth_s,List.getD_cons_zero,qstr_s,qbool_b,cond_true,cond_false,mkB,catOkB,catB]
   first|exact⟨rfl,rfl⟩|simp only[List.append_assoc,List.cons_append,List.nil_append,and_self]
  ·have hcc:0≤qint (qfld d 5)∧qint (qfld d 5)≤14:=by
    unfold shp at hs
    rw[ho]at hs
    simp only[Int.reduceEq,Int.reduceLE,or_true,or_false,and_true,and_false,true_and,false_and,if_true,if_false,or_self]at hs
    split at hs
    ·assumption
    ·cases hs
   have PTe:PT d n j=jmT (qint (qfld d 5)) (qint (qfld d 3)) n j:=by
    unfold PT
    simp only[ho,Int.reduceEq,Int.reduceLE,if_true,if_false]
   have e24:=spec24 hcc hn h2 hj hj2
   rw[PTe]
   simp only[ho,qcmp_eql,qcmp_neq,qcmp_leq,qcmp_lss,qcmp_geq,qiteB_c,qnot_c,qsome_s,qnth_s,List.getD_cons_zero,qbool_b,Int.reduceEq,Int.reduceLE,Int.reduceLT,decide_true,decide_false,Bool.not_true,Bool.not_false,cond_true,cond_false]
   rw[e24,hn,spec34 n h2,spec33 hcc,show qbin .sub .u32 (qbin .sub .u32 (n:Int) (qint (qfld d 0))) 2=(j:Int)by rw[← hn];exact hj,spec32]
   simp only[qsome_s,qnth_s,List.getD_cons_zero,qbool_b,qstr_s,cond_true,cond_false]
   refine⟨by trivial,?_⟩
   have cl:=ccT_len (qint (qfld d 5)).toNat
   unfold jmT
   by_cases c0:qint (qfld d 5)=0<;>by_cases f2:qint (qfld d 3)=2<;>by_cases g:near j
   all_goals
    simp only[c0,f2,g,decide_true,decide_false,cond_true,cond_false,and_true,and_false,true_and,false_and,if_true,if_false]
    simp(disch:=(simp only[List.length_append,List.length_cons,List.length_nil];omega)) only[qsome_s,qnth_s,List.getD_cons_zero,qstr_s,qbool_b,cond_true,cond_false,mkB,catOkB,catB]
    first|rfl|simp only[List.append_assoc,List.cons_append,List.nil_append]
  ·have PTe:PT d n j = [106,117,109,112,114,32,114] ++ [rg (qint (qfld d 6))]:=by
    unfold PT
    simp only[ho,Int.reduceEq,Int.reduceLE,if_true,if_false]
   rw[PTe,pl_def]
   simp only[ho,qcmp_eql,qcmp_neq,qcmp_leq,qcmp_lss,qcmp_geq,qiteB_c,qnot_c,qsome_s,qnth_s,List.getD_cons_zero,qbool_b,Int.reduceEq,Int.reduceLE,Int.reduceLT,decide_true,decide_false,Bool.not_true,Bool.not_false,cond_true,cond_false]
   rw[spec21 hA,spec29 hA]
   simp(disch:=(simp only[List.length_append,List.length_cons,List.length_nil];omega)) only[qsome_s,qnth_s,List.getD_cons_zero,qstr_s,qbool_b,cond_true,cond_false,mkB,catOkB,catB]
   first|exact⟨rfl,rfl⟩|simp only[List.append_assoc,List.cons_append,List.nil_append,and_self]
  ·have PTe:PT d n j = [106,117,109,112,116,32,114]++([rg (qint (qfld d 6)),44,32,48,120]++digs 16 n):=by
    unfold PT
    simp only[ho,Int.reduceEq,Int.reduceLE,if_true,if_false]
   rw[PTe,pl_def]
   simp only[ho,qcmp_eql,qcmp_neq,qcmp_leq,qcmp_lss,qcmp_geq,qiteB_c,qnot_c,qsome_s,qnth_s,List.getD_cons_zero,qbool_b,Int.reduceEq,Int.reduceLE,Int.reduceLT,decide_true,decide_false,Bool.not_true,Bool.not_false,cond_true,cond_false]
   rw[spec21 hA,spec29 hA,hn,spec25 n h2,spec34 n h2]
   simp(disch:=(simp only[List.length_append,List.length_cons,List.length_nil];omega)) only[qsome_s,qnth_s,List.getD_cons_zero,qstr_s,qbool_b,cond_true,cond_false,mkB,catOkB,catB]
   first|exact⟨rfl,rfl⟩|simp only[List.append_assoc,List.cons_append,List.nil_append,and_self]
  ·have PTe:PT d n j = [99,97,108,108,32,48,120]++digs 16 n:=by
    unfold PT
    simp only[ho,Int.reduceEq,Int.reduceLE,if_true,if_false]
   rw[PTe,pl_def]
   simp only[ho,qcmp_eql,qcmp_neq,qcmp_leq,qcmp_lss,qcmp_geq,qiteB_c,qnot_c,qsome_s,qnth_s,List.getD_cons_zero,qbool_b,Int.reduceEq,Int.reduceLE,Int.reduceLT,decide_true,decide_false,Bool.not_true,Bool.not_false,cond_true,cond_false]
   rw[hn,spec25 n h2,spec34 n h2]
   simp(disch:=(simp only[List.length_append,List.length_cons,List.length_nil];omega)) only[qsome_s,qnth_s,List.getD_cons_zero,qstr_s,qbool_b,cond_true,cond_false,mkB,catOkB,catB]
   first|exact⟨rfl,rfl⟩|simp only[List.append_assoc,List.cons_append,List.nil_append,and_self]
  ·have PTe:PT d n j = [99,97,108,108,114,32,114] ++ [rg (qint (qfld d 6))]:=by
    unfold PT
    simp only[ho,Int.reduceEq,Int.reduceLE,if_true,if_false]
   rw[PTe,pl_def]
   simp only[ho,qcmp_eql,qcmp_neq,qcmp_leq,qcmp_lss,qcmp_geq,qiteB_c,qnot_c,qsome_s,qnth_s,List.getD_cons_zero,qbool_b,Int.reduceEq,Int.reduceLE,Int.reduceLT,decide_true,decide_false,Bool.not_true,Bool.not_false,cond_true,cond_false]
   rw[spec21 hA,spec29 hA]
   simp(disch:=(simp only[List.length_append,List.length_cons,List.length_nil];omega)) only[qsome_s,qnth_s,List.getD_cons_zero,qstr_s,qbool_b,cond_true,cond_false,mkB,catOkB,catB]
   first|exact⟨rfl,rfl⟩|simp only[List.append_assoc,List.cons_append,List.nil_append,and_self]
  ·have hcc:0≤qint (qfld d 5)∧qint (qfld d 5)≤14:=by
    unfold shp at hs
    rw[ho]at hs
    simp only[Int.reduceEq,Int.reduceLE,or_true,or_false,and_true,and_false,true_and,false_and,if_true,if_false,or_self]at hs
    split at hs
    ·assumption
    ·cases hs
   obtain⟨k,hk⟩:=Int.eq_ofNat_of_zero_le hcc.1
   have hkl:k<ccL.length:=by show _<15;omega
   have cl:=ccT_len k
   have PTe:PT d n j = [115,101,116]++(ccT (qint (qfld d 5)).toNat ++ [32,114,rg (qint (qfld d 6))]):=by
    unfold PT
    simp only[ho,Int.reduceEq,Int.reduceLE,if_true,if_false]
   rw[PTe,pl_def,hk,Int.toNat_natCast]
   simp only[ho,qcmp_eql,qcmp_neq,qcmp_leq,qcmp_lss,qcmp_geq,qiteB_c,qnot_c,qsome_s,qnth_s,List.getD_cons_zero,qbool_b,Int.reduceEq,Int.reduceLE,Int.reduceLT,decide_true,decide_false,Bool.not_true,Bool.not_false,cond_true,cond_false]
   rw[spec26 (by omega),spec35,spec21 hA,spec29 hA]
   simp(disch:=(simp only[List.length_append,List.length_cons,List.length_nil];omega)) only[qsome_s,qnth_s,List.getD_cons_zero,qstr_s,qbool_b,cond_true,cond_false,mkB,catOkB,catB,nameL_inb hkl,nameL_get hkl,show ccL.getD k []=ccT k from rfl]
   first|exact⟨rfl,rfl⟩|simp only[List.append_assoc,List.cons_append,List.nil_append,and_self]
  ·have PTe:PT d n j = [105,110,32,114] ++ [rg (qint (qfld d 6))]:=by
    unfold PT
    simp only[ho,Int.reduceEq,Int.reduceLE,if_true,if_false]
   rw[PTe,pl_def]
   simp only[ho,qcmp_eql,qcmp_neq,qcmp_leq,qcmp_lss,qcmp_geq,qiteB_c,qnot_c,qsome_s,qnth_s,List.getD_cons_zero,qbool_b,Int.reduceEq,Int.reduceLE,Int.reduceLT,decide_true,decide_false,Bool.not_true,Bool.not_false,cond_true,cond_false]
   rw[spec21 hA,spec29 hA]
   simp(disch:=(simp only[List.length_append,List.length_cons,List.length_nil];omega)) only[qsome_s,qnth_s,List.getD_cons_zero,qstr_s,qbool_b,cond_true,cond_false,mkB,catOkB,catB]
   first|exact⟨rfl,rfl⟩|simp only[List.append_assoc,List.cons_append,List.nil_append,and_self]
  ·have PTe:PT d n j = [111,117,116,32,114] ++ [rg (qint (qfld d 6))]:=by
    unfold PT
    simp only[ho,Int.reduceEq,Int.reduceLE,if_true,if_false]
   rw[PTe,pl_def]
   simp only[ho,qcmp_eql,qcmp_neq,qcmp_leq,qcmp_lss,qcmp_geq,qiteB_c,qnot_c,qsome_s,qnth_s,List.getD_cons_zero,qbool_b,Int.reduceEq,Int.reduceLE,Int.reduceLT,decide_true,decide_false,Bool.not_true,Bool.not_false,cond_true,cond_false]
   rw[spec21 hA,spec29 hA]
   simp(disch:=(simp only[List.length_append,List.length_cons,List.length_nil];omega)) only[qsome_s,qnth_s,List.getD_cons_zero,qstr_s,qbool_b,cond_true,cond_false,mkB,catOkB,catB]
   first|exact⟨rfl,rfl⟩|simp only[List.append_assoc,List.cons_append,List.nil_append,and_self]
theorem short_nn (d:D):∃j:Nat,short d=j∧j<4294967296:=by
 have h1:0≤short d∧short d<4294967296:=by unfold short;rw[qbin_eq];simp only[rbin,mU32];omega
 obtain⟨j,hj⟩:=Int.eq_ofNat_of_zero_le h1.1
 exact⟨j,hj,by omega⟩
end Go.Proofs.YtobhhfbdelnhfaaGreatDoor
namespace Go.Proofs.YtobhhfbdelnhfaaGreatDoor
set_option linter.unusedSimpArgs false
set_option linter.unusedVariables false
open Go Go.AM
theorem decode_lo {s:ByteArray} {i:Nat} (h:(s.get! i).toNat<128):(Utf8.decode s i)=((s.get! i).toNat,1):=by
 unfold Utf8.decode;simp[h]
theorem decode_hi {s:ByteArray} {i:Nat} (h:¬(s.get! i).toNat<128):128≤(Utf8.decode s i).1:=by
 unfold Utf8.decode;simp only[Nat.add_zero,h,if_false,Utf8.runeError]
 repeat' split
 all_goals simp_all
 all_goals omega
def byt (s:ByteArray) (i:Nat):Int:=(s.data.toList.getD i 0).toNat
theorem byt_get {s:ByteArray} {i:Nat} (h:i<s.size):((s.get! i).toNat:Int)=byt s i:=by
 have h1:i<s.data.toList.length:=by simpa using h
 have h2:i<s.data.size:=h
 unfold byt
 cases s with|mk bs=>simp only[ByteArray.get!,List.getD,getElem!_pos,h2];simp[h2]
theorem byt_le (s:ByteArray) (i:Nat):0≤byt s i∧byt s i≤255:=by
 unfold byt
 have:=(s.data.toList.getD i 0).toNat_lt
 omega
theorem idxS {s:ByteArray} {i:Nat}:qidxS s (i:Int)=byt s i:=by rw[qidxS_eq];simp[ridxS,byt,ByteArray.toList_eq]
theorem inbS {s:ByteArray} {i:Nat} (h:i<s.size):qinbS s (i:Int)=true:=by rw[qinbS_eq];simp only[rinbS];simp[h]
theorem lenS (s:ByteArray):qlenS s=(s.size:Int):=by rw[qlenS_eq]
theorem wrap_u64 {n:Int} (h0:0≤n) (h1:n<18446744073709551616):IntKind.u64.wrap n=n:=by
 show n.emod _=n
 exact Int.emod_eq_of_lt h0 (by simpa[IntKind.bits]using h1)
theorem wrap_i32 {n:Int} (h0:0≤n) (h1:n<2147483648):IntKind.i32.wrap n=n:=by
 simp only[IntKind.wrap,IntKind.bits,IntKind.signed]
 simp
 omega
theorem pow16:∀i:Nat,i≤10→(16:Int)^i≤1099511627776:=by decide
def dv (c:Int):Int:=if 48≤c∧c≤57 then c-48 else if 97≤c∧c≤102 then c-87 else -1
theorem q158_spec {c:Int} (h:0≤c∧c≤255):q158 [.int c]=some [.int (dv c)]:=by
 rw[q158_eq,F158_eq]
 simp only[qiteB_c,qcmp_geq,qcmp_leq,qbin_eq,rbin,qwrap_eq,dv]
 by_cases h1:48≤c∧c≤57
 ·have e1:IntKind.u8.wrap (c-48)=c-48:=by show(c-48).emod _=_;exact Int.emod_eq_of_lt (by omega) (by simp[IntKind.bits];omega)
  simp only[h1.1,h1.2,decide_true,cond_true,and_self,if_true,e1]
  rw[wrap64' (by omega) (by omega)]
 ·by_cases h2:97≤c∧c≤102
  ·have e1:IntKind.u8.wrap (c-97)=c-97:=by show(c-97).emod _=_;exact Int.emod_eq_of_lt (by omega) (by simp[IntKind.bits];omega)
   have h3:¬c≤57:=by omega
   have h4:48≤c:=by omega
   simp only[h2.1,h2.2,h3,h4,decide_true,decide_false,cond_true,cond_false,and_false,and_self,if_true,if_false,e1]
   rw[wrap64' (n:=c-97) (by omega) (by omega),wrap64' (by omega) (by omega)]
   congr 3;omega
  ·simp only[h1,h2,if_false]
   have:(bif decide (48≤c)then decide (c≤57)else false)=false:=by
    by_cases a:48≤c<;>by_cases b:c≤57<;>simp_all
   rw[this]
   have:(bif decide (97≤c)then decide (c≤102)else false)=false:=by
    by_cases a:97≤c<;>by_cases b:c≤102<;>simp_all
   rw[this]
   rfl
def dgN (s:ByteArray) (base:Int):Nat→Nat→Int→Option Int
 |0,_,n=>some n
 |k+1,i,n=>if dv (byt s i)<0∨base≤dv (byt s i)then none else dgN s base k (i+1) (n*base+dv (byt s i))
theorem dv_le (c:Int):dv c≤15:=by unfold dv;split;omega;split<;>omega
theorem pow_step {i:Nat} {n d:Int} (h:n<16^i) (hd:d≤15) (h0:0≤n) {b:Int} (hb:b≤16) (hb0:0≤b):n*b+d<16^(i+1):=by
 have h1:n*b≤n*16:=Int.mul_le_mul_of_nonneg_left hb h0
 rw[Int.pow_succ];omega
theorem loop147 {s:ByteArray} {base:Int} (hb:10≤base∧base≤16) (hz:s.size≤10):∀(k i:Nat) (n:Int),i+k=s.size→0≤n→n<16^i→
 loW (st147_5 [.str s, .int base]) [.int n, .int i]=some (match dgN s base k i n with|some m=>[.int 0, .int m]|none=>[.int 1]):=by
 intro k
 induction k with
 |zero=>
  intro i n hi h0 h1
  rw[loW_eq,st147_5_eq,lenS,qcmp_lss]
  simp only[show¬((i:Int)<s.size)by omega,decide_false,cond_false,dgN]
 |succ k ih=>
  intro i n hi h0 h1
  have hlt:i<s.size:=by omega
  have hc:=byt_le s i
  rw[loW_eq,st147_5_eq,lenS,qcmp_lss,inbS hlt,idxS,q158_spec hc]
  simp only[show((i:Int)<s.size)by omega,decide_true,cond_true,qsome_s,qnth_s,List.getD_cons_zero,qint_i,qiteB_c,qcmp_lss,qcmp_geq,dgN]
  by_cases h:dv (byt s i)<0∨base≤dv (byt s i)
  ·have:(bif decide (dv (byt s i)<0)then true else decide (base≤dv (byt s i)))=true:=by
    rcases h with h|h<;>simp[h]
   rw[this,if_pos h];rfl
  ·have:(bif decide (dv (byt s i)<0)then true else decide (base≤dv (byt s i)))=false:=by
    have h2:¬dv (byt s i)<0:=fun e=>h (.inl e)
    have h3:¬base≤dv (byt s i):=fun e=>h (.inr e)
    simp[h2,h3]
   rw[this,if_neg h]
   have hd:=dv_le (byt s i)
   have hp:=pow_step h1 hd h0 hb.2 (by omega)
   have hp10:=pow16 (i+1) (by omega)
   have hm:n*base≤n*16:=Int.mul_le_mul_of_nonneg_left hb.2 h0
   have hm0:0≤n*base:=Int.mul_nonneg h0 (by omega)
   have hn0:0≤dv (byt s i):=by omega
   simp only[cond_false,qbin_eq,rbin,qwrap_eq]
   rw[wrap_u64 (n:=base) (by omega) (by omega),wrap_u64 (n:=dv (byt s i)) hn0 (by omega),wrap_u64 (n:=n*base) hm0 (by omega),wrap_u64 (n:=n*base+dv (byt s i)) (by omega) (by omega)]
   have ha:=add_nat (i:=i) (by omega)
   rw[qbin_eq]at ha
   simp only[rbin]at ha
   rw[ha]
   exact ih (i+1) _ (by omega) (by omega) hp
theorem spec147 {s:ByteArray} {base:Int} (hb:10≤base∧base≤16):q147 [.str s, .int base]=some (if 1≤s.size∧s.size≤10 then(match dgN s base s.size 0 0 with|some m=>[.int m, .bool true]|none=>[.int 0, .bool false])else[.int 0, .bool false]):=by
 rw[q147_eq,F147_eq,lenS,qiteB_c,qcmp_lss,qcmp_gtr]
 by_cases h:1≤s.size∧s.size≤10
 ·have h1:¬((s.size:Int)<1):=by omega
  have h2:¬((10:Int)<s.size):=by omega
  have e:l147_5 [.str s, .int base] [.int 0, .int 0]=some (match dgN s base s.size 0 0 with|some m=>[.int 0, .int m]|none=>[.int 1]):=by
   rw[l147_5_eq]
   exact loop147 hb h.2 s.size 0 0 (by omega) (by omega) (by decide)
  simp only[h1,h2,decide_false,cond_false,h,and_self,if_true,e]
  cases dgN s base s.size 0 0<;>simp[qsome_s,qnth_s,qint_i,qcmp_eql]
 ·rw[if_neg h]
  have:(bif decide ((s.size:Int)<1)then true else decide ((10:Int)<s.size))=true:=by
   by_cases a:(s.size:Int)<1
   ·simp[a]
   ·have b:(10:Int)<s.size:=by omega
    simp[a,b]
  rw[this];rfl
noncomputable def nxtT (st:List D→Option (Sum (List D) (List D))) (x:Option (Sum (List D) (List D))):Option (List D):=match x with|none=>none|some (.inl s')=>loW st s'|some (.inr d)=>some d
theorem loW_nxt (st:List D→Option (Sum (List D) (List D))) (s:List D):loW st s=nxtT st (st s):=by
 rw[loW_eq];unfold nxtT
 cases st s with
 |none=>rfl
 |some x=>cases x<;>rfl
theorem loop60 {s:ByteArray} {base most:Int} (hb:10≤base∧base≤16) (hz:s.size≤1000):∀(k i:Nat) (n:Int),i+k=s.size→0≤n→n≤1099511627776→
 ∃r,loW (st60_3 [.str s, .int base, .int most, .str s]) [.int n, .int i]=some r∧(r.getD 0 .other = .int 0∨r.getD 0 .other = .int 1)∧∃m,r.getD 1 .other = .int m∧
  (s.size≤10→n<16^i→(match dgN s base k i n with|some x=>r.getD 0 .other = .int 0∧m=x|none=>r.getD 0 .other = .int 1)):=by
 intro k
 induction k with
 |zero=>
  intro i n hi h0 h1
  rw[loW_nxt,st60_3_eq,lenS,qcmp_lss]
  simp only[show¬((i:Int)<s.size)by omega,decide_false,cond_false]
  exact⟨_,rfl, .inl rfl,n,rfl,fun _ _=>by simp[dgN]⟩
 |succ k ih=>
  intro i n hi h0 h1
  have hlt:i<s.size:=by omega
  have hc:=byt_le s i
  rw[loW_nxt,st60_3_eq,lenS,qcmp_lss]
  simp only[show((i:Int)<s.size)by omega,decide_true,cond_true,qiteB_c,qiteI_eq]
  have bad:∀(x:D),(∃y,x = .int y)→(s.size≤10→n<16^i→dgN s base (k+1) i n=none)→∃r,nxtT (st60_3 [.str s, .int base, .int most, .str s]) (some (Sum.inr [.int 1,x]))=some r∧(r.getD 0 .other = .int 0∨r.getD 0 .other = .int 1)∧∃m,r.getD 1 .other = .int m∧
   (s.size≤10→n<16^i→(match dgN s base (k+1) i n with|some x=>r.getD 0 .other = .int 0∧m=x|none=>r.getD 0 .other = .int 1)):=by
   rintro x ⟨y,rfl⟩ hx
   refine⟨_,rfl, .inr rfl,y,rfl,fun h2 h3=> ?_⟩
   rw[hx h2 h3];rfl
  by_cases hlo:(s.get! i).toNat<128
  ·have hr:qrune s i=byt s i:=by
    rw[qrune,veil_eq];simp only[Int.toNat_natCast,decode_lo hlo];exact byt_get hlt
   have hw:qrw s i=((i+1:Nat):Int):=by
    rw[qrw,veil_eq];simp only[Int.toNat_natCast,decode_lo hlo];omega
   rw[hr,hw]
   have go:∀(d:Int),d=dv (byt s i)→0≤d→∃r,nxtT (st60_3 [.str s, .int base, .int most, .str s]) (bif decide (base≤d)then some (Sum.inr [.int 1, .int ((i+1:Nat):Int)])else bif decide (1099511627776<n*base+d)then some (Sum.inr [.int 1, .int ((i+1:Nat):Int)])else some (Sum.inl [.int (n*base+d), .int ((i+1:Nat):Int)]))=some r∧(r.getD 0 .other = .int 0∨r.getD 0 .other = .int 1)∧∃m,r.getD 1 .other = .int m∧
    (s.size≤10→n<16^i→(match dgN s base (k+1) i n with|some x=>r.getD 0 .other = .int 0∧m=x|none=>r.getD 0 .other = .int 1)):=by
    intro d hd hd0
    have hd15:d≤15:=by rw[hd];exact dv_le _
    by_cases hbd:base≤d
    ·simp only[hbd,decide_true,cond_true]
     exact bad _ ⟨_,rfl⟩ fun _ _=>by simp only[dgN];rw[if_pos (.inr (by rw[← hd];exact hbd))]
    ·simp only[hbd,decide_false,cond_false]
     have hm0:0≤n*base:=Int.mul_nonneg h0 (by omega)
     by_cases hbig:1099511627776<n*base+d
     ·simp only[hbig,decide_true,cond_true]
      refine bad _ ⟨_,rfl⟩ fun h2 h3=> ?_
      have hp:=pow_step h3 hd15 h0 hb.2 (by omega)
      have hp10:=pow16 (i+1) (by omega)
      omega
     ·simp only[hbig,decide_false,cond_false]
      obtain⟨r,e1,e2,m,e3,e4⟩:=ih (i+1) (n*base+d) (by omega) (by omega) (by omega)
      refine⟨r,e1,e2,m,e3,fun h2 h3=> ?_⟩
      have:=e4 h2 (pow_step h3 hd15 h0 hb.2 (by omega))
      simp only[dgN]
      rw[if_neg (by rw[← hd];omega), ← hd]
      exact this
   have hm:n*base≤n*16:=Int.mul_le_mul_of_nonneg_left hb.2 h0
   have hm0:0≤n*base:=Int.mul_nonneg h0 (by omega)
   have wm:IntKind.u64.wrap (n*base)=n*base:=wrap_u64 hm0 (by omega)
   simp only[qcmp_geq,qcmp_leq,qcmp_gtr,qbin_eq,rbin,qwrap_eq,wm]
   by_cases h1':48≤byt s i∧byt s i≤57
   ·have w1:IntKind.i32.wrap (byt s i-48)=byt s i-48:=wrap_i32 (by omega) (by omega)
    have w2:IntKind.u64.wrap (byt s i-48)=byt s i-48:=wrap_u64 (by omega) (by omega)
    have w3:IntKind.u64.wrap (n*base+(byt s i-48))=n*base+(byt s i-48):=wrap_u64 (by omega) (by omega)
    simp only[h1'.1,h1'.2,decide_true,cond_true,w1,w2,w3]
    exact go _ (by rw[dv,if_pos h1']) (by omega)
   ·have e0:(bif decide (48≤byt s i)then decide (byt s i≤57)else false)=false:=by
     by_cases a:48≤byt s i<;>by_cases b:byt s i≤57<;>simp_all
    rw[e0]
    by_cases h2':97≤byt s i∧byt s i≤102
    ·have w1:IntKind.i32.wrap (byt s i-97)=byt s i-97:=wrap_i32 (by omega) (by omega)
     have w2:IntKind.u64.wrap (byt s i-97)=byt s i-97:=wrap_u64 (by omega) (by omega)
     have w4:IntKind.u64.wrap (byt s i-97+10)=byt s i-97+10:=wrap_u64 (by omega) (by omega)
     have w3:IntKind.u64.wrap (n*base+(byt s i-97+10))=n*base+(byt s i-97+10):=wrap_u64 (by omega) (by omega)
     simp only[h2'.1,h2'.2,decide_true,cond_true,cond_false,w1,w2,w4,w3]
     exact go (byt s i-97+10) (by rw[dv,if_neg h1',if_pos h2'];omega) (by omega)
    ·have e1:(bif decide (97≤byt s i)then decide (byt s i≤102)else false)=false:=by
      by_cases a:97≤byt s i<;>by_cases b:byt s i≤102<;>simp_all
     rw[e1]
     simp only[cond_false,Int.le_refl,decide_true,cond_true]
     exact bad _ ⟨_,rfl⟩ fun _ _=>by simp only[dgN,dv,h1',h2',if_false];rw[if_pos (.inl (by omega))]
  ·have hr:128≤qrune s i:=by
    rw[qrune,veil_eq];simp only[Int.toNat_natCast];have:=decode_hi hlo;omega
   have hby:128≤byt s i:=by rw[← byt_get hlt];omega
   simp only[qcmp_geq,qcmp_leq]
   have a1:¬qrune s i≤57:=by omega
   have a2:¬qrune s i≤102:=by omega
   have a3:48≤qrune s i:=by omega
   have a4:97≤qrune s i:=by omega
   simp only[a1,a2,a3,a4,decide_true,decide_false,cond_true,cond_false,Int.le_refl]
   refine bad _ ⟨_,rfl⟩ fun _ _=> ?_
   have b1:¬(48≤byt s i∧byt s i≤57):=by omega
   have b2:¬(97≤byt s i∧byt s i≤102):=by omega
   simp only[dgN,dv,b1,b2,if_false];rw[if_pos (.inl (by omega))]
theorem spec60 {s:ByteArray} {base most:Int} (hb:10≤base∧base≤16) (hm:most≤10) (hz:s.size≤1000):∃(n:Int) (b:Bool),q60 [.str s, .int base, .int most]=some [.int n, .bool b]∧
 (match(if 1≤s.size∧(s.size:Int)≤most then dgN s base s.size 0 0 else none)with|some m=>n=m∧b=true|none=>b=false):=by
 obtain⟨r,e1,e2,m,e3,e4⟩:=loop60 (most:=most) hb hz s.size 0 0 (by omega) (by omega) (by omega)
 have e:l60_3 [.str s, .int base, .int most, .str s] [.int 0, .int 0]=some r:=by rw[l60_3_eq];exact e1
 rw[q60_eq,F60_eq,e]
 simp only[qsome_s,qnth_s,e3,qint_i,cond_true,lenS,qiteB_c,qcmp_geq,qcmp_leq,qcmp_eql]
 rcases e2 with e2|e2
 ·simp only[e2,qint_i,decide_true,cond_true]
  refine⟨m,_,rfl,?_⟩
  by_cases h:1≤s.size∧(s.size:Int)≤most
  ·have h5:=e4 (by omega) (by decide)
   rw[if_pos h]
   cases hd:dgN s base s.size 0 0 with
   |none=>rw[hd]at h5;rw[e2]at h5;simp at h5
   |some x=>
    rw[hd]at h5
    refine⟨h5.2,?_⟩
    simp[h.2];omega
  ·rw[if_neg h]
   show _=_
   by_cases a:(1:Int)≤s.size
   ·have b:¬(s.size:Int)≤most:=fun b=>h ⟨by omega,b⟩
    simp[a,b]
   ·simp[a]
 ·simp only[e2,qint_i,show¬((1:Int)=0)by omega,decide_false,cond_false]
  refine⟨0,false,rfl,?_⟩
  by_cases h:1≤s.size∧(s.size:Int)≤most
  ·have h5:=e4 (by omega) (by decide)
   rw[if_pos h]
   cases hd:dgN s base s.size 0 0 with
   |none=>rfl
   |some x=>rw[hd]at h5;rw[e2]at h5;simp at h5
  ·rw[if_neg h]
theorem dgN_nn {s:ByteArray} {base:Int} (hb:0≤base):∀(k i:Nat) (n m:Int),0≤n→dgN s base k i n=some m→0≤m
 |0,_,n,m,h,e=>by simp only[dgN,Option.some.injEq]at e;omega
 |k+1,i,n,m,h,e=>by
  simp only[dgN]at e
  split at e
  ·cases e
  ·refine dgN_nn hb k (i+1) _ m ?_ e
   have:=Int.mul_nonneg h hb
   omega
end Go.Proofs.YtobhhfbdelnhfaaGreatDoor
namespace Go.Proofs.YtobhhfbdelnhfaaGreatDoor
set_option linter.unusedSimpArgs false
set_option linter.unusedVariables false
open Go Go.AM
noncomputable def has (s p:ByteArray):Bool:=bif decide (p.size≤s.size)then qcmpS .eql (qsubS s 0 (qlenS p)) p else false
theorem spec59 (s p:ByteArray):q59 [.str s, .str p]=some [.str (bif has s p then qsubS s (qlenS p) (qlenS s)else s), .bool (has s p)]:=by
 rw[q59_eq,F59_eq,q102_eq,F102_eq,q136_eq,F136_eq]
 simp only[qiteB_c,qcmp_geq,qcmp_leq,lenS,has,show qand=fun a b=>a&&b from veil_eq _]
 by_cases h:p.size≤s.size
 ·have h1:(p.size:Int)≤s.size:=by omega
  have h2:(0:Int)≤p.size:=by omega
  simp only[h,h1,h2,decide_true,cond_true,Int.le_refl,Bool.and_self,qsome_s,qnth_s,List.getD_cons_zero,List.getD_cons_succ,qbool_b,qnot_c]
  cases qcmpS BinOp.eql (qsubS s 0 (p.size:Int)) p<;>simp[qsome_s,qnth_s,qstr_s,qbool_b]
 ·have h1:¬(p.size:Int)≤s.size:=by omega
  simp only[h,h1,decide_false,cond_false,cond_true,qsome_s,qnth_s,List.getD_cons_zero,List.getD_cons_succ,qbool_b,qnot_c,Bool.not_false,qstr_s]
theorem byt0 {l:List UInt8} {i:Nat}:byt ⟨⟨l⟩⟩ i=(l.getD i 0).toNat:=rfl
theorem eqS (a b:ByteArray):qcmpS .eql a b=(a.data.toList==b.data.toList):=by rw[qcmpS_eq];simp[rcmpS,ByteArray.toList_eq]
theorem u8_eq {x:UInt8} {n:Nat} (hn:n<256):((x.toNat:Int)=(n:Int))↔x=UInt8.ofNat n:=by
 constructor
 ·intro h
  have h1:x.toNat=n:=by omega
  rw[← h1];exact(UInt8.ofNat_toNat).symm
 ·rintro rfl
  simp[UInt8.toNat_ofNat',Nat.mod_eq_of_lt hn]
theorem sub_list {l:List UInt8} {n:Nat}:(qsubS ⟨⟨l⟩⟩ 0 (n:Int)).data.toList=l.take n:=by
 rw[qsubS_eq]
 simp[ByteArray.extract,ByteArray.copySlice]
theorem has_minus (s:ByteArray):has s ⟨#[45]⟩=(decide (0<s.size)&&decide (byt s 0=45)):=by
 obtain⟨⟨l⟩⟩:=s
 have hs:(ByteArray.mk ⟨l⟩).size=l.length:=rfl
 have hp:(ByteArray.mk #[45]).size=1:=rfl
 simp only[has,hs,hp,lenS,eqS]
 cases l with
 |nil=>rfl
 |cons x l=>
  rw[show((1:Nat):Int)=((1:Nat):Int)from rfl,sub_list]
  simp only[List.length_cons,show 1≤l.length+1 by omega,show 0<l.length+1 by omega,decide_true,cond_true,Bool.true_and,List.take_succ_cons,List.take_zero,byt0,List.getD_cons_zero]
  rw[Bool.eq_iff_iff,beq_iff_eq,decide_eq_true_eq,show(45:Int)=((45:Nat):Int)from rfl,u8_eq (by omega)]
  simp
theorem has_hex {s:ByteArray} (h:has s ⟨#[48,120]⟩=true):2≤s.size∧byt s 0=48∧byt s 1=120:=by
 obtain⟨⟨l⟩⟩:=s
 have hs:(ByteArray.mk ⟨l⟩).size=l.length:=rfl
 have hp:(ByteArray.mk #[48,120]).size=2:=rfl
 simp only[has,hs,hp,lenS,eqS]at h
 by_cases h2:2≤l.length
 ·simp only[h2,decide_true,cond_true]at h
  rw[sub_list,beq_iff_eq]at h
  match l,h2 with
  |x::y::l,_=>
   simp only[List.take_succ_cons,List.take_zero,List.cons.injEq,and_true]at h
   refine⟨by rw[hs];simp only[List.length_cons];omega,?_,?_⟩
   ·simp only[byt0,List.getD_cons_zero];rw[h.1];rfl
   ·simp only[byt0,List.getD_cons_zero,List.getD_cons_succ];rw[h.2];rfl
 ·simp[h2]at h
theorem is_zero (s:ByteArray):qcmpS .eql s ⟨#[48]⟩=true↔s.size=1∧byt s 0=48:=by
 obtain⟨⟨l⟩⟩:=s
 have hs:(ByteArray.mk ⟨l⟩).size=l.length:=rfl
 rw[eqS,beq_iff_eq,hs]
 match l with
 | []=>simp
 | [x]=>
   simp only[byt0,List.getD_cons_zero,List.length_cons,List.length_nil]
   rw[show(48:Int)=((48:Nat):Int)from rfl,u8_eq (by omega)]
   simp
 |x::y::l=>simp
theorem size_sub {s:ByteArray} {n:Nat} (h:n≤s.size):(qsubS s (n:Int) (s.size:Int)).size=s.size-n:=by
 rw[qsubS_eq]
 simp[ByteArray.size_extract]
theorem digits_eq {t:ByteArray} {base most:Int} (hb:10≤base∧base≤16) (hm:most≤10) (hz:t.size≤1000):
 (∃n m,q60 [.str t, .int base, .int most]=some [.int n, .bool false]∧(q147 [.str t, .int base]=some [.int m, .bool false]∨(q147 [.str t, .int base]=some [.int m, .bool true]∧most<t.size)))∨
 (∃m,0≤m∧1≤t.size∧(t.size:Int)≤most∧dgN t base t.size 0 0=some m∧q60 [.str t, .int base, .int most]=some [.int m, .bool true]∧q147 [.str t, .int base]=some [.int m, .bool true]):=by
 obtain⟨n,b,e1,e2⟩:=spec60 hb hm hz
 have e3:=spec147 (s:=t) hb
 rw[e1,e3]
 by_cases h:1≤t.size∧(t.size:Int)≤most
 ·rw[if_pos h]at e2
  have h10:1≤t.size∧t.size≤10:=by omega
  rw[if_pos h10]
  cases hd:dgN t base t.size 0 0 with
  |none=>
   rw[hd]at e2
   simp only at e2
   subst e2
   exact .inl ⟨n,0,rfl, .inl rfl⟩
  |some m=>
   rw[hd]at e2
   simp only at e2
   obtain⟨rfl,rfl⟩:=e2
   exact .inr ⟨n,dgN_nn (by omega) _ _ _ _ (by omega) hd,h.1,h.2,rfl,rfl,rfl⟩
 ·rw[if_neg h]at e2
  simp only at e2
  subst e2
  left
  by_cases h10:1≤t.size∧t.size≤10
  ·rw[if_pos h10]
   cases hd:dgN t base t.size 0 0 with
   |none=>exact⟨n,0,rfl, .inl rfl⟩
   |some m=>exact⟨n,m,rfl, .inr ⟨rfl,by omega⟩⟩
  ·rw[if_neg h10]
   exact⟨n,0,rfl, .inl rfl⟩
theorem neg32 {m:Int} (h0:0≤m) (h1:m≤2147483648):qun .neg .u32 (qwrap .u32 m)=qwrap .u32 (qbin .sub .u64 4294967296 m):=by
 rw[qwrap_eq,qbin_eq,qun_eq]
 simp only[run1,rbin]
 rw[wrap_u64 (n:=4294967296-m) (by omega) (by omega)]
 have w:∀n:Int,IntKind.u32.wrap n=n%4294967296:=fun n=>by simp[IntKind.wrap,IntKind.bits,IntKind.signed]
 rw[w,w,w]
 omega
theorem num_eq {s:ByteArray} (hz:s.size≤1000):∃(n:Int) (b:Bool),q36 [.str s]=some [.int n, .bool b]∧q126 [.str s]=some [.int n, .bool b]:=by
 have l2:qlenS ⟨#[48,120]⟩=2:=by rw[lenS];rfl
 have l1:qlenS ⟨#[45]⟩=1:=by rw[lenS];rfl
 have hqand:qand=fun a b=>a&&b:=veil_eq _
 rw[q36_eq,F36_eq,q126_eq,F126_eq,spec59,spec59]
 simp only[qsome_s,qnth_s,List.getD_cons_zero,List.getD_cons_succ,qbool_b,qstr_s,cond_true,l2,l1]
 cases hx:has s ⟨#[48,120]⟩with
 |true=>
  obtain⟨h2,hb0,hb1⟩:=has_hex hx
  have hE:qcmpS .eql (qsubS s 0 2) ⟨#[48,120]⟩=true:=by
   have:=hx
   simp only[has,l2,show(ByteArray.mk #[48,120]).size=2 from rfl,h2,decide_true,cond_true]at this
   exact this
  have ht:(qsubS s 2 (s.size:Int)).size=s.size-2:=size_sub (n:=2) h2
  simp only[cond_true,lenS,qiteB_c,qcmp_gtr,qcmp_leq,hqand,hE]
  have i2:(2:Int)≤s.size:=by omega
  have d16:=digits_eq (t:=qsubS s 2 (s.size:Int)) (base:=16) (most:=8) (by omega) (by omega) (by omega)
  by_cases h3:(2:Int)<s.size
  ·simp only[h3,i2,decide_true,cond_true,Int.le_refl,show(0:Int)≤2 by omega,Bool.and_self]
   rcases d16 with⟨n,m,e1,e2⟩|⟨m,hm,t1,t2,_,e1,e2⟩
   ·rw[e1]
    simp only[qsome_s,qnth_s,List.getD_cons_zero,List.getD_cons_succ,qbool_b,qnot_c,Bool.not_false,cond_true]
    refine⟨0,false,rfl,?_⟩
    rcases e2 with e2|⟨e2,hl⟩
    ·rw[e2];simp[qsome_s,qnth_s,qbool_b,qnot_c]
    ·have:(10:Int)<s.size:=by omega
     rw[e2];simp[qsome_s,qnth_s,qbool_b,qnot_c,this]
   ·have:¬(10:Int)<s.size:=by omega
    rw[e1,e2]
    simp only[qsome_s,qnth_s,List.getD_cons_zero,List.getD_cons_succ,qbool_b,qnot_c,Bool.not_true,cond_true,cond_false,this,decide_false,qint_i]
    exact⟨_,_,rfl,rfl⟩
  ·have hs2:s.size=2:=by omega
   have hi0:qinbS s 0=true:=by have:=inbS (s:=s) (i:=0) (by omega);simpa using this
   have hx0:qidxS s 0=48:=by have:=idxS (s:=s) (i:=0);rw[hb0]at this;simpa using this
   have e29:q147 [.str s, .int 10]=some [.int 0, .bool false]:=by
    rw[spec147 (by omega),if_pos (by omega),hs2]
    simp only[dgN,hb0,hb1,dv]
    simp
   rcases d16 with⟨n,m,e1,e2⟩|⟨m,hm,t1,t2,_,e1,e2⟩
   ·have hc45:¬((48:Int)=45):=by omega
    rw[e1]
    simp only[h3,decide_false,cond_false,cond_true,qsome_s,qnth_s,List.getD_cons_zero,List.getD_cons_succ,qbool_b,qnot_c,Bool.not_false,hs2,hi0,hx0,qcmp_eql,hc45,show((0:Int)<(2:Nat))by omega,decide_true,qiteS_eq,e29]
    exact⟨_,_,rfl,rfl⟩
   ·omega
 |false=>
  have hE:(bif decide ((2:Int)<s.size)then qcmpS .eql (qsubS s 0 2) ⟨#[48,120]⟩else false)=false:=by
   by_cases h3:(2:Int)<s.size
   ·simp only[has,l2,show(ByteArray.mk #[48,120]).size=2 from rfl,show 2≤s.size by omega,decide_true,cond_true]at hx
    simp[h3,hx]
   ·simp[h3]
  have g1:(bif decide ((2:Int)<s.size)then(decide ((0:Int)≤0)&&(decide ((0:Int)≤2)&&decide ((2:Int)≤s.size)))else true)=true:=by
   by_cases h3:(2:Int)<s.size
   ·have:(2:Int)≤s.size:=by omega
    simp[h3,this]
   ·simp[h3]
  have hM:(bif decide ((0:Int)<s.size)then decide (qidxS s 0=45)else false)=has s ⟨#[45]⟩:=by
   rw[has_minus]
   have:qidxS s 0=byt s 0:=by have:=idxS (s:=s) (i:=0);simpa using this
   rw[this]
   by_cases h0:0<s.size
   ·have:(0:Int)<s.size:=by omega
    simp[h0,this]
   ·have:¬(0:Int)<s.size:=by omega
    simp[h0,this]
  have g2:(bif decide ((0:Int)<s.size)then qinbS s 0 else true)=true:=by
   by_cases h0:(0:Int)<s.size
   ·rw[decide_eq_true h0]
    have:=inbS (s:=s) (i:=0) (by omega)
    simp only[cond_true];simpa using this
   ·rw[decide_eq_false h0];rfl
  have g3:(bif has s ⟨#[45]⟩then(decide ((0:Int)≤1)&&(decide ((1:Int)≤s.size)&&decide ((s.size:Int)≤s.size)))else true)=true:=by
   cases hm:has s ⟨#[45]⟩with
   |false=>rfl
   |true=>
    rw[has_minus]at hm
    simp only[Bool.and_eq_true,decide_eq_true_eq]at hm
    have:(1:Int)≤s.size:=by omega
    simp[this]
  simp only[cond_false,lenS,qiteB_c,qcmp_gtr,qcmp_leq,qcmp_eql,qcmp_geq,hqand,hE,g1,cond_true,g2,hM,g3,qiteS_eq]
  obtain⟨u,hu⟩:∃u,u=(bif has s ⟨#[45]⟩then qsubS s 1 (s.size:Int)else s):=⟨_,rfl⟩
  rw[← hu]
  have hus:u.size≤1000:=by
   rw[hu]
   cases hm:has s ⟨#[45]⟩with
   |false=>exact hz
   |true=>
    rw[has_minus]at hm
    simp only[Bool.and_eq_true,decide_eq_true_eq]at hm
    have h1:(qsubS s 1 (s.size:Int)).size=s.size-1:=size_sub (n:=1) (by omega)
    simp only[cond_true];omega
  have d10:=digits_eq (t:=u) (base:=10) (most:=10) (by omega) (by omega) hus
  cases hz0:qcmpS .eql s ⟨#[48]⟩with
  |true=>
   obtain⟨hs1,hb0⟩:=(is_zero s).1 hz0
   have hm:has s ⟨#[45]⟩=false:=by rw[has_minus,hb0];simp
   rw[hm]at hu
   simp only[cond_false]at hu
   subst hu
   have e29:q147 [.str u, .int 10]=some [.int 0, .bool true]:=by
    rw[spec147 (by omega),if_pos (by omega),hs1]
    simp only[dgN,hb0,dv]
    simp
   have hi0:qinbS u 0=true:=by have:=inbS (s:=u) (i:=0) (by omega);simpa using this
   have hx0:qidxS u 0=48:=by have:=idxS (s:=u) (i:=0);rw[hb0]at this;simpa using this
   simp only[cond_true,hm,e29,qsome_s,qnth_s,List.getD_cons_zero,List.getD_cons_succ,qbool_b,qnot_c,Bool.not_true,Bool.not_false,cond_false,hi0,hx0,hs1,decide_true,qint_i]
   exact⟨0,true,rfl,by rw[qwrap_eq];rfl⟩
  |false=>
   simp only[cond_false]
   rcases d10 with⟨n,m,e1,e2⟩|⟨m,hm0,t1,t2,_,e1,e2⟩
   ·have e2':∃m,q147 [.str u, .int 10]=some [.int m, .bool false]:=by
     rcases e2 with e2|⟨e2,hl⟩
     ·exact⟨m,e2⟩
     ·have e3:=spec147 (s:=u) (base:=10) (by omega)
      rw[if_neg (by omega)]at e3
      exact⟨0,e3⟩
    obtain⟨m',e3⟩:=e2'
    rw[e1,e3]
    simp only[qsome_s,qnth_s,List.getD_cons_zero,List.getD_cons_succ,qbool_b,qnot_c,Bool.not_false,cond_true]
    exact⟨0,false,rfl,rfl⟩
   ·have hi0:qinbS u 0=true:=by have:=inbS (s:=u) (i:=0) (by omega);simpa using this
    have hx0:qidxS u 0=byt u 0:=by have:=idxS (s:=u) (i:=0);simpa using this
    rw[e1,e2]
    simp only[qsome_s,qnth_s,List.getD_cons_zero,List.getD_cons_succ,qbool_b,qnot_c,Bool.not_true,cond_true,cond_false,hi0,hx0,qint_i]
    by_cases h48:byt u 0=48
    ·have hlong:(bif decide ((1:Int)<u.size)then true else has s ⟨#[45]⟩)=true:=by
      by_cases hl:(1:Int)<u.size
      ·simp[hl]
      ·cases hm:has s ⟨#[45]⟩with
       |true=>simp[hl]
       |false=>
        rw[hm]at hu
        simp only[cond_false]at hu
        rw[hu]at h48 hl t1
        rw[(is_zero s).2 ⟨by omega,h48⟩]at hz0
        cases hz0
     simp only[h48,decide_true,cond_true,hlong]
     exact⟨0,false,rfl,rfl⟩
    ·simp only[h48,decide_false,cond_false]
     cases hm:has s ⟨#[45]⟩with
     |false=>
      simp only[cond_false,cond_true,Bool.not_false]
      by_cases hb:(4294967296:Int)≤m
      ·have:(4294967295:Int)<m:=by omega
       simp only[hb,this,decide_true,cond_true]
       exact⟨0,false,rfl,rfl⟩
      ·have:¬(4294967295:Int)<m:=by omega
       simp only[hb,this,decide_false,cond_false]
       exact⟨_,true,rfl,rfl⟩
     |true=>
      simp only[cond_false,cond_true,Bool.not_true]
      by_cases hb:(2147483648:Int)<m
      ·simp only[hb,decide_true,cond_true]
       refine⟨0,false,?_,rfl⟩
       cases decide ((4294967296:Int)≤m)<;>rfl
      ·have:¬(4294967296:Int)≤m:=by omega
       simp only[hb,this,decide_false,cond_false]
       exact⟨_,true,rfl,by rw[neg32 hm0 (by omega)]⟩
theorem reg_eq (s:ByteArray):∃(n:Int) (b:Bool),q108 [.str s]=some [.int n, .bool b]∧q114 [.str s]=some [.int n, .bool b]:=by
 rw[q108_eq,F108_eq,q114_eq,F114_eq]
 simp only[lenS,qiteB_c,qcmp_neq,qcmp_eql,qcmp_lss,qcmp_gtr,qcmp_leq,qcmp_geq]
 by_cases h:(s.size:Int)=2
 ·have i0:qinbS s 0=true:=by have:=inbS (s:=s) (i:=0) (by omega);simpa using this
  have i1:qinbS s 1=true:=by have:=inbS (s:=s) (i:=1) (by omega);simpa using this
  simp only[h,decide_true,Bool.not_true,cond_false,cond_true,i0,i1]
  by_cases a:qidxS s 0=114<;>by_cases b:48≤qidxS s 1<;>by_cases c:qidxS s 1≤55
  all_goals
   have b':decide (qidxS s 1<48) = !decide (48≤qidxS s 1):=by rw[Bool.eq_iff_iff];simp
   have c':decide (55<qidxS s 1) = !decide (qidxS s 1≤55):=by rw[Bool.eq_iff_iff];simp
   simp only[a,b,c,b',c',decide_true,decide_false,Bool.not_true,Bool.not_false,cond_true,cond_false]
   exact⟨_,_,rfl,rfl⟩
 ·simp only[h,decide_false,Bool.not_false,cond_true,cond_false]
  exact⟨_,_,rfl,rfl⟩
end Go.Proofs.YtobhhfbdelnhfaaGreatDoor
namespace Go.Proofs.YtobhhfbdelnhfaaGreatDoor
set_option linter.unusedSimpArgs false
set_option linter.unusedVariables false
open Go Go.AM
theorem len_bs (l:List UInt8):qlenS (bs l)=(l.length:Int):=by rw[lenS];rfl
theorem sub_bs (l:List UInt8) (a b:Nat):qsubS (bs l) (a:Int) (b:Int)=bs ((l.take b).drop a):=by
 rw[qsubS_eq]
 apply ByteArray.ext
 rw[← Array.toList_inj]
 simp only[Int.toNat_natCast,ByteArray.data_extract,Array.toList_extract,List.extract_eq_take_drop]
 show List.take (b-a) (l.drop a)=_
 rw[List.drop_take];rfl
theorem sub_to (l:List UInt8) (b:Nat):qsubS (bs l) 0 (b:Int)=bs (l.take b):=sub_bs l 0 b
theorem sub_from (l:List UInt8) (a:Nat):qsubS (bs l) (a:Int) (l.length:Int)=bs (l.drop a):=by
 rw[sub_bs,List.take_length]
theorem eq_bs (a b:List UInt8):qcmpS .eql (bs a) (bs b)=decide (a=b):=by
 rw[eqS]
 show(a==b)=_
 by_cases h:a=b<;>simp[h]
theorem idx_bs (l:List UInt8) (i:Nat):qidxS (bs l) (i:Int)=((l.getD i 0).toNat:Int):=idxS
theorem inb_bs {l:List UInt8} {i:Nat} (h:i<l.length):qinbS (bs l) (i:Int)=true:=inbS (s:=bs l) h
theorem qand_c:qand=fun a b=>a&&b:=veil_eq _
theorem has_bs (l p:List UInt8):has (bs l) (bs p)=p.isPrefixOf l:=by
 unfold has
 rw[len_bs,sub_to,eq_bs,bs_size,bs_size]
 rw[Bool.eq_iff_iff,List.isPrefixOf_iff_prefix]
 by_cases h:p.length≤l.length
 ·simp only[h,decide_true,cond_true,decide_eq_true_eq]
  rw[List.prefix_iff_eq_take]
  exact eq_comm
 ·simp only[h,decide_false,cond_false,Bool.false_eq_true,false_iff]
  intro hp
  exact h hp.length_le
theorem pre59 (l p:List UInt8):q59 [.str (bs l), .str (bs p)]=some [.str (bs (bif p.isPrefixOf l then l.drop p.length else l)), .bool (p.isPrefixOf l)]:=by
 have h:=spec59 (bs l) (bs p)
 rw[h,has_bs,len_bs,len_bs,sub_from]
 cases p.isPrefixOf l<;>rfl
def sfx (p l:List UInt8):Bool:=decide (p.length≤l.length)&&decide (l.drop (l.length-p.length)=p)
theorem subI {a b:Nat} (h:b≤a) (h2:a≤1000000):qbin .sub .i64 (a:Int) (b:Int)=((a-b:Nat):Int):=by
 rw[qbin_eq];simp only[rbin];rw[wrap64' (by omega) (by omega)];omega
theorem addI {a b:Nat} (h2:a+b≤1000000):qbin .add .i64 (a:Int) (b:Int)=((a+b:Nat):Int):=by
 rw[qbin_eq];simp only[rbin];rw[wrap64' (by omega) (by omega)];omega
theorem geI (a b:Nat):qcmp .geq (a:Int) (b:Int)=decide (b≤a):=geN a b
theorem leI' (a b:Nat):qcmp .leq (a:Int) (b:Int)=decide (a≤b):=leN a b
theorem ltI (a b:Nat):qcmp .lss (a:Int) (b:Int)=decide (a<b):=by rw[qcmp_lss];exact decide_eq_decide.2 (by omega)
theorem gtI (a b:Nat):qcmp .gtr (a:Int) (b:Int)=decide (b<a):=by rw[qcmp_gtr];exact decide_eq_decide.2 (by omega)
theorem eqI (a b:Nat):qcmp .eql (a:Int) (b:Int)=decide (a=b):=by rw[qcmp_eql];exact decide_eq_decide.2 (by omega)
theorem neI (a b:Nat):qcmp .neq (a:Int) (b:Int) = !decide (a=b):=by rw[qcmp_neq];congr 1;exact decide_eq_decide.2 (by omega)
theorem le0 (a:Nat):qcmp .leq 0 (a:Int)=true:=by rw[qcmp_leq];exact decide_eq_true (by omega)
theorem suf138 (l p:List UInt8) (hl:l.length≤1000000):q138 [.str (bs l), .str (bs p)]=some [.bool (sfx p l)]:=by
 rw[q138_eq,F138_eq]
 simp only[len_bs,qiteB_c,qand_c,geI,leI']
 unfold sfx
 by_cases h:p.length≤l.length
 ·rw[subI h hl,sub_from,eq_bs,le0]
  simp[h,leI',show l.length-p.length≤l.length by omega]
 ·simp[h]
theorem suf62 (l p:List UInt8) (hl:l.length≤1000000):q62 [.str (bs l), .str (bs p)]=some [.str (bs (bif sfx p l then l.take (l.length-p.length)else l)), .bool (sfx p l)]:=by
 rw[q62_eq,F62_eq,q104_eq,F104_eq,suf138 l p hl]
 simp only[qsome_s,qnth_s,List.getD_cons_zero,List.getD_cons_succ,qbool_b,qstr_s,qnot_c,cond_true,len_bs]
 cases h:sfx p l with
 |false=>simp[qsome_s,qnth_s,qstr_s,qbool_b]
 |true=>
  have hp:p.length≤l.length:=by
   unfold sfx at h
   simp only[Bool.and_eq_true,decide_eq_true_eq]at h
   exact h.1
  rw[subI hp hl,sub_to,le0,leI',decide_eq_true (show l.length-p.length≤l.length by omega),show qcmp .leq 0 0=true by rw[qcmp_leq];rfl]
  simp[qsome_s,qnth_s,qstr_s,qbool_b]
def ixF (x:List UInt8):List (List UInt8)→Nat→Int
 | [],_=> -1
 |y::r,i=>if y=x then(i:Int)else ixF x r (i+1)
def ix (names:List (List UInt8)) (x:List UInt8):Int:=ixF x names 0
theorem ixF_range (x:List UInt8):∀(l:List (List UInt8)) (i:Nat),ixF x l i = -1∨∃k,k<l.length∧l[k]? = some x∧ixF x l i=((i+k:Nat):Int)
 | [],i=> .inl rfl
 |y::r,i=>by
  unfold ixF
  by_cases h:y=x
  ·rw[if_pos h];exact .inr ⟨0,by simp,by simp[h],by simp⟩
  ·rw[if_neg h]
   rcases ixF_range x r (i+1)with e|⟨k,hk,hx,e⟩
   ·exact .inl e
   ·exact .inr ⟨k+1,by simp;omega,by simpa using hx,by rw[e];omega⟩
theorem ix_range (l:List (List UInt8)) (x:List UInt8):ix l x = -1∨∃k,k<l.length∧l[k]? = some x∧ix l x=(k:Int):=by
 rcases ixF_range x l 0 with e|⟨k,hk,hx,e⟩
 ·exact .inl e
 ·exact .inr ⟨k,hk,hx,by unfold ix;rw[e];simp⟩
theorem ixLoop (names:List (List UInt8)) (x:List UInt8) (st:List D→Option (Sum (List D) (List D))) (hn:names.length≤1000)
 (hs:∀i:Nat,i<names.length→st [.int i]=if names.getD i []=x then some (.inr [.int 1, .int i])else some (.inl [.int ((i+1:Nat):Int)]))
 (he:st [.int names.length]=some (.inr [.int 0])):
 ∀(k i:Nat),i+k=names.length→loW st [.int i]=(if ixF x (names.drop i) i = -1 then some [.int 0]else some [.int 1, .int (ixF x (names.drop i) i)]):=by
 intro k
 induction k with
 |zero=>
  intro i h
  obtain rfl:i=names.length:=by omega
  rw[nxtW,he,nxt_r,List.drop_length];rfl
 |succ k ih=>
  intro i h
  have hlt:i<names.length:=by omega
  rw[nxtW,hs i hlt]
  have hd:names.drop i=names.getD i []::names.drop (i+1):=by
   rw[List.drop_eq_getElem_cons hlt];simp[List.getD,hlt]
  rw[hd]
  unfold ixF
  by_cases hx:names.getD i []=x
  ·rw[if_pos hx,if_pos hx,nxt_r,if_neg (by omega)]
  ·rw[if_neg hx,if_neg hx,nxt_l,ih (i+1) (by omega)]
theorem spec63c (x:List UInt8):q63_26 [.str (bs x), .int 15]=some [.int (ix ccL x)]:=by
 have key:l63_26_2 [.str (bs x), .int 15] [.int 0]=(if ix ccL x = -1 then some [.int 0]else some [.int 1, .int (ix ccL x)]):=by
  rw[l63_26_2_eq]
  have:=ixLoop ccL x (st63_26_2 [.str (bs x), .int 15]) (by decide) (fun i hi=>by
   have h15:i<15:=hi
   rw[st63_26_2_eq,show qcmp .lss (i:Int) 15=decide (i<15)from ltI i 15,decide_eq_true h15,spec26 h15]
   simp only[cond_true,qsome_s,qnth_s,List.getD_cons_zero,qstr_s,eq_bs]
   by_cases h:ccL.getD i []=x
   ·rw[decide_eq_true (show ccT i=x from h),if_pos h];rfl
   ·rw[decide_eq_false (show¬ccT i=x from h),if_neg h,show qbin .add .i64 (i:Int) 1=((i+1:Nat):Int)from addI (b:=1) (by omega)];rfl)
   (by rw[st63_26_2_eq,show qcmp .lss (ccL.length:Int) 15=decide (15<15)from ltI 15 15];rfl) 15 0 (by decide)
  rw[List.drop_zero]at this
  exact this
 rw[q63_26_eq,F63_26_eq,key]
 rcases ix_range ccL x with e|⟨k,hk,_,e⟩
 ·rw[e];simp[qsome_s,qnth_s,qint_i,qcmp_eql]
 ·rw[e,if_neg (by omega)];simp[qsome_s,qnth_s,qint_i,qcmp_eql]
theorem spec63o (x:List UInt8):q63_64 [.str (bs x), .int 11]=some [.int (ix opL x)]:=by
 have key:l63_64_2 [.str (bs x), .int 11] [.int 0]=(if ix opL x = -1 then some [.int 0]else some [.int 1, .int (ix opL x)]):=by
  rw[l63_64_2_eq]
  have:=ixLoop opL x (st63_64_2 [.str (bs x), .int 11]) (by decide) (fun i hi=>by
   have h11:i<11:=hi
   have e64:q64_26 [.int i]=some [.str (bs (opT i))]:=by
    rw[q64_26_eq,F64_26_eq,show qbin .add .i64 5 (i:Int)=((5+i:Nat):Int)from addI (a:=5) (by omega),spec56 (by omega)]
    have:(((5+i:Nat):Int)-5).toNat=i:=by omega
    rw[this]
    simp[qsome_s,qnth_s,qstr_s]
   rw[st63_64_2_eq,show qcmp .lss (i:Int) 11=decide (i<11)from ltI i 11,decide_eq_true h11,e64]
   simp only[cond_true,qsome_s,qnth_s,List.getD_cons_zero,qstr_s,eq_bs]
   by_cases h:opL.getD i []=x
   ·rw[decide_eq_true (show opT i=x from h),if_pos h];rfl
   ·rw[decide_eq_false (show¬opT i=x from h),if_neg h,show qbin .add .i64 (i:Int) 1=((i+1:Nat):Int)from addI (b:=1) (by omega)];rfl)
   (by rw[st63_64_2_eq,show qcmp .lss (opL.length:Int) 11=decide (11<11)from ltI 11 11];rfl) 11 0 (by decide)
  rw[List.drop_zero]at this
  exact this
 rw[q63_64_eq,F63_64_eq,key]
 rcases ix_range opL x with e|⟨k,hk,_,e⟩
 ·rw[e];simp[qsome_s,qnth_s,qint_i,qcmp_eql]
 ·rw[e,if_neg (by omega)];simp[qsome_s,qnth_s,qint_i,qcmp_eql]
end Go.Proofs.YtobhhfbdelnhfaaGreatDoor
namespace Go.Proofs.YtobhhfbdelnhfaaGreatDoor
set_option linter.unusedSimpArgs false
set_option linter.unusedVariables false
open Go Go.AM
def blank:List UInt8→Nat
 | []=>0
 |c::l=>if c=32 then 0 else blank l+1
theorem blank_le:∀l,blank l≤l.length
 | []=>Nat.le_refl _
 |c::l=>by unfold blank;split;exact Nat.zero_le _;have:=blank_le l;simp;omega
theorem index_one:∀l:List UInt8,Lib.index l [32]=if blank l<l.length then(blank l:Int)else -1
 | []=>by simp[Lib.index,blank]
 |c::l=>by
  unfold Lib.index blank
  by_cases h:c=32
  ·subst h;simp[List.isPrefixOf]
  ·have hb:((32:UInt8)==c)=false:=by rw[beq_eq_false_iff_ne];exact fun e=>h e.symm
   simp only[List.isPrefixOf,hb,Bool.false_and,Bool.false_eq_true,if_false,if_neg h,index_one l,List.length_cons,beq_iff_eq]
   by_cases h2:blank l<l.length
   ·rw[if_pos h2,if_neg (by omega),if_pos (by omega)];omega
   ·rw[if_neg h2,if_pos rfl,if_neg (by omega)]
theorem cutOk (l:List UInt8):qcutOk (bs l) (bs [32])=decide (blank l<l.length):=by
 simp only[qcutOk,veil_eq]
 show(Lib.cut l [32]).2.2=_
 unfold Lib.cut
 rw[index_one]
 by_cases h:blank l<l.length
 ·rw[if_pos h,if_pos (by omega),decide_eq_true h]
 ·rw[if_neg h,if_neg (by omega),decide_eq_false h]
theorem cutA (l:List UInt8):qcutA (bs l) (bs [32])=bs (l.take (blank l)):=by
 simp only[qcutA,veil_eq]
 show bs (Lib.cut l [32]).1=_
 unfold Lib.cut
 rw[index_one]
 by_cases h:blank l<l.length
 ·rw[if_pos h,if_pos (by omega),Int.toNat_natCast]
 ·rw[if_neg h,if_neg (by omega),List.take_of_length_le (by omega)]
theorem cutB {l:List UInt8} (h:blank l<l.length):qcutB (bs l) (bs [32])=bs (l.drop (blank l+1)):=by
 simp only[qcutB,veil_eq]
 show bs (Lib.cut l [32]).2.1=_
 unfold Lib.cut
 rw[index_one,if_pos h,if_pos (by omega),Int.toNat_natCast];rfl
def comma:List UInt8→Option Nat
 | []=>none
 | [_]=>none
 |a::b::l=>if a=44∧b=32 then some 0 else(comma (b::l)).map (· + 1)
theorem comma_lt:∀(l:List UInt8) (k:Nat),comma l=some k→k+2≤l.length
 | [],k,h=>by cases h
 | [_],k,h=>by cases h
 |a::b::l,k,h=>by
  unfold comma at h
  split at h
  ·cases h;simp
  ·obtain⟨j,hj,rfl⟩:=Option.map_eq_some_iff.1 h
   have:=comma_lt (b::l) j hj
   simp at this ⊢;omega
theorem index_two:∀l:List UInt8,Lib.index l [44,32]=match comma l with|some k=>(k:Int)|none=> -1
 | []=>by simp[Lib.index,comma]
 | [a]=>by simp[Lib.index,comma,List.isPrefixOf]
 |a::b::l=>by
  have ih:=index_two (b::l)
  unfold Lib.index comma
  rw[ih]
  by_cases h:a=44∧b=32
  ·obtain⟨rfl,rfl⟩:=h;simp[List.isPrefixOf]
  ·have hp:List.isPrefixOf [44,32] (a::b::l)=false:=by
    rw[Bool.eq_false_iff]
    intro e
    simp only[List.isPrefixOf,Bool.and_true,Bool.and_eq_true,beq_iff_eq]at e
    exact h ⟨e.1.symm,e.2.symm⟩
   rw[if_neg h,hp]
   simp only[Bool.false_eq_true,if_false,beq_iff_eq]
   cases comma (b::l)with
   |none=>simp
   |some k=>simp only[Option.map_some];rw[if_neg (by omega)];rfl
def partsF:Nat→List UInt8→List (List UInt8)
 |0,l=>[l]
 |n+1,l=>match comma l with|some k=>l.take k::partsF n (l.drop (k+2))|none=>[l]
def partsL (l:List UInt8):List (List UInt8):=partsF l.length l
theorem partsF_more:∀(n m:Nat) (l:List UInt8),l.length≤n→l.length≤m→partsF n l=partsF m l
 |0,0,_,_,_=>rfl
 |0,m+1,l,h,_=>by
  have:l = []:=List.length_eq_zero_iff.1 (by omega)
  subst this;rfl
 |n+1,0,l,_,h=>by
  have:l = []:=List.length_eq_zero_iff.1 (by omega)
  subst this;rfl
 |n+1,m+1,l,h1,h2=>by
  unfold partsF
  cases hc:comma l with
  |none=>rfl
  |some k=>
   have:=comma_lt l k hc
   simp only
   rw[partsF_more n m (l.drop (k+2)) (by rw[List.length_drop];omega) (by rw[List.length_drop];omega)]
theorem partsL_some {l:List UInt8} {k:Nat} (h:comma l=some k):partsL l=l.take k::partsL (l.drop (k+2)):=by
 have hl:=comma_lt l k h
 unfold partsL
 obtain⟨n,hn⟩:∃n,l.length=n+1:=⟨l.length-1,by omega⟩
 rw[hn]
 conv=>lhs;unfold partsF
 rw[h]
 simp only
 rw[partsF_more n _ _ (by simp;omega) (Nat.le_refl _)]
theorem partsL_none {l:List UInt8} (h:comma l=none):partsL l = [l]:=by
 unfold partsL
 cases l.length with
 |zero=>rfl
 |succ n=>unfold partsF;rw[h]
theorem split_parts:∀(n:Nat) (l:List UInt8),l.length≤n→∀fuel,l.length<fuel→Lib.splitK [44,32] 0 (Lib.countFrom [44,32] fuel l) l=partsL l
 |n,l,hl,0,hf=>by omega
 |n,l,hl,fuel+1,hf=>by
  unfold Lib.countFrom
  rw[index_two]
  cases hc:comma l with
  |none=>simp only;rw[if_pos (by decide),partsL_none hc];rfl
  |some k=>
   have hk:=comma_lt l k hc
   simp only
   rw[if_neg (by rw[beq_iff_eq];omega),Nat.add_comm 1,partsL_some hc]
   unfold Lib.splitK
   rw[index_two,hc]
   simp only
   rw[if_neg (by rw[beq_iff_eq];omega),Int.toNat_natCast,Nat.add_zero]
   have hlen:([44,32]:List UInt8).length=2:=rfl
   rw[hlen]
   cases n with
   |zero=>omega
   |succ n=>rw[split_parts n (l.drop (k+2)) (by simp;omega) fuel (by simp;omega)]
def opD (l:List (List UInt8)):D:=nameL l
theorem splitQ (l:List UInt8):qsplit (bs l) (bs [44,32])=opD (partsL l):=by
 simp only[qsplit,veil_eq]
 have h:=Lib.splitB_data (bs [44,32]) 0 (Lib.countB (bs l) (bs [44,32])) (bs l)
 have e:Lib.splitK [44,32] 0 (Lib.countB (bs l) (bs [44,32])) l=partsL l:=split_parts l.length l (Nat.le_refl _) (l.length+1) (by omega)
 have h2:(Lib.splitB (bs [44,32]) 0 (Lib.countB (bs l) (bs [44,32])) (bs l)).map (·.data.toList)=partsL l:=h.trans e
 unfold opD nameL
 rw[← h2,List.map_map]
 rfl
theorem comma_cons {a b:UInt8} {l:List UInt8} (h:¬(a=44∧b=32)):comma (a::b::l)=(comma (b::l)).map (· + 1):=by
 conv=>lhs;unfold comma
 rw[if_neg h]
def headL (l:List UInt8):List UInt8:=l.take (blank l)
def opsL (l:List UInt8):List (List UInt8):=if blank l<l.length then partsL (l.drop (blank l+1))else[]
end Go.Proofs.YtobhhfbdelnhfaaGreatDoor
namespace Go.Proofs.YtobhhfbdelnhfaaGreatDoor
noncomputable section
set_option linter.unusedSimpArgs false
set_option linter.unusedVariables false
open Go Go.AM
def numB (l:List UInt8):Bool:=match q36 [.str (bs l)]with|some [_, .bool b]=>b|_=>false
def numV (l:List UInt8):Int:=match q36 [.str (bs l)]with|some [.int n,_]=>n|_=>0
def regB (l:List UInt8):Bool:=match q108 [.str (bs l)]with|some [_, .bool b]=>b|_=>false
def regV (l:List UInt8):Int:=match q108 [.str (bs l)]with|some [.int n,_]=>n|_=>0
theorem num_spec {l:List UInt8} (hz:l.length≤1000):q36 [.str (bs l)]=some [.int (numV l), .bool (numB l)]∧q126 [.str (bs l)]=some [.int (numV l), .bool (numB l)]:=by
 obtain⟨n,b,e1,e2⟩:=num_eq (s:=bs l) hz
 have hB:numB l=b:=by unfold numB;rw[e1]
 have hV:numV l=n:=by unfold numV;rw[e1]
 rw[hB,hV];exact⟨e1,e2⟩
theorem reg_spec (l:List UInt8):q108 [.str (bs l)]=some [.int (regV l), .bool (regB l)]∧q114 [.str (bs l)]=some [.int (regV l), .bool (regB l)]:=by
 obtain⟨n,b,e1,e2⟩:=reg_eq (bs l)
 have hB:regB l=b:=by unfold regB;rw[e1]
 have hV:regV l=n:=by unfold regV;rw[e1]
 rw[hB,hV];exact⟨e1,e2⟩
theorem rng_u32 (n:Int):0≤qwrap .u32 n∧qwrap .u32 n<4294967296:=by rw[qwrap_eq,mU32];omega
theorem rng_neg (n:Int):0≤qun .neg .u32 n∧qun .neg .u32 n<4294967296:=by rw[qun_eq];simp only[run1,mU32];omega
theorem num_rng {l:List UInt8} (hz:l.length≤1000):0≤numV l∧numV l<4294967296:=by
 have h:=(num_spec hz).1
 rw[q36_eq,F36_eq]at h
 simp only[Bool.cond_eq_ite]at h
 have a1:=rng_u32
 have a2:=rng_neg
 repeat' (split at h)
 all_goals first
  | (cases h;done)
  | (simp only[Option.some.injEq,List.cons.injEq,D.int.injEq]at h
     have h1:=h.1
     rw[← h1]
     first|exact a1 _|exact a2 _|omega)
theorem num_nil:numB []=false:=by
 have h:=(num_spec (l:=[]) (by simp)).2
 have e147:q147 [.str (bs []), .int 10]=some [.int 0, .bool false]:=by
  rw[spec147 (by omega)];rfl
 have l0:qlenS (bs [])=0:=len_bs []
 rw[q126_eq,F126_eq,l0,show qcmp .gtr (0:Int) 2=false by rw[qcmp_gtr];rfl,show qcmp .gtr (0:Int) 0=false by rw[qcmp_gtr];rfl]at h
 simp only[qiteB_c,qiteS_eq,cond_false,cond_true,e147,qsome_s,qnth_s,List.getD_cons_zero,List.getD_cons_succ,qbool_b,qnot_c,Bool.not_false]at h
 simp only[Option.some.injEq,List.cons.injEq,D.bool.injEq,and_true]at h
 exact h.2.symm
theorem op_get {ops:List (List UInt8)} {k:Nat} {l:List UInt8} (h:ops[k]? = some l):qinb (opD ops) (k:Int)=true∧qstr (qget (opD ops) (k:Int))=bs l:=by
 have hk:k<ops.length:=(List.getElem?_eq_some_iff.1 h).1
 refine⟨nameL_inb hk,?_⟩
 unfold opD
 rw[nameL_get hk,qstr_s,List.getD,h];rfl
def plT (g:Int) (nb:Bool) (nv:Int) (a c:UInt8):Int×Int×Int:=
 if nb=false∨c=45∨(a≠43∧a≠45)then(0,0,3)
 else if(a=43∧127<nv)∨128<nv then(0,0,7)
 else(g,if a=45 then qbin .sub .u32 0 nv else nv,0)
def plR (l:List UInt8):Int×Int×Int:=
 if l.length<4∨l.getD 0 0≠91∨l.getD (l.length-1) 0≠93 then(0,0,3)
 else if regB ((l.drop 1).take 2)=false then(0,0,3)
 else match(l.take (l.length-1)).drop 3 with
  | []=>(regV ((l.drop 1).take 2),0,0)
  |a::r=>plT (regV ((l.drop 1).take 2)) (numB r) (numV r) a (r.getD 0 0)
theorem neq8 (c:UInt8) (n:Nat) (h:n<256):qcmp .neq (c.toNat:Int) (n:Int) = !decide (c=UInt8.ofNat n):=by
 rw[qcmp_neq];congr 1;exact decide_eq_decide.2 (u8_eq h)
theorem eq8 (c:UInt8) (n:Nat) (h:n<256):qcmp .eql (c.toNat:Int) (n:Int)=decide (c=UInt8.ofNat n):=by
 rw[qcmp_eql];exact decide_eq_decide.2 (u8_eq h)
theorem neg0 (n:Int):qun .neg .u32 n=qbin .sub .u32 0 n:=by rw[qun_eq,qbin_eq];rfl
end
end Go.Proofs.YtobhhfbdelnhfaaGreatDoor
namespace Go.Proofs.YtobhhfbdelnhfaaGreatDoor
noncomputable section
set_option linter.unusedSimpArgs false
set_option linter.unusedVariables false
open Go Go.AM
def insD (a i o f w c x y z:Int):D:= .agg [.int a, .int i, .int o, .int f, .int w, .int c, .int x, .int y, .int z]
theorem insF (a i o f w c x y z:Int):qint (qfld (insD a i o f w c x y z) 0)=a∧qint (qfld (insD a i o f w c x y z) 1)=i∧qint (qfld (insD a i o f w c x y z) 2)=o∧qint (qfld (insD a i o f w c x y z) 3)=f∧qint (qfld (insD a i o f w c x y z) 4)=w∧
 qint (qfld (insD a i o f w c x y z) 5)=c∧qint (qfld (insD a i o f w c x y z) 6)=x∧qint (qfld (insD a i o f w c x y z) 7)=y∧qint (qfld (insD a i o f w c x y z) 8)=z:=by
 unfold insD
 simp only[qfld_agg,List.getD_cons_zero,List.getD_cons_succ,qint_i,and_self]
theorem insD_eq (a i o f w c x y z:Int):D.agg [.int a, .int i, .int o, .int f, .int w, .int c, .int x, .int y, .int z]=insD a i o f w c x y z:=rfl
def op (ops:List (List UInt8)) (k:Nat):List UInt8:=ops.getD k []
theorem op_at {ops:List (List UInt8)} {k:Nat} (h:k<ops.length):ops[k]? = some (op ops k):=by
 unfold op;simp[List.getD,h]
def Short (ops:List (List UInt8)):Prop:=∀x∈ops,x.length≤1000
theorem op_short {ops:List (List UInt8)} (h:Short ops) {k:Nat} (hk:k<ops.length):(op ops k).length≤1000:=h _ (List.mem_of_getElem? (op_at hk))
def nearI (n:Int):Bool:=qcmp .eql (qwrap .u32 (qwrap .i8 n)) n
def fm (n:Int) (w:Bool):Int:=if nearI n=true∧w=false then 1 else 2
def off (n a:Int):Int:=qbin .sub .u32 (qbin .sub .u32 n a) 2
def arOk (ops:List (List UInt8)) (w:Bool):Bool:=decide (ops.length=2)&&(regB (op ops 0)&&(bif regB (op ops 1)then !w else numB (op ops 1)))
def arI (ops:List (List UInt8)) (w:Bool) (a o z:Int):D:=
 if regB (op ops 1)=true then insD a 0 o 0 0 0 (regV (op ops 0)) (regV (op ops 1)) z else insD a (numV (op ops 1)) o (fm (numV (op ops 1)) w) 0 0 (regV (op ops 0)) 0 z
def meR (ops:List (List UInt8)) (st:Bool):List UInt8:=bif st then op ops 1 else op ops 0
def meP (ops:List (List UInt8)) (st:Bool):List UInt8:=bif st then op ops 0 else op ops 1
def meOk (ops:List (List UInt8)) (st:Bool):Bool:=decide (ops.length=2)&&(regB (meR ops st) && !((plR (meP ops st)).2.2==3))
end
end Go.Proofs.YtobhhfbdelnhfaaGreatDoor
namespace Go.Proofs.YtobhhfbdelnhfaaGreatDoor
set_option linter.unusedSimpArgs false
set_option linter.unusedVariables false
open Go Go.AM
inductive Cls where
 |bare (k:Int)
 |one (o cc:Int)
 |mem (o w:Int) (st:Bool)
 |call
 |jumpt
 |ar (k:Int)
 |jmp (cc:Int)
 |unk
def erD (e:Int):List D:=[insD 0 0 0 0 0 0 0 0 0, .int e]
noncomputable def okD (a i o f w c x y:Int):List D:=[insD a i o f w c x y (lenI (insD a i o f w c x y 0)), .int 0]
noncomputable def OT (c:Cls) (w:Bool) (ops:List (List UInt8)) (a:Int):List D:=
 match c with
 | .bare k=>bif !w&&decide (ops.length=0)then okD a 0 k 0 0 0 0 0 else erD 3
 | .one o cc=>bif !w&&(decide (ops.length=1)&&regB (op ops 0))then okD a 0 o 0 0 cc (regV (op ops 0)) 0 else erD 3
 | .mem o wd st=>bif !w&&meOk ops st then(bif (plR (meP ops st)).2.2==7 then erD 7 else okD a (plR (meP ops st)).2.1 o 0 wd 0 (regV (meR ops st)) (plR (meP ops st)).1)else erD 3
 | .call=>bif !w&&(decide (ops.length=1)&&numB (op ops 0))then okD a (numV (op ops 0)) 23 0 0 0 0 0 else erD 3
 | .jumpt=>bif !w&&(decide (ops.length=2)&&(regB (op ops 0)&&numB (op ops 1)))then okD a (numV (op ops 1)) 22 0 0 0 (regV (op ops 0)) 0 else erD 3
 | .ar k=>bif arOk ops w then[arI ops w a (5+k) (lenI (arI ops w a (5+k) 0)), .int 0]else erD 3
 | .jmp cc=>bif decide (ops.length=1)&&numB (op ops 0)then okD a (numV (op ops 0)) 20 (fm (off (numV (op ops 0)) a) w) 0 cc 0 0 else erD 3
 | .unk=>erD 3
noncomputable def FIN (I:D) (b f w:Bool) (a:Int):List D:=
 bif b||w then erD 3 else bif f then erD 7 else
  [insD a (qint (qfld I 1)) (qint (qfld I 2)) (qint (qfld I 3)) (qint (qfld I 4)) (qint (qfld I 5)) (qint (qfld I 6)) (qint (qfld I 7)) (lenI (insD a (qint (qfld I 1)) (qint (qfld I 2)) (qint (qfld I 3)) (qint (qfld I 4)) (qint (qfld I 5)) (qint (qfld I 6)) (qint (qfld I 7)) (qint (qfld I 8)))), .int 0]
theorem FIN_ins (a i o f w c x y:Int):FIN (insD 0 i o f w c x y 0) false false false a=okD a i o f w c x y:=by
 obtain⟨f0,f1,f2,f3,f4,f5,f6,f7,f8⟩:=insF 0 i o f w c x y 0
 unfold FIN okD
 simp only[f1,f2,f3,f4,f5,f6,f7,f8,Bool.or_self,cond_false]
theorem FIN_bad (I:D) (f w:Bool) (a:Int):FIN I true f w a=erD 3:=by unfold FIN;simp
theorem FIN_wide (I:D) (b f:Bool) (a:Int):FIN I b f true a=erD 3:=by unfold FIN;simp
theorem plE (l:List UInt8):(plR l).2.2=0∨(plR l).2.2=3∨(plR l).2.2=7:=by
 unfold plR
 split
 ·exact .inr (.inl rfl)
 ·split
  ·exact .inr (.inl rfl)
  ·split
   ·exact .inl rfl
   ·unfold plT
    split
    ·exact .inr (.inl rfl)
    ·split
     ·exact .inr (.inr rfl)
     ·exact .inl rfl
def clsO (m:List UInt8):Cls:=
 if m = [110,111,112]then .bare 0
 else if m = [104,97,108,116]then .bare 1
 else if m = [114,101,116]then .bare 2
 else if m = [112,117,115,104]then .one 3 0
 else if m = [112,111,112]then .one 4 0
 else if m = [108,111,97,100,49]then .mem 16 1 false
 else if m = [108,111,97,100,50]then .mem 16 2 false
 else if m = [108,111,97,100,52]then .mem 16 4 false
 else if m = [108,111,97,100,49,115]then .mem 17 1 false
 else if m = [108,111,97,100,50,115]then .mem 17 2 false
 else if m = [115,116,111,114,101,49]then .mem 18 1 true
 else if m = [115,116,111,114,101,50]then .mem 18 2 true
 else if m = [115,116,111,114,101,52]then .mem 18 4 true
 else if m = [108,101,97]then .mem 19 0 false
 else if m = [106,117,109,112,114]then .one 21 0
 else if m = [99,97,108,108,114]then .one 24 0
 else if m = [105,110]then .one 26 0
 else if m = [111,117,116]then .one 27 0
 else if m = [99,97,108,108]then .call
 else if m = [106,117,109,112,116]then .jumpt
 else .unk
end Go.Proofs.YtobhhfbdelnhfaaGreatDoor
namespace Go.Proofs.YtobhhfbdelnhfaaGreatDoor
set_option linter.unusedSimpArgs false
set_option linter.unusedVariables false
open Go Go.AM
def cls (m:List UInt8):Cls:=
 if m = [106,109,112]then .jmp 0
 else if List.isPrefixOf [106] m=true∧0<ix ccL (m.drop 1)then .jmp (ix ccL (m.drop 1))
 else if List.isPrefixOf [115,101,116] m=true then(if ix ccL (m.drop 3)<0 then .unk else .one 25 (ix ccL (m.drop 3)))
 else if 0≤ix opL m then .ar (ix opL m)
 else clsO m
theorem partsF_short:∀(n:Nat) (l:List UInt8),∀x∈partsF n l,x.length≤l.length
 |0,l,x,h=>by simp[partsF]at h;rw[h];exact Nat.le_refl _
 |n+1,l,x,h=>by
  unfold partsF at h
  cases hc:comma l with
  |none=>rw[hc]at h;simp at h;rw[h];exact Nat.le_refl _
  |some k=>
   rw[hc]at h
   simp only[List.mem_cons]at h
   rcases h with rfl|h
   ·simp;omega
   ·have:=partsF_short n _ x h
    simp at this;omega
theorem opsL_short {l:List UInt8} (hz:l.length≤1000):Short (opsL l):=by
 intro x hx
 unfold opsL at hx
 split at hx
 ·have:=partsF_short _ _ x hx
  simp at this;omega
 ·cases hx
def wide (l:List UInt8):Bool:=sfx [46,119] (headL l)
def word (l:List UInt8):List UInt8:=bif wide l then(headL l).take ((headL l).length-2)else headL l
end Go.Proofs.YtobhhfbdelnhfaaGreatDoor
namespace Go.Proofs.YtobhhfbdelnhfaaGreatDoor
set_option linter.unusedSimpArgs false
set_option linter.unusedVariables false
open Go Go.AM
def s1L:List (List UInt8):=[[110,111,112],[104,97,108,116],[114,101,116]]
def s2L:List (List UInt8):=[[112,117,115,104],[112,111,112],[106,117,109,112,114],[99,97,108,108,114],[105,110],[111,117,116]]
def meL:List (List UInt8):=[[108,111,97,100,49],[108,111,97,100,50],[108,111,97,100,52],[108,111,97,100,49,115],[108,111,97,100,50,115],[115,116,111,114,101,49],[115,116,111,114,101,50],[115,116,111,114,101,52],[108,101,97]]
def setP (m:List UInt8):Bool:=decide (3<m.length)&&decide (m.take 3 = [115,101,116])
def setI (m:List UInt8):Int:=if setP m=true then ix ccL (m.drop 3)else -1
def cndI (m:List UInt8):Int:=if m = [106,109,112]then 0 else if m.length<2∨m.getD 0 0≠106 then -1 else if ix ccL (m.drop 1)=0 then -1 else ix ccL (m.drop 1)
def tst (m:List UInt8):List Int×Bool×Bool:=([ix s1L m,ix s2L m,setI m,ix meL m,ix opL m,cndI m],decide (m = [99,97,108,108]),decide (m = [106,117,109,112,116]))
def expd:Cls→List Int×Bool×Bool
 | .bare k=>([k, -1, -1, -1, -1, -1],false,false)
 | .one o cc=>if o=25 then([-1, -1,cc, -1, -1, -1],false,false)else([-1,if o=3 then 0 else if o=4 then 1 else if o=21 then 2 else if o=24 then 3 else if o=26 then 4 else 5, -1, -1, -1, -1],false,false)
 | .mem o w st=>([-1, -1, -1,if o=16 then(if w=1 then 0 else if w=2 then 1 else 2)else if o=17 then(if w=1 then 3 else 4)else if o=18 then(if w=1 then 5 else if w=2 then 6 else 7)else 8, -1, -1],false,false)
 | .call=>([-1, -1, -1, -1, -1, -1],true,false)
 | .jumpt=>([-1, -1, -1, -1, -1, -1],false,true)
 | .ar k=>([-1, -1, -1, -1,k, -1],false,false)
 | .jmp cc=>([-1, -1, -1, -1, -1,cc],false,false)
 | .unk=>([-1, -1, -1, -1, -1, -1],false,false)
def clsG:Cls→Bool
 | .bare k=>decide (0≤k∧k≤2)
 | .one o cc=>decide ((o=25∧0≤cc∧cc≤14)∨(cc=0∧(o=3∨o=4∨o=21∨o=24∨o=26∨o=27)))
 | .mem o w st=>decide ((o=16∧(w=1∨w=2∨w=4)∧st=false)∨(o=17∧(w=1∨w=2)∧st=false)∨(o=18∧(w=1∨w=2∨w=4)∧st=true)∨(o=19∧w=0∧st=false))
 | .call=>true
 | .jumpt=>true
 | .ar k=>decide (0≤k∧k≤10)
 | .jmp cc=>decide (0≤cc∧cc≤14)
 | .unk=>true
def wordsK:List (List UInt8):=s1L++s2L++meL++opL++ccL.map ([115,101,116] ++ ·) ++ [106,109,112]::(ccL.drop 1).map (106 :: ·) ++ [[99,97,108,108],[106,117,109,112,116]]
def okK (y:List UInt8):Bool:=decide (tst y=expd (cls y))&&(clsG (cls y)&&(!sfx [46,119] y&&(decide (ix s2L y = -1) || !setP y)))
theorem allK:wordsK.all okK=true:=by decide +kernel
theorem ix_not {names:List (List UInt8)} {m:List UInt8} (h:m ∉ names):ix names m = -1:=by
 rcases ix_range names m with e|⟨k,_,hx,_⟩
 ·exact e
 ·exact absurd (List.mem_of_getElem? hx) h
theorem mK1 {m:List UInt8} (h:m∈s1L):m∈wordsK:=by unfold wordsK;simp only[List.mem_append];exact .inl (.inl (.inl (.inl (.inl (.inl h)))))
theorem mK2 {m:List UInt8} (h:m∈s2L):m∈wordsK:=by unfold wordsK;simp only[List.mem_append];exact .inl (.inl (.inl (.inl (.inl (.inr h)))))
theorem mK3 {m:List UInt8} (h:m∈meL):m∈wordsK:=by unfold wordsK;simp only[List.mem_append];exact .inl (.inl (.inl (.inl (.inr h))))
theorem mK4 {m:List UInt8} (h:m∈opL):m∈wordsK:=by unfold wordsK;simp only[List.mem_append];exact .inl (.inl (.inl (.inr h)))
theorem mK5 {c:List UInt8} (h:c∈ccL): [115,101,116]++c∈wordsK:=by unfold wordsK;simp only[List.mem_append];exact .inl (.inl (.inr (List.mem_map.2 ⟨c,h,rfl⟩)))
theorem mK6: [106,109,112]∈wordsK:=by unfold wordsK;simp only[List.mem_append];exact .inl (.inr (List.mem_cons_self ..))
theorem mK7 {m:List UInt8} (h:List.isPrefixOf [106] m=true∧0<ix ccL (m.drop 1)):m∈wordsK:=by
 obtain⟨hp,hx⟩:=h
 rw[List.isPrefixOf_iff_prefix]at hp
 obtain⟨t,rfl⟩:=hp
 simp only[List.cons_append,List.nil_append,List.drop_succ_cons,List.drop_zero]at hx ⊢
 rcases ix_range ccL t with e|⟨k,hk,hg,e⟩
 ·omega
 ·have hk0:0<k:=by omega
  have:t∈ccL.drop 1:=List.mem_of_getElem? (i:=k-1) (by rw[List.getElem?_drop,show 1+(k-1)=k by omega];exact hg)
  unfold wordsK;simp only[List.mem_append]
  exact .inl (.inr (List.mem_cons_of_mem _ (List.mem_map.2 ⟨t,this,rfl⟩)))
theorem neK {m y:List UInt8} (hK:m ∉ wordsK) (hy:y∈wordsK):¬m=y:=fun e=>hK (e▸hy)
theorem tst_cls (m:List UInt8):tst m=expd (cls m)∧clsG (cls m)=true∧(ix s2L m = -1∨setP m=false):=by
 by_cases hK:m∈wordsK
 ·have:=List.all_eq_true.1 allK m hK
  unfold okK at this
  simp only[Bool.and_eq_true,decide_eq_true_eq,Bool.or_eq_true,Bool.not_eq_true']at this
  exact⟨this.1,this.2.1,this.2.2.2⟩
 ·have n1:=ix_not (fun h=>hK (mK1 h))
  have n2:=ix_not (fun h=>hK (mK2 h))
  have n3:=ix_not (fun h=>hK (mK3 h))
  have n4:=ix_not (fun h=>hK (mK4 h))
  have n6:¬m = [106,109,112]:=fun e=>hK (e▸mK6)
  have n7:¬(List.isPrefixOf [106] m=true∧0<ix ccL (m.drop 1)):=fun h=>hK (mK7 h)
  have n8:¬m = [99,97,108,108]:=neK hK (by decide)
  have n9:¬m = [106,117,109,112,116]:=neK hK (by decide)
  have n5:∀c∈ccL,m≠[115,101,116]++c:=fun c hc e=>hK (e▸mK5 hc)
  have hset:setI m = -1:=by
   unfold setI
   by_cases hp:setP m=true
   ·rw[if_pos hp]
    rcases ix_range ccL (m.drop 3)with e|⟨k,hk,hg,e⟩
    ·exact e
    ·unfold setP at hp
     simp only[Bool.and_eq_true,decide_eq_true_eq]at hp
     exfalso
     refine n5 _ (List.mem_of_getElem? hg) ?_
     rw[← hp.2];exact(List.take_append_drop 3 m).symm
   ·rw[if_neg hp]
  have hcnd:cndI m = -1:=by
   unfold cndI
   rw[if_neg n6]
   by_cases hs:m.length<2∨m.getD 0 0≠106
   ·rw[if_pos hs]
   ·rw[if_neg hs]
    simp only[not_or,Decidable.not_not]at hs
    by_cases hz:ix ccL (m.drop 1)=0
    ·rw[if_pos hz]
    ·rw[if_neg hz]
     rcases ix_range ccL (m.drop 1)with e|⟨k,hk,hg,e⟩
     ·exact e
     ·exfalso
      refine n7 ⟨?_,by omega⟩
      cases m with
      |nil=>simp at hs
      |cons x t=>simp only[List.getD_cons_zero]at hs;rw[hs.2];simp[List.isPrefixOf]
  have hunk:cls m = .unk:=by
   unfold cls
   rw[if_neg n6,if_neg n7]
   by_cases hp:List.isPrefixOf [115,101,116] m=true
   ·rw[if_pos hp,if_pos]
    rcases ix_range ccL (m.drop 3)with e|⟨k,hk,hg,e⟩
    ·omega
    ·exfalso
     rw[List.isPrefixOf_iff_prefix]at hp
     obtain⟨t,rfl⟩:=hp
     exact n5 t (List.mem_of_getElem? hg) rfl
   ·rw[if_neg hp,if_neg (by omega)]
    unfold clsO
    rw[if_neg (neK hK (by decide)),if_neg (neK hK (by decide)),if_neg (neK hK (by decide)),if_neg (neK hK (by decide)),if_neg (neK hK (by decide)),if_neg (neK hK (by decide)),if_neg (neK hK (by decide)),if_neg (neK hK (by decide)),if_neg (neK hK (by decide)),if_neg (neK hK (by decide)),if_neg (neK hK (by decide)),if_neg (neK hK (by decide)),if_neg (neK hK (by decide)),if_neg (neK hK (by decide)),if_neg (neK hK (by decide)),if_neg (neK hK (by decide)),if_neg (neK hK (by decide)),if_neg (neK hK (by decide)),if_neg (neK hK (by decide)),if_neg (neK hK (by decide))]
  rw[hunk]
  refine⟨?_,rfl, .inl n2⟩
  unfold tst expd
  rw[n1,n2,hset,n3,n4,hcnd,decide_eq_false n8,decide_eq_false n9]
end Go.Proofs.YtobhhfbdelnhfaaGreatDoor
namespace Go.Proofs.YtobhhfbdelnhfaaGreatDoor
set_option linter.unusedSimpArgs false
set_option linter.unusedVariables false
open Go Go.AM
theorem qlen_op (ops:List (List UInt8)):qlen (opD ops)=(ops.length:Int):=by rw[qlen_c];simp[opD,nameL,D.toList]
end Go.Proofs.YtobhhfbdelnhfaaGreatDoor
namespace Go.Proofs.YtobhhfbdelnhfaaGreatDoor
set_option linter.unusedSimpArgs false
set_option linter.unusedVariables false
open Go Go.AM
end Go.Proofs.YtobhhfbdelnhfaaGreatDoor
namespace Go.Proofs.YtobhhfbdelnhfaaGreatDoor
set_option linter.unusedSimpArgs false
set_option linter.unusedVariables false
open Go Go.AM
def no (c:UInt8) (l:List UInt8):Prop:=∀x∈l,x≠c
theorem no_app {c:UInt8} {a b:List UInt8} (h:no c a) (h':no c b):no c (a++b):=by
 intro x hx
 rcases List.mem_append.1 hx with h1|h1
 ·exact h x h1
 ·exact h' x h1
theorem no_cons {c a:UInt8} {b:List UInt8} (h:a≠c) (h':no c b):no c (a::b):=by
 intro x hx
 rcases List.mem_cons.1 hx with rfl|h1
 ·exact h
 ·exact h' x h1
theorem no_nil {c:UInt8}:no c []:=fun x hx=>by cases hx
theorem no_tail {c a:UInt8} {b:List UInt8} (h:no c (a::b)):no c b:=fun x hx=>h x (List.mem_cons_of_mem _ hx)
theorem no_head {c a:UInt8} {b:List UInt8} (h:no c (a::b)):a≠c:=h a (List.mem_cons_self ..)
theorem blank_app:∀{h r:List UInt8},no 32 h→blank (h++32::r)=h.length
 | [],r,_=>by simp[blank]
 |c::l,r,hb=>by
  have h2:=blank_app (r:=r) (no_tail hb)
  rw[List.cons_append];unfold blank;rw[if_neg (no_head hb),h2];rfl
theorem blank_no:∀{l:List UInt8},no 32 l→blank l=l.length
 | [],_=>rfl
 |c::l,hb=>by
  have h2:=blank_no (no_tail hb)
  unfold blank;rw[if_neg (no_head hb),h2];rfl
theorem head_app {h r:List UInt8} (hb:no 32 h):headL (h++32::r)=h∧opsL (h++32::r)=partsL r:=by
 unfold headL opsL
 rw[blank_app hb]
 refine⟨by simp,?_⟩
 rw[if_pos (by simp),show h++32::r=(h ++ [32])++r by simp,List.drop_left' (by simp)]
theorem head_no {l:List UInt8} (hb:no 32 l):headL l=l∧opsL l = []:=by
 unfold headL opsL
 rw[blank_no hb]
 exact⟨List.take_length,if_neg (by omega)⟩
theorem comma_no:∀{x:List UInt8},no 44 x→comma x=none
 | [],_=>rfl
 | [_],_=>rfl
 |a::b::l,h=>by
  rw[comma_cons (fun e=>no_head h e.1),comma_no (no_tail h)];rfl
theorem comma_app:∀{x y:List UInt8},no 44 x→comma (x++44::32::y)=some x.length
 | [],y,_=>by simp[comma]
 | [a],y,h=>by
   show comma (a::44::32::y)=_
   rw[comma_cons (fun e=>no_head h e.1)];simp[comma]
 |a::b::l,y,h=>by
  show comma (a::b::(l++44::32::y))=_
  rw[comma_cons (fun e=>no_head h e.1)]
  have:=comma_app (x:=b::l) (y:=y) (no_tail h)
  rw[List.cons_append]at this
  rw[this];rfl
theorem parts_one {x:List UInt8} (h:no 44 x):partsL x = [x]:=partsL_none (comma_no h)
theorem parts_two {x y:List UInt8} (h:no 44 x) (h':no 44 y):partsL (x++44::32::y) = [x,y]:=by
 rw[partsL_some (comma_app h),List.take_left,show x++44::32::y=(x ++ [44,32])++y by simp,List.drop_left' (by simp),parts_one h']
theorem hx_fin:∀k:Fin 16,hx k.val≠32∧hx k.val≠44∧hx k.val≠45∧hx k.val≠93∧hx k.val≠114∧hx k.val≠120∧hx k.val≠43∧(hx k.val=48→k.val=0):=by decide
theorem digs_mem {b:Nat} (hb:2≤b∧b≤16):∀(n:Nat) (c:UInt8),c∈digs b n→∃k,k<b∧c=hx k:=by
 intro n
 induction n using Nat.strongRecOn with
 |ind n ih=>
  intro c hc
  by_cases h:n<b
  ·rw[digs_lt h]at hc
   exact⟨n,h,by simpa using hc⟩
  ·rw[digs_ge (by omega) hb.1]at hc
   rcases List.mem_append.1 hc with h1|h1
   ·exact ih _ (Nat.div_lt_self (by omega) (by omega)) c h1
   ·exact⟨n%b,Nat.mod_lt _ (by omega),by simpa using h1⟩
theorem no_digs {b n:Nat} (hb:2≤b∧b≤16) {c:UInt8} (h:∀k:Fin 16,hx k.val≠c):no c (digs b n):=fun x hx'=>by
 obtain⟨k,hk,rfl⟩:=digs_mem hb n x hx'
 exact h ⟨k,by omega⟩
theorem digs_head {b:Nat} (hb:2≤b∧b≤16):∀n:Nat,1≤n→∃k l,digs b n=hx k::l∧1≤k∧k<b:=by
 intro n
 induction n using Nat.strongRecOn with
 |ind n ih=>
  intro h1
  by_cases h:n<b
  ·exact⟨n,[],digs_lt h,h1,h⟩
  ·obtain⟨k,l,e,hk⟩:=ih (n/b) (Nat.div_lt_self (by omega) (by omega)) (Nat.div_pos (by omega) (by omega))
   exact⟨k,l ++ [hx (n%b)],by rw[digs_ge (by omega) hb.1,e];rfl,hk⟩
theorem digs_pos {b:Nat} (hb:2≤b) (n:Nat):1≤(digs b n).length:=by
 by_cases h:n<b
 ·rw[digs_lt h];exact Nat.le_refl _
 ·rw[digs_ge (by omega) hb];simp
def dgL (base:Int):List UInt8→Int→Option Int
 | [],n=>some n
 |c::l,n=>if dv ((c.toNat:Nat):Int)<0∨base≤dv ((c.toNat:Nat):Int)then none else dgL base l (n*base+dv ((c.toNat:Nat):Int))
theorem dgN_L (base:Int) (l:List UInt8):∀(k i:Nat) (n:Int),i+k=l.length→dgN (bs l) base k i n=dgL base (l.drop i) n
 |0,i,n,h=>by rw[List.drop_of_length_le (by omega)];rfl
 |k+1,i,n,h=>by
  have hlt:i<l.length:=by omega
  have hd:l.drop i=l.getD i 0::l.drop (i+1):=by rw[List.drop_eq_getElem_cons hlt];simp[List.getD,hlt]
  have hb:byt (bs l) i=((l.getD i 0).toNat:Int):=rfl
  rw[hd]
  unfold dgN dgL
  rw[hb]
  split
  ·rfl
  ·exact dgN_L base l k (i+1) _ (by omega)
theorem dgL_app (base:Int) (r:List UInt8):∀(l:List UInt8) (n:Int),dgL base (l++r) n=(dgL base l n).bind (dgL base r)
 | [],n=>rfl
 |c::l,n=>by
  rw[List.cons_append]
  unfold dgL
  split
  ·rfl
  ·exact dgL_app base r l _
theorem dv_hx:∀k:Fin 16,dv (((hx k.val).toNat:Nat):Int)=((k.val:Nat):Int):=by decide
theorem dgL_digs {b:Nat} (hb:2≤b∧b≤16):∀n:Nat,dgL b (digs b n) 0=some (n:Int):=by
 intro n
 have one:∀(k:Nat) (m:Int),k<b→dgL b [hx k] m=some (m*b+k):=by
  intro k m hk
  have:=dv_hx ⟨k,by omega⟩
  simp only at this
  unfold dgL dgL
  rw[this,if_neg (by omega)]
 induction n using Nat.strongRecOn with
 |ind n ih=>
  by_cases h:n<b
  ·rw[digs_lt h,one n 0 h];simp
  ·rw[digs_ge (by omega) hb.1,dgL_app,ih _ (Nat.div_lt_self (by omega) (by omega))]
   show dgL b [hx (n%b)] ((n/b:Nat):Int)=_
   rw[one _ _ (Nat.mod_lt _ (by omega))]
   congr 1
   have:=Nat.div_add_mod n b
   rw[← Int.natCast_mul, ← Int.natCast_add,Nat.mul_comm,this]
theorem read_digs {b most n:Nat} (hb:10≤b∧b≤16) (hm:most≤10) (h:(digs b n).length≤most):q60 [.str (bs (digs b n)), .int b, .int most]=some [.int n, .bool true]:=by
 have hsz:(bs (digs b n)).size=(digs b n).length:=rfl
 have hp:=digs_pos (b:=b) (by omega) n
 obtain⟨m,g,e1,e2⟩:=spec60 (s:=bs (digs b n)) (base:=(b:Int)) (most:=(most:Int)) (by omega) (by omega) (by omega)
 rw[if_pos (by omega),hsz,dgN_L _ _ _ _ _ (by omega),List.drop_zero,dgL_digs (by omega)]at e2
 obtain⟨rfl,rfl⟩:=e2
 exact e1
theorem wr32 (n:Nat) (h:n<4294967296):qwrap .u32 (n:Int)=n:=by rw[qwrap_eq,mU32];omega
theorem num_hex {n:Nat} (h:n<4294967296):q36 [.str (bs (48::120::digs 16 n))]=some [.int n, .bool true]:=by
 have p:=pre59 (48::120::digs 16 n) [48,120]
 have hp:List.isPrefixOf [48,120] (48::120::digs 16 n)=true:=by simp[List.isPrefixOf]
 rw[hp]at p
 simp only[cond_true]at p
 have hd:(48::120::digs 16 n).drop ([48,120]:List UInt8).length=digs 16 n:=rfl
 rw[hd]at p
 have r:q60 [.str (bs (digs 16 n)), .int 16, .int 8]=some [.int n, .bool true]:=read_digs (b:=16) (most:=8) (by omega) (by omega) (hlen n h)
 rw[q36_eq,F36_eq]
 simp only[mkB,p,qsome_s,qnth_s,List.getD_cons_zero,List.getD_cons_succ,qbool_b,qstr_s,cond_true,r,qnot_c,Bool.not_true,cond_false,qint_i,wr32 n h]
theorem pre_no {c:UInt8} {p l:List UInt8} (h:l.getD 0 0≠c):List.isPrefixOf (c::p) l=false:=by
 cases l with
 |nil=>rfl
 |cons a l=>
  have:¬c=a:=fun e=>h (by rw[e];rfl)
  simp[List.isPrefixOf,this]
theorem num_dec {m:Nat} (neg:Bool) (h1:1≤m) (h:m<4294967296) (hn:neg=true→m≤2147483648):
 q36 [.str (bs (bif neg then 45::digs 10 m else digs 10 m))]=some [.int (bif neg then((4294967296-m:Nat):Int)else m), .bool true]:=by
 obtain⟨k,t,ed,hk1,hk⟩:=digs_head (b:=10) (by omega) m h1
 have f:=hx_fin ⟨k,by omega⟩
 simp only at f
 obtain⟨_,_,f45,_,_,_,_,f48⟩:=f
 have f48':hx k≠48:=fun e=>by have:=f48 e;omega
 have r:q60 [.str (bs (digs 10 m)), .int 10, .int 10]=some [.int m, .bool true]:=read_digs (b:=10) (most:=10) (by omega) (by omega) (dlen m h)
 have i0:qidxS (bs (digs 10 m)) 0=((hx k).toNat:Int):=by rw[ed];exact idx_bs (hx k::t) 0
 have b0:qinbS (bs (digs 10 m)) 0=true:=inb_bs (l:=digs 10 m) (i:=0) (by have:=digs_pos (b:=10) (by omega) m;omega)
 have ne:qcmp .eql ((hx k).toNat:Int) 48=false:=by
  rw[qcmp_eql];exact decide_eq_false (fun e=>f48' ((u8_eq (n:=48) (by omega)).1 e))
 have ge:qcmp .geq (m:Int) 4294967296=false:=by rw[qcmp_geq];exact decide_eq_false (by omega)
 have px:∀l:List UInt8,List.isPrefixOf [48,120] l=false→q59 [.str (bs l), .str (bs [48,120])]=some [.str (bs l), .bool false]:=fun l e=>by rw[pre59,e];rfl
 rw[q36_eq,F36_eq]
 cases neg with
 |true=>
  have g1:=px (45::digs 10 m) (pre_no (by simp))
  have g2:q59 [.str (bs (45::digs 10 m)), .str (bs [45])]=some [.str (bs (digs 10 m)), .bool true]:=by
   rw[pre59];simp[List.isPrefixOf]
  have z:qcmpS .eql (bs (45::digs 10 m)) (bs [48])=false:=by rw[eq_bs];simp
  have gt:qcmp .gtr (m:Int) 2147483648=false:=by rw[qcmp_gtr];exact decide_eq_false (by have:=hn rfl;omega)
  have ng:qun .neg .u32 (m:Int)=((4294967296-m:Nat):Int):=by rw[qun_eq];simp only[run1,mU32];omega
  simp only[cond_true,mkB,g1,g2,z,r,i0,b0,ne,ge,gt,qsome_s,qnth_s,List.getD_cons_zero,List.getD_cons_succ,qbool_b,qstr_s,qint_i,qnot_c,qiteB_c,Bool.not_true,Bool.not_false,cond_false,wr32 m h,ng]
 |false=>
  have g1:=px (digs 10 m) (pre_no (by rw[ed];exact f48'))
  have g2:q59 [.str (bs (digs 10 m)), .str (bs [45])]=some [.str (bs (digs 10 m)), .bool false]:=by
   rw[pre59,pre_no (by rw[ed];exact f45)];rfl
  have z:qcmpS .eql (bs (digs 10 m)) (bs [48])=false:=by rw[eq_bs,ed];exact decide_eq_false (fun e=>by injection e with e1 _;exact f48' e1)
  simp only[cond_true,mkB,g1,g2,z,r,i0,b0,ne,ge,qsome_s,qnth_s,List.getD_cons_zero,List.getD_cons_succ,qbool_b,qstr_s,qint_i,qnot_c,qiteB_c,Bool.not_true,Bool.not_false,cond_false,wr32 m h]
theorem num_zero:q36 [.str (bs [48])]=some [.int 0, .bool true]:=by
 have g1:q59 [.str (bs [48]), .str (bs [48,120])]=some [.str (bs [48]), .bool false]:=by rw[pre59];rfl
 have z:qcmpS .eql (bs [48]) (bs [48])=true:=by rw[eq_bs];rfl
 rw[q36_eq,F36_eq]
 simp only[mkB,g1,z,qsome_s,qnth_s,List.getD_cons_zero,List.getD_cons_succ,qbool_b,cond_true,cond_false]
theorem num_of {l:List UInt8} {n:Int} (h:q36 [.str (bs l)]=some [.int n, .bool true]):numB l=true∧numV l=n:=by
 unfold numB numV;rw[h];exact⟨rfl,rfl⟩
theorem numHex {n:Nat} (h:n<4294967296):numB (48::120::digs 16 n)=true∧numV (48::120::digs 16 n)=n:=num_of (num_hex h)
theorem numDec {n:Nat} (h:n<4294967296):numB (digs 10 n)=true∧numV (digs 10 n)=n:=by
 by_cases h0:n=0
 ·subst h0;rw[digs_lt (by omega)];exact num_of num_zero
 ·exact num_of (num_dec false (by omega) h (fun e=>by cases e))
theorem numSign {n:Nat} (h:n<4294967296):numB (signT n)=true∧numV (signT n)=n:=by
 unfold signT
 split
 ·have:=num_of (num_dec (m:=4294967296-n) true (by omega) (by omega) (fun _=>by omega))
  simp only[cond_true]at this
  rw[show 4294967296-(4294967296-n)=n by omega]at this
  exact this
 ·exact numDec h
theorem reg_fin:∀k:Fin 8,48≤(hx k.val).toNat∧(hx k.val).toNat≤55∧(hx k.val).toNat-48=k.val:=by decide
theorem regOf {k:Int} (h:0≤k∧k<8):regB [114,rg k]=true∧regV [114,rg k]=k:=by
 obtain⟨r1,r2,r3⟩:=reg_fin ⟨k.toNat,by omega⟩
 simp only at r1 r2 r3
 have e:q108 [.str (bs [114,rg k])]=some [.int k, .bool true]:=by
  have l2:qcmp .neq (qlenS (bs [114,rg k])) 2=false:=by rw[len_bs,qcmp_neq];rfl
  have i0:qidxS (bs [114,rg k]) 0=114:=idx_bs [114,rg k] 0
  have i1:qidxS (bs [114,rg k]) 1=((hx k.toNat).toNat:Int):=idx_bs [114,rg k] 1
  have b0:qinbS (bs [114,rg k]) 0=true:=inb_bs (l:=[114,rg k]) (i:=0) (by simp)
  have b1:qinbS (bs [114,rg k]) 1=true:=inb_bs (l:=[114,rg k]) (i:=1) (by simp)
  have c0:qcmp .neq 114 114=false:=by rw[qcmp_neq];rfl
  have c1:qcmp .lss ((hx k.toNat).toNat:Int) 48=false:=by rw[qcmp_lss];exact decide_eq_false (by omega)
  have c2:qcmp .gtr ((hx k.toNat).toNat:Int) 55=false:=by rw[qcmp_gtr];exact decide_eq_false (by omega)
  have v:qwrap .i64 (qbin .sub .u8 ((hx k.toNat).toNat:Int) 48)=k:=by
   rw[qbin_eq,qwrap_eq];simp only[rbin,IntKind.wrap,IntKind.bits,IntKind.signed];simp;omega
  rw[q108_eq,F108_eq]
  simp only[l2,i0,i1,b0,b1,c0,c1,c2,qiteB_c,cond_false,cond_true,v]
 unfold regB regV;rw[e];exact⟨rfl,rfl⟩
theorem regNo {l:List UInt8} (h:l.getD 0 0≠114):regB l=false:=by
 have h114:¬((l.getD 0 0).toNat:Int)=114:=fun e=>h ((u8_eq (n:=114) (by omega)).1 e)
 have hne:qcmp .neq (qidxS (bs l) 0) 114=true:=by
  rw[show(0:Int)=((0:Nat):Int)from rfl,idx_bs,qcmp_neq,decide_eq_false h114];rfl
 obtain⟨n,b,e1,_⟩:=reg_eq (bs l)
 have hb:regB l=b:=by unfold regB;rw[e1]
 rw[hb]
 rw[q108_eq,F108_eq,hne]at e1
 simp only[qiteB_c]at e1
 have t:(bif qcmp .neq (qlenS (bs l)) 2 then true else true)=true:=by cases qcmp .neq (qlenS (bs l)) 2<;>rfl
 rw[t]at e1
 simp only[cond_true]at e1
 revert e1
 cases (bif qcmp .neq (qlenS (bs l)) 2 then true else qinbS (bs l) 0)
 ·intro e1;cases e1
 ·intro e1;simp only[cond_true]at e1;injection e1 with e1;injection e1 with _ e1;injection e1 with e1 _;injection e1 with e1;exact e1.symm
end Go.Proofs.YtobhhfbdelnhfaaGreatDoor
namespace Go.Proofs.YtobhhfbdelnhfaaGreatDoor
set_option linter.unusedSimpArgs false
set_option linter.unusedVariables false
open Go Go.AM
theorem OT_of {h r:List UInt8} {c:Cls} (a:Int) (hb:no 32 h) (hc:cls h=c) (hw:sfx [46,119] h=false):
 OT (cls (word (h++32::r))) (wide (h++32::r)) (opsL (h++32::r)) a=OT c false (partsL r) a:=by
 have hw':wide (h++32::r)=false:=by unfold wide;rw[(head_app hb).1,hw]
 unfold word
 rw[hw',(head_app hb).1,(head_app hb).2,cond_false,hc]
theorem OT_bare {h:List UInt8} {c:Cls} (a:Int) (hb:no 32 h) (hc:cls h=c) (hw:sfx [46,119] h=false):
 OT (cls (word h)) (wide h) (opsL h) a=OT c false [] a:=by
 have hw':wide h=false:=by unfold wide;rw[(head_no hb).1,hw]
 unfold word
 rw[hw',(head_no hb).1,(head_no hb).2,cond_false,hc]
theorem OT_wide {m r:List UInt8} {c:Cls} (a:Int) (hb:no 32 m) (hc:cls m=c):
 OT (cls (word ((m ++ [46,119])++32::r))) (wide ((m ++ [46,119])++32::r)) (opsL ((m ++ [46,119])++32::r)) a=OT c true (partsL r) a:=by
 have hb':no 32 (m ++ [46,119]):=no_app hb (no_cons (by decide) (no_cons (by decide) no_nil))
 have hs:sfx [46,119] (m ++ [46,119])=true:=by unfold sfx;simp
 have hw':wide ((m ++ [46,119])++32::r)=true:=by unfold wide;rw[(head_app hb').1,hs]
 have hl:(m++([46,119]:List UInt8)).length-2=m.length:=by simp
 unfold word
 rw[hw',(head_app hb').1,(head_app hb').2,cond_true,hl,List.take_left,hc]
theorem no_all {c:UInt8} {l:List UInt8} (h:(l.all fun x=>x != c)=true):no c l:=by
 intro x hx e
 have:=List.all_eq_true.1 h x hx
 rw[e]at this
 simp at this
theorem no_rg {k:Int} (h:0≤k∧k<8):no 44 [114,rg k]:=by
 have:=hx_fin ⟨k.toNat,by omega⟩
 exact no_cons (by decide) (no_cons this.2.1 no_nil)
theorem rg_ne {k:Int} (h:0≤k∧k<8):rg k≠44∧rg k≠45:=by
 have:=hx_fin ⟨k.toNat,by omega⟩
 exact⟨this.2.1,this.2.2.1⟩
theorem no_hex (n:Nat):no 44 (48::120::digs 16 n):=no_cons (by decide) (no_cons (by decide) (no_digs (by omega) fun k=>(hx_fin k).2.1))
theorem no_sign (n:Nat):no 44 (signT n):=by
 unfold signT
 split
 ·exact no_cons (by decide) (no_digs (by omega) fun k=>(hx_fin k).2.1)
 ·exact no_digs (by omega) fun k=>(hx_fin k).2.1
theorem no_place {k:Int} (h:0≤k∧k<8) (n:Nat):no 44 (placeT (rg k) n):=by
 unfold placeT
 refine no_app (no_cons (by decide) (no_cons (by decide) (no_cons (rg_ne h).1 no_nil))) (no_app ?_ (no_cons (by decide) no_nil))
 split
 ·exact no_nil
 ·split
  ·exact no_cons (by decide) (no_digs (by omega) fun k=>(hx_fin k).2.1)
  ·exact no_cons (by decide) (no_digs (by omega) fun k=>(hx_fin k).2.1)
theorem place_read {k:Int} (h:0≤k∧k<8) {n:Nat} (hn:near n) (h2:n<4294967296):plR (placeT (rg k) n)=(k,(n:Int),0):=by
 have gen:∀x:List UInt8,∀l:List UInt8,l = [91,114,rg k]++(x ++ [93])→plR l=(match x with | []=>(k,0,0)|a::r=>plT k (numB r) (numV r) a (r.getD 0 0)):=by
  intro x l e
  have el:l.length=x.length+4:=by rw[e];simp
  have g0:l.getD 0 0=91:=by rw[e];rfl
  have g1:l.getD (l.length-1) 0=93:=by
   rw[el,e,show x.length+4-1=([91,114,rg k]++x).length by simp, ← List.append_assoc]
   simp[List.getD]
  have g2:(l.drop 1).take 2 = [114,rg k]:=by rw[e];rfl
  have g3:(l.take (l.length-1)).drop 3=x:=by
   rw[el,e,show x.length+4-1=([91,114,rg k]++x).length by simp, ← List.append_assoc,List.take_left];rfl
  unfold plR
  rw[if_neg (by rw[g0,g1,el];simp),g2,(regOf h).1,if_neg (by simp),g3,(regOf h).2]
  all_goals (cases x<;>rfl)
 unfold placeT
 rw[gen _ _ rfl]
 by_cases h0:n=0
 ·subst h0;rfl
 ·rw[if_neg h0]
  unfold near at hn
  by_cases h1:n≤127
  ·rw[if_pos h1]
   obtain⟨c,t,ed,hc⟩:=digs_head (b:=10) (by omega) n (by omega)
   have f:=hx_fin ⟨c,by omega⟩
   obtain⟨nb,nv⟩:=numDec (n:=n) (by omega)
   show plT k (numB (digs 10 n)) (numV (digs 10 n)) 43 ((digs 10 n).getD 0 0)=_
   rw[nb,nv]
   have f45:(digs 10 n).getD 0 0≠45:=by rw[ed];exact f.2.2.1
   unfold plT
   rw[if_neg (by simp only[f45];simp),if_neg (by simp;omega),if_neg (by decide)]
  ·rw[if_neg h1]
   obtain⟨c,t,ed,hc⟩:=digs_head (b:=10) (by omega) (4294967296-n) (by omega)
   have f:=hx_fin ⟨c,by omega⟩
   obtain⟨nb,nv⟩:=numDec (n:=4294967296-n) (by omega)
   show plT k (numB (digs 10 (4294967296-n))) (numV (digs 10 (4294967296-n))) 45 ((digs 10 (4294967296-n)).getD 0 0)=_
   rw[nb,nv]
   have f45:(digs 10 (4294967296-n)).getD 0 0≠45:=by rw[ed];exact f.2.2.1
   have sb:qbin .sub .u32 0 ((4294967296-n:Nat):Int)=(n:Int):=by rw[qbin_eq];simp only[rbin,mU32];omega
   unfold plT
   rw[if_neg (by simp only[f45];simp),if_neg (by simp;omega),if_pos rfl,sb]
theorem op_words:∀k:Fin 11,sfx [46,119] (opT k.val)=false∧((opT k.val).all fun x=>x != 32)=true:=by decide +kernel
theorem elev {k:Nat} (h:k<11):k=0∨k=1∨k=2∨k=3∨k=4∨k=5∨k=6∨k=7∨k=8∨k=9∨k=10:=by omega
theorem op_cls {k:Nat} (h:k<11):cls (opT k) = .ar k:=by
 rcases elev h with rfl|rfl|rfl|rfl|rfl|rfl|rfl|rfl|rfl|rfl|rfl<;>kernel_rfl
def jw (k:Nat):List UInt8:=if k=0 then[106,109,112]else 106::ccT k
theorem jw_words:∀k:Fin 15,sfx [46,119] (jw k.val)=false∧((jw k.val).all fun x=>x != 32)=true∧sfx [46,119] ([115,101,116]++ccT k.val)=false∧(([115,101,116]++ccT k.val).all fun x=>x != 32)=true:=by decide +kernel
theorem fif {k:Nat} (h:k<15):k=0∨k=1∨k=2∨k=3∨k=4∨k=5∨k=6∨k=7∨k=8∨k=9∨k=10∨k=11∨k=12∨k=13∨k=14:=by omega
theorem jw_cls {k:Nat} (h:k<15):cls (jw k) = .jmp k:=by
 rcases fif h with rfl|rfl|rfl|rfl|rfl|rfl|rfl|rfl|rfl|rfl|rfl|rfl|rfl|rfl|rfl<;>kernel_rfl
theorem set_cls {k:Nat} (h:k<15):cls ([115,101,116]++ccT k) = .one 25 k:=by
 rcases fif h with rfl|rfl|rfl|rfl|rfl|rfl|rfl|rfl|rfl|rfl|rfl|rfl|rfl|rfl|rfl<;>kernel_rfl
theorem OT_one {o cc a k:Int} (h:0≤k∧k<8):OT (.one o cc) false (partsL [114,rg k]) a=okD a 0 o 0 0 cc k 0:=by
 rw[parts_one (no_rg h)]
 have e:op [[114,rg k]] 0 = [114,rg k]:=rfl
 simp only[OT,e,(regOf h).1,(regOf h).2]
 simp
theorem OT_mem {o w a k b:Int} {n:Nat} (h:0≤k∧k<8) (hb:0≤b∧b<8) (hn:near n) (h2:n<4294967296):
 OT (.mem o w false) false (partsL ([114,rg k]++44::32::placeT (rg b) n)) a=okD a n o 0 w 0 k b:=by
 rw[parts_two (no_rg h) (no_place hb n)]
 have e0:op [[114,rg k],placeT (rg b) n] 0 = [114,rg k]:=rfl
 have e1:op [[114,rg k],placeT (rg b) n] 1=placeT (rg b) n:=rfl
 simp only[OT,meOk,meR,meP,cond_false,e0,e1,(regOf h).1,(regOf h).2,place_read hb hn h2]
 rfl
theorem OT_sto {o w a k b:Int} {n:Nat} (h:0≤k∧k<8) (hb:0≤b∧b<8) (hn:near n) (h2:n<4294967296):
 OT (.mem o w true) false (partsL (placeT (rg b) n++44::32 :: [114,rg k])) a=okD a n o 0 w 0 k b:=by
 rw[parts_two (no_place hb n) (no_rg h)]
 have e0:op [placeT (rg b) n,[114,rg k]] 0=placeT (rg b) n:=rfl
 have e1:op [placeT (rg b) n,[114,rg k]] 1 = [114,rg k]:=rfl
 simp only[OT,meOk,meR,meP,cond_true,e0,e1,(regOf h).1,(regOf h).2,place_read hb hn h2]
 rfl
theorem OT_call {a:Int} {n:Nat} (h2:n<4294967296):OT .call false (partsL (48::120::digs 16 n)) a=okD a n 23 0 0 0 0 0:=by
 rw[parts_one (no_hex n)]
 have e:op [48::120::digs 16 n] 0=48::120::digs 16 n:=rfl
 simp only[OT,e,(numHex h2).1,(numHex h2).2]
 rfl
theorem OT_jumpt {a k:Int} {n:Nat} (h:0≤k∧k<8) (h2:n<4294967296):OT .jumpt false (partsL ([114,rg k]++44::32::(48::120::digs 16 n))) a=okD a n 22 0 0 0 k 0:=by
 rw[parts_two (no_rg h) (no_hex n)]
 have e0:op [[114,rg k],48::120::digs 16 n] 0 = [114,rg k]:=rfl
 have e1:op [[114,rg k],48::120::digs 16 n] 1=48::120::digs 16 n:=rfl
 simp only[OT,e0,e1,(regOf h).1,(regOf h).2,(numHex h2).1,(numHex h2).2]
 rfl
theorem OT_jmp {a cc:Int} {n:Nat} (w:Bool) (h2:n<4294967296):OT (.jmp cc) w (partsL (48::120::digs 16 n)) a=okD a n 20 (fm (off n a) w) 0 cc 0 0:=by
 rw[parts_one (no_hex n)]
 have e:op [48::120::digs 16 n] 0=48::120::digs 16 n:=rfl
 simp only[OT,e,(numHex h2).1,(numHex h2).2]
 rfl
theorem OT_arr {a k b o:Int} (h:0≤k∧k<8) (hb:0≤b∧b<8):OT (.ar o) false (partsL ([114,rg k]++44::32 :: [114,rg b])) a=okD a 0 (5+o) 0 0 0 k b:=by
 rw[parts_two (no_rg h) (no_rg hb)]
 have e0:op [[114,rg k],[114,rg b]] 0 = [114,rg k]:=rfl
 have e1:op [[114,rg k],[114,rg b]] 1 = [114,rg b]:=rfl
 simp only[OT,arOk,arI,e0,e1,(regOf h).1,(regOf h).2,(regOf hb).1,(regOf hb).2]
 rfl
theorem OT_arn {a k o:Int} {n:Nat} {x:List UInt8} (w:Bool) (h:0≤k∧k<8) (hc:no 44 x) (hr:regB x=false) (hx:numB x=true∧numV x=n):OT (.ar o) w (partsL ([114,rg k]++44::32::x)) a=okD a n (5+o) (fm n w) 0 0 k 0:=by
 rw[parts_two (no_rg h) hc]
 have e0:op [[114,rg k],x] 0 = [114,rg k]:=rfl
 have e1:op [[114,rg k],x] 1=x:=rfl
 simp only[OT,arOk,arI,e0,e1,(regOf h).1,(regOf h).2,hr,hx.1,hx.2]
 rfl
theorem reg_sign {n:Nat}:regB (signT n)=false:=by
 refine regNo ?_
 unfold signT
 split
 ·simp
 ·intro e
  have hp:=digs_pos (b:=10) (by omega) n
  have hm:(digs 10 n).getD 0 0∈digs 10 n:=by
   cases hd:digs 10 n with
   |nil=>rw[hd]at hp;simp at hp
   |cons x l=>simp
  obtain⟨k,hk,ek⟩:=digs_mem (b:=10) (by omega) n _ hm
  have f:=hx_fin ⟨k,by omega⟩
  exact f.2.2.2.2.1 (ek.symm.trans e)
theorem reg_hex {n:Nat}:regB (48::120::digs 16 n)=false:=regNo (by simp)
theorem fm_n {n:Nat} (w:Bool) (h:n<4294967296):fm n w=if near n∧w=false then 1 else 2:=by
 unfold fm nearI
 rw[nearW n h]
 by_cases hn:near n<;>simp[hn]
theorem round {d:D} {n j:Nat} (hv:vld d=true) (hn:qint (qfld d 1)=n) (h2:n<4294967296) (hj:short d=j) (hj2:j<4294967296):
 OT (cls (word (PT d n j))) (wide (PT d n j)) (opsL (PT d n j)) (qint (qfld d 0)) =
  okD (qint (qfld d 0)) (qint (qfld d 1)) (qint (qfld d 2)) (qint (qfld d 3)) (qint (qfld d 4)) (qint (qfld d 5)) (qint (qfld d 6)) (qint (qfld d 7)):=by
 obtain⟨s,hs,hA,hB,hI,hF,hW,hC,hA0,hB0,hN,hJ⟩:=vld_iff.1 hv
 have hof:off (n:Int) (qint (qfld d 0))=(j:Int):=by rw[← hn];exact hj
 rw[hj]at hJ
 rw[hn]at hI hN ⊢
 generalize qint (qfld d 0)=a at *
 unfold PT
 generalize qint (qfld d 2)=o at *
 generalize qint (qfld d 3)=f at *
 generalize qint (qfld d 4)=w at *
 generalize qint (qfld d 5)=cc at *
 generalize qint (qfld d 6)=A at *
 generalize qint (qfld d 7)=B at *
 have near_of:s=4∨s=5→near n:=fun h=>by have:=hN h;unfold near;omega
 rcases ocases o with ho|ho|ho|ho|ho|ho|ho|ho|ho|ho|ho|ho|ho|ho|ho|ho|ho
 ·exfalso
  unfold shp at hs
  rw[if_neg (by omega),if_neg (by omega),if_neg (by omega),if_neg (by omega),if_neg (by omega),if_neg (by omega),if_neg (by omega),if_neg (by omega),if_neg (by omega),if_neg (by omega),if_neg (by omega)]at hs
  cases hs
 ·
  have h0:s=0:=by unfold shp at hs;rw[if_pos (by omega)]at hs;cases hs;rfl
  obtain rfl:f=0:=by omega
  obtain rfl:w=0:=by omega
  obtain rfl:cc=0:=by omega
  obtain rfl:A=0:=by omega
  obtain rfl:B=0:=by omega
  obtain rfl:n=0:=by omega
  rcases ho with rfl|rfl|rfl
  ·simp only[Int.reduceEq,if_true,if_false]
   rw[OT_bare a (no_all (by decide)) (c:= .bare 0) (by kernel_rfl) (by decide)];rfl
  ·simp only[Int.reduceEq,if_true,if_false]
   rw[OT_bare a (no_all (by decide)) (c:= .bare 1) (by kernel_rfl) (by decide)];rfl
  ·simp only[Int.reduceEq,if_true,if_false]
   rw[OT_bare a (no_all (by decide)) (c:= .bare 2) (by kernel_rfl) (by decide)];rfl
 ·
  subst ho
  have h0:s=1:=by unfold shp at hs;simp only[Int.reduceEq,Int.reduceLE,or_true,or_false,and_true,and_false,true_and,false_and,if_true,if_false,or_self]at hs;cases hs;rfl
  obtain rfl:f=0:=by omega
  obtain rfl:w=0:=by omega
  obtain rfl:cc=0:=by omega
  obtain rfl:B=0:=by omega
  obtain rfl:n=0:=by omega
  simp only[Int.reduceEq,Int.reduceLE,if_true,if_false]
  have e: [112,117,115,104,32,114] ++ [rg A] = [112,117,115,104]++32 :: [114,rg A]:=rfl
  rw[e,OT_of a (no_all (by decide)) (c:= .one 3 0) (by kernel_rfl) (by decide),OT_one hA];rfl
 ·
  subst ho
  have h0:s=1:=by unfold shp at hs;simp only[Int.reduceEq,Int.reduceLE,or_true,or_false,and_true,and_false,true_and,false_and,if_true,if_false,or_self]at hs;cases hs;rfl
  obtain rfl:f=0:=by omega
  obtain rfl:w=0:=by omega
  obtain rfl:cc=0:=by omega
  obtain rfl:B=0:=by omega
  obtain rfl:n=0:=by omega
  simp only[Int.reduceEq,Int.reduceLE,if_true,if_false]
  have e: [112,111,112,32,114] ++ [rg A] = [112,111,112]++32 :: [114,rg A]:=rfl
  rw[e,OT_of a (no_all (by decide)) (c:= .one 4 0) (by kernel_rfl) (by decide),OT_one hA];rfl
 ·
  obtain⟨k,hk⟩:=Int.eq_ofNat_of_zero_le (show 0≤o-5 by omega)
  obtain rfl:o=5+(k:Int):=by omega
  have hk11:k<11:=by omega
  obtain⟨w1,w2⟩:=op_words ⟨k,hk11⟩
  rw[if_neg (by omega),if_neg (by omega),if_neg (by omega),if_neg (by omega),if_neg (by omega),if_pos (by omega),show(5+(k:Int)-5).toNat=k by omega]
  unfold shp at hs
  rw[if_neg (by omega),if_neg (by omega),if_pos (by omega)]at hs
  by_cases f0:f=0
  ·subst f0
   rw[if_pos rfl]at hs
   have h0:s=3:=by cases hs;rfl
   obtain rfl:w=0:=by omega
   obtain rfl:cc=0:=by omega
   obtain rfl:n=0:=by omega
   have e:opT k++arT 0 (rg A) (rg B) 0=opT k++32::([114,rg A]++44::32 :: [114,rg B]):=rfl
   rw[e,OT_of a (no_all w2) (op_cls hk11) w1,OT_arr hA hB];rfl
  ·by_cases f1:f=1
   ·subst f1
    rw[if_neg (by omega),if_pos rfl]at hs
    have h0:s=4:=by cases hs;rfl
    have nn:=near_of (.inl h0)
    obtain rfl:w=0:=by omega
    obtain rfl:cc=0:=by omega
    obtain rfl:B=0:=by omega
    have e:opT k++arT 1 (rg A) (rg 0) n=opT k++32::([114,rg A]++44::32::signT n):=rfl
    rw[e,OT_of a (no_all w2) (op_cls hk11) w1,OT_arn false hA (no_sign n) reg_sign (numSign h2),fm_n false h2,if_pos ⟨nn,rfl⟩]
   ·rw[if_neg f0,if_neg f1]at hs
    have f2:f=2:=by
     apply Classical.byContradiction
     intro hf
     rw[if_neg hf]at hs
     cases hs
    subst f2
    rw[if_pos rfl]at hs
    have h0:s=6:=by cases hs;rfl
    obtain rfl:w=0:=by omega
    obtain rfl:cc=0:=by omega
    obtain rfl:B=0:=by omega
    by_cases nn:near n
    ·have e:opT k++arT 2 (rg A) (rg 0) n=(opT k ++ [46,119])++32::([114,rg A]++44::32::signT n):=by
      unfold arT
      rw[if_neg (by omega),if_neg (by omega),if_pos nn]
      simp
     rw[e,OT_wide a (no_all w2) (op_cls hk11),OT_arn true hA (no_sign n) reg_sign (numSign h2),fm_n true h2,if_neg (by simp)]
    ·have e:opT k++arT 2 (rg A) (rg 0) n=opT k++32::([114,rg A]++44::32::(48::120::digs 16 n)):=by
      unfold arT
      rw[if_neg (by omega),if_neg (by omega),if_neg nn]
      simp
     rw[e,OT_of a (no_all w2) (op_cls hk11) w1,OT_arn false hA (no_hex n) reg_hex (numHex h2),fm_n false h2,if_neg (fun h=>nn h.1)]
 ·
  subst ho
  have h0:s=5∧(w=1∨w=2∨w=4):=by
   unfold shp at hs;simp only[Int.reduceEq,Int.reduceLE,or_true,or_false,and_true,and_false,true_and,false_and,if_true,if_false,or_self]at hs
   split at hs
   ·rename_i hw;cases hs;exact⟨rfl,hw⟩
   ·cases hs
  have nn:=near_of (.inr h0.1)
  obtain rfl:f=0:=by omega
  obtain rfl:cc=0:=by omega
  simp only[Int.reduceEq,Int.reduceLE,if_true,if_false]
  rcases h0.2 with rfl|rfl|rfl
  ·have e: [108,111,97,100]++(digs 10 (1:Int).toNat++([32,114,rg A,44,32]++placeT (rg B) n)) = [108,111,97,100,49]++32::([114,rg A]++44::32::placeT (rg B) n):=by
    rw[show digs 10 (1:Int).toNat = [49]from digs_lt (by decide)];rfl
   rw[e,OT_of a (no_all (by decide)) (c:= .mem 16 1 false) (by kernel_rfl) (by decide),OT_mem hA hB nn h2]
  ·have e: [108,111,97,100]++(digs 10 (2:Int).toNat++([32,114,rg A,44,32]++placeT (rg B) n)) = [108,111,97,100,50]++32::([114,rg A]++44::32::placeT (rg B) n):=by
    rw[show digs 10 (2:Int).toNat = [50]from digs_lt (by decide)];rfl
   rw[e,OT_of a (no_all (by decide)) (c:= .mem 16 2 false) (by kernel_rfl) (by decide),OT_mem hA hB nn h2]
  ·have e: [108,111,97,100]++(digs 10 (4:Int).toNat++([32,114,rg A,44,32]++placeT (rg B) n)) = [108,111,97,100,52]++32::([114,rg A]++44::32::placeT (rg B) n):=by
    rw[show digs 10 (4:Int).toNat = [52]from digs_lt (by decide)];rfl
   rw[e,OT_of a (no_all (by decide)) (c:= .mem 16 4 false) (by kernel_rfl) (by decide),OT_mem hA hB nn h2]
 ·
  subst ho
  have h0:s=5∧(w=1∨w=2):=by
   unfold shp at hs;simp only[Int.reduceEq,Int.reduceLE,or_true,or_false,and_true,and_false,true_and,false_and,if_true,if_false,or_self]at hs
   split at hs
   ·rename_i hw;cases hs;exact⟨rfl,hw⟩
   ·cases hs
  have nn:=near_of (.inr h0.1)
  obtain rfl:f=0:=by omega
  obtain rfl:cc=0:=by omega
  simp only[Int.reduceEq,Int.reduceLE,if_true,if_false]
  rcases h0.2 with rfl|rfl
  ·have e: [108,111,97,100]++(digs 10 (1:Int).toNat++([115,32,114,rg A,44,32]++placeT (rg B) n)) = [108,111,97,100,49,115]++32::([114,rg A]++44::32::placeT (rg B) n):=by
    rw[show digs 10 (1:Int).toNat = [49]from digs_lt (by decide)];rfl
   rw[e,OT_of a (no_all (by decide)) (c:= .mem 17 1 false) (by kernel_rfl) (by decide),OT_mem hA hB nn h2]
  ·have e: [108,111,97,100]++(digs 10 (2:Int).toNat++([115,32,114,rg A,44,32]++placeT (rg B) n)) = [108,111,97,100,50,115]++32::([114,rg A]++44::32::placeT (rg B) n):=by
    rw[show digs 10 (2:Int).toNat = [50]from digs_lt (by decide)];rfl
   rw[e,OT_of a (no_all (by decide)) (c:= .mem 17 2 false) (by kernel_rfl) (by decide),OT_mem hA hB nn h2]
 ·
  subst ho
  have h0:s=5∧(w=1∨w=2∨w=4):=by
   unfold shp at hs;simp only[Int.reduceEq,Int.reduceLE,or_true,or_false,and_true,and_false,true_and,false_and,if_true,if_false,or_self]at hs
   split at hs
   ·rename_i hw;cases hs;exact⟨rfl,hw⟩
   ·cases hs
  have nn:=near_of (.inr h0.1)
  obtain rfl:f=0:=by omega
  obtain rfl:cc=0:=by omega
  simp only[Int.reduceEq,Int.reduceLE,if_true,if_false]
  rcases h0.2 with rfl|rfl|rfl
  ·have e: [115,116,111,114,101]++(digs 10 (1:Int).toNat++(32::(placeT (rg B) n ++ [44,32,114,rg A]))) = [115,116,111,114,101,49]++32::(placeT (rg B) n++44::32 :: [114,rg A]):=by
    rw[show digs 10 (1:Int).toNat = [49]from digs_lt (by decide)];rfl
   rw[e,OT_of a (no_all (by decide)) (c:= .mem 18 1 true) (by kernel_rfl) (by decide),OT_sto hA hB nn h2]
  ·have e: [115,116,111,114,101]++(digs 10 (2:Int).toNat++(32::(placeT (rg B) n ++ [44,32,114,rg A]))) = [115,116,111,114,101,50]++32::(placeT (rg B) n++44::32 :: [114,rg A]):=by
    rw[show digs 10 (2:Int).toNat = [50]from digs_lt (by decide)];rfl
   rw[e,OT_of a (no_all (by decide)) (c:= .mem 18 2 true) (by kernel_rfl) (by decide),OT_sto hA hB nn h2]
  ·have e: [115,116,111,114,101]++(digs 10 (4:Int).toNat++(32::(placeT (rg B) n ++ [44,32,114,rg A]))) = [115,116,111,114,101,52]++32::(placeT (rg B) n++44::32 :: [114,rg A]):=by
    rw[show digs 10 (4:Int).toNat = [52]from digs_lt (by decide)];rfl
   rw[e,OT_of a (no_all (by decide)) (c:= .mem 18 4 true) (by kernel_rfl) (by decide),OT_sto hA hB nn h2]
 ·
  subst ho
  have h0:s=5:=by unfold shp at hs;simp only[Int.reduceEq,Int.reduceLE,or_true,or_false,and_true,and_false,true_and,false_and,if_true,if_false,or_self]at hs;cases hs;rfl
  have nn:=near_of (.inr h0)
  obtain rfl:f=0:=by omega
  obtain rfl:w=0:=by omega
  obtain rfl:cc=0:=by omega
  simp only[Int.reduceEq,Int.reduceLE,if_true,if_false]
  have e: [108,101,97,32,114]++([rg A,44,32]++placeT (rg B) n) = [108,101,97]++32::([114,rg A]++44::32::placeT (rg B) n):=rfl
  rw[e,OT_of a (no_all (by decide)) (c:= .mem 19 0 false) (by kernel_rfl) (by decide),OT_mem hA hB nn h2]
 ·
  subst ho
  have hcc:0≤cc∧cc≤14∧(f=1∧s=7∨f=2∧s=8):=by
   unfold shp at hs;simp only[Int.reduceEq,Int.reduceLE,or_true,or_false,and_true,and_false,true_and,false_and,if_true,if_false,or_self]at hs
   split at hs
   ·rename_i hc
    split at hs
    ·cases hs;omega
    ·split at hs
     ·cases hs;omega
     ·cases hs
   ·cases hs
  obtain⟨k,rfl⟩:=Int.eq_ofNat_of_zero_le hcc.1
  have hk:k<15:=by omega
  obtain⟨w1,w2,_,_⟩:=jw_words ⟨k,hk⟩
  obtain rfl:w=0:=by omega
  obtain rfl:A=0:=by omega
  obtain rfl:B=0:=by omega
  simp only[Int.reduceEq,Int.reduceLE,if_true,if_false]
  have ej:(if((k:Nat):Int)=0 then([106,109,112]:List UInt8)else 106::ccT (((k:Nat):Int)).toNat)=jw k:=by
   unfold jw
   rw[Int.toNat_natCast]
   by_cases h:k=0
   ·rw[if_pos h,if_pos (by omega)]
   ·rw[if_neg h,if_neg (by omega)]
  unfold jmT
  rw[ej]
  by_cases hx:f=2∧near j
  ·rw[if_pos hx]
   have e:jw k++([46,119]++([32,48,120]++digs 16 n))=(jw k ++ [46,119])++32::(48::120::digs 16 n):=by simp
   rw[e,OT_wide a (no_all w2) (jw_cls hk),OT_jmp true h2,hof,fm_n true hj2,if_neg (by simp),hx.1]
  ·rw[if_neg hx]
   have e:jw k++(([]:List UInt8)++([32,48,120]++digs 16 n))=jw k++32::(48::120::digs 16 n):=by simp
   rw[e,OT_of a (no_all w2) (jw_cls hk) w1,OT_jmp false h2,hof,fm_n false hj2]
   rcases hcc.2.2 with⟨rfl,h7⟩|⟨rfl,h8⟩
   ·have nj:near j:=by have:=hJ h7;unfold near;omega
    rw[if_pos ⟨nj,rfl⟩]
   ·rw[if_neg (fun h=>hx ⟨rfl,h.1⟩)]
 ·
  subst ho
  have h0:s=2:=by unfold shp at hs;simp only[Int.reduceEq,Int.reduceLE,or_true,or_false,and_true,and_false,true_and,false_and,if_true,if_false,or_self]at hs;cases hs;rfl
  obtain rfl:f=0:=by omega
  obtain rfl:w=0:=by omega
  obtain rfl:cc=0:=by omega
  obtain rfl:B=0:=by omega
  obtain rfl:n=0:=by omega
  simp only[Int.reduceEq,Int.reduceLE,if_true,if_false]
  have e: [106,117,109,112,114,32,114] ++ [rg A] = [106,117,109,112,114]++32 :: [114,rg A]:=rfl
  rw[e,OT_of a (no_all (by decide)) (c:= .one 21 0) (by kernel_rfl) (by decide),OT_one hA];rfl
 ·
  subst ho
  have h0:s=6:=by unfold shp at hs;simp only[Int.reduceEq,Int.reduceLE,or_true,or_false,and_true,and_false,true_and,false_and,if_true,if_false,or_self]at hs;cases hs;rfl
  obtain rfl:f=0:=by omega
  obtain rfl:w=0:=by omega
  obtain rfl:cc=0:=by omega
  obtain rfl:B=0:=by omega
  simp only[Int.reduceEq,Int.reduceLE,if_true,if_false]
  have e: [106,117,109,112,116,32,114]++([rg A,44,32,48,120]++digs 16 n) = [106,117,109,112,116]++32::([114,rg A]++44::32::(48::120::digs 16 n)):=rfl
  rw[e,OT_of a (no_all (by decide)) (c:= .jumpt) (by kernel_rfl) (by decide),OT_jumpt hA h2]
 ·
  subst ho
  have h0:s=8:=by unfold shp at hs;simp only[Int.reduceEq,Int.reduceLE,or_true,or_false,and_true,and_false,true_and,false_and,if_true,if_false,or_self]at hs;cases hs;rfl
  obtain rfl:f=0:=by omega
  obtain rfl:w=0:=by omega
  obtain rfl:cc=0:=by omega
  obtain rfl:A=0:=by omega
  obtain rfl:B=0:=by omega
  simp only[Int.reduceEq,Int.reduceLE,if_true,if_false]
  have e: [99,97,108,108,32,48,120]++digs 16 n = [99,97,108,108]++32::(48::120::digs 16 n):=rfl
  rw[e,OT_of a (no_all (by decide)) (c:= .call) (by kernel_rfl) (by decide),OT_call h2]
 ·
  subst ho
  have h0:s=2:=by unfold shp at hs;simp only[Int.reduceEq,Int.reduceLE,or_true,or_false,and_true,and_false,true_and,false_and,if_true,if_false,or_self]at hs;cases hs;rfl
  obtain rfl:f=0:=by omega
  obtain rfl:w=0:=by omega
  obtain rfl:cc=0:=by omega
  obtain rfl:B=0:=by omega
  obtain rfl:n=0:=by omega
  simp only[Int.reduceEq,Int.reduceLE,if_true,if_false]
  have e: [99,97,108,108,114,32,114] ++ [rg A] = [99,97,108,108,114]++32 :: [114,rg A]:=rfl
  rw[e,OT_of a (no_all (by decide)) (c:= .one 24 0) (by kernel_rfl) (by decide),OT_one hA];rfl
 ·
  subst ho
  have hcc:0≤cc∧cc≤14∧s=2:=by
   unfold shp at hs;simp only[Int.reduceEq,Int.reduceLE,or_true,or_false,and_true,and_false,true_and,false_and,if_true,if_false,or_self]at hs
   split at hs
   ·rename_i hc;cases hs;exact⟨hc.1,hc.2,rfl⟩
   ·cases hs
  obtain⟨k,rfl⟩:=Int.eq_ofNat_of_zero_le hcc.1
  have hk:k<15:=by omega
  obtain⟨_,_,w1,w2⟩:=jw_words ⟨k,hk⟩
  obtain rfl:f=0:=by omega
  obtain rfl:w=0:=by omega
  obtain rfl:B=0:=by omega
  obtain rfl:n=0:=by omega
  simp only[Int.reduceEq,Int.reduceLE,if_true,if_false]
  have e: [115,101,116]++(ccT (((k:Nat):Int)).toNat ++ [32,114,rg A])=([115,101,116]++ccT k)++32 :: [114,rg A]:=by
   rw[Int.toNat_natCast];simp
  rw[e,OT_of a (no_all w2) (set_cls hk) w1,OT_one hA];rfl
 ·
  subst ho
  have h0:s=2:=by unfold shp at hs;simp only[Int.reduceEq,Int.reduceLE,or_true,or_false,and_true,and_false,true_and,false_and,if_true,if_false,or_self]at hs;cases hs;rfl
  obtain rfl:f=0:=by omega
  obtain rfl:w=0:=by omega
  obtain rfl:cc=0:=by omega
  obtain rfl:B=0:=by omega
  obtain rfl:n=0:=by omega
  simp only[Int.reduceEq,Int.reduceLE,if_true,if_false]
  have e: [105,110,32,114] ++ [rg A] = [105,110]++32 :: [114,rg A]:=rfl
  rw[e,OT_of a (no_all (by decide)) (c:= .one 26 0) (by kernel_rfl) (by decide),OT_one hA];rfl
 ·
  subst ho
  have h0:s=2:=by unfold shp at hs;simp only[Int.reduceEq,Int.reduceLE,or_true,or_false,and_true,and_false,true_and,false_and,if_true,if_false,or_self]at hs;cases hs;rfl
  obtain rfl:f=0:=by omega
  obtain rfl:w=0:=by omega
  obtain rfl:cc=0:=by omega
  obtain rfl:B=0:=by omega
  obtain rfl:n=0:=by omega
  simp only[Int.reduceEq,Int.reduceLE,if_true,if_false]
  have e: [111,117,116,32,114] ++ [rg A] = [111,117,116]++32 :: [114,rg A]:=rfl
  rw[e,OT_of a (no_all (by decide)) (c:= .one 27 0) (by kernel_rfl) (by decide),OT_one hA];rfl
end Go.Proofs.YtobhhfbdelnhfaaGreatDoor
