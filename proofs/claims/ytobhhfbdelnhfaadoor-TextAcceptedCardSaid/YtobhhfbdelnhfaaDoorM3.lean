/-
  Plain laws: what is not known, unveiled; loops over numbers.
-/
import Derived.Test.YtobhhfbdelnhfaaDoorAmS
import Derived.Test.YtobhhfbdelnhfaaDoorM1
import Derived.Lib.ItoaNum
import Derived.Lib.SplitLaws
namespace Go.AM
theorem qsome_s (r:List D):qsome (some r)=true:=by rw[qsome_eq];rfl
theorem qnth_s (r:List D) (j:Nat):qnth (some r) j=r.getD j .other:=by rw[qnth_eq];rfl
theorem qint_i (n:Int):qint (.int n)=n:=by rw[qint_eq];rfl
theorem qbool_b (b:Bool):qbool (.bool b)=b:=by rw[qbool_eq];rfl
theorem qstr_s (s:ByteArray):qstr (.str s)=s:=by rw[qstr_eq];rfl
theorem qcmp_lss (a b:Int):qcmp .lss a b=decide (a<b):=by rw[qcmp_eq];rfl
theorem qcmp_leq (a b:Int):qcmp .leq a b=decide (a≤b):=by rw[qcmp_eq];rfl
theorem qcmp_gtr (a b:Int):qcmp .gtr a b=decide (b<a):=by rw[qcmp_eq];rfl
theorem qcmp_geq (a b:Int):qcmp .geq a b=decide (b≤a):=by rw[qcmp_eq];rfl
theorem qcmp_eql (a b:Int):qcmp .eql a b=decide (a=b):=by rw[qcmp_eq];simp only[rcmp];cases h:decide (a=b)<;>simp_all
theorem qcmp_neq (a b:Int):qcmp .neq a b = !decide (a=b):=by rw[qcmp_eq];simp only[rcmp,bne];cases h:decide (a=b)<;>simp_all
theorem qiteB_c (c a b:Bool):qiteB c a b=bif c then a else b:=by rw[qiteB_eq]
theorem qnot_c (a:Bool):qnot a = !a:=by rw[qnot_eq]
theorem qlen_c (d:D):qlen d=(d.toList.length:Int):=by rw[qlen_eq];rfl
theorem qinb_c (d:D) (i:Int):qinb d i=(decide (0≤i)&&decide (i<d.toList.length)):=by rw[qinb_eq];rfl
theorem qget_n (d:D) (i:Nat):qget d (i:Int)=d.toList.getD i .other:=by rw[qget_eq];simp[D.get]
theorem wrap64' {n:Int} (h0: -9223372036854775808≤n) (h1:n≤9223372036854775807):IntKind.i64.wrap n=n:=wrap64 h0 h1
theorem add_nat {i:Nat} (h:i<9223372036854775807):qbin .add .i64 (i:Int) 1=((i+1:Nat):Int):=by
 rw[add64 (by omega) (by omega)];omega
end Go.AM
namespace Go.Proofs.YtobhhfbdelnhfaaDoor
set_option linter.unusedSimpArgs false
open Go Go.AM
def shp (o f w cc:Int):Option Int:=
 if 0≤o∧o≤2 then some 0
 else if o=3∨o=4 then some 1
 else if 5≤o∧o≤15 then(if f=0 then some 3 else if f=1 then some 4 else if f=2 then some 6 else none)
 else if o=16∨o=18 then(if w=1∨w=2∨w=4 then some 5 else none)
 else if o=17 then(if w=1∨w=2 then some 5 else none)
 else if o=19 then some 5
 else if o=20 then(if 0≤cc∧cc≤14 then(if f=1 then some 7 else if f=2 then some 8 else none)else none)
 else if o=25 then(if 0≤cc∧cc≤14 then some 2 else none)
 else if o=23 then some 8
 else if o=24∨o=21∨o=26∨o=27 then some 2
 else if o=22 then some 6
 else none
theorem ocases (o:Int):(o<0∨27<o)∨(o=0∨o=1∨o=2)∨o=3∨o=4∨(5≤o∧o≤15)∨o=16∨o=17∨o=18∨o=19∨o=20∨o=21∨o=22∨o=23∨o=24∨o=25∨o=26∨o=27:=by omega
theorem acc_spec (d:D) (ho:qint (qfld d 2)=16∨qint (qfld d 2)=17∨qint (qfld d 2)=18):
 (∃c,q54 [d]=some [.int c, .int 5, .bool true]∧shp (qint (qfld d 2)) (qint (qfld d 3)) (qint (qfld d 4)) (qint (qfld d 5))=some 5)∨
 (∃c,q54 [d]=some [.int c, .int 5, .bool false]∧shp (qint (qfld d 2)) (qint (qfld d 3)) (qint (qfld d 4)) (qint (qfld d 5))=none):=by
 rw[q54_eq,F54_eq]
 generalize qint (qfld d 2)=o at *
 generalize qint (qfld d 3)=f at *
 generalize qint (qfld d 4)=w at *
 simp only[qand_eq,qcmp_eql]
 rcases ho with rfl|rfl|rfl<;>by_cases h1:w=1<;>by_cases h2:w=2<;>by_cases h4:w=4<;>first|omega|simp[*,shp]
theorem cc_spec (d:D) (ho:qint (qfld d 2)=20∨qint (qfld d 2)=25):
 (∃c s,q55 [d]=some [.int c, .int s, .bool true]∧shp (qint (qfld d 2)) (qint (qfld d 3)) (qint (qfld d 4)) (qint (qfld d 5))=some s)∨
 (∃c s,q55 [d]=some [.int c, .int s, .bool false]∧shp (qint (qfld d 2)) (qint (qfld d 3)) (qint (qfld d 4)) (qint (qfld d 5))=none):=by
 rw[q55_eq,F55_eq]
 generalize qint (qfld d 2)=o at *
 generalize qint (qfld d 3)=f at *
 generalize qint (qfld d 4)=w at *
 generalize qint (qfld d 5)=cc at *
 simp only[qiteB_c,qcmp_eql,qcmp_lss,qcmp_gtr]
 rcases ho with rfl|rfl<;>by_cases h1:cc<0<;>by_cases h2:14<cc<;>by_cases h3:f=1<;>by_cases h4:f=2<;>first|omega|(simp[*,shp];done)|(simp[*,shp];omega)
theorem op_spec (d:D):
 (∃c s,q35 [d]=some [.int c, .int s, .bool true]∧shp (qint (qfld d 2)) (qint (qfld d 3)) (qint (qfld d 4)) (qint (qfld d 5))=some s)∨
 (∃c s,q35 [d]=some [.int c, .int s, .bool false]∧shp (qint (qfld d 2)) (qint (qfld d 3)) (qint (qfld d 4)) (qint (qfld d 5))=none):=by
 have hacc:=acc_spec d
 have hcc:=cc_spec d
 rw[q35_eq,F35_eq]
 generalize qint (qfld d 2)=o at *
 generalize qint (qfld d 3)=f at *
 generalize qint (qfld d 4)=w at *
 generalize qint (qfld d 5)=cc at *
 generalize qint (qfld d 6)=a at *
 simp only[qiteB_c,qcmp_eql,qcmp_geq,qcmp_leq]
 rcases ocases o with h|h|rfl|rfl|h|rfl|rfl|rfl|rfl|rfl|rfl|rfl|rfl|rfl|rfl|rfl|rfl
 ·right
  simp[shp,show¬o=0 by omega,show¬o=1 by omega,show¬o=2 by omega,show¬o=3 by omega,show¬o=4 by omega,show¬(5≤o∧o≤15)by omega,show¬(0≤o∧o≤2)by omega,show¬o=16 by omega,show¬o=17 by omega,show¬o=18 by omega,show¬o=19 by omega,show¬o=20 by omega,show¬o=21 by omega,show¬o=22 by omega,show¬o=23 by omega,show¬o=24 by omega,show¬o=25 by omega,show¬o=26 by omega,show¬o=27 by omega]
  rcases h with h|h
  ·simp[show¬5≤o by omega]
  ·simp[show¬o≤15 by omega]
 ·left
  rcases h with rfl|rfl|rfl<;>simp[shp]
 ·left;simp[shp]
 ·left;simp[shp]
 ·obtain⟨h1,h2⟩:=h
  by_cases f0:f=0
  ·left;subst f0;simp[shp,h1,h2,show¬o=0 by omega,show¬o=1 by omega,show¬o=2 by omega,show¬o=3 by omega,show¬o=4 by omega,show¬o≤2 by omega]
  by_cases f1:f=1
  ·left;subst f1;simp[shp,h1,h2,show¬o=0 by omega,show¬o=1 by omega,show¬o=2 by omega,show¬o=3 by omega,show¬o=4 by omega,show¬o≤2 by omega]
  by_cases f2:f=2
  ·left;subst f2;simp[shp,h1,h2,show¬o=0 by omega,show¬o=1 by omega,show¬o=2 by omega,show¬o=3 by omega,show¬o=4 by omega,show¬o≤2 by omega]
  ·right;simp[shp,f0,f1,f2,h1,h2,show¬o=0 by omega,show¬o=1 by omega,show¬o=2 by omega,show¬o=3 by omega,show¬o=4 by omega,show¬o≤2 by omega]
 ·rcases hacc (by simp)with⟨c,h,hs⟩|⟨c,h,hs⟩
  ·left;exact⟨c,5,by simp[h,qsome_s,qnth_s,qint_i,qbool_b],hs⟩
  ·right;exact⟨c,5,by simp[h,qsome_s,qnth_s,qint_i,qbool_b],hs⟩
 ·rcases hacc (by simp)with⟨c,h,hs⟩|⟨c,h,hs⟩
  ·left;exact⟨c,5,by simp[h,qsome_s,qnth_s,qint_i,qbool_b],hs⟩
  ·right;exact⟨c,5,by simp[h,qsome_s,qnth_s,qint_i,qbool_b],hs⟩
 ·rcases hacc (by simp)with⟨c,h,hs⟩|⟨c,h,hs⟩
  ·left;exact⟨c,5,by simp[h,qsome_s,qnth_s,qint_i,qbool_b],hs⟩
  ·right;exact⟨c,5,by simp[h,qsome_s,qnth_s,qint_i,qbool_b],hs⟩
 ·left;simp[shp]
 ·rcases hcc (by simp)with⟨c,s,h,hs⟩|⟨c,s,h,hs⟩
  ·left;exact⟨c,s,by simp[h,qsome_s,qnth_s,qint_i,qbool_b],hs⟩
  ·right;exact⟨c,s,by simp[h,qsome_s,qnth_s,qint_i,qbool_b],hs⟩
 ·left;simp[shp]
 ·left;simp[shp]
 ·left;simp[shp]
 ·left;simp[shp]
 ·rcases hcc (by simp)with⟨c,s,h,hs⟩|⟨c,s,h,hs⟩
  ·left;exact⟨c,s,by simp[h,qsome_s,qnth_s,qint_i,qbool_b],hs⟩
  ·right;exact⟨c,s,by simp[h,qsome_s,qnth_s,qint_i,qbool_b],hs⟩
 ·left;simp[shp]
 ·left;simp[shp]
theorem kept_spec (d:D) (s:Int):q37 [d, .int s]=some [.agg [.int (qint (qfld d 0)), .int (if 4≤s∧s≤8 then qint (qfld d 1)else 0), .int (qint (qfld d 2)),
 .int (if 5≤qint (qfld d 2)∧qint (qfld d 2)≤15∨qint (qfld d 2)=20 then qint (qfld d 3)else 0), .int (if 16≤qint (qfld d 2)∧qint (qfld d 2)≤18 then qint (qfld d 4)else 0),
 .int (if qint (qfld d 2)=20∨qint (qfld d 2)=25 then qint (qfld d 5)else 0), .int (if 1≤s∧s≤6 then qint (qfld d 6)else 0), .int (if s=3∨s=5 then qint (qfld d 7)else 0), .int (qint (qfld d 8))]]:=by
 rw[q37_eq,F37_eq]
 generalize qint (qfld d 2)=o at *
 simp only[qiteB_c,qcmp_eql,qcmp_geq,qcmp_leq]
 have hsc:(s<1∨8<s)∨s=1∨s=2∨s=3∨s=4∨s=5∨s=6∨s=7∨s=8:=by omega
 have hoc:(o<5∨(18<o∧o≠20∧o≠25))∨(5≤o∧o≤15)∨o=16∨o=17∨o=18∨o=20∨o=25:=by omega
 rcases hoc with ho|ho|rfl|rfl|rfl|rfl|rfl
 ·have e1:¬(5≤o∧o≤15):=by omega
  have e2:(decide (5≤o)&&decide (o≤15))=false:=by simp;omega
  rcases hsc with hs|rfl|rfl|rfl|rfl|rfl|rfl|rfl|rfl
  ·simp[e1,e2,show¬o=16 by omega,show¬o=17 by omega,show¬o=18 by omega,show¬o=20 by omega,show¬o=25 by omega,show¬(16≤o∧o≤18)by omega,show¬s=1 by omega,show¬s=2 by omega,show¬s=3 by omega,show¬s=4 by omega,show¬s=5 by omega,show¬s=6 by omega,show¬s=7 by omega,show¬s=8 by omega,show¬(1≤s∧s≤6)by omega,show¬(4≤s∧s≤8)by omega]
  all_goals
   simp[e1,e2,show¬o=16 by omega,show¬o=17 by omega,show¬o=18 by omega,show¬o=20 by omega,show¬o=25 by omega,show¬(16≤o∧o≤18)by omega]
 ·rcases hsc with hs|rfl|rfl|rfl|rfl|rfl|rfl|rfl|rfl
  ·simp[ho.1,ho.2,show¬o=16 by omega,show¬o=17 by omega,show¬o=18 by omega,show¬o=20 by omega,show¬o=25 by omega,show¬(16≤o∧o≤18)by omega,show¬s=1 by omega,show¬s=2 by omega,show¬s=3 by omega,show¬s=4 by omega,show¬s=5 by omega,show¬s=6 by omega,show¬s=7 by omega,show¬s=8 by omega,show¬(1≤s∧s≤6)by omega,show¬(4≤s∧s≤8)by omega]
  all_goals simp[ho.1,ho.2,show¬o=16 by omega,show¬o=17 by omega,show¬o=18 by omega,show¬o=20 by omega,show¬o=25 by omega,show¬(16≤o∧o≤18)by omega]
 all_goals
  rcases hsc with hs|rfl|rfl|rfl|rfl|rfl|rfl|rfl|rfl
  ·simp[show¬s=1 by omega,show¬s=2 by omega,show¬s=3 by omega,show¬s=4 by omega,show¬s=5 by omega,show¬s=6 by omega,show¬s=7 by omega,show¬s=8 by omega,show¬(1≤s∧s≤6)by omega,show¬(4≤s∧s≤8)by omega]
  all_goals simp
def okA (s o f w cc a b imm j:Int):Prop:=
 (0≤a∧a<8)∧(0≤b∧b<8)∧(4≤s∧s≤8∨imm=0)∧(5≤o∧o≤15∨o=20∨f=0)∧(16≤o∧o≤18∨w=0)∧(o=20∨o=25∨cc=0)∧(1≤s∧s≤6∨a=0)∧(s=3∨s=5∨b=0)∧
 (s=4∨s=5→imm≤127∨4294967168≤imm)∧(s=7→j≤127∨4294967168≤j)
def okArg (s o f w cc a b imm:Int):Prop:=
 (0≤a∧a<8)∧(0≤b∧b<8)∧(4≤s∧s≤8∨imm=0)∧(5≤o∧o≤15∨o=20∨f=0)∧(16≤o∧o≤18∨w=0)∧(o=20∨o=25∨cc=0)∧(1≤s∧s≤6∨a=0)∧(s=3∨s=5∨b=0)
noncomputable def short (d:D):Int:=qbin .sub .u32 (qbin .sub .u32 (qint (qfld d 1)) (qint (qfld d 0))) 2
def hasS (d:D) (s:Int):Prop:=
 shp (qint (qfld d 2)) (qint (qfld d 3)) (qint (qfld d 4)) (qint (qfld d 5))=some s∧okA s (qint (qfld d 2)) (qint (qfld d 3)) (qint (qfld d 4)) (qint (qfld d 5)) (qint (qfld d 6)) (qint (qfld d 7)) (qint (qfld d 1)) (short d)
def argOk (d:D):Prop:=
 ∃s,shp (qint (qfld d 2)) (qint (qfld d 3)) (qint (qfld d 4)) (qint (qfld d 5))=some s∧okArg s (qint (qfld d 2)) (qint (qfld d 3)) (qint (qfld d 4)) (qint (qfld d 5)) (qint (qfld d 6)) (qint (qfld d 7)) (qint (qfld d 1))
theorem qfld_agg (xs:List D) (j:Nat):qfld (.agg xs) j=xs.getD j .other:=by rw[qfld_eq];rfl
theorem keq (C:Prop) [Decidable C] (x:Int):decide ((if C then x else 0)=x)=decide (C∨x=0):=by
 by_cases h:C
 ·simp[h]
 ·simp[h];exact⟨fun e=>e.symm,fun e=>e.symm⟩
theorem dself (x:Int):decide (x=x)=true:=by simp
theorem narB (s i j:Int):(bif bif (bif decide (s=4)then true else decide (s=5))then !(bif decide (i≤127)then true else decide (4294967168≤i))else false then true else
 bif decide (s=7)then !(bif decide (j≤127)then true else decide (4294967168≤j))else false) = !decide ((s=4∨s=5→i≤127∨4294967168≤i)∧(s=7→j≤127∨4294967168≤j)):=by
 by_cases i1:i≤127<;>by_cases i2:4294967168≤i<;>by_cases j1:j≤127<;>by_cases j2:4294967168≤j<;>simp only[i1,i2,j1,j2,decide_true,decide_false,cond_true,cond_false,Bool.not_true,Bool.not_false,true_or,or_true,or_false,imp_true_iff,and_true,true_and,Bool.cond_self]<;>
  by_cases e4:s=4<;>by_cases e5:s=5<;>by_cases e7:s=7<;>first|omega|simp[e4,e5,e7]
theorem chk69 (d:D):(∃c s,q22 [d]=some [.int c, .int s, .int 0]∧hasS d s∧q35 [d]=some [.int c, .int s, .bool true])∨(∃e,q22 [d]=some [.int 0, .int 0, .int e]∧e≠0∧(∀s,¬hasS d s)∧(e=2∧¬argOk d∨e=7∧argOk d)):=by
 rw[q22_eq,F22_eq]
 rcases op_spec d with⟨c,s,h,hs⟩|⟨c,s,h,hs⟩
 ·rw[h]
  simp only[qsome_s,qnth_s,List.getD_cons_zero,List.getD_cons_succ,qint_i,qbool_b,qnot_c,qiteB_c,qcmp_eql,qcmp_geq,qcmp_lss,qcmp_leq,kept_spec,qfld_agg,qand_eq]
  have key:hasS d s↔okA s (qint (qfld d 2)) (qint (qfld d 3)) (qint (qfld d 4)) (qint (qfld d 5)) (qint (qfld d 6)) (qint (qfld d 7)) (qint (qfld d 1)) (short d):=by
   unfold hasS;simp[hs]
  have keyn:∀s',s'≠s→¬hasS d s':=fun s' hne h'=>by
   have:=h'.1;rw[hs]at this;simp at this;omega
  have kna:¬okArg s (qint (qfld d 2)) (qint (qfld d 3)) (qint (qfld d 4)) (qint (qfld d 5)) (qint (qfld d 6)) (qint (qfld d 7)) (qint (qfld d 1))→¬argOk d:=fun h1 ⟨s',h2,h3⟩=>by
   rw[hs]at h2;injection h2 with h2;subst h2;exact h1 h3
  have kn:¬hasS d s→∀s',¬hasS d s':=fun h1 s' h2=>by
   by_cases e:s'=s
   ·exact h1 (e▸h2)
   ·exact keyn s' e h2
  change _∨_
  rw[show qbin BinOp.sub IntKind.u32 (qbin BinOp.sub IntKind.u32 (qint (qfld d 1)) (qint (qfld d 0))) 2=short d from rfl]
  by_cases ha:0≤qint (qfld d 6)∧qint (qfld d 6)<8
  ·by_cases hb:0≤qint (qfld d 7)∧qint (qfld d 7)<8
   ·by_cases hk:(4≤s∧s≤8∨qint (qfld d 1)=0)∧(5≤qint (qfld d 2)∧qint (qfld d 2)≤15∨qint (qfld d 2)=20∨qint (qfld d 3)=0)∧(16≤qint (qfld d 2)∧qint (qfld d 2)≤18∨qint (qfld d 4)=0)∧(qint (qfld d 2)=20∨qint (qfld d 2)=25∨qint (qfld d 5)=0)∧(1≤s∧s≤6∨qint (qfld d 6)=0)∧(s=3∨s=5∨qint (qfld d 7)=0)
    ·simp only[keq,dself,ha.1,ha.2,hb.1,hb.2,decide_true,cond_true,Bool.not_true,cond_false,Bool.true_and,Bool.and_true,
      decide_eq_true hk.1,decide_eq_true hk.2.2.1,decide_eq_true hk.2.2.2.2.1,or_assoc,decide_eq_true hk.2.1,decide_eq_true hk.2.2.2.1,decide_eq_true hk.2.2.2.2.2]
     by_cases hn:(s=4∨s=5→qint (qfld d 1)≤127∨4294967168≤qint (qfld d 1))∧(s=7→short d≤127∨4294967168≤short d)
     ·left
      refine⟨c,s,?_,key.2 ⟨ha,hb,hk.1,hk.2.1,hk.2.2.1,hk.2.2.2.1,hk.2.2.2.2.1,hk.2.2.2.2.2,hn⟩,rfl⟩
      simp only[narB,decide_eq_true hn,Bool.not_true,cond_false]
     ·right
      refine⟨7,?_,by omega,kn (fun h'=>hn (key.1 h').2.2.2.2.2.2.2.2), .inr ⟨rfl,s,hs,ha,hb,hk.1,hk.2.1,hk.2.2.1,hk.2.2.2.1,hk.2.2.2.2.1,hk.2.2.2.2.2⟩⟩
      simp only[narB,decide_eq_false hn,Bool.not_false,cond_true]
    ·right
     refine⟨2,?_,by omega,kn (fun h'=>hk ⟨(key.1 h').2.2.1,(key.1 h').2.2.2.1,(key.1 h').2.2.2.2.1,(key.1 h').2.2.2.2.2.1,(key.1 h').2.2.2.2.2.2.1,(key.1 h').2.2.2.2.2.2.2.1⟩), .inl ⟨rfl,kna fun h'=>hk ⟨h'.2.2.1,h'.2.2.2.1,h'.2.2.2.2.1,h'.2.2.2.2.2.1,h'.2.2.2.2.2.2.1,h'.2.2.2.2.2.2.2⟩⟩⟩
     simp only[keq,dself,ha.1,ha.2,hb.1,hb.2,decide_true,cond_true,Bool.not_true,cond_false,Bool.true_and,Bool.and_true,or_assoc]
     simp only[← Bool.decide_and,decide_eq_false hk,Bool.not_false,cond_true]
   ·right
    refine⟨2,?_,by omega,kn (fun h'=>hb (key.1 h').2.1), .inl ⟨rfl,kna fun h'=>hb h'.2.1⟩⟩
    simp only[ha.1,ha.2,decide_true,cond_true,Bool.not_true,cond_false]
    have:(bif decide (0≤qint (qfld d 7))then decide (qint (qfld d 7)<8)else false)=false:=by
     simp;omega
    rw[this];rfl
  ·right
   refine⟨2,?_,by omega,kn (fun h'=>ha (key.1 h').1), .inl ⟨rfl,kna fun h'=>ha h'.1⟩⟩
   have:(bif decide (0≤qint (qfld d 6))then decide (qint (qfld d 6)<8)else false)=false:=by
    simp;omega
   simp only[this,Bool.not_true,Bool.not_false,cond_true,cond_false]
 ·right
  refine⟨2,?_,by omega,(fun s' h'=>by have:=h'.1;rw[hs]at this;cases this), .inl ⟨rfl,(fun⟨s',h',_⟩=>by rw[hs]at h';cases h')⟩⟩
  simp[h,qsome_s,qnth_s,qbool_b,qnot_c]
def sLen (s:Int):Int:=if s=0∨s=1 then 1 else if s=2∨s=3∨s=7 then 2 else if s=4∨s=5 then 3 else if s=6 then 6 else 5
theorem shp_le {o f w cc s:Int} (h:shp o f w cc=some s):0≤s∧s≤8:=by
 unfold shp at h
 repeat' split at h
 all_goals first|(cases h;done)|(injection h with h;omega)
theorem sLen_pos (s:Int):1≤sLen s∧sLen s≤6:=by
 unfold sLen;repeat' split
 all_goals omega
theorem size_spec {s:Int} (h:0≤s∧s≤8):q26 [.int s]=some [.int (sLen s)]:=by
 rw[q26_eq,F26_eq]
 obtain rfl|rfl|rfl|rfl|rfl|rfl|rfl|rfl|rfl:s=0∨s=1∨s=2∨s=3∨s=4∨s=5∨s=6∨s=7∨s=8:=by omega
 all_goals (rw[qinbS_eq,qidxS_eq,qbin_eq,qwrap_eq];kernel_rfl)
open Classical in
noncomputable def lenI (d:D):Int:=if h:∃s,hasS d s then sLen h.choose else 0
noncomputable def vld (d:D):Bool:=decide (lenI d≠0)
theorem hasS_un {d:D} {s s':Int} (h:hasS d s) (h':hasS d s'):s=s':=by
 have:=h.1.symm.trans h'.1;injection this
theorem lenI_of {d:D} {s:Int} (h:hasS d s):lenI d=sLen s:=by
 unfold lenI
 rw[dif_pos ⟨s,h⟩]
 exact congrArg sLen (hasS_un (Exists.choose_spec (⟨s,h⟩:∃s,hasS d s)) h)
theorem lenI_none {d:D} (h:¬∃s,hasS d s):lenI d=0:=by unfold lenI;rw[dif_neg h]
theorem vld_iff {d:D}:vld d=true↔∃s,hasS d s:=by
 unfold vld
 rw[decide_eq_true_iff]
 constructor
 ·intro h
  by_cases hx:∃s,hasS d s
  ·exact hx
  ·exact absurd (lenI_none hx) h
 ·rintro⟨s,hs⟩
  rw[lenI_of hs]
  have:=sLen_pos s
  omega
theorem lenI_pos {d:D} (h:vld d=true):1≤lenI d∧lenI d≤6:=by
 obtain⟨s,hs⟩:=vld_iff.1 h
 rw[lenI_of hs];exact sLen_pos s
theorem valid_spec (d:D):q7 [d]=some [.bool (vld d)]∧q10 [d]=some [.int (lenI d)]:=by
 rcases chk69 d with⟨c,s,h69,hs,_⟩|⟨e,h69,he,hn,_⟩
 ·have hv:vld d=true:=vld_iff.2 ⟨s,hs⟩
  refine⟨?_,?_⟩
  ·rw[q7_eq,F7_eq,h69,hv];simp[qsome_s,qnth_s,qint_i,qcmp_eql]
  ·rw[q10_eq,F10_eq,h69,lenI_of hs]
   simp only[qsome_s,qnth_s,List.getD_cons_zero,List.getD_cons_succ,qint_i,size_spec (shp_le hs.1),qcmp_neq]
   simp
 ·have hx:¬∃s,hasS d s:=fun⟨s,h⟩=>hn s h
  have hv:vld d=false:=by rw[Bool.eq_false_iff];exact mt vld_iff.1 hx
  refine⟨?_,?_⟩
  ·rw[q7_eq,F7_eq,h69,hv];simp[qsome_s,qnth_s,qint_i,qcmp_eql,he]
  ·rw[q10_eq,F10_eq,h69,lenI_none hx];simp[qsome_s,qnth_s,qint_i,qcmp_neq,he]
end Go.Proofs.YtobhhfbdelnhfaaDoor
namespace Go.Proofs.YtobhhfbdelnhfaaDoor
set_option linter.unusedSimpArgs false
set_option linter.unusedVariables false
open Go Go.AM
def bs (l:List UInt8):ByteArray:=⟨⟨l⟩⟩
theorem bs_size (l:List UInt8):(bs l).size=l.length:=rfl
theorem catB (a b:List UInt8):qcat (bs a) (bs b)=bs (a++b):=by
 simp only[qcat,veil_eq]
 apply ByteArray.ext
 rw[← Array.toList_inj,ByteArray.toList_data_append]
 rfl
theorem catOkB {a b:List UInt8} (h:a.length+b.length≤1000000):qcatOk (bs a) (bs b)=true:=by
 simp only[qcatOk,veil_eq]
 show decide (((a.length+b.length:Nat):Int)≤9223372036854775807)=true
 rw[decide_eq_true_eq];omega
def hx (d:Nat):UInt8:=UInt8.ofNat (if d<10 then 48+d else 87+d)
def digs (b n:Nat):List UInt8:=if h:n<b∨b<2 then[hx n]else digs b (n/b) ++ [hx (n%b)]
termination_by n
decreasing_by exact Nat.div_lt_self (by omega) (by omega)
theorem digs_lt {b n:Nat} (h:n<b):digs b n = [hx n]:=by rw[digs,dif_pos (.inl h)]
theorem digs_ge {b n:Nat} (h:b≤n) (hb:2≤b):digs b n=digs b (n/b) ++ [hx (n%b)]:=by rw[digs,dif_neg (by omega)]
theorem dec_digs (n:Nat):Lib.decDigits n=digs 10 n:=by
 induction n using Nat.strongRecOn with
 |_ n ih=>
  rw[Lib.decDigits]
  by_cases h:n<10
  ·rw[dif_pos h,digs_lt h];simp[hx,h]
  ·rw[dif_neg h,digs_ge (by omega) (by omega),ih _ (by omega)]
   have:n%10<10:=Nat.mod_lt _ (by omega)
   simp[hx,this]
theorem digs_len {b:Nat} (hb:2≤b):∀(k n:Nat),n<b^(k+1)→(digs b n).length≤k+1
 |0,n,h=>by rw[digs_lt (by simpa using h)];simp
 |k+1,n,h=>by
  by_cases h1:n<b
  ·rw[digs_lt h1];simp
  ·rw[digs_ge (by omega) hb,List.length_append]
   have:=digs_len hb k (n/b) (by rw[Nat.div_lt_iff_lt_mul (by omega)];rw[Nat.pow_succ]at h;exact h)
   simp;omega
theorem mU32 (n:Int):IntKind.u32.wrap n=n%4294967296:=by simp[IntKind.wrap,IntKind.bits,IntKind.signed]
theorem mU64 (n:Int):IntKind.u64.wrap n=n%18446744073709551616:=by simp[IntKind.wrap,IntKind.bits,IntKind.signed]
theorem w64 (n:Nat) (h:n<18446744073709551616):qwrap .u64 (n:Int)=n:=by
 rw[qwrap_eq,mU64];omega
theorem shr4 (n:Nat):qbin .shr .u64 (n:Int) 4=((n/16:Nat):Int):=by
 rw[qbin_eq];simp only[rbin,IntKind.bits]
 show Int.fdiv (n:Int) 16=_
 rw[Int.fdiv_eq_ediv_of_nonneg _ (by omega)];omega
theorem and15 (n:Nat):qbin .and .u64 (n:Int) 15=((n%16:Nat):Int):=by
 rw[qbin_eq];simp only[rbin,IntKind.bits]
 have h:(BitVec.ofInt 64 (n:Int) &&& BitVec.ofInt 64 15).toNat=n%16:=by
  rw[BitVec.toNat_and,BitVec.toNat_ofInt,BitVec.toNat_ofInt]
  have e1:((n:Int)%((2^64:Nat):Int)).toNat=n%2^64:=by omega
  have e2:((15:Int)%((2^64:Nat):Int)).toNat=2^4-1:=by decide
  rw[e1,e2,Nat.and_two_pow_sub_one_eq_mod]
  omega
 show IntKind.u64.wrap ((BitVec.ofInt 64 (n:Int) &&& BitVec.ofInt 64 15).toNat:Int)=_
 rw[h,mU64];omega
theorem geN (n k:Nat):qcmp .geq (n:Int) (k:Int)=decide (k≤n):=by rw[qcmp_geq];exact decide_eq_decide.2 (by omega)
theorem leN (n k:Nat):qcmp .leq (n:Int) (k:Int)=decide (n≤k):=by rw[qcmp_leq];exact decide_eq_decide.2 (by omega)
def d36:ByteArray:=ByteArray.mk #[48,49,50,51,52,53,54,55,56,57,97,98,99,100,101,102,103,104,105,106,107,108,109,110,111,112,113,114,115,116,117,118,119,120,121,122]
theorem d36_def:ByteArray.mk #[48,49,50,51,52,53,54,55,56,57,97,98,99,100,101,102,103,104,105,106,107,108,109,110,111,112,113,114,115,116,117,118,119,120,121,122]=d36:=rfl
theorem idx36_fin:∀k:Fin 16,(d36.data.toList.getD k.val 0)=hx k.val:=by decide +kernel
theorem idx36 (k:Nat) (h:k<16):qidxS d36 (k:Int)=((hx k).toNat:Int):=by
 rw[qidxS_eq];simp only[ridxS,ByteArray.toList_eq,Int.toNat_natCast];rw[idx36_fin ⟨k,h⟩]
theorem inb36 (k:Nat) (h:k<16):qinbS d36 (k:Int)=true:=by
 have hs:d36.size=36:=rfl
 rw[qinbS_eq];simp only[rinbS,hs,Bool.and_eq_true,decide_eq_true_eq];omega
def d16:ByteArray:=ByteArray.mk #[48,49,50,51,52,53,54,55,56,57,97,98,99,100,101,102]
theorem push_list (l:List D):∀(r:ByteArray),(l.foldl (fun r x=>r.push (UInt8.ofNat x.toInt.toNat)) r).data.toList=r.data.toList++l.map fun x=>UInt8.ofNat x.toInt.toNat:=by
 induction l with
 |nil=>intro r;simp
 |cons x l ih=>intro r;rw[List.foldl_cons,ih];simp[ByteArray.push]
theorem textL (l:List D):qtext (.list l)=bs (l.map fun x=>UInt8.ofNat x.toInt.toNat):=by
 rw[qtext_eq]
 apply ByteArray.ext
 rw[← Array.toList_inj]
 unfold D.text
 rw[push_list]
 rfl
theorem of8 (c:UInt8):UInt8.ofNat (Int.toNat (D.toInt (.int (c.toNat:Int))))=c:=by simp[D.toInt]
theorem spec25 (n:Nat) (h:n<4294967296):q19 [.int n]=some [.str (bs (48::120::digs 16 n))]:=by
 rw[q19_eq,F19_eq]
 have m16:∀k:Nat,k%16<16:=fun k=>Nat.mod_lt _ (by omega)
 have i15:∀k:Nat,qinbS d36 ((k%16:Nat):Int)=true:=fun k=>inb36 _ (m16 k)
 have x15:∀k:Nat,qidxS d36 ((k%16:Nat):Int)=((hx (k%16)).toNat:Int):=fun k=>idx36 _ (m16 k)
 have b0:ByteArray.mk #[48,120]=bs [48,120]:=rfl
 have g16:∀k:Nat,qcmp .geq (k:Int) 16=decide (16≤k):=fun k=>geN k 16
 simp only[d36_def,w64 n (by omega),shr4,and15,g16,i15,x15,cond_true,b0,textL,List.map_cons,List.map_nil,of8]
 by_cases h0:16≤n
 ·simp only[h0,decide_true,cond_true]
  by_cases h1:16≤(n/16)
  ·simp only[h1,decide_true,cond_true]
   by_cases h2:16≤((n/16)/16)
   ·simp only[h2,decide_true,cond_true]
    by_cases h3:16≤(((n/16)/16)/16)
    ·simp only[h3,decide_true,cond_true]
     by_cases h4:16≤((((n/16)/16)/16)/16)
     ·simp only[h4,decide_true,cond_true]
      by_cases h5:16≤(((((n/16)/16)/16)/16)/16)
      ·simp only[h5,decide_true,cond_true]
       by_cases h6:16≤((((((n/16)/16)/16)/16)/16)/16)
       ·simp only[h6,decide_true,cond_true]
        by_cases h7:16≤(((((((n/16)/16)/16)/16)/16)/16)/16)
        ·simp only[h7,decide_true,cond_true]
         exfalso;omega
        ·simp only[h7,decide_false,cond_false,inb36 _ (Nat.lt_of_not_le h7),idx36 _ (Nat.lt_of_not_le h7),of8,cond_true]
         rw[catOkB (by simp),catB,digs_ge h0 (by omega),digs_ge h1 (by omega),digs_ge h2 (by omega),digs_ge h3 (by omega),digs_ge h4 (by omega),digs_ge h5 (by omega),digs_ge h6 (by omega),digs_lt (Nat.lt_of_not_le h7)]
         rfl
       ·simp only[h6,decide_false,cond_false,inb36 _ (Nat.lt_of_not_le h6),idx36 _ (Nat.lt_of_not_le h6),of8,cond_true]
        rw[catOkB (by simp),catB,digs_ge h0 (by omega),digs_ge h1 (by omega),digs_ge h2 (by omega),digs_ge h3 (by omega),digs_ge h4 (by omega),digs_ge h5 (by omega),digs_lt (Nat.lt_of_not_le h6)]
        rfl
      ·simp only[h5,decide_false,cond_false,inb36 _ (Nat.lt_of_not_le h5),idx36 _ (Nat.lt_of_not_le h5),of8,cond_true]
       rw[catOkB (by simp),catB,digs_ge h0 (by omega),digs_ge h1 (by omega),digs_ge h2 (by omega),digs_ge h3 (by omega),digs_ge h4 (by omega),digs_lt (Nat.lt_of_not_le h5)]
       rfl
     ·simp only[h4,decide_false,cond_false,inb36 _ (Nat.lt_of_not_le h4),idx36 _ (Nat.lt_of_not_le h4),of8,cond_true]
      rw[catOkB (by simp),catB,digs_ge h0 (by omega),digs_ge h1 (by omega),digs_ge h2 (by omega),digs_ge h3 (by omega),digs_lt (Nat.lt_of_not_le h4)]
      rfl
    ·simp only[h3,decide_false,cond_false,inb36 _ (Nat.lt_of_not_le h3),idx36 _ (Nat.lt_of_not_le h3),of8,cond_true]
     rw[catOkB (by simp),catB,digs_ge h0 (by omega),digs_ge h1 (by omega),digs_ge h2 (by omega),digs_lt (Nat.lt_of_not_le h3)]
     rfl
   ·simp only[h2,decide_false,cond_false,inb36 _ (Nat.lt_of_not_le h2),idx36 _ (Nat.lt_of_not_le h2),of8,cond_true]
    rw[catOkB (by simp),catB,digs_ge h0 (by omega),digs_ge h1 (by omega),digs_lt (Nat.lt_of_not_le h2)]
    rfl
  ·simp only[h1,decide_false,cond_false,inb36 _ (Nat.lt_of_not_le h1),idx36 _ (Nat.lt_of_not_le h1),of8,cond_true]
   rw[catOkB (by simp),catB,digs_ge h0 (by omega),digs_lt (Nat.lt_of_not_le h1)]
   rfl
 ·simp only[h0,decide_false,cond_false,inb36 _ (Nat.lt_of_not_le h0),idx36 _ (Nat.lt_of_not_le h0),of8,cond_true]
  rw[catOkB (by simp),catB,digs_lt (Nat.lt_of_not_le h0)]
  rfl
noncomputable def nxt (st:List D→Option (Sum (List D) (List D))) (x:Option (Sum (List D) (List D))):Option (List D):=match x with|none=>none|some (.inl s')=>loW st s'|some (.inr d)=>some d
theorem nxt_l (st:List D→Option (Sum (List D) (List D))) (s:List D):nxt st (some (.inl s))=loW st s:=rfl
theorem nxt_r (st:List D→Option (Sum (List D) (List D))) (s:List D):nxt st (some (.inr s))=some s:=rfl
theorem nxtW (st:List D→Option (Sum (List D) (List D))) (s:List D):loW st s=nxt st (st s):=by
 rw[loW_eq];unfold nxt
 cases st s with
 |none=>rfl
 |some x=>cases x<;>rfl
end Go.Proofs.YtobhhfbdelnhfaaDoor
namespace Go.Proofs.YtobhhfbdelnhfaaDoor
set_option linter.unusedSimpArgs false
set_option linter.unusedVariables false
open Go Go.AM
theorem mkB (l:List UInt8):ByteArray.mk l.toArray=bs l:=rfl
def nameL (l:List (List UInt8)):D:= .list (l.map fun x=> .str (bs x))
theorem nameL_get {l:List (List UInt8)} {k:Nat} (h:k<l.length):qget (nameL l) (k:Int) = .str (bs (l.getD k [])):=by
 rw[qget_n];simp[nameL,D.toList,List.getD,h]
theorem nameL_inb {l:List (List UInt8)} {k:Nat} (h:k<l.length):qinb (nameL l) (k:Int)=true:=by
 rw[qinb_c];simp[nameL,D.toList];omega
def ccL:List (List UInt8):=[[97,108],[101,113],[110,101],[108,116],[103,101],[108,101],[103,116],[98],[97,101],[98,101],[97],[110,101,103],[112,111,115],[111,118],[110,111]]
def opL:List (List UInt8):=[[109,111,118],[97,100,100],[115,117,98],[97,110,100],[111,114],[120,111,114],[109,117,108],[115,104,108],[115,104,114],[115,97,114],[99,109,112]]
def plL:List (List UInt8):=[[110,111,112],[104,97,108,116],[114,101,116],[112,117,115,104,32],[112,111,112,32]]
def ccT (k:Nat):List UInt8:=ccL.getD k []
def opT (k:Nat):List UInt8:=opL.getD k []
theorem short_of {l:List (List UInt8)} (h:l.all (fun x=>decide (x.length≤5))=true) (k:Nat):(l.getD k []).length≤5:=by
 rw[List.getD]
 cases hk:l[k]? with
 |none=>simp
 |some x=>
  have:=List.all_eq_true.1 h x (List.mem_of_getElem? hk)
  simpa using this
theorem ccT_len (k:Nat):(ccT k).length≤5:=short_of (by decide +kernel) k
theorem opT_len (k:Nat):(opT k).length≤5:=short_of (by decide +kernel) k
theorem spec26 {k:Nat} (h:k<15):q20 [.int k]=some [.str (bs (ccT k))]:=by
 rw[q20_eq]
 have e:F20 [.int (k:Int)]=(bif qcmp .leq 0 (k:Int)then(bif qcmp .lss (k:Int) 15 then(bif qinb (nameL ccL) (k:Int)then some [.str (qstr (qget (nameL ccL) (k:Int)))]else none)else none)else none):=F20_eq (k:Int)
 rw[e,nameL_inb (l:=ccL) h,nameL_get (l:=ccL) h,qcmp_leq,qcmp_lss,decide_eq_true (show(0:Int)≤(k:Int)by omega),decide_eq_true (show(k:Int)<15 by omega),qstr_s]
 rfl
theorem sub5 {o:Int} (h:5≤o∧o≤15):qbin .sub .i64 o 5=(((o-5).toNat:Nat):Int):=by
 rw[qbin_eq];simp only[rbin];rw[wrap64' (by omega) (by omega)];omega
theorem spec56 {o:Int} (h:5≤o∧o≤15):q34 [.int o]=some [.str (bs (opT (o-5).toNat))]:=by
 rw[q34_eq]
 have hk:(o-5).toNat<opL.length:=by show _<11;omega
 have e:F34 [.int o]=(bif qcmp .leq 0 (qbin .sub .i64 o 5)then(bif qcmp .lss (qbin .sub .i64 o 5) 11 then(bif qinb (nameL opL) (qbin .sub .i64 o 5)then some [.str (qstr (qget (nameL opL) (qbin .sub .i64 o 5)))]else none)else none)else none):=F34_eq o
 rw[e,sub5 h,nameL_inb hk,nameL_get hk,qcmp_leq,qcmp_lss,decide_eq_true (show(0:Int)≤((o-5).toNat:Int)by omega),decide_eq_true (show((o-5).toNat:Int)<11 by omega),qstr_s]
 rfl
theorem mI32 (n:Int):IntKind.i32.wrap n=if n%4294967296<2147483648 then n%4294967296 else n%4294967296-4294967296:=by
 simp[IntKind.wrap,IntKind.bits,IntKind.signed]
 by_cases h:n%4294967296<2147483648
 ·rw[if_pos h,if_neg (by omega)]
 ·rw[if_neg h,if_pos (by omega)]
theorem mI8 (n:Int):IntKind.i8.wrap n=if n%256<128 then n%256 else n%256-256:=by
 simp[IntKind.wrap,IntKind.bits,IntKind.signed]
 by_cases h:n%256<128
 ·rw[if_pos h,if_neg (by omega)]
 ·rw[if_neg h,if_pos (by omega)]
theorem itoaN (n:Nat):qitoa (n:Int)=bs (digs 10 n):=by
 simp only[qitoa,veil_eq,Lib.itoa]
 rw[if_neg (by omega),Int.toNat_natCast,dec_digs];rfl
theorem itoaM (n:Nat) (h:0<n):qitoa (-(n:Int))=bs (45::digs 10 n):=by
 simp only[qitoa,veil_eq,Lib.itoa]
 rw[if_pos (by omega),Int.natAbs_neg,Int.natAbs_natCast,dec_digs];rfl
def rg (k:Int):UInt8:=hx k.toNat
theorem bnd (n:Nat) (h:n≤4294967296):qcmp .leq (-9223372036854775808) (n:Int)=true∧qcmp .leq (n:Int) 9223372036854775807=true:=by
 rw[qcmp_leq,qcmp_leq];exact⟨decide_eq_true (by omega),decide_eq_true (by omega)⟩
theorem spec21 {k:Int} (h:0≤k∧k<8):q15 [.int k]=some [.str (bs [114,rg k])]:=by
 obtain⟨n,rfl⟩:=Int.eq_ofNat_of_zero_le h.1
 obtain⟨b1,b2⟩:=bnd n (by omega)
 rw[q15_eq,F15_eq,b1,b2,itoaN,digs_lt (by omega)]
 simp(disch:=(simp only[List.length_append,List.length_cons,List.length_nil];omega)) only[qsome_s,qnth_s,List.getD_cons_zero,qstr_s,qbool_b,cond_true,cond_false,mkB,catOkB,catB]
 rfl
def near (n:Nat):Prop:=n≤127∨4294967168≤n
instance (n:Nat):Decidable (near n):=by unfold near;infer_instance
def signT (n:Nat):List UInt8:=if 4294967168≤n then 45::digs 10 (4294967296-n)else digs 10 n
theorem dlen (n:Nat) (h:n<4294967296):(digs 10 n).length≤10:=digs_len (by omega) 9 n (by omega)
theorem hlen (n:Nat) (h:n<4294967296):(digs 16 n).length≤8:=digs_len (by omega) 7 n (by omega)
theorem signT_len (n:Nat) (h:n<4294967296):(signT n).length≤11:=by
 unfold signT
 split
 ·have:=dlen (4294967296-n) (by omega);simp;omega
 ·have:=dlen n h;omega
theorem i32w (n:Nat) (h:near n) (h2:n<4294967296):qwrap .i64 (qwrap .i32 (n:Int))=if 4294967168≤n then -((4294967296-n:Nat):Int)else(n:Int):=by
 rw[qwrap_eq]
 unfold near at h
 have e:IntKind.i32.wrap (n:Int)=if 4294967168≤n then -((4294967296-n:Nat):Int)else(n:Int):=by
  rw[mI32]
  split<;>split<;>omega
 rw[e]
 split
 ·exact wrap64' (by omega) (by omega)
 ·exact wrap64' (by omega) (by omega)
theorem spec53 (n:Nat) (h:near n) (h2:n<4294967296):q31 [.int n]=some [.str (bs (signT n))]:=by
 rw[q31_eq,F31_eq,i32w n h h2,qcmp_leq,qcmp_leq]
 by_cases hn:4294967168≤n
 ·rw[if_pos hn,decide_eq_true (by omega),decide_eq_true (by omega),itoaM _ (by omega)]
  simp only[cond_true,signT,if_pos hn]
 ·rw[if_neg hn,decide_eq_true (by omega),decide_eq_true (by omega),itoaN]
  simp only[cond_true,signT,if_neg hn]
def placeT (c:UInt8) (n:Nat):List UInt8:=[91,114,c]++((if n=0 then[]else if n≤127 then 43::digs 10 n else 45::digs 10 (4294967296-n)) ++ [93])
theorem placeT_len (c:UInt8) (n:Nat) (h:n<4294967296):(placeT c n).length≤20:=by
 unfold placeT
 have h1:=dlen n h
 split
 ·simp
 ·split
  ·simp;omega
  ·have h2:=dlen (4294967296-n) (by omega);simp;omega
theorem spec23 {d:D} {n:Nat} (hb:0≤qint (qfld d 7)∧qint (qfld d 7)<8) (hn:qint (qfld d 1)=n) (h:near n) (h2:n<4294967296):q17 [d]=some [.str (bs (placeT (rg (qint (qfld d 7))) n))]:=by
 rw[q17_eq,F17_eq,spec21 hb,hn,spec53 n h h2]
 have hl:=signT_len n h2
 have e0:qcmp .eql (n:Int) 0=decide (n=0):=by rw[qcmp_eql];exact decide_eq_decide.2 (by omega)
 have e1:qcmp .eql (qbin .shr .u32 (n:Int) 31) 0=decide (n≤127):=by
  rw[qcmp_eql]
  refine decide_eq_decide.2 ?_
  rw[qbin_eq];simp only[rbin,IntKind.bits]
  show Int.fdiv (n:Int) 2147483648=0↔_
  rw[Int.fdiv_eq_ediv_of_nonneg _ (by omega)]
  unfold near at h
  omega
 rw[e0,e1]
 by_cases z:n=0
 ·rw[decide_eq_true z]
  simp(disch:=(simp only[List.length_append,List.length_cons,List.length_nil];omega)) only[qsome_s,qnth_s,List.getD_cons_zero,qstr_s,qbool_b,cond_true,cond_false,mkB,catOkB,catB]
  simp only[placeT,if_pos z];rfl
 ·rw[decide_eq_false z]
  by_cases p:n≤127
  ·rw[decide_eq_true p]
   simp(disch:=(simp only[List.length_append,List.length_cons,List.length_nil];omega)) only[qsome_s,qnth_s,List.getD_cons_zero,qstr_s,qbool_b,cond_true,cond_false,mkB,catOkB,catB]
   simp only[placeT,if_neg z,if_pos p,signT,if_neg (show¬4294967168≤n by omega),List.append_assoc,List.cons_append,List.nil_append]
  ·have q:4294967168≤n:=by unfold near at h;omega
   rw[decide_eq_false p]
   simp(disch:=(simp only[List.length_append,List.length_cons,List.length_nil];omega)) only[qsome_s,qnth_s,List.getD_cons_zero,qstr_s,qbool_b,cond_true,cond_false,mkB,catOkB,catB]
   simp only[placeT,if_neg z,if_neg p,signT,if_pos q,List.append_assoc,List.cons_append,List.nil_append]
theorem nearW (n:Nat) (h2:n<4294967296):qcmp .eql (qwrap .u32 (qwrap .i8 (n:Int))) (n:Int)=decide (near n):=by
 rw[qcmp_eql,qwrap_eq,mU32]
 refine decide_eq_decide.2 ?_
 unfold near
 rw[mI8]
 split<;>omega
def arT (f:Int) (ra rb:UInt8) (n:Nat):List UInt8:=
 if f=0 then[32,114,ra,44,32,114,rb]else if f=1 then[32,114,ra,44,32]++signT n
 else if near n then[46,119,32,114,ra,44,32]++signT n else[32,114,ra,44,32,48,120]++digs 16 n
theorem spec27 {d:D} {n:Nat} (ho:5≤qint (qfld d 2)∧qint (qfld d 2)≤15) (ha:0≤qint (qfld d 6)∧qint (qfld d 6)<8) (hb:0≤qint (qfld d 7)∧qint (qfld d 7)<8) (hn:qint (qfld d 1)=n) (h:qint (qfld d 3)=1→near n) (h2:n<4294967296):
 q21 [d]=some [.str (bs (opT (qint (qfld d 2)-5).toNat++arT (qint (qfld d 3)) (rg (qint (qfld d 6))) (rg (qint (qfld d 7))) n))]:=by
 rw[q21_eq,F21_eq,spec56 ho,spec21 ha,spec21 hb,hn,spec25 n h2,nearW n h2,qcmp_eql,qcmp_eql]
 have ol:=opT_len (qint (qfld d 2)-5).toNat
 have sl:=signT_len n h2
 have gl:=hlen n h2
 by_cases f0:qint (qfld d 3)=0
 ·rw[decide_eq_true f0]
  simp(disch:=(simp only[List.length_append,List.length_cons,List.length_nil];omega)) only[qsome_s,qnth_s,List.getD_cons_zero,qstr_s,qbool_b,cond_true,cond_false,mkB,catOkB,catB]
  simp only[arT,if_pos f0,List.append_assoc,List.cons_append,List.nil_append]
 ·rw[decide_eq_false f0]
  by_cases f1:qint (qfld d 3)=1
  ·rw[decide_eq_true f1,spec53 n (h f1) h2]
   simp(disch:=(simp only[List.length_append,List.length_cons,List.length_nil];omega)) only[qsome_s,qnth_s,List.getD_cons_zero,qstr_s,qbool_b,cond_true,cond_false,mkB,catOkB,catB]
   simp only[arT,if_neg f0,if_pos f1,List.append_assoc,List.cons_append,List.nil_append]
  ·rw[decide_eq_false f1]
   by_cases g:near n
   ·rw[decide_eq_true g,spec53 n g h2]
    simp(disch:=(simp only[List.length_append,List.length_cons,List.length_nil];omega)) only[qsome_s,qnth_s,List.getD_cons_zero,qstr_s,qbool_b,cond_true,cond_false,mkB,catOkB,catB]
    simp only[arT,if_neg f0,if_neg f1,if_pos g,List.append_assoc,List.cons_append,List.nil_append]
   ·rw[decide_eq_false g]
    simp(disch:=(simp only[List.length_append,List.length_cons,List.length_nil];omega)) only[qsome_s,qnth_s,List.getD_cons_zero,qstr_s,qbool_b,cond_true,cond_false,mkB,catOkB,catB]
    simp only[arT,if_neg f0,if_neg f1,if_neg g,List.append_assoc,List.cons_append,List.nil_append]
def jmT (cc f:Int) (n j:Nat):List UInt8:=(if cc=0 then[106,109,112]else 106::ccT cc.toNat)++((if f=2∧near j then[46,119]else[])++([32,48,120]++digs 16 n))
theorem spec24 {d:D} {n j:Nat} (hc:0≤qint (qfld d 5)∧qint (qfld d 5)≤14) (hn:qint (qfld d 1)=n) (h2:n<4294967296) (hj:short d=j) (hj2:j<4294967296):q18 [d]=some [.str (bs (jmT (qint (qfld d 5)) (qint (qfld d 3)) n j))]:=by
 obtain⟨k,hk⟩:=Int.eq_ofNat_of_zero_le hc.1
 have hj':qbin .sub .u32 (qbin .sub .u32 (qint (qfld d 1)) (qint (qfld d 0))) 2=(j:Int):=hj
 rw[q18_eq,F18_eq,hj',nearW j hj2,hn,spec25 n h2,hk,spec26 (by omega),qcmp_neq,qcmp_eql]
 have cl:=ccT_len k
 have gl:=hlen n h2
 by_cases c0:(k:Int)=0<;>by_cases f2:qint (qfld d 3)=2<;>by_cases g:near j
 all_goals
  simp only[c0,f2,g,decide_true,decide_false,Bool.not_true,Bool.not_false,qiteB_eq,qiteS_eq,show qand=fun a b=>a&&b from veil_eq _,Bool.true_and,Bool.and_true,jmT,and_true,and_false,true_and,false_and,if_true,if_false,Int.toNat_natCast]
  simp(disch:=(simp only[List.length_append,List.length_cons,List.length_nil];omega)) only[qsome_s,qnth_s,List.getD_cons_zero,qstr_s,qbool_b,cond_true,cond_false,mkB,catOkB,catB]
  first|rfl|simp only[Bool.and_self,cond_true,List.append_assoc,List.cons_append,List.nil_append]
end Go.Proofs.YtobhhfbdelnhfaaDoor
namespace Go.Proofs.YtobhhfbdelnhfaaDoor
set_option linter.unusedSimpArgs false
set_option linter.unusedVariables false
open Go Go.AM
noncomputable def PT (d:D) (n j:Nat):List UInt8:=
 if qint (qfld d 2)=0 then[110,111,112]else if qint (qfld d 2)=1 then[104,97,108,116]else if qint (qfld d 2)=2 then[114,101,116]
 else if qint (qfld d 2)=3 then[112,117,115,104,32,114] ++ [rg (qint (qfld d 6))]else if qint (qfld d 2)=4 then[112,111,112,32,114] ++ [rg (qint (qfld d 6))]
 else if qint (qfld d 2)≤15 then opT (qint (qfld d 2)-5).toNat++arT (qint (qfld d 3)) (rg (qint (qfld d 6))) (rg (qint (qfld d 7))) n
 else if qint (qfld d 2)=16 then[108,111,97,100]++(digs 10 (qint (qfld d 4)).toNat++([32,114,rg (qint (qfld d 6)),44,32]++placeT (rg (qint (qfld d 7))) n))
 else if qint (qfld d 2)=17 then[108,111,97,100]++(digs 10 (qint (qfld d 4)).toNat++([115,32,114,rg (qint (qfld d 6)),44,32]++placeT (rg (qint (qfld d 7))) n))
 else if qint (qfld d 2)=18 then[115,116,111,114,101]++(digs 10 (qint (qfld d 4)).toNat++(32::(placeT (rg (qint (qfld d 7))) n ++ [44,32,114,rg (qint (qfld d 6))])))
 else if qint (qfld d 2)=19 then[108,101,97,32,114]++([rg (qint (qfld d 6)),44,32]++placeT (rg (qint (qfld d 7))) n)
 else if qint (qfld d 2)=20 then jmT (qint (qfld d 5)) (qint (qfld d 3)) n j
 else if qint (qfld d 2)=21 then[106,117,109,112,114,32,114] ++ [rg (qint (qfld d 6))]
 else if qint (qfld d 2)=24 then[99,97,108,108,114,32,114] ++ [rg (qint (qfld d 6))]
 else if qint (qfld d 2)=22 then[106,117,109,112,116,32,114]++([rg (qint (qfld d 6)),44,32,48,120]++digs 16 n)
 else if qint (qfld d 2)=23 then[99,97,108,108,32,48,120]++digs 16 n
 else if qint (qfld d 2)=25 then[115,101,116]++(ccT (qint (qfld d 5)).toNat ++ [32,114,rg (qint (qfld d 6))])
 else if qint (qfld d 2)=26 then[105,110,32,114] ++ [rg (qint (qfld d 6))]
 else[111,117,116,32,114] ++ [rg (qint (qfld d 6))]
theorem pl_def:D.list [(D.str (ByteArray.mk #[110,111,112])),(D.str (ByteArray.mk #[104,97,108,116])),(D.str (ByteArray.mk #[114,101,116])),(D.str (ByteArray.mk #[112,117,115,104,32])),(D.str (ByteArray.mk #[112,111,112,32]))]=nameL plL:=rfl
theorem pl0:qget (nameL plL) 0 = .str (bs [110,111,112])∧qinb (nameL plL) 0=true:=⟨nameL_get (l:=plL) (k:=0) (by decide),nameL_inb (l:=plL) (k:=0) (by decide)⟩
theorem pl1:qget (nameL plL) 1 = .str (bs [104,97,108,116])∧qinb (nameL plL) 1=true:=⟨nameL_get (l:=plL) (k:=1) (by decide),nameL_inb (l:=plL) (k:=1) (by decide)⟩
theorem pl2:qget (nameL plL) 2 = .str (bs [114,101,116])∧qinb (nameL plL) 2=true:=⟨nameL_get (l:=plL) (k:=2) (by decide),nameL_inb (l:=plL) (k:=2) (by decide)⟩
theorem pl3:qget (nameL plL) 3 = .str (bs [112,117,115,104,32])∧qinb (nameL plL) 3=true:=⟨nameL_get (l:=plL) (k:=3) (by decide),nameL_inb (l:=plL) (k:=3) (by decide)⟩
theorem pl4:qget (nameL plL) 4 = .str (bs [112,111,112,32])∧qinb (nameL plL) 4=true:=⟨nameL_get (l:=plL) (k:=4) (by decide),nameL_inb (l:=plL) (k:=4) (by decide)⟩
theorem print_spec {d:D} {n j:Nat} (hv:vld d=true) (hn:qint (qfld d 1)=n) (h2:n<4294967296) (hj:short d=j) (hj2:j<4294967296):
 q6 [d]=some [.str (bs (PT d n j))]:=by
 obtain⟨s,hs,hA,hB,hI,hF,hW,hC,hA0,hB0,hN,hJ⟩:=vld_iff.1 hv
 rw[hn]at hI hN
 have hl:=hlen n h2
 have hpl:=placeT_len (rg (qint (qfld d 7))) n h2
 have ho28:0≤qint (qfld d 2)∧qint (qfld d 2)≤27:=by
  apply Classical.byContradiction
  intro hx
  unfold shp at hs
  rw[if_neg (by omega),if_neg (by omega),if_neg (by omega),if_neg (by omega),if_neg (by omega),if_neg (by omega),if_neg (by omega),if_neg (by omega),if_neg (by omega),if_neg (by omega),if_neg (by omega)]at hs
  cases hs
 rw[q6_eq,F6_eq,(valid_spec d).1,hv]
 by_cases h5:5≤qint (qfld d 2)∧qint (qfld d 2)≤15
 ·have hnear:qint (qfld d 3)=1→near n:=by
   intro f1
   have h4:s=4:=by
    unfold shp at hs
    rw[if_neg (by omega),if_neg (by omega),if_pos h5,if_neg (by omega),if_pos f1]at hs
    cases hs;rfl
   have:=hN (.inl h4)
   unfold near;omega
  have e27:=spec27 h5 hA hB hn hnear h2
  have nk:∀k:Int,k<5∨15<k→decide (qint (qfld d 2)=k)=false:=fun k hk=>decide_eq_false (by omega)
  have PTe:PT d n j=opT (qint (qfld d 2)-5).toNat++arT (qint (qfld d 3)) (rg (qint (qfld d 6))) (rg (qint (qfld d 7))) n:=by
   unfold PT
   rw[if_neg (by omega),if_neg (by omega),if_neg (by omega),if_neg (by omega),if_neg (by omega),if_pos h5.2]
  rw[e27,PTe]
  simp only[qcmp_eql,qcmp_geq,qcmp_leq,qiteB_c,qnot_c,qsome_s,qnth_s,List.getD_cons_zero,qbool_b,qstr_s,Bool.not_true,cond_true,cond_false,nk 0 (by omega),nk 1 (by omega),nk 2 (by omega),nk 3 (by omega),nk 4 (by omega),nk 16 (by omega),nk 17 (by omega),nk 18 (by omega),nk 19 (by omega),nk 20 (by omega),nk 21 (by omega),nk 22 (by omega),nk 23 (by omega),nk 24 (by omega),nk 25 (by omega),nk 26 (by omega),nk 27 (by omega),decide_eq_true h5.1,decide_eq_true h5.2]
  try trivial
 ·have hoc:qint (qfld d 2)=0∨qint (qfld d 2)=1∨qint (qfld d 2)=2∨qint (qfld d 2)=3∨qint (qfld d 2)=4∨qint (qfld d 2)=16∨qint (qfld d 2)=17∨qint (qfld d 2)=18∨qint (qfld d 2)=19∨qint (qfld d 2)=20∨qint (qfld d 2)=21∨qint (qfld d 2)=22∨qint (qfld d 2)=23∨qint (qfld d 2)=24∨qint (qfld d 2)=25∨qint (qfld d 2)=26∨qint (qfld d 2)=27:=by omega
  rcases hoc with ho|ho|ho|ho|ho|ho|ho|ho|ho|ho|ho|ho|ho|ho|ho|ho|ho
  ·have PTe:PT d n j = [110,111,112]:=by
    unfold PT
    simp only[ho,Int.reduceEq,Int.reduceLE,if_true,if_false]
   rw[PTe,pl_def]
   simp only[ho,qcmp_eql,qcmp_neq,qcmp_leq,qcmp_lss,qcmp_geq,qiteB_c,qnot_c,qsome_s,qnth_s,List.getD_cons_zero,qbool_b,Int.reduceEq,Int.reduceLE,Int.reduceLT,decide_true,decide_false,Bool.not_true,Bool.not_false,cond_true,cond_false]
   simp(disch:=(simp only[List.length_append,List.length_cons,List.length_nil];omega)) only[qsome_s,qnth_s,List.getD_cons_zero,qstr_s,qbool_b,cond_true,cond_false,mkB,catOkB,catB,pl0.1,pl0.2]
   first|done|rfl|simp only[List.append_assoc,List.cons_append,List.nil_append,and_self]
  ·have PTe:PT d n j = [104,97,108,116]:=by
    unfold PT
    simp only[ho,Int.reduceEq,Int.reduceLE,if_true,if_false]
   rw[PTe,pl_def]
   simp only[ho,qcmp_eql,qcmp_neq,qcmp_leq,qcmp_lss,qcmp_geq,qiteB_c,qnot_c,qsome_s,qnth_s,List.getD_cons_zero,qbool_b,Int.reduceEq,Int.reduceLE,Int.reduceLT,decide_true,decide_false,Bool.not_true,Bool.not_false,cond_true,cond_false]
   simp(disch:=(simp only[List.length_append,List.length_cons,List.length_nil];omega)) only[qsome_s,qnth_s,List.getD_cons_zero,qstr_s,qbool_b,cond_true,cond_false,mkB,catOkB,catB,pl1.1,pl1.2]
   first|done|rfl|simp only[List.append_assoc,List.cons_append,List.nil_append,and_self]
  ·have PTe:PT d n j = [114,101,116]:=by
    unfold PT
    simp only[ho,Int.reduceEq,Int.reduceLE,if_true,if_false]
   rw[PTe,pl_def]
   simp only[ho,qcmp_eql,qcmp_neq,qcmp_leq,qcmp_lss,qcmp_geq,qiteB_c,qnot_c,qsome_s,qnth_s,List.getD_cons_zero,qbool_b,Int.reduceEq,Int.reduceLE,Int.reduceLT,decide_true,decide_false,Bool.not_true,Bool.not_false,cond_true,cond_false]
   simp(disch:=(simp only[List.length_append,List.length_cons,List.length_nil];omega)) only[qsome_s,qnth_s,List.getD_cons_zero,qstr_s,qbool_b,cond_true,cond_false,mkB,catOkB,catB,pl2.1,pl2.2]
   first|done|rfl|simp only[List.append_assoc,List.cons_append,List.nil_append,and_self]
  ·have PTe:PT d n j = [112,117,115,104,32,114] ++ [rg (qint (qfld d 6))]:=by
    unfold PT
    simp only[ho,Int.reduceEq,Int.reduceLE,if_true,if_false]
   rw[PTe,pl_def]
   simp only[ho,qcmp_eql,qcmp_neq,qcmp_leq,qcmp_lss,qcmp_geq,qiteB_c,qnot_c,qsome_s,qnth_s,List.getD_cons_zero,qbool_b,Int.reduceEq,Int.reduceLE,Int.reduceLT,decide_true,decide_false,Bool.not_true,Bool.not_false,cond_true,cond_false]
   rw[spec21 hA]
   simp(disch:=(simp only[List.length_append,List.length_cons,List.length_nil];omega)) only[qsome_s,qnth_s,List.getD_cons_zero,qstr_s,qbool_b,cond_true,cond_false,mkB,catOkB,catB,pl3.1,pl3.2]
   first|done|rfl|simp only[List.append_assoc,List.cons_append,List.nil_append,and_self]
  ·have PTe:PT d n j = [112,111,112,32,114] ++ [rg (qint (qfld d 6))]:=by
    unfold PT
    simp only[ho,Int.reduceEq,Int.reduceLE,if_true,if_false]
   rw[PTe,pl_def]
   simp only[ho,qcmp_eql,qcmp_neq,qcmp_leq,qcmp_lss,qcmp_geq,qiteB_c,qnot_c,qsome_s,qnth_s,List.getD_cons_zero,qbool_b,Int.reduceEq,Int.reduceLE,Int.reduceLT,decide_true,decide_false,Bool.not_true,Bool.not_false,cond_true,cond_false]
   rw[spec21 hA]
   simp(disch:=(simp only[List.length_append,List.length_cons,List.length_nil];omega)) only[qsome_s,qnth_s,List.getD_cons_zero,qstr_s,qbool_b,cond_true,cond_false,mkB,catOkB,catB,pl4.1,pl4.2]
   first|done|rfl|simp only[List.append_assoc,List.cons_append,List.nil_append,and_self]
  ·have h5:s=5∧(qint (qfld d 4)=1∨qint (qfld d 4)=2∨qint (qfld d 4)=4):=by
    unfold shp at hs
    rw[ho]at hs
    simp only[Int.reduceEq,Int.reduceLE,or_true,or_false,and_true,and_false,true_and,false_and,if_true,if_false,or_self]at hs
    split at hs
    ·rename_i hw;cases hs;exact⟨rfl,by omega⟩
    ·cases hs
   have hnr:near n:=by have:=hN (.inr h5.1);unfold near;omega
   obtain⟨w,hw⟩:=Int.eq_ofNat_of_zero_le (show 0≤qint (qfld d 4)by omega)
   obtain⟨b1,b2⟩:=bnd w (by omega)
   have dl:=dlen w (by omega)
   have PTe:PT d n j = [108,111,97,100]++(digs 10 (qint (qfld d 4)).toNat++([32,114,rg (qint (qfld d 6)),44,32]++placeT (rg (qint (qfld d 7))) n)):=by
    unfold PT
    simp only[ho,Int.reduceEq,Int.reduceLE,if_true,if_false]
   rw[PTe,pl_def,hw,Int.toNat_natCast]
   simp only[ho,b1,b2,qcmp_eql,qcmp_neq,qcmp_leq,qcmp_lss,qcmp_geq,qiteB_c,qnot_c,qsome_s,qnth_s,List.getD_cons_zero,qbool_b,Int.reduceEq,Int.reduceLE,Int.reduceLT,decide_true,decide_false,Bool.not_true,Bool.not_false,cond_true,cond_false]
   rw[itoaN,spec21 hA,spec23 hB hn hnr h2]
   simp(disch:=(simp only[List.length_append,List.length_cons,List.length_nil];omega)) only[qsome_s,qnth_s,List.getD_cons_zero,qstr_s,qbool_b,cond_true,cond_false,mkB,catOkB,catB]
   first|done|rfl|simp only[List.append_assoc,List.cons_append,List.nil_append,and_self]
  ·have h5:s=5∧(qint (qfld d 4)=1∨qint (qfld d 4)=2):=by
    unfold shp at hs
    rw[ho]at hs
    simp only[Int.reduceEq,Int.reduceLE,or_true,or_false,and_true,and_false,true_and,false_and,if_true,if_false,or_self]at hs
    split at hs
    ·rename_i hw;cases hs;exact⟨rfl,by omega⟩
    ·cases hs
   have hnr:near n:=by have:=hN (.inr h5.1);unfold near;omega
   obtain⟨w,hw⟩:=Int.eq_ofNat_of_zero_le (show 0≤qint (qfld d 4)by omega)
   obtain⟨b1,b2⟩:=bnd w (by omega)
   have dl:=dlen w (by omega)
   have PTe:PT d n j = [108,111,97,100]++(digs 10 (qint (qfld d 4)).toNat++([115,32,114,rg (qint (qfld d 6)),44,32]++placeT (rg (qint (qfld d 7))) n)):=by
    unfold PT
    simp only[ho,Int.reduceEq,Int.reduceLE,if_true,if_false]
   rw[PTe,pl_def,hw,Int.toNat_natCast]
   simp only[ho,b1,b2,qcmp_eql,qcmp_neq,qcmp_leq,qcmp_lss,qcmp_geq,qiteB_c,qnot_c,qsome_s,qnth_s,List.getD_cons_zero,qbool_b,Int.reduceEq,Int.reduceLE,Int.reduceLT,decide_true,decide_false,Bool.not_true,Bool.not_false,cond_true,cond_false]
   rw[itoaN,spec21 hA,spec23 hB hn hnr h2]
   simp(disch:=(simp only[List.length_append,List.length_cons,List.length_nil];omega)) only[qsome_s,qnth_s,List.getD_cons_zero,qstr_s,qbool_b,cond_true,cond_false,mkB,catOkB,catB]
   first|done|rfl|simp only[List.append_assoc,List.cons_append,List.nil_append,and_self]
  ·have h5:s=5∧(qint (qfld d 4)=1∨qint (qfld d 4)=2∨qint (qfld d 4)=4):=by
    unfold shp at hs
    rw[ho]at hs
    simp only[Int.reduceEq,Int.reduceLE,or_true,or_false,and_true,and_false,true_and,false_and,if_true,if_false,or_self]at hs
    split at hs
    ·rename_i hw;cases hs;exact⟨rfl,by omega⟩
    ·cases hs
   have hnr:near n:=by have:=hN (.inr h5.1);unfold near;omega
   obtain⟨w,hw⟩:=Int.eq_ofNat_of_zero_le (show 0≤qint (qfld d 4)by omega)
   obtain⟨b1,b2⟩:=bnd w (by omega)
   have dl:=dlen w (by omega)
   have PTe:PT d n j = [115,116,111,114,101]++(digs 10 (qint (qfld d 4)).toNat++(32::(placeT (rg (qint (qfld d 7))) n ++ [44,32,114,rg (qint (qfld d 6))]))):=by
    unfold PT
    simp only[ho,Int.reduceEq,Int.reduceLE,if_true,if_false]
   rw[PTe,pl_def,hw,Int.toNat_natCast]
   simp only[ho,b1,b2,qcmp_eql,qcmp_neq,qcmp_leq,qcmp_lss,qcmp_geq,qiteB_c,qnot_c,qsome_s,qnth_s,List.getD_cons_zero,qbool_b,Int.reduceEq,Int.reduceLE,Int.reduceLT,decide_true,decide_false,Bool.not_true,Bool.not_false,cond_true,cond_false]
   rw[itoaN,spec21 hA,spec23 hB hn hnr h2]
   simp(disch:=(simp only[List.length_append,List.length_cons,List.length_nil];omega)) only[qsome_s,qnth_s,List.getD_cons_zero,qstr_s,qbool_b,cond_true,cond_false,mkB,catOkB,catB]
   first|done|rfl|simp only[List.append_assoc,List.cons_append,List.nil_append,and_self]
  ·have h5:s=5∧True:=by
    unfold shp at hs
    rw[ho]at hs
    simp only[Int.reduceEq,Int.reduceLE,or_true,or_false,and_true,and_false,true_and,false_and,if_true,if_false,or_self]at hs
    cases hs;exact⟨rfl,trivial⟩
   have hnr:near n:=by have:=hN (.inr h5.1);unfold near;omega
   have PTe:PT d n j = [108,101,97,32,114]++([rg (qint (qfld d 6)),44,32]++placeT (rg (qint (qfld d 7))) n):=by
    unfold PT
    simp only[ho,Int.reduceEq,Int.reduceLE,if_true,if_false]
   rw[PTe,pl_def]
   simp only[ho,qcmp_eql,qcmp_neq,qcmp_leq,qcmp_lss,qcmp_geq,qiteB_c,qnot_c,qsome_s,qnth_s,List.getD_cons_zero,qbool_b,Int.reduceEq,Int.reduceLE,Int.reduceLT,decide_true,decide_false,Bool.not_true,Bool.not_false,cond_true,cond_false]
   rw[spec21 hA,spec23 hB hn hnr h2]
   simp(disch:=(simp only[List.length_append,List.length_cons,List.length_nil];omega)) only[qsome_s,qnth_s,List.getD_cons_zero,qstr_s,qbool_b,cond_true,cond_false,mkB,catOkB,catB]
   first|done|rfl|simp only[List.append_assoc,List.cons_append,List.nil_append,and_self]
  ·have hcc:0≤qint (qfld d 5)∧qint (qfld d 5)≤14:=by
    unfold shp at hs
    rw[ho]at hs
    simp only[Int.reduceEq,Int.reduceLE,or_true,or_false,and_true,and_false,true_and,false_and,if_true,if_false,or_self]at hs
    split at hs
    ·assumption
    ·cases hs
   have PTe:PT d n j=jmT (qint (qfld d 5)) (qint (qfld d 3)) n j:=by
    unfold PT
    simp only[ho,Int.reduceEq,Int.reduceLE,if_true,if_false]
   have e24:=spec24 hcc hn h2 hj hj2
   rw[PTe]
   simp only[ho,qcmp_eql,qcmp_neq,qcmp_leq,qcmp_lss,qcmp_geq,qiteB_c,qnot_c,qsome_s,qnth_s,List.getD_cons_zero,qbool_b,Int.reduceEq,Int.reduceLE,Int.reduceLT,decide_true,decide_false,Bool.not_true,Bool.not_false,cond_true,cond_false]
   rw[e24]
   simp only[qsome_s,qnth_s,List.getD_cons_zero,qbool_b,qstr_s,cond_true,cond_false]
  ·have PTe:PT d n j = [106,117,109,112,114,32,114] ++ [rg (qint (qfld d 6))]:=by
    unfold PT
    simp only[ho,Int.reduceEq,Int.reduceLE,if_true,if_false]
   rw[PTe,pl_def]
   simp only[ho,qcmp_eql,qcmp_neq,qcmp_leq,qcmp_lss,qcmp_geq,qiteB_c,qnot_c,qsome_s,qnth_s,List.getD_cons_zero,qbool_b,Int.reduceEq,Int.reduceLE,Int.reduceLT,decide_true,decide_false,Bool.not_true,Bool.not_false,cond_true,cond_false]
   rw[spec21 hA]
   simp(disch:=(simp only[List.length_append,List.length_cons,List.length_nil];omega)) only[qsome_s,qnth_s,List.getD_cons_zero,qstr_s,qbool_b,cond_true,cond_false,mkB,catOkB,catB]
   first|done|rfl|simp only[List.append_assoc,List.cons_append,List.nil_append,and_self]
  ·have PTe:PT d n j = [106,117,109,112,116,32,114]++([rg (qint (qfld d 6)),44,32,48,120]++digs 16 n):=by
    unfold PT
    simp only[ho,Int.reduceEq,Int.reduceLE,if_true,if_false]
   rw[PTe,pl_def]
   simp only[ho,qcmp_eql,qcmp_neq,qcmp_leq,qcmp_lss,qcmp_geq,qiteB_c,qnot_c,qsome_s,qnth_s,List.getD_cons_zero,qbool_b,Int.reduceEq,Int.reduceLE,Int.reduceLT,decide_true,decide_false,Bool.not_true,Bool.not_false,cond_true,cond_false]
   rw[spec21 hA,hn,spec25 n h2]
   simp(disch:=(simp only[List.length_append,List.length_cons,List.length_nil];omega)) only[qsome_s,qnth_s,List.getD_cons_zero,qstr_s,qbool_b,cond_true,cond_false,mkB,catOkB,catB]
   first|done|rfl|simp only[List.append_assoc,List.cons_append,List.nil_append,and_self]
  ·have PTe:PT d n j = [99,97,108,108,32,48,120]++digs 16 n:=by
    unfold PT
    simp only[ho,Int.reduceEq,Int.reduceLE,if_true,if_false]
   rw[PTe,pl_def]
   simp only[ho,qcmp_eql,qcmp_neq,qcmp_leq,qcmp_lss,qcmp_geq,qiteB_c,qnot_c,qsome_s,qnth_s,List.getD_cons_zero,qbool_b,Int.reduceEq,Int.reduceLE,Int.reduceLT,decide_true,decide_false,Bool.not_true,Bool.not_false,cond_true,cond_false]
   rw[hn,spec25 n h2]
   simp(disch:=(simp only[List.length_append,List.length_cons,List.length_nil];omega)) only[qsome_s,qnth_s,List.getD_cons_zero,qstr_s,qbool_b,cond_true,cond_false,mkB,catOkB,catB]
   first|done|rfl|simp only[List.append_assoc,List.cons_append,List.nil_append,and_self]
  ·have PTe:PT d n j = [99,97,108,108,114,32,114] ++ [rg (qint (qfld d 6))]:=by
    unfold PT
    simp only[ho,Int.reduceEq,Int.reduceLE,if_true,if_false]
   rw[PTe,pl_def]
   simp only[ho,qcmp_eql,qcmp_neq,qcmp_leq,qcmp_lss,qcmp_geq,qiteB_c,qnot_c,qsome_s,qnth_s,List.getD_cons_zero,qbool_b,Int.reduceEq,Int.reduceLE,Int.reduceLT,decide_true,decide_false,Bool.not_true,Bool.not_false,cond_true,cond_false]
   rw[spec21 hA]
   simp(disch:=(simp only[List.length_append,List.length_cons,List.length_nil];omega)) only[qsome_s,qnth_s,List.getD_cons_zero,qstr_s,qbool_b,cond_true,cond_false,mkB,catOkB,catB]
   first|done|rfl|simp only[List.append_assoc,List.cons_append,List.nil_append,and_self]
  ·have hcc:0≤qint (qfld d 5)∧qint (qfld d 5)≤14:=by
    unfold shp at hs
    rw[ho]at hs
    simp only[Int.reduceEq,Int.reduceLE,or_true,or_false,and_true,and_false,true_and,false_and,if_true,if_false,or_self]at hs
    split at hs
    ·assumption
    ·cases hs
   obtain⟨k,hk⟩:=Int.eq_ofNat_of_zero_le hcc.1
   have hkl:k<ccL.length:=by show _<15;omega
   have cl:=ccT_len k
   have PTe:PT d n j = [115,101,116]++(ccT (qint (qfld d 5)).toNat ++ [32,114,rg (qint (qfld d 6))]):=by
    unfold PT
    simp only[ho,Int.reduceEq,Int.reduceLE,if_true,if_false]
   rw[PTe,pl_def,hk,Int.toNat_natCast]
   simp only[ho,qcmp_eql,qcmp_neq,qcmp_leq,qcmp_lss,qcmp_geq,qiteB_c,qnot_c,qsome_s,qnth_s,List.getD_cons_zero,qbool_b,Int.reduceEq,Int.reduceLE,Int.reduceLT,decide_true,decide_false,Bool.not_true,Bool.not_false,cond_true,cond_false]
   rw[spec26 (by omega),spec21 hA]
   simp(disch:=(simp only[List.length_append,List.length_cons,List.length_nil];omega)) only[qsome_s,qnth_s,List.getD_cons_zero,qstr_s,qbool_b,cond_true,cond_false,mkB,catOkB,catB,nameL_inb hkl,nameL_get hkl,show ccL.getD k []=ccT k from rfl]
   first|done|rfl|simp only[List.append_assoc,List.cons_append,List.nil_append,and_self]
  ·have PTe:PT d n j = [105,110,32,114] ++ [rg (qint (qfld d 6))]:=by
    unfold PT
    simp only[ho,Int.reduceEq,Int.reduceLE,if_true,if_false]
   rw[PTe,pl_def]
   simp only[ho,qcmp_eql,qcmp_neq,qcmp_leq,qcmp_lss,qcmp_geq,qiteB_c,qnot_c,qsome_s,qnth_s,List.getD_cons_zero,qbool_b,Int.reduceEq,Int.reduceLE,Int.reduceLT,decide_true,decide_false,Bool.not_true,Bool.not_false,cond_true,cond_false]
   rw[spec21 hA]
   simp(disch:=(simp only[List.length_append,List.length_cons,List.length_nil];omega)) only[qsome_s,qnth_s,List.getD_cons_zero,qstr_s,qbool_b,cond_true,cond_false,mkB,catOkB,catB]
   first|done|rfl|simp only[List.append_assoc,List.cons_append,List.nil_append,and_self]
  ·have PTe:PT d n j = [111,117,116,32,114] ++ [rg (qint (qfld d 6))]:=by
    unfold PT
    simp only[ho,Int.reduceEq,Int.reduceLE,if_true,if_false]
   rw[PTe,pl_def]
   simp only[ho,qcmp_eql,qcmp_neq,qcmp_leq,qcmp_lss,qcmp_geq,qiteB_c,qnot_c,qsome_s,qnth_s,List.getD_cons_zero,qbool_b,Int.reduceEq,Int.reduceLE,Int.reduceLT,decide_true,decide_false,Bool.not_true,Bool.not_false,cond_true,cond_false]
   rw[spec21 hA]
   simp(disch:=(simp only[List.length_append,List.length_cons,List.length_nil];omega)) only[qsome_s,qnth_s,List.getD_cons_zero,qstr_s,qbool_b,cond_true,cond_false,mkB,catOkB,catB]
   first|done|rfl|simp only[List.append_assoc,List.cons_append,List.nil_append,and_self]
theorem short_nn (d:D):∃j:Nat,short d=j∧j<4294967296:=by
 have h1:0≤short d∧short d<4294967296:=by unfold short;rw[qbin_eq];simp only[rbin,mU32];omega
 obtain⟨j,hj⟩:=Int.eq_ofNat_of_zero_le h1.1
 exact⟨j,hj,by omega⟩
end Go.Proofs.YtobhhfbdelnhfaaDoor
namespace Go.Proofs.YtobhhfbdelnhfaaDoor
set_option linter.unusedSimpArgs false
set_option linter.unusedVariables false
open Go Go.AM
theorem decode_lo {s:ByteArray} {i:Nat} (h:(s.get! i).toNat<128):(Utf8.decode s i)=((s.get! i).toNat,1):=by
 unfold Utf8.decode;simp[h]
theorem decode_hi {s:ByteArray} {i:Nat} (h:¬(s.get! i).toNat<128):128≤(Utf8.decode s i).1:=by
 unfold Utf8.decode;simp only[Nat.add_zero,h,if_false,Utf8.runeError]
 repeat' split
 all_goals simp_all
 all_goals omega
def byt (s:ByteArray) (i:Nat):Int:=(s.data.toList.getD i 0).toNat
theorem byt_get {s:ByteArray} {i:Nat} (h:i<s.size):((s.get! i).toNat:Int)=byt s i:=by
 have h1:i<s.data.toList.length:=by simpa using h
 have h2:i<s.data.size:=h
 unfold byt
 cases s with|mk bs=>simp only[ByteArray.get!,List.getD,getElem!_pos,h2];simp[h2]
theorem byt_le (s:ByteArray) (i:Nat):0≤byt s i∧byt s i≤255:=by
 unfold byt
 have:=(s.data.toList.getD i 0).toNat_lt
 omega
theorem idxS {s:ByteArray} {i:Nat}:qidxS s (i:Int)=byt s i:=by rw[qidxS_eq];simp[ridxS,byt,ByteArray.toList_eq]
theorem inbS {s:ByteArray} {i:Nat} (h:i<s.size):qinbS s (i:Int)=true:=by rw[qinbS_eq];simp only[rinbS];simp[h]
theorem lenS (s:ByteArray):qlenS s=(s.size:Int):=by rw[qlenS_eq]
theorem wrap_u64 {n:Int} (h0:0≤n) (h1:n<18446744073709551616):IntKind.u64.wrap n=n:=by
 show n.emod _=n
 exact Int.emod_eq_of_lt h0 (by simpa[IntKind.bits]using h1)
theorem wrap_i32 {n:Int} (h0:0≤n) (h1:n<2147483648):IntKind.i32.wrap n=n:=by
 simp only[IntKind.wrap,IntKind.bits,IntKind.signed]
 simp
 omega
theorem pow16:∀i:Nat,i≤10→(16:Int)^i≤1099511627776:=by decide
def dv (c:Int):Int:=if 48≤c∧c≤57 then c-48 else if 97≤c∧c≤102 then c-87 else -1
theorem q158_spec {c:Int} (h:0≤c∧c≤255):q50 [.int c]=some [.int (dv c)]:=by
 rw[q50_eq,F50_eq]
 simp only[qiteB_c,qcmp_geq,qcmp_leq,qbin_eq,rbin,qwrap_eq,dv]
 by_cases h1:48≤c∧c≤57
 ·have e1:IntKind.u8.wrap (c-48)=c-48:=by show(c-48).emod _=_;exact Int.emod_eq_of_lt (by omega) (by simp[IntKind.bits];omega)
  simp only[h1.1,h1.2,decide_true,cond_true,and_self,if_true,e1]
  rw[wrap64' (by omega) (by omega)]
 ·by_cases h2:97≤c∧c≤102
  ·have e1:IntKind.u8.wrap (c-97)=c-97:=by show(c-97).emod _=_;exact Int.emod_eq_of_lt (by omega) (by simp[IntKind.bits];omega)
   have h3:¬c≤57:=by omega
   have h4:48≤c:=by omega
   simp only[h2.1,h2.2,h3,h4,decide_true,decide_false,cond_true,cond_false,and_false,and_self,if_true,if_false,e1]
   rw[wrap64' (n:=c-97) (by omega) (by omega),wrap64' (by omega) (by omega)]
   congr 3;omega
  ·simp only[h1,h2,if_false]
   have:(bif decide (48≤c)then decide (c≤57)else false)=false:=by
    by_cases a:48≤c<;>by_cases b:c≤57<;>simp_all
   rw[this]
   have:(bif decide (97≤c)then decide (c≤102)else false)=false:=by
    by_cases a:97≤c<;>by_cases b:c≤102<;>simp_all
   rw[this]
   rfl
def dgN (s:ByteArray) (base:Int):Nat→Nat→Int→Option Int
 |0,_,n=>some n
 |k+1,i,n=>if dv (byt s i)<0∨base≤dv (byt s i)then none else dgN s base k (i+1) (n*base+dv (byt s i))
theorem dv_le (c:Int):dv c≤15:=by unfold dv;split;omega;split<;>omega
theorem pow_step {i:Nat} {n d:Int} (h:n<16^i) (hd:d≤15) (h0:0≤n) {b:Int} (hb:b≤16) (hb0:0≤b):n*b+d<16^(i+1):=by
 have h1:n*b≤n*16:=Int.mul_le_mul_of_nonneg_left hb h0
 rw[Int.pow_succ];omega
theorem loop147 {s:ByteArray} {base:Int} (hb:10≤base∧base≤16) (hz:s.size≤10):∀(k i:Nat) (n:Int),i+k=s.size→0≤n→n<16^i→
 loW (st29_5 [.str s, .int base]) [.int n, .int i]=some (match dgN s base k i n with|some m=>[.int 0, .int m]|none=>[.int 1]):=by
 intro k
 induction k with
 |zero=>
  intro i n hi h0 h1
  rw[loW_eq,st29_5_eq,lenS,qcmp_lss]
  simp only[show¬((i:Int)<s.size)by omega,decide_false,cond_false,dgN]
 |succ k ih=>
  intro i n hi h0 h1
  have hlt:i<s.size:=by omega
  have hc:=byt_le s i
  rw[loW_eq,st29_5_eq,lenS,qcmp_lss,inbS hlt,idxS,q158_spec hc]
  simp only[show((i:Int)<s.size)by omega,decide_true,cond_true,qsome_s,qnth_s,List.getD_cons_zero,qint_i,qiteB_c,qcmp_lss,qcmp_geq,dgN]
  by_cases h:dv (byt s i)<0∨base≤dv (byt s i)
  ·have:(bif decide (dv (byt s i)<0)then true else decide (base≤dv (byt s i)))=true:=by
    rcases h with h|h<;>simp[h]
   rw[this,if_pos h];rfl
  ·have:(bif decide (dv (byt s i)<0)then true else decide (base≤dv (byt s i)))=false:=by
    have h2:¬dv (byt s i)<0:=fun e=>h (.inl e)
    have h3:¬base≤dv (byt s i):=fun e=>h (.inr e)
    simp[h2,h3]
   rw[this,if_neg h]
   have hd:=dv_le (byt s i)
   have hp:=pow_step h1 hd h0 hb.2 (by omega)
   have hp10:=pow16 (i+1) (by omega)
   have hm:n*base≤n*16:=Int.mul_le_mul_of_nonneg_left hb.2 h0
   have hm0:0≤n*base:=Int.mul_nonneg h0 (by omega)
   have hn0:0≤dv (byt s i):=by omega
   simp only[cond_false,qbin_eq,rbin,qwrap_eq]
   rw[wrap_u64 (n:=base) (by omega) (by omega),wrap_u64 (n:=dv (byt s i)) hn0 (by omega),wrap_u64 (n:=n*base) hm0 (by omega),wrap_u64 (n:=n*base+dv (byt s i)) (by omega) (by omega)]
   have ha:=add_nat (i:=i) (by omega)
   rw[qbin_eq]at ha
   simp only[rbin]at ha
   rw[ha]
   exact ih (i+1) _ (by omega) (by omega) hp
theorem spec147 {s:ByteArray} {base:Int} (hb:10≤base∧base≤16):q29 [.str s, .int base]=some (if 1≤s.size∧s.size≤10 then(match dgN s base s.size 0 0 with|some m=>[.int m, .bool true]|none=>[.int 0, .bool false])else[.int 0, .bool false]):=by
 rw[q29_eq,F29_eq,lenS,qiteB_c,qcmp_lss,qcmp_gtr]
 by_cases h:1≤s.size∧s.size≤10
 ·have h1:¬((s.size:Int)<1):=by omega
  have h2:¬((10:Int)<s.size):=by omega
  have e:l29_5 [.str s, .int base] [.int 0, .int 0]=some (match dgN s base s.size 0 0 with|some m=>[.int 0, .int m]|none=>[.int 1]):=by
   rw[l29_5_eq]
   exact loop147 hb h.2 s.size 0 0 (by omega) (by omega) (by decide)
  simp only[h1,h2,decide_false,cond_false,h,and_self,if_true,e]
  cases dgN s base s.size 0 0<;>simp[qsome_s,qnth_s,qint_i,qcmp_eql]
 ·rw[if_neg h]
  have:(bif decide ((s.size:Int)<1)then true else decide ((10:Int)<s.size))=true:=by
   by_cases a:(s.size:Int)<1
   ·simp[a]
   ·have b:(10:Int)<s.size:=by omega
    simp[a,b]
  rw[this];rfl
noncomputable def nxtT (st:List D→Option (Sum (List D) (List D))) (x:Option (Sum (List D) (List D))):Option (List D):=match x with|none=>none|some (.inl s')=>loW st s'|some (.inr d)=>some d
theorem loW_nxt (st:List D→Option (Sum (List D) (List D))) (s:List D):loW st s=nxtT st (st s):=by
 rw[loW_eq];unfold nxtT
 cases st s with
 |none=>rfl
 |some x=>cases x<;>rfl
theorem loop60 {s:ByteArray} {base most:Int} (hb:10≤base∧base≤16) (hz:s.size≤1000):∀(k i:Nat) (n:Int),i+k=s.size→0≤n→n≤1099511627776→
 ∃r,loW (st28_3 [.str s, .int base, .int most, .str s]) [.int n, .int i]=some r∧(r.getD 0 .other = .int 0∨r.getD 0 .other = .int 1)∧∃m,r.getD 1 .other = .int m∧
  (s.size≤10→n<16^i→(match dgN s base k i n with|some x=>r.getD 0 .other = .int 0∧m=x|none=>r.getD 0 .other = .int 1)):=by
 intro k
 induction k with
 |zero=>
  intro i n hi h0 h1
  rw[loW_nxt,st28_3_eq,lenS,qcmp_lss]
  simp only[show¬((i:Int)<s.size)by omega,decide_false,cond_false]
  exact⟨_,rfl, .inl rfl,n,rfl,fun _ _=>by simp[dgN]⟩
 |succ k ih=>
  intro i n hi h0 h1
  have hlt:i<s.size:=by omega
  have hc:=byt_le s i
  rw[loW_nxt,st28_3_eq,lenS,qcmp_lss]
  simp only[show((i:Int)<s.size)by omega,decide_true,cond_true,qiteB_c,qiteI_eq]
  have bad:∀(x:D),(∃y,x = .int y)→(s.size≤10→n<16^i→dgN s base (k+1) i n=none)→∃r,nxtT (st28_3 [.str s, .int base, .int most, .str s]) (some (Sum.inr [.int 1,x]))=some r∧(r.getD 0 .other = .int 0∨r.getD 0 .other = .int 1)∧∃m,r.getD 1 .other = .int m∧
   (s.size≤10→n<16^i→(match dgN s base (k+1) i n with|some x=>r.getD 0 .other = .int 0∧m=x|none=>r.getD 0 .other = .int 1)):=by
   rintro x ⟨y,rfl⟩ hx
   refine⟨_,rfl, .inr rfl,y,rfl,fun h2 h3=> ?_⟩
   rw[hx h2 h3];rfl
  by_cases hlo:(s.get! i).toNat<128
  ·have hr:qrune s i=byt s i:=by
    rw[qrune,veil_eq];simp only[Int.toNat_natCast,decode_lo hlo];exact byt_get hlt
   have hw:qrw s i=((i+1:Nat):Int):=by
    rw[qrw,veil_eq];simp only[Int.toNat_natCast,decode_lo hlo];omega
   rw[hr,hw]
   have go:∀(d:Int),d=dv (byt s i)→0≤d→∃r,nxtT (st28_3 [.str s, .int base, .int most, .str s]) (bif decide (base≤d)then some (Sum.inr [.int 1, .int ((i+1:Nat):Int)])else bif decide (1099511627776<n*base+d)then some (Sum.inr [.int 1, .int ((i+1:Nat):Int)])else some (Sum.inl [.int (n*base+d), .int ((i+1:Nat):Int)]))=some r∧(r.getD 0 .other = .int 0∨r.getD 0 .other = .int 1)∧∃m,r.getD 1 .other = .int m∧
    (s.size≤10→n<16^i→(match dgN s base (k+1) i n with|some x=>r.getD 0 .other = .int 0∧m=x|none=>r.getD 0 .other = .int 1)):=by
    intro d hd hd0
    have hd15:d≤15:=by rw[hd];exact dv_le _
    by_cases hbd:base≤d
    ·simp only[hbd,decide_true,cond_true]
     exact bad _ ⟨_,rfl⟩ fun _ _=>by simp only[dgN];rw[if_pos (.inr (by rw[← hd];exact hbd))]
    ·simp only[hbd,decide_false,cond_false]
     have hm0:0≤n*base:=Int.mul_nonneg h0 (by omega)
     by_cases hbig:1099511627776<n*base+d
     ·simp only[hbig,decide_true,cond_true]
      refine bad _ ⟨_,rfl⟩ fun h2 h3=> ?_
      have hp:=pow_step h3 hd15 h0 hb.2 (by omega)
      have hp10:=pow16 (i+1) (by omega)
      omega
     ·simp only[hbig,decide_false,cond_false]
      obtain⟨r,e1,e2,m,e3,e4⟩:=ih (i+1) (n*base+d) (by omega) (by omega) (by omega)
      refine⟨r,e1,e2,m,e3,fun h2 h3=> ?_⟩
      have:=e4 h2 (pow_step h3 hd15 h0 hb.2 (by omega))
      simp only[dgN]
      rw[if_neg (by rw[← hd];omega), ← hd]
      exact this
   have hm:n*base≤n*16:=Int.mul_le_mul_of_nonneg_left hb.2 h0
   have hm0:0≤n*base:=Int.mul_nonneg h0 (by omega)
   have wm:IntKind.u64.wrap (n*base)=n*base:=wrap_u64 hm0 (by omega)
   simp only[qcmp_geq,qcmp_leq,qcmp_gtr,qbin_eq,rbin,qwrap_eq,wm]
   by_cases h1':48≤byt s i∧byt s i≤57
   ·have w1:IntKind.i32.wrap (byt s i-48)=byt s i-48:=wrap_i32 (by omega) (by omega)
    have w2:IntKind.u64.wrap (byt s i-48)=byt s i-48:=wrap_u64 (by omega) (by omega)
    have w3:IntKind.u64.wrap (n*base+(byt s i-48))=n*base+(byt s i-48):=wrap_u64 (by omega) (by omega)
    simp only[h1'.1,h1'.2,decide_true,cond_true,w1,w2,w3]
    exact go _ (by rw[dv,if_pos h1']) (by omega)
   ·have e0:(bif decide (48≤byt s i)then decide (byt s i≤57)else false)=false:=by
     by_cases a:48≤byt s i<;>by_cases b:byt s i≤57<;>simp_all
    rw[e0]
    by_cases h2':97≤byt s i∧byt s i≤102
    ·have w1:IntKind.i32.wrap (byt s i-97)=byt s i-97:=wrap_i32 (by omega) (by omega)
     have w2:IntKind.u64.wrap (byt s i-97)=byt s i-97:=wrap_u64 (by omega) (by omega)
     have w4:IntKind.u64.wrap (byt s i-97+10)=byt s i-97+10:=wrap_u64 (by omega) (by omega)
     have w3:IntKind.u64.wrap (n*base+(byt s i-97+10))=n*base+(byt s i-97+10):=wrap_u64 (by omega) (by omega)
     simp only[h2'.1,h2'.2,decide_true,cond_true,cond_false,w1,w2,w4,w3]
     exact go (byt s i-97+10) (by rw[dv,if_neg h1',if_pos h2'];omega) (by omega)
    ·have e1:(bif decide (97≤byt s i)then decide (byt s i≤102)else false)=false:=by
      by_cases a:97≤byt s i<;>by_cases b:byt s i≤102<;>simp_all
     rw[e1]
     simp only[cond_false,Int.le_refl,decide_true,cond_true]
     exact bad _ ⟨_,rfl⟩ fun _ _=>by simp only[dgN,dv,h1',h2',if_false];rw[if_pos (.inl (by omega))]
  ·have hr:128≤qrune s i:=by
    rw[qrune,veil_eq];simp only[Int.toNat_natCast];have:=decode_hi hlo;omega
   have hby:128≤byt s i:=by rw[← byt_get hlt];omega
   simp only[qcmp_geq,qcmp_leq]
   have a1:¬qrune s i≤57:=by omega
   have a2:¬qrune s i≤102:=by omega
   have a3:48≤qrune s i:=by omega
   have a4:97≤qrune s i:=by omega
   simp only[a1,a2,a3,a4,decide_true,decide_false,cond_true,cond_false,Int.le_refl]
   refine bad _ ⟨_,rfl⟩ fun _ _=> ?_
   have b1:¬(48≤byt s i∧byt s i≤57):=by omega
   have b2:¬(97≤byt s i∧byt s i≤102):=by omega
   simp only[dgN,dv,b1,b2,if_false];rw[if_pos (.inl (by omega))]
theorem spec60 {s:ByteArray} {base most:Int} (hb:10≤base∧base≤16) (hm:most≤10) (hz:s.size≤1000):∃(n:Int) (b:Bool),q28 [.str s, .int base, .int most]=some [.int n, .bool b]∧
 (match(if 1≤s.size∧(s.size:Int)≤most then dgN s base s.size 0 0 else none)with|some m=>n=m∧b=true|none=>b=false):=by
 obtain⟨r,e1,e2,m,e3,e4⟩:=loop60 (most:=most) hb hz s.size 0 0 (by omega) (by omega) (by omega)
 have e:l28_3 [.str s, .int base, .int most, .str s] [.int 0, .int 0]=some r:=by rw[l28_3_eq];exact e1
 rw[q28_eq,F28_eq,e]
 simp only[qsome_s,qnth_s,e3,qint_i,cond_true,lenS,qiteB_c,qcmp_geq,qcmp_leq,qcmp_eql]
 rcases e2 with e2|e2
 ·simp only[e2,qint_i,decide_true,cond_true]
  refine⟨m,_,rfl,?_⟩
  by_cases h:1≤s.size∧(s.size:Int)≤most
  ·have h5:=e4 (by omega) (by decide)
   rw[if_pos h]
   cases hd:dgN s base s.size 0 0 with
   |none=>rw[hd]at h5;rw[e2]at h5;simp at h5
   |some x=>
    rw[hd]at h5
    refine⟨h5.2,?_⟩
    simp[h.2];omega
  ·rw[if_neg h]
   show _=_
   by_cases a:(1:Int)≤s.size
   ·have b:¬(s.size:Int)≤most:=fun b=>h ⟨by omega,b⟩
    simp[a,b]
   ·simp[a]
 ·simp only[e2,qint_i,show¬((1:Int)=0)by omega,decide_false,cond_false]
  refine⟨0,false,rfl,?_⟩
  by_cases h:1≤s.size∧(s.size:Int)≤most
  ·have h5:=e4 (by omega) (by decide)
   rw[if_pos h]
   cases hd:dgN s base s.size 0 0 with
   |none=>rfl
   |some x=>rw[hd]at h5;rw[e2]at h5;simp at h5
  ·rw[if_neg h]
theorem dgN_nn {s:ByteArray} {base:Int} (hb:0≤base):∀(k i:Nat) (n m:Int),0≤n→dgN s base k i n=some m→0≤m
 |0,_,n,m,h,e=>by simp only[dgN,Option.some.injEq]at e;omega
 |k+1,i,n,m,h,e=>by
  simp only[dgN]at e
  split at e
  ·cases e
  ·refine dgN_nn hb k (i+1) _ m ?_ e
   have:=Int.mul_nonneg h hb
   omega
end Go.Proofs.YtobhhfbdelnhfaaDoor
namespace Go.Proofs.YtobhhfbdelnhfaaDoor
set_option linter.unusedSimpArgs false
set_option linter.unusedVariables false
open Go Go.AM
noncomputable def has (s p:ByteArray):Bool:=bif decide (p.size≤s.size)then qcmpS .eql (qsubS s 0 (qlenS p)) p else false
theorem spec59 (s p:ByteArray):q27 [.str s, .str p]=some [.str (bif has s p then qsubS s (qlenS p) (qlenS s)else s), .bool (has s p)]:=by
 rw[q27_eq,F27_eq,q49_eq,F49_eq,q66_eq,F66_eq]
 simp only[qiteB_c,qcmp_geq,qcmp_leq,lenS,has,show qand=fun a b=>a&&b from veil_eq _]
 by_cases h:p.size≤s.size
 ·have h1:(p.size:Int)≤s.size:=by omega
  have h2:(0:Int)≤p.size:=by omega
  simp only[h,h1,h2,decide_true,cond_true,Int.le_refl,Bool.and_self,qsome_s,qnth_s,List.getD_cons_zero,List.getD_cons_succ,qbool_b,qnot_c]
  cases qcmpS BinOp.eql (qsubS s 0 (p.size:Int)) p<;>simp[qsome_s,qnth_s,qstr_s,qbool_b]
 ·have h1:¬(p.size:Int)≤s.size:=by omega
  simp only[h,h1,decide_false,cond_false,cond_true,qsome_s,qnth_s,List.getD_cons_zero,List.getD_cons_succ,qbool_b,qnot_c,Bool.not_false,qstr_s]
theorem byt0 {l:List UInt8} {i:Nat}:byt ⟨⟨l⟩⟩ i=(l.getD i 0).toNat:=rfl
theorem eqS (a b:ByteArray):qcmpS .eql a b=(a.data.toList==b.data.toList):=by rw[qcmpS_eq];simp[rcmpS,ByteArray.toList_eq]
theorem u8_eq {x:UInt8} {n:Nat} (hn:n<256):((x.toNat:Int)=(n:Int))↔x=UInt8.ofNat n:=by
 constructor
 ·intro h
  have h1:x.toNat=n:=by omega
  rw[← h1];exact(UInt8.ofNat_toNat).symm
 ·rintro rfl
  simp[UInt8.toNat_ofNat',Nat.mod_eq_of_lt hn]
theorem sub_list {l:List UInt8} {n:Nat}:(qsubS ⟨⟨l⟩⟩ 0 (n:Int)).data.toList=l.take n:=by
 rw[qsubS_eq]
 simp[ByteArray.extract,ByteArray.copySlice]
theorem has_minus (s:ByteArray):has s ⟨#[45]⟩=(decide (0<s.size)&&decide (byt s 0=45)):=by
 obtain⟨⟨l⟩⟩:=s
 have hs:(ByteArray.mk ⟨l⟩).size=l.length:=rfl
 have hp:(ByteArray.mk #[45]).size=1:=rfl
 simp only[has,hs,hp,lenS,eqS]
 cases l with
 |nil=>rfl
 |cons x l=>
  rw[show((1:Nat):Int)=((1:Nat):Int)from rfl,sub_list]
  simp only[List.length_cons,show 1≤l.length+1 by omega,show 0<l.length+1 by omega,decide_true,cond_true,Bool.true_and,List.take_succ_cons,List.take_zero,byt0,List.getD_cons_zero]
  rw[Bool.eq_iff_iff,beq_iff_eq,decide_eq_true_eq,show(45:Int)=((45:Nat):Int)from rfl,u8_eq (by omega)]
  simp
theorem has_hex {s:ByteArray} (h:has s ⟨#[48,120]⟩=true):2≤s.size∧byt s 0=48∧byt s 1=120:=by
 obtain⟨⟨l⟩⟩:=s
 have hs:(ByteArray.mk ⟨l⟩).size=l.length:=rfl
 have hp:(ByteArray.mk #[48,120]).size=2:=rfl
 simp only[has,hs,hp,lenS,eqS]at h
 by_cases h2:2≤l.length
 ·simp only[h2,decide_true,cond_true]at h
  rw[sub_list,beq_iff_eq]at h
  match l,h2 with
  |x::y::l,_=>
   simp only[List.take_succ_cons,List.take_zero,List.cons.injEq,and_true]at h
   refine⟨by rw[hs];simp only[List.length_cons];omega,?_,?_⟩
   ·simp only[byt0,List.getD_cons_zero];rw[h.1];rfl
   ·simp only[byt0,List.getD_cons_zero,List.getD_cons_succ];rw[h.2];rfl
 ·simp[h2]at h
theorem is_zero (s:ByteArray):qcmpS .eql s ⟨#[48]⟩=true↔s.size=1∧byt s 0=48:=by
 obtain⟨⟨l⟩⟩:=s
 have hs:(ByteArray.mk ⟨l⟩).size=l.length:=rfl
 rw[eqS,beq_iff_eq,hs]
 match l with
 | []=>simp
 | [x]=>
   simp only[byt0,List.getD_cons_zero,List.length_cons,List.length_nil]
   rw[show(48:Int)=((48:Nat):Int)from rfl,u8_eq (by omega)]
   simp
 |x::y::l=>simp
theorem size_sub {s:ByteArray} {n:Nat} (h:n≤s.size):(qsubS s (n:Int) (s.size:Int)).size=s.size-n:=by
 rw[qsubS_eq]
 simp[ByteArray.size_extract]
theorem digits_eq {t:ByteArray} {base most:Int} (hb:10≤base∧base≤16) (hm:most≤10) (hz:t.size≤1000):
 (∃n m,q28 [.str t, .int base, .int most]=some [.int n, .bool false]∧(q29 [.str t, .int base]=some [.int m, .bool false]∨(q29 [.str t, .int base]=some [.int m, .bool true]∧most<t.size)))∨
 (∃m,0≤m∧1≤t.size∧(t.size:Int)≤most∧dgN t base t.size 0 0=some m∧q28 [.str t, .int base, .int most]=some [.int m, .bool true]∧q29 [.str t, .int base]=some [.int m, .bool true]):=by
 obtain⟨n,b,e1,e2⟩:=spec60 hb hm hz
 have e3:=spec147 (s:=t) hb
 rw[e1,e3]
 by_cases h:1≤t.size∧(t.size:Int)≤most
 ·rw[if_pos h]at e2
  have h10:1≤t.size∧t.size≤10:=by omega
  rw[if_pos h10]
  cases hd:dgN t base t.size 0 0 with
  |none=>
   rw[hd]at e2
   simp only at e2
   subst e2
   exact .inl ⟨n,0,rfl, .inl rfl⟩
  |some m=>
   rw[hd]at e2
   simp only at e2
   obtain⟨rfl,rfl⟩:=e2
   exact .inr ⟨n,dgN_nn (by omega) _ _ _ _ (by omega) hd,h.1,h.2,rfl,rfl,rfl⟩
 ·rw[if_neg h]at e2
  simp only at e2
  subst e2
  left
  by_cases h10:1≤t.size∧t.size≤10
  ·rw[if_pos h10]
   cases hd:dgN t base t.size 0 0 with
   |none=>exact⟨n,0,rfl, .inl rfl⟩
   |some m=>exact⟨n,m,rfl, .inr ⟨rfl,by omega⟩⟩
  ·rw[if_neg h10]
   exact⟨n,0,rfl, .inl rfl⟩
theorem neg32 {m:Int} (h0:0≤m) (h1:m≤2147483648):qun .neg .u32 (qwrap .u32 m)=qwrap .u32 (qbin .sub .u64 4294967296 m):=by
 rw[qwrap_eq,qbin_eq,qun_eq]
 simp only[run1,rbin]
 rw[wrap_u64 (n:=4294967296-m) (by omega) (by omega)]
 have w:∀n:Int,IntKind.u32.wrap n=n%4294967296:=fun n=>by simp[IntKind.wrap,IntKind.bits,IntKind.signed]
 rw[w,w,w]
 omega
theorem num_eq {s:ByteArray} (hz:s.size≤1000):∃(n:Int) (b:Bool),q11 [.str s]=some [.int n, .bool b]∧q12 [.str s]=some [.int n, .bool b]:=by
 have l2:qlenS ⟨#[48,120]⟩=2:=by rw[lenS];rfl
 have l1:qlenS ⟨#[45]⟩=1:=by rw[lenS];rfl
 have hqand:qand=fun a b=>a&&b:=veil_eq _
 rw[q11_eq,F11_eq,q12_eq,F12_eq,spec59,spec59]
 simp only[qsome_s,qnth_s,List.getD_cons_zero,List.getD_cons_succ,qbool_b,qstr_s,cond_true,l2,l1]
 cases hx:has s ⟨#[48,120]⟩with
 |true=>
  obtain⟨h2,hb0,hb1⟩:=has_hex hx
  have hE:qcmpS .eql (qsubS s 0 2) ⟨#[48,120]⟩=true:=by
   have:=hx
   simp only[has,l2,show(ByteArray.mk #[48,120]).size=2 from rfl,h2,decide_true,cond_true]at this
   exact this
  have ht:(qsubS s 2 (s.size:Int)).size=s.size-2:=size_sub (n:=2) h2
  simp only[cond_true,lenS,qiteB_c,qcmp_gtr,qcmp_leq,hqand,hE]
  have i2:(2:Int)≤s.size:=by omega
  have d16:=digits_eq (t:=qsubS s 2 (s.size:Int)) (base:=16) (most:=8) (by omega) (by omega) (by omega)
  by_cases h3:(2:Int)<s.size
  ·simp only[h3,i2,decide_true,cond_true,Int.le_refl,show(0:Int)≤2 by omega,Bool.and_self]
   rcases d16 with⟨n,m,e1,e2⟩|⟨m,hm,t1,t2,_,e1,e2⟩
   ·rw[e1]
    simp only[qsome_s,qnth_s,List.getD_cons_zero,List.getD_cons_succ,qbool_b,qnot_c,Bool.not_false,cond_true]
    refine⟨0,false,rfl,?_⟩
    rcases e2 with e2|⟨e2,hl⟩
    ·rw[e2];simp[qsome_s,qnth_s,qbool_b,qnot_c]
    ·have:(10:Int)<s.size:=by omega
     rw[e2];simp[qsome_s,qnth_s,qbool_b,qnot_c,this]
   ·have:¬(10:Int)<s.size:=by omega
    rw[e1,e2]
    simp only[qsome_s,qnth_s,List.getD_cons_zero,List.getD_cons_succ,qbool_b,qnot_c,Bool.not_true,cond_true,cond_false,this,decide_false,qint_i]
    exact⟨_,_,rfl,rfl⟩
  ·have hs2:s.size=2:=by omega
   have hi0:qinbS s 0=true:=by have:=inbS (s:=s) (i:=0) (by omega);simpa using this
   have hx0:qidxS s 0=48:=by have:=idxS (s:=s) (i:=0);rw[hb0]at this;simpa using this
   have e29:q29 [.str s, .int 10]=some [.int 0, .bool false]:=by
    rw[spec147 (by omega),if_pos (by omega),hs2]
    simp only[dgN,hb0,hb1,dv]
    simp
   rcases d16 with⟨n,m,e1,e2⟩|⟨m,hm,t1,t2,_,e1,e2⟩
   ·have hc45:¬((48:Int)=45):=by omega
    rw[e1]
    simp only[h3,decide_false,cond_false,cond_true,qsome_s,qnth_s,List.getD_cons_zero,List.getD_cons_succ,qbool_b,qnot_c,Bool.not_false,hs2,hi0,hx0,qcmp_eql,hc45,show((0:Int)<(2:Nat))by omega,decide_true,qiteS_eq,e29]
    exact⟨_,_,rfl,rfl⟩
   ·omega
 |false=>
  have hE:(bif decide ((2:Int)<s.size)then qcmpS .eql (qsubS s 0 2) ⟨#[48,120]⟩else false)=false:=by
   by_cases h3:(2:Int)<s.size
   ·simp only[has,l2,show(ByteArray.mk #[48,120]).size=2 from rfl,show 2≤s.size by omega,decide_true,cond_true]at hx
    simp[h3,hx]
   ·simp[h3]
  have g1:(bif decide ((2:Int)<s.size)then(decide ((0:Int)≤0)&&(decide ((0:Int)≤2)&&decide ((2:Int)≤s.size)))else true)=true:=by
   by_cases h3:(2:Int)<s.size
   ·have:(2:Int)≤s.size:=by omega
    simp[h3,this]
   ·simp[h3]
  have hM:(bif decide ((0:Int)<s.size)then decide (qidxS s 0=45)else false)=has s ⟨#[45]⟩:=by
   rw[has_minus]
   have:qidxS s 0=byt s 0:=by have:=idxS (s:=s) (i:=0);simpa using this
   rw[this]
   by_cases h0:0<s.size
   ·have:(0:Int)<s.size:=by omega
    simp[h0,this]
   ·have:¬(0:Int)<s.size:=by omega
    simp[h0,this]
  have g2:(bif decide ((0:Int)<s.size)then qinbS s 0 else true)=true:=by
   by_cases h0:(0:Int)<s.size
   ·rw[decide_eq_true h0]
    have:=inbS (s:=s) (i:=0) (by omega)
    simp only[cond_true];simpa using this
   ·rw[decide_eq_false h0];rfl
  have g3:(bif has s ⟨#[45]⟩then(decide ((0:Int)≤1)&&(decide ((1:Int)≤s.size)&&decide ((s.size:Int)≤s.size)))else true)=true:=by
   cases hm:has s ⟨#[45]⟩with
   |false=>rfl
   |true=>
    rw[has_minus]at hm
    simp only[Bool.and_eq_true,decide_eq_true_eq]at hm
    have:(1:Int)≤s.size:=by omega
    simp[this]
  simp only[cond_false,lenS,qiteB_c,qcmp_gtr,qcmp_leq,qcmp_eql,qcmp_geq,hqand,hE,g1,cond_true,g2,hM,g3,qiteS_eq]
  obtain⟨u,hu⟩:∃u,u=(bif has s ⟨#[45]⟩then qsubS s 1 (s.size:Int)else s):=⟨_,rfl⟩
  rw[← hu]
  have hus:u.size≤1000:=by
   rw[hu]
   cases hm:has s ⟨#[45]⟩with
   |false=>exact hz
   |true=>
    rw[has_minus]at hm
    simp only[Bool.and_eq_true,decide_eq_true_eq]at hm
    have h1:(qsubS s 1 (s.size:Int)).size=s.size-1:=size_sub (n:=1) (by omega)
    simp only[cond_true];omega
  have d10:=digits_eq (t:=u) (base:=10) (most:=10) (by omega) (by omega) hus
  cases hz0:qcmpS .eql s ⟨#[48]⟩with
  |true=>
   obtain⟨hs1,hb0⟩:=(is_zero s).1 hz0
   have hm:has s ⟨#[45]⟩=false:=by rw[has_minus,hb0];simp
   rw[hm]at hu
   simp only[cond_false]at hu
   subst hu
   have e29:q29 [.str u, .int 10]=some [.int 0, .bool true]:=by
    rw[spec147 (by omega),if_pos (by omega),hs1]
    simp only[dgN,hb0,dv]
    simp
   have hi0:qinbS u 0=true:=by have:=inbS (s:=u) (i:=0) (by omega);simpa using this
   have hx0:qidxS u 0=48:=by have:=idxS (s:=u) (i:=0);rw[hb0]at this;simpa using this
   simp only[cond_true,hm,e29,qsome_s,qnth_s,List.getD_cons_zero,List.getD_cons_succ,qbool_b,qnot_c,Bool.not_true,Bool.not_false,cond_false,hi0,hx0,hs1,decide_true,qint_i]
   exact⟨0,true,rfl,by rw[qwrap_eq];rfl⟩
  |false=>
   simp only[cond_false]
   rcases d10 with⟨n,m,e1,e2⟩|⟨m,hm0,t1,t2,_,e1,e2⟩
   ·have e2':∃m,q29 [.str u, .int 10]=some [.int m, .bool false]:=by
     rcases e2 with e2|⟨e2,hl⟩
     ·exact⟨m,e2⟩
     ·have e3:=spec147 (s:=u) (base:=10) (by omega)
      rw[if_neg (by omega)]at e3
      exact⟨0,e3⟩
    obtain⟨m',e3⟩:=e2'
    rw[e1,e3]
    simp only[qsome_s,qnth_s,List.getD_cons_zero,List.getD_cons_succ,qbool_b,qnot_c,Bool.not_false,cond_true]
    exact⟨0,false,rfl,rfl⟩
   ·have hi0:qinbS u 0=true:=by have:=inbS (s:=u) (i:=0) (by omega);simpa using this
    have hx0:qidxS u 0=byt u 0:=by have:=idxS (s:=u) (i:=0);simpa using this
    rw[e1,e2]
    simp only[qsome_s,qnth_s,List.getD_cons_zero,List.getD_cons_succ,qbool_b,qnot_c,Bool.not_true,cond_true,cond_false,hi0,hx0,qint_i]
    by_cases h48:byt u 0=48
    ·have hlong:(bif decide ((1:Int)<u.size)then true else has s ⟨#[45]⟩)=true:=by
      by_cases hl:(1:Int)<u.size
      ·simp[hl]
      ·cases hm:has s ⟨#[45]⟩with
       |true=>simp[hl]
       |false=>
        rw[hm]at hu
        simp only[cond_false]at hu
        rw[hu]at h48 hl t1
        rw[(is_zero s).2 ⟨by omega,h48⟩]at hz0
        cases hz0
     simp only[h48,decide_true,cond_true,hlong]
     exact⟨0,false,rfl,rfl⟩
    ·simp only[h48,decide_false,cond_false]
     cases hm:has s ⟨#[45]⟩with
     |false=>
      simp only[cond_false,cond_true,Bool.not_false]
      by_cases hb:(4294967296:Int)≤m
      ·have:(4294967295:Int)<m:=by omega
       simp only[hb,this,decide_true,cond_true]
       exact⟨0,false,rfl,rfl⟩
      ·have:¬(4294967295:Int)<m:=by omega
       simp only[hb,this,decide_false,cond_false]
       exact⟨_,true,rfl,rfl⟩
     |true=>
      simp only[cond_false,cond_true,Bool.not_true]
      by_cases hb:(2147483648:Int)<m
      ·simp only[hb,decide_true,cond_true]
       refine⟨0,false,?_,rfl⟩
       cases decide ((4294967296:Int)≤m)<;>rfl
      ·have:¬(4294967296:Int)≤m:=by omega
       simp only[hb,this,decide_false,cond_false]
       exact⟨_,true,rfl,by rw[neg32 hm0 (by omega)]⟩
theorem reg_eq (s:ByteArray):∃(n:Int) (b:Bool),q13 [.str s]=some [.int n, .bool b]∧q14 [.str s]=some [.int n, .bool b]:=by
 rw[q13_eq,F13_eq,q14_eq,F14_eq]
 simp only[lenS,qiteB_c,qcmp_neq,qcmp_eql,qcmp_lss,qcmp_gtr,qcmp_leq,qcmp_geq]
 by_cases h:(s.size:Int)=2
 ·have i0:qinbS s 0=true:=by have:=inbS (s:=s) (i:=0) (by omega);simpa using this
  have i1:qinbS s 1=true:=by have:=inbS (s:=s) (i:=1) (by omega);simpa using this
  simp only[h,decide_true,Bool.not_true,cond_false,cond_true,i0,i1]
  by_cases a:qidxS s 0=114<;>by_cases b:48≤qidxS s 1<;>by_cases c:qidxS s 1≤55
  all_goals
   have b':decide (qidxS s 1<48) = !decide (48≤qidxS s 1):=by rw[Bool.eq_iff_iff];simp
   have c':decide (55<qidxS s 1) = !decide (qidxS s 1≤55):=by rw[Bool.eq_iff_iff];simp
   simp only[a,b,c,b',c',decide_true,decide_false,Bool.not_true,Bool.not_false,cond_true,cond_false]
   exact⟨_,_,rfl,rfl⟩
 ·simp only[h,decide_false,Bool.not_false,cond_true,cond_false]
  exact⟨_,_,rfl,rfl⟩
end Go.Proofs.YtobhhfbdelnhfaaDoor
namespace Go.Proofs.YtobhhfbdelnhfaaDoor
set_option linter.unusedSimpArgs false
set_option linter.unusedVariables false
open Go Go.AM
theorem bs_of (s:ByteArray):∃l,s=bs l:=⟨s.data.toList,rfl⟩
theorem len_bs (l:List UInt8):qlenS (bs l)=(l.length:Int):=by rw[lenS];rfl
theorem sub_bs (l:List UInt8) (a b:Nat):qsubS (bs l) (a:Int) (b:Int)=bs ((l.take b).drop a):=by
 rw[qsubS_eq]
 apply ByteArray.ext
 rw[← Array.toList_inj]
 simp only[Int.toNat_natCast,ByteArray.data_extract,Array.toList_extract,List.extract_eq_take_drop]
 show List.take (b-a) (l.drop a)=_
 rw[List.drop_take];rfl
theorem sub_to (l:List UInt8) (b:Nat):qsubS (bs l) 0 (b:Int)=bs (l.take b):=sub_bs l 0 b
theorem sub_from (l:List UInt8) (a:Nat):qsubS (bs l) (a:Int) (l.length:Int)=bs (l.drop a):=by
 rw[sub_bs,List.take_length]
theorem eq_bs (a b:List UInt8):qcmpS .eql (bs a) (bs b)=decide (a=b):=by
 rw[eqS]
 show(a==b)=_
 by_cases h:a=b<;>simp[h]
theorem idx_bs (l:List UInt8) (i:Nat):qidxS (bs l) (i:Int)=((l.getD i 0).toNat:Int):=idxS
theorem inb_bs {l:List UInt8} {i:Nat} (h:i<l.length):qinbS (bs l) (i:Int)=true:=inbS (s:=bs l) h
theorem qand_c:qand=fun a b=>a&&b:=veil_eq _
theorem has_bs (l p:List UInt8):has (bs l) (bs p)=p.isPrefixOf l:=by
 unfold has
 rw[len_bs,sub_to,eq_bs,bs_size,bs_size]
 rw[Bool.eq_iff_iff,List.isPrefixOf_iff_prefix]
 by_cases h:p.length≤l.length
 ·simp only[h,decide_true,cond_true,decide_eq_true_eq]
  rw[List.prefix_iff_eq_take]
  exact eq_comm
 ·simp only[h,decide_false,cond_false,Bool.false_eq_true,false_iff]
  intro hp
  exact h hp.length_le
theorem pre59 (l p:List UInt8):q27 [.str (bs l), .str (bs p)]=some [.str (bs (bif p.isPrefixOf l then l.drop p.length else l)), .bool (p.isPrefixOf l)]:=by
 have h:=spec59 (bs l) (bs p)
 rw[h,has_bs,len_bs,len_bs,sub_from]
 cases p.isPrefixOf l<;>rfl
def sfx (p l:List UInt8):Bool:=decide (p.length≤l.length)&&decide (l.drop (l.length-p.length)=p)
theorem subI {a b:Nat} (h:b≤a) (h2:a≤1000000):qbin .sub .i64 (a:Int) (b:Int)=((a-b:Nat):Int):=by
 rw[qbin_eq];simp only[rbin];rw[wrap64' (by omega) (by omega)];omega
theorem addI {a b:Nat} (h2:a+b≤1000000):qbin .add .i64 (a:Int) (b:Int)=((a+b:Nat):Int):=by
 rw[qbin_eq];simp only[rbin];rw[wrap64' (by omega) (by omega)];omega
theorem geI (a b:Nat):qcmp .geq (a:Int) (b:Int)=decide (b≤a):=geN a b
theorem leI' (a b:Nat):qcmp .leq (a:Int) (b:Int)=decide (a≤b):=leN a b
theorem ltI (a b:Nat):qcmp .lss (a:Int) (b:Int)=decide (a<b):=by rw[qcmp_lss];exact decide_eq_decide.2 (by omega)
theorem gtI (a b:Nat):qcmp .gtr (a:Int) (b:Int)=decide (b<a):=by rw[qcmp_gtr];exact decide_eq_decide.2 (by omega)
theorem eqI (a b:Nat):qcmp .eql (a:Int) (b:Int)=decide (a=b):=by rw[qcmp_eql];exact decide_eq_decide.2 (by omega)
theorem neI (a b:Nat):qcmp .neq (a:Int) (b:Int) = !decide (a=b):=by rw[qcmp_neq];congr 1;exact decide_eq_decide.2 (by omega)
theorem le0 (a:Nat):qcmp .leq 0 (a:Int)=true:=by rw[qcmp_leq];exact decide_eq_true (by omega)
theorem suf79 (l p:List UInt8) (hl:l.length≤1000000):q79 [.str (bs l), .str (bs p)]=some [.bool (sfx p l)]:=by
 rw[q79_eq,F79_eq]
 simp only[len_bs,qiteB_c,qand_c,geI,leI']
 unfold sfx
 by_cases h:p.length≤l.length
 ·rw[subI h hl,sub_from,eq_bs,le0]
  simp[h,leI',show l.length-p.length≤l.length by omega]
 ·simp[h]
theorem suf42 (l p:List UInt8) (hl:l.length≤1000000):q42 [.str (bs l), .str (bs p)]=some [.str (bs (bif sfx p l then l.take (l.length-p.length)else l)), .bool (sfx p l)]:=by
 rw[q42_eq,F42_eq,q59_eq,F59_eq,suf79 l p hl]
 simp only[qsome_s,qnth_s,List.getD_cons_zero,List.getD_cons_succ,qbool_b,qstr_s,qnot_c,cond_true,len_bs]
 cases h:sfx p l with
 |false=>simp[qsome_s,qnth_s,qstr_s,qbool_b]
 |true=>
  have hp:p.length≤l.length:=by
   unfold sfx at h
   simp only[Bool.and_eq_true,decide_eq_true_eq]at h
   exact h.1
  rw[subI hp hl,sub_to,le0,leI',decide_eq_true (show l.length-p.length≤l.length by omega),show qcmp .leq 0 0=true by rw[qcmp_leq];rfl]
  simp[qsome_s,qnth_s,qstr_s,qbool_b]
def ixF (x:List UInt8):List (List UInt8)→Nat→Int
 | [],_=> -1
 |y::r,i=>if y=x then(i:Int)else ixF x r (i+1)
def ix (names:List (List UInt8)) (x:List UInt8):Int:=ixF x names 0
theorem ixF_range (x:List UInt8):∀(l:List (List UInt8)) (i:Nat),ixF x l i = -1∨∃k,k<l.length∧l[k]? = some x∧ixF x l i=((i+k:Nat):Int)
 | [],i=> .inl rfl
 |y::r,i=>by
  unfold ixF
  by_cases h:y=x
  ·rw[if_pos h];exact .inr ⟨0,by simp,by simp[h],by simp⟩
  ·rw[if_neg h]
   rcases ixF_range x r (i+1)with e|⟨k,hk,hx,e⟩
   ·exact .inl e
   ·exact .inr ⟨k+1,by simp;omega,by simpa using hx,by rw[e];omega⟩
theorem ix_range (l:List (List UInt8)) (x:List UInt8):ix l x = -1∨∃k,k<l.length∧l[k]? = some x∧ix l x=(k:Int):=by
 rcases ixF_range x l 0 with e|⟨k,hk,hx,e⟩
 ·exact .inl e
 ·exact .inr ⟨k,hk,hx,by unfold ix;rw[e];simp⟩
theorem ixLoop (names:List (List UInt8)) (x:List UInt8) (st:List D→Option (Sum (List D) (List D))) (hn:names.length≤1000)
 (hs:∀i:Nat,i<names.length→st [.int i]=if names.getD i []=x then some (.inr [.int 1, .int i])else some (.inl [.int ((i+1:Nat):Int)]))
 (he:st [.int names.length]=some (.inr [.int 0])):
 ∀(k i:Nat),i+k=names.length→loW st [.int i]=(if ixF x (names.drop i) i = -1 then some [.int 0]else some [.int 1, .int (ixF x (names.drop i) i)]):=by
 intro k
 induction k with
 |zero=>
  intro i h
  obtain rfl:i=names.length:=by omega
  rw[nxtW,he,nxt_r,List.drop_length];rfl
 |succ k ih=>
  intro i h
  have hlt:i<names.length:=by omega
  rw[nxtW,hs i hlt]
  have hd:names.drop i=names.getD i []::names.drop (i+1):=by
   rw[List.drop_eq_getElem_cons hlt];simp[List.getD,hlt]
  rw[hd]
  unfold ixF
  by_cases hx:names.getD i []=x
  ·rw[if_pos hx,if_pos hx,nxt_r,if_neg (by omega)]
  ·rw[if_neg hx,if_neg hx,nxt_l,ih (i+1) (by omega)]
theorem spec63c (x:List UInt8):q43_20 [.str (bs x), .int 15]=some [.int (ix ccL x)]:=by
 have key:l43_20_2 [.str (bs x), .int 15] [.int 0]=(if ix ccL x = -1 then some [.int 0]else some [.int 1, .int (ix ccL x)]):=by
  rw[l43_20_2_eq]
  have:=ixLoop ccL x (st43_20_2 [.str (bs x), .int 15]) (by decide) (fun i hi=>by
   have h15:i<15:=hi
   rw[st43_20_2_eq,show qcmp .lss (i:Int) 15=decide (i<15)from ltI i 15,decide_eq_true h15,spec26 h15]
   simp only[cond_true,qsome_s,qnth_s,List.getD_cons_zero,qstr_s,eq_bs]
   by_cases h:ccL.getD i []=x
   ·rw[decide_eq_true (show ccT i=x from h),if_pos h];rfl
   ·rw[decide_eq_false (show¬ccT i=x from h),if_neg h,show qbin .add .i64 (i:Int) 1=((i+1:Nat):Int)from addI (b:=1) (by omega)];rfl)
   (by rw[st43_20_2_eq,show qcmp .lss (ccL.length:Int) 15=decide (15<15)from ltI 15 15];rfl) 15 0 (by decide)
  rw[List.drop_zero]at this
  exact this
 rw[q43_20_eq,F43_20_eq,key]
 rcases ix_range ccL x with e|⟨k,hk,_,e⟩
 ·rw[e];simp[qsome_s,qnth_s,qint_i,qcmp_eql]
 ·rw[e,if_neg (by omega)];simp[qsome_s,qnth_s,qint_i,qcmp_eql]
theorem spec63o (x:List UInt8):q43_44 [.str (bs x), .int 11]=some [.int (ix opL x)]:=by
 have key:l43_44_2 [.str (bs x), .int 11] [.int 0]=(if ix opL x = -1 then some [.int 0]else some [.int 1, .int (ix opL x)]):=by
  rw[l43_44_2_eq]
  have:=ixLoop opL x (st43_44_2 [.str (bs x), .int 11]) (by decide) (fun i hi=>by
   have h11:i<11:=hi
   have e64:q44_20 [.int i]=some [.str (bs (opT i))]:=by
    rw[q44_20_eq,F44_20_eq,show qbin .add .i64 5 (i:Int)=((5+i:Nat):Int)from addI (a:=5) (by omega),spec56 (by omega)]
    have:(((5+i:Nat):Int)-5).toNat=i:=by omega
    rw[this]
    simp[qsome_s,qnth_s,qstr_s]
   rw[st43_44_2_eq,show qcmp .lss (i:Int) 11=decide (i<11)from ltI i 11,decide_eq_true h11,e64]
   simp only[cond_true,qsome_s,qnth_s,List.getD_cons_zero,qstr_s,eq_bs]
   by_cases h:opL.getD i []=x
   ·rw[decide_eq_true (show opT i=x from h),if_pos h];rfl
   ·rw[decide_eq_false (show¬opT i=x from h),if_neg h,show qbin .add .i64 (i:Int) 1=((i+1:Nat):Int)from addI (b:=1) (by omega)];rfl)
   (by rw[st43_44_2_eq,show qcmp .lss (opL.length:Int) 11=decide (11<11)from ltI 11 11];rfl) 11 0 (by decide)
  rw[List.drop_zero]at this
  exact this
 rw[q43_44_eq,F43_44_eq,key]
 rcases ix_range opL x with e|⟨k,hk,_,e⟩
 ·rw[e];simp[qsome_s,qnth_s,qint_i,qcmp_eql]
 ·rw[e,if_neg (by omega)];simp[qsome_s,qnth_s,qint_i,qcmp_eql]
end Go.Proofs.YtobhhfbdelnhfaaDoor
namespace Go.Proofs.YtobhhfbdelnhfaaDoor
set_option linter.unusedSimpArgs false
set_option linter.unusedVariables false
open Go Go.AM
def blank:List UInt8→Nat
 | []=>0
 |c::l=>if c=32 then 0 else blank l+1
theorem index_one:∀l:List UInt8,Lib.index l [32]=if blank l<l.length then(blank l:Int)else -1
 | []=>by simp[Lib.index,blank]
 |c::l=>by
  unfold Lib.index blank
  by_cases h:c=32
  ·subst h;simp[List.isPrefixOf]
  ·have hb:((32:UInt8)==c)=false:=by rw[beq_eq_false_iff_ne];exact fun e=>h e.symm
   simp only[List.isPrefixOf,hb,Bool.false_and,Bool.false_eq_true,if_false,if_neg h,index_one l,List.length_cons,beq_iff_eq]
   by_cases h2:blank l<l.length
   ·rw[if_pos h2,if_neg (by omega),if_pos (by omega)];omega
   ·rw[if_neg h2,if_pos rfl,if_neg (by omega)]
theorem cutOk (l:List UInt8):qcutOk (bs l) (bs [32])=decide (blank l<l.length):=by
 simp only[qcutOk,veil_eq]
 show(Lib.cut l [32]).2.2=_
 unfold Lib.cut
 rw[index_one]
 by_cases h:blank l<l.length
 ·rw[if_pos h,if_pos (by omega),decide_eq_true h]
 ·rw[if_neg h,if_neg (by omega),decide_eq_false h]
theorem cutA (l:List UInt8):qcutA (bs l) (bs [32])=bs (l.take (blank l)):=by
 simp only[qcutA,veil_eq]
 show bs (Lib.cut l [32]).1=_
 unfold Lib.cut
 rw[index_one]
 by_cases h:blank l<l.length
 ·rw[if_pos h,if_pos (by omega),Int.toNat_natCast]
 ·rw[if_neg h,if_neg (by omega),List.take_of_length_le (by omega)]
theorem cutB {l:List UInt8} (h:blank l<l.length):qcutB (bs l) (bs [32])=bs (l.drop (blank l+1)):=by
 simp only[qcutB,veil_eq]
 show bs (Lib.cut l [32]).2.1=_
 unfold Lib.cut
 rw[index_one,if_pos h,if_pos (by omega),Int.toNat_natCast];rfl
def comma:List UInt8→Option Nat
 | []=>none
 | [_]=>none
 |a::b::l=>if a=44∧b=32 then some 0 else(comma (b::l)).map (· + 1)
theorem comma_lt:∀(l:List UInt8) (k:Nat),comma l=some k→k+2≤l.length
 | [],k,h=>by cases h
 | [_],k,h=>by cases h
 |a::b::l,k,h=>by
  unfold comma at h
  split at h
  ·cases h;simp
  ·obtain⟨j,hj,rfl⟩:=Option.map_eq_some_iff.1 h
   have:=comma_lt (b::l) j hj
   simp at this ⊢;omega
theorem index_two:∀l:List UInt8,Lib.index l [44,32]=match comma l with|some k=>(k:Int)|none=> -1
 | []=>by simp[Lib.index,comma]
 | [a]=>by simp[Lib.index,comma,List.isPrefixOf]
 |a::b::l=>by
  have ih:=index_two (b::l)
  unfold Lib.index comma
  rw[ih]
  by_cases h:a=44∧b=32
  ·obtain⟨rfl,rfl⟩:=h;simp[List.isPrefixOf]
  ·have hp:List.isPrefixOf [44,32] (a::b::l)=false:=by
    rw[Bool.eq_false_iff]
    intro e
    simp only[List.isPrefixOf,Bool.and_true,Bool.and_eq_true,beq_iff_eq]at e
    exact h ⟨e.1.symm,e.2.symm⟩
   rw[if_neg h,hp]
   simp only[Bool.false_eq_true,if_false,beq_iff_eq]
   cases comma (b::l)with
   |none=>simp
   |some k=>simp only[Option.map_some];rw[if_neg (by omega)];rfl
def partsF:Nat→List UInt8→List (List UInt8)
 |0,l=>[l]
 |n+1,l=>match comma l with|some k=>l.take k::partsF n (l.drop (k+2))|none=>[l]
def partsL (l:List UInt8):List (List UInt8):=partsF l.length l
theorem partsF_more:∀(n m:Nat) (l:List UInt8),l.length≤n→l.length≤m→partsF n l=partsF m l
 |0,0,_,_,_=>rfl
 |0,m+1,l,h,_=>by
  have:l = []:=List.length_eq_zero_iff.1 (by omega)
  subst this;rfl
 |n+1,0,l,_,h=>by
  have:l = []:=List.length_eq_zero_iff.1 (by omega)
  subst this;rfl
 |n+1,m+1,l,h1,h2=>by
  unfold partsF
  cases hc:comma l with
  |none=>rfl
  |some k=>
   have:=comma_lt l k hc
   simp only
   rw[partsF_more n m (l.drop (k+2)) (by rw[List.length_drop];omega) (by rw[List.length_drop];omega)]
theorem partsL_some {l:List UInt8} {k:Nat} (h:comma l=some k):partsL l=l.take k::partsL (l.drop (k+2)):=by
 have hl:=comma_lt l k h
 unfold partsL
 obtain⟨n,hn⟩:∃n,l.length=n+1:=⟨l.length-1,by omega⟩
 rw[hn]
 conv=>lhs;unfold partsF
 rw[h]
 simp only
 rw[partsF_more n _ _ (by simp;omega) (Nat.le_refl _)]
theorem partsL_none {l:List UInt8} (h:comma l=none):partsL l = [l]:=by
 unfold partsL
 cases l.length with
 |zero=>rfl
 |succ n=>unfold partsF;rw[h]
theorem split_parts:∀(n:Nat) (l:List UInt8),l.length≤n→∀fuel,l.length<fuel→Lib.splitK [44,32] 0 (Lib.countFrom [44,32] fuel l) l=partsL l
 |n,l,hl,0,hf=>by omega
 |n,l,hl,fuel+1,hf=>by
  unfold Lib.countFrom
  rw[index_two]
  cases hc:comma l with
  |none=>simp only;rw[if_pos (by decide),partsL_none hc];rfl
  |some k=>
   have hk:=comma_lt l k hc
   simp only
   rw[if_neg (by rw[beq_iff_eq];omega),Nat.add_comm 1,partsL_some hc]
   unfold Lib.splitK
   rw[index_two,hc]
   simp only
   rw[if_neg (by rw[beq_iff_eq];omega),Int.toNat_natCast,Nat.add_zero]
   have hlen:([44,32]:List UInt8).length=2:=rfl
   rw[hlen]
   cases n with
   |zero=>omega
   |succ n=>rw[split_parts n (l.drop (k+2)) (by simp;omega) fuel (by simp;omega)]
def opD (l:List (List UInt8)):D:=nameL l
theorem splitQ (l:List UInt8):qsplit (bs l) (bs [44,32])=opD (partsL l):=by
 simp only[qsplit,veil_eq]
 have h:=Lib.splitB_data (bs [44,32]) 0 (Lib.countB (bs l) (bs [44,32])) (bs l)
 have e:Lib.splitK [44,32] 0 (Lib.countB (bs l) (bs [44,32])) l=partsL l:=split_parts l.length l (Nat.le_refl _) (l.length+1) (by omega)
 have h2:(Lib.splitB (bs [44,32]) 0 (Lib.countB (bs l) (bs [44,32])) (bs l)).map (·.data.toList)=partsL l:=h.trans e
 unfold opD nameL
 rw[← h2,List.map_map]
 rfl
theorem comma_cons {a b:UInt8} {l:List UInt8} (h:¬(a=44∧b=32)):comma (a::b::l)=(comma (b::l)).map (· + 1):=by
 conv=>lhs;unfold comma
 rw[if_neg h]
def headL (l:List UInt8):List UInt8:=l.take (blank l)
def opsL (l:List UInt8):List (List UInt8):=if blank l<l.length then partsL (l.drop (blank l+1))else[]
end Go.Proofs.YtobhhfbdelnhfaaDoor
namespace Go.Proofs.YtobhhfbdelnhfaaDoor
set_option linter.unusedSimpArgs false
set_option linter.unusedVariables false
open Go Go.AM
noncomputable def numB (l:List UInt8):Bool:=match q11 [.str (bs l)]with|some [_, .bool b]=>b|_=>false
noncomputable def numV (l:List UInt8):Int:=match q11 [.str (bs l)]with|some [.int n,_]=>n|_=>0
noncomputable def regB (l:List UInt8):Bool:=match q13 [.str (bs l)]with|some [_, .bool b]=>b|_=>false
noncomputable def regV (l:List UInt8):Int:=match q13 [.str (bs l)]with|some [.int n,_]=>n|_=>0
theorem num_spec {l:List UInt8} (hz:l.length≤1000):q11 [.str (bs l)]=some [.int (numV l), .bool (numB l)]∧q12 [.str (bs l)]=some [.int (numV l), .bool (numB l)]:=by
 obtain⟨n,b,e1,e2⟩:=num_eq (s:=bs l) hz
 have hB:numB l=b:=by unfold numB;rw[e1]
 have hV:numV l=n:=by unfold numV;rw[e1]
 rw[hB,hV];exact⟨e1,e2⟩
theorem reg_spec (l:List UInt8):q13 [.str (bs l)]=some [.int (regV l), .bool (regB l)]∧q14 [.str (bs l)]=some [.int (regV l), .bool (regB l)]:=by
 obtain⟨n,b,e1,e2⟩:=reg_eq (bs l)
 have hB:regB l=b:=by unfold regB;rw[e1]
 have hV:regV l=n:=by unfold regV;rw[e1]
 rw[hB,hV];exact⟨e1,e2⟩
theorem num_nil:numB []=false:=by
 have h:=(num_spec (l:=[]) (by simp)).2
 have e147:q29 [.str (bs []), .int 10]=some [.int 0, .bool false]:=by
  rw[spec147 (by omega)];rfl
 have l0:qlenS (bs [])=0:=len_bs []
 rw[q12_eq,F12_eq,l0,show qcmp .gtr (0:Int) 2=false by rw[qcmp_gtr];rfl,show qcmp .gtr (0:Int) 0=false by rw[qcmp_gtr];rfl]at h
 simp only[qiteB_c,qiteS_eq,cond_false,cond_true,e147,qsome_s,qnth_s,List.getD_cons_zero,List.getD_cons_succ,qbool_b,qnot_c,Bool.not_false]at h
 simp only[Option.some.injEq,List.cons.injEq,D.bool.injEq,and_true]at h
 exact h.2.symm
theorem op_get {ops:List (List UInt8)} {k:Nat} {l:List UInt8} (h:ops[k]? = some l):qinb (opD ops) (k:Int)=true∧qstr (qget (opD ops) (k:Int))=bs l:=by
 have hk:k<ops.length:=(List.getElem?_eq_some_iff.1 h).1
 refine⟨nameL_inb hk,?_⟩
 unfold opD
 rw[nameL_get hk,qstr_s,List.getD,h];rfl
theorem spec107 {ops:List (List UInt8)} {k:Nat} {l:List UInt8} (h:ops[k]? = some l) (b1 b2 b3 bad:Bool):
 q62 [opD ops, .bool b1, .bool b2, .bool b3, .int k, .bool bad]=some [.int (regV l), .bool (bad || !regB l)]:=by
 obtain⟨g1,g2⟩:=op_get h
 rw[q62_eq,F62_eq,g1,g2,(reg_spec l).1]
 simp only[qsome_s,qnth_s,List.getD_cons_zero,List.getD_cons_succ,qbool_b,qnot_c,cond_true,qint_i]
 cases regB l<;>simp
theorem spec106 {ops:List (List UInt8)} {k:Nat} {l:List UInt8} (h:ops[k]? = some l) (hz:l.length≤1000) (b1 b2 b3 bad:Bool):
 ∃n,q61 [opD ops, .bool b1, .bool b2, .bool b3, .int k, .bool bad]=some [.int n, .bool false, .bool (bad || !numB l)]∧(numB l=true→n=numV l):=by
 obtain⟨g1,g2⟩:=op_get h
 rw[q61_eq,F61_eq,g1,g2,(num_spec hz).1]
 simp only[qsome_s,qnth_s,List.getD_cons_zero,List.getD_cons_succ,qbool_b,qnot_c,cond_true,qint_i]
 cases hb:numB l with
 |true=>exact⟨numV l,by simp,fun _=>rfl⟩
 |false=>exact⟨0,by simp,fun e=>by cases e⟩
theorem spec105 (ops:List (List UInt8)) (b1 b2 b3 bad:Bool) (n:Nat):
 q60 [opD ops, .bool b1, .bool b2, .bool b3, .int n, .bool bad]=some [.bool (decide (ops.length=n) && !bad), .bool (bad || !decide (ops.length=n))]:=by
 have hl:qlen (opD ops)=(ops.length:Int):=by rw[qlen_c];simp[opD,nameL,D.toList]
 rw[q60_eq,F60_eq,hl,neI]
 by_cases h:ops.length=n<;>simp[h,qnot_c]
noncomputable def plT (g:Int) (nb:Bool) (nv:Int) (a c:UInt8):Int×Int×Int:=
 if nb=false∨c=45∨(a≠43∧a≠45)then(0,0,3)
 else if(a=43∧127<nv)∨128<nv then(0,0,7)
 else(g,if a=45 then qbin .sub .u32 0 nv else nv,0)
noncomputable def plR (l:List UInt8):Int×Int×Int:=
 if l.length<4∨l.getD 0 0≠91∨l.getD (l.length-1) 0≠93 then(0,0,3)
 else if regB ((l.drop 1).take 2)=false then(0,0,3)
 else match(l.take (l.length-1)).drop 3 with
  | []=>(regV ((l.drop 1).take 2),0,0)
  |a::r=>plT (regV ((l.drop 1).take 2)) (numB r) (numV r) a (r.getD 0 0)
theorem neq8 (c:UInt8) (n:Nat) (h:n<256):qcmp .neq (c.toNat:Int) (n:Int) = !decide (c=UInt8.ofNat n):=by
 rw[qcmp_neq];congr 1;exact decide_eq_decide.2 (u8_eq h)
theorem eq8 (c:UInt8) (n:Nat) (h:n<256):qcmp .eql (c.toNat:Int) (n:Int)=decide (c=UInt8.ofNat n):=by
 rw[qcmp_eql];exact decide_eq_decide.2 (u8_eq h)
theorem neg0 (n:Int):qun .neg .u32 n=qbin .sub .u32 0 n:=by rw[qun_eq,qbin_eq];rfl
theorem spec139 {ops:List (List UInt8)} {k:Nat} {l:List UInt8} (h:ops[k]? = some l) (hz:l.length≤1000) (b1 b2 bad far:Bool):
 ∃b n,q80 [opD ops, .bool b1, .bool b2, .int k, .bool bad, .bool far]=some [.int b, .int n, .bool (bad||((plR l).2.2==3)), .bool (far||((plR l).2.2==7))]∧((plR l).2.2=0→b=(plR l).1∧n=(plR l).2.1):=by
 obtain⟨g1,g2⟩:=op_get h
 have c91:ByteArray.mk #[91]=bs [91]:=rfl
 have c93:ByteArray.mk #[93]=bs [93]:=rfl
 rw[q80_eq,F80_eq,g1,g2,c91,c93,pre59]
 simp only[cond_true,qsome_s,qnth_s,List.getD_cons_zero,List.getD_cons_succ,qbool_b,qstr_s,qnot_c]
 have no:∀(t:List UInt8),(plR l).2.2=3→∃b n,some [D.int 0, .int 0, .bool true, .bool far]=some [.int b, .int n, .bool (bad||((plR l).2.2==3)), .bool (far||((plR l).2.2==7))]∧((plR l).2.2=0→b=(plR l).1∧n=(plR l).2.1):=
  fun t e=>⟨0,0,by rw[e];simp,fun e'=>by omega⟩
 have hpre:List.isPrefixOf [91] l=decide (l.getD 0 0=91∧l≠[]):=by
  cases l with
  |nil=>simp[List.isPrefixOf]
  |cons a m=>
   rw[Bool.eq_iff_iff]
   simp only[List.isPrefixOf,Bool.and_true,beq_iff_eq,decide_eq_true_eq,List.getD_cons_zero,ne_eq,reduceCtorEq,not_false_eq_true,and_true]
   exact eq_comm
 by_cases ho:l.getD 0 0=91∧l≠[]
 case neg=>
  rw[hpre,decide_eq_false ho]
  simp only[cond_false]
  rw[suf42 l [93] (by omega)]
  simp only[cond_true,qsome_s,qnth_s,List.getD_cons_zero,List.getD_cons_succ,qbool_b,qstr_s,qnot_c,qiteB_c,Bool.not_false]
  refine no l ?_
  unfold plR
  rw[if_pos ?_]
  by_cases e:l = []
  ·subst e;left;decide
  ·right;left;exact fun e2=>ho ⟨e2,e⟩
 case pos=>
  rw[hpre,decide_eq_true ho]
  cases l with
  |nil=>exact absurd rfl ho.2
  |cons a m=>
   simp only[List.getD_cons_zero]at ho
   obtain⟨rfl,_⟩:=ho
   simp only[cond_true,Bool.not_true,List.length_cons,List.length_nil,Nat.zero_add,List.drop_succ_cons,List.drop_zero]
   have hmz:m.length≤999:=by simp at hz;omega
   rw[suf42 m [93] (by omega)]
   simp only[cond_true,qsome_s,qnth_s,List.getD_cons_zero,List.getD_cons_succ,qbool_b,qstr_s,qnot_c,qiteB_c,cond_false,Bool.not_false,List.length_cons,List.length_nil,Nat.zero_add]
   have hsf:sfx [93] m=decide (1≤m.length∧m.getD (m.length-1) 0=93):=by
    unfold sfx
    simp only[List.length_cons,List.length_nil,Nat.zero_add]
    by_cases h1:1≤m.length
    ·have hd:m.drop (m.length-1) = [m.getD (m.length-1) 0]:=by
      rw[List.drop_eq_getElem_cons (by omega),List.drop_of_length_le (by omega)]
      simp[List.getD,show m.length-1<m.length by omega]
     rw[hd];simp[h1]
    ·simp[h1]
   by_cases hs:1≤m.length∧m.getD (m.length-1) 0=93
   case neg=>
    rw[hsf,decide_eq_false hs]
    simp only[cond_false,Bool.not_false,cond_true]
    refine no m ?_
    unfold plR
    rw[if_pos ?_]
    by_cases e:m = []
    ·subst e;left;simp
    ·right;right
     have hm:0<m.length:=List.length_pos_iff.2 e
     rw[List.length_cons,show m.length+1-1=(m.length-1)+1 by omega,List.getD_cons_succ]
     exact fun e2=>hs ⟨hm,e2⟩
   case pos=>
    rw[hsf,decide_eq_true hs]
    simp only[cond_true,Bool.not_true,cond_false,len_bs]
    have hlt:(m.take (m.length-1)).length=m.length-1:=by simp
    rw[hlt,show qcmp .lss ((m.length-1:Nat):Int) 2=decide (m.length-1<2)from ltI _ 2]
    by_cases h3:m.length-1<2
    ·rw[decide_eq_true h3]
     simp only[cond_true]
     refine no m ?_
     unfold plR
     rw[if_pos ?_]
     left;simp;omega
    ·rw[decide_eq_false h3]
     simp only[cond_false]
     have e1:qsubS (bs (m.take (m.length-1))) 0 2=bs (m.take 2):=by
      have:=sub_to (m.take (m.length-1)) 2
      rw[List.take_take,Nat.min_eq_left (by omega)]at this
      exact this
     have e2:qsubS (bs (m.take (m.length-1))) 2 ((m.length-1:Nat):Int)=bs ((m.take (m.length-1)).drop 2):=by
      have:=sub_from (m.take (m.length-1)) 2
      rw[hlt]at this
      exact this
     rw[e1,e2,(reg_spec _).1]
     have c0:ByteArray.mk #[]=bs []:=rfl
     simp only[qsome_s,qnth_s,List.getD_cons_zero,List.getD_cons_succ,qbool_b,qint_i,qnot_c,cond_true]
     rw[show qcmp .leq 0 0=true by rw[qcmp_leq];rfl,show qcmp .leq 0 2=true by rw[qcmp_leq];rfl,show qcmp .leq 2 ((m.length-1:Nat):Int)=true by rw[qcmp_leq];exact decide_eq_true (by omega),leI',decide_eq_true (Nat.le_refl _),c0,eq_bs]
     simp only[cond_true]
     have hp:plR (91::m)=(if regB (m.take 2)=false then((0,0,3):Int×Int×Int)else match(m.take (m.length-1)).drop 2 with
      | []=>(regV (m.take 2),0,0)
      |a::r=>plT (regV (m.take 2)) (numB r) (numV r) a (r.getD 0 0)):=by
      conv=>lhs;unfold plR
      rw[if_neg]
      ·have:(List.take ((91::m).length-1) (91::m)).drop 3=(m.take (m.length-1)).drop 2:=by
        rw[List.length_cons,show m.length+1-1=(m.length-1)+1 by omega,List.take_succ_cons,List.drop_succ_cons]
       rw[this];rfl
      ·simp only[not_or,Decidable.not_not]
       refine⟨by simp;omega,rfl,?_⟩
       rw[List.length_cons,show m.length+1-1=(m.length-1)+1 by omega,List.getD_cons_succ]
       exact hs.2
     rw[hp]at no ⊢
     clear hp e1 e2 hsf hpre
     have hrl:((m.take (m.length-1)).drop 2).length≤999:=by simp;omega
     generalize (m.take (m.length-1)).drop 2=r at *
     cases hb:regB (m.take 2)with
     |false=>
      rw[hb]at no
      simp only[Bool.not_false,cond_true,cond_false,qiteB_c,if_true]at no ⊢
      cases decide (r = [])<;>exact no m (by trivial)
     |true=>
      rw[hb]at no
      simp only[Bool.not_true,cond_true,cond_false,qiteB_c,Bool.true_eq_false,if_false]at no ⊢
      cases r with
      |nil=>
       simp only[decide_true,cond_true]
       exact⟨_,_,by simp,fun _=>⟨rfl,rfl⟩⟩
      |cons a r=>
       rw[decide_eq_false (by simp)]
       simp only[cond_false]
       simp only at no ⊢
       have hrz:r.length≤1000:=by simp at hrl;omega
       rw[len_bs,show qcmp .lss (((a::r).length:Nat):Int) 2=decide ((a::r).length<2)from ltI _ 2]
       by_cases hr0:r = []
       ·subst hr0
        rw[decide_eq_true (by simp)]
        simp only[cond_true]
        refine no m ?_
        simp[plT,num_nil]
       ·have hrp:0<r.length:=List.length_pos_iff.2 hr0
        rw[decide_eq_false (by simp;omega)]
        have h1:qsubS (bs (a::r)) 1 (((a::r).length:Nat):Int)=bs r:=sub_from (a::r) 1
        have hx0:qidxS (bs (a::r)) 0=(a.toNat:Int):=idx_bs (a::r) 0
        have hi0:qinbS (bs (a::r)) 0=true:=inb_bs (i:=0) (by simp)
        have hx1:qidxS (bs (a::r)) 1=((r.getD 0 0).toNat:Int):=idx_bs (a::r) 1
        have hi1:qinbS (bs (a::r)) 1=true:=inb_bs (i:=1) (by simp;omega)
        rw[h1,(num_spec hrz).1,hx0,hx1,hi0,hi1,show qcmp .leq 0 1=true by rw[qcmp_leq];rfl,show qcmp .leq 1 (((a::r).length:Nat):Int)=true by rw[qcmp_leq];exact decide_eq_true (by simp;omega),leI',decide_eq_true (Nat.le_refl _),
         show qcmp .eql ((r.getD 0 0).toNat:Int) 45=decide (r.getD 0 0=45)from eq8 _ 45 (by omega),show qcmp .neq (a.toNat:Int) 43 = !decide (a=43)from neq8 _ 43 (by omega),show qcmp .neq (a.toNat:Int) 45 = !decide (a=45)from neq8 _ 45 (by omega),
         show qcmp .eql (a.toNat:Int) 43=decide (a=43)from eq8 _ 43 (by omega)]
        simp only[qsome_s,qnth_s,List.getD_cons_zero,List.getD_cons_succ,qbool_b,qint_i,qnot_c,qand_c,qiteI_eq,qcmp_gtr,neg0,cond_true,cond_false,Bool.and_self]
        clear hx0 hx1 hi0 hi1 h1 no
        generalize r.getD 0 0=c0
        generalize regV (m.take 2)=g
        generalize numV r=nv
        generalize numB r=nb
        by_cases hm:c0=45
        ·have hT:plT g nb nv a c0=(0,0,3):=by simp[plT,hm]
         rw[hT]
         by_cases ha:a=43<;>by_cases ha2:a=45<;>simp[ha,ha2,hm]
        ·cases nb with
         |false=>
          have hT:plT g false nv a c0=(0,0,3):=by simp[plT]
          rw[hT]
          by_cases ha:a=43<;>by_cases ha2:a=45<;>simp[ha,ha2,hm]
         |true=>
          by_cases ha:a=43
          ·subst ha
           by_cases hv:127<nv
           ·have hT:plT g true nv 43 c0=(0,0,7):=by simp[plT,hm,hv]
            rw[hT]
            cases far<;>simp[hv,hm]
           ·have hT:plT g true nv 43 c0=(g,nv,0):=by simp[plT,hm,hv];omega
            rw[hT]
            cases far<;>simp[hv,hm]
          ·by_cases ha2:a=45
           ·subst ha2
            by_cases hv:128<nv
            ·have hT:plT g true nv 45 c0=(0,0,7):=by simp[plT,hm,hv]
             rw[hT]
             cases far<;>simp[hv,hm]
            ·have hT:plT g true nv 45 c0=(g,qbin .sub .u32 0 nv,0):=by simp[plT,hm,hv]
             rw[hT]
             cases far<;>simp[hv,hm]
           ·have hT:plT g true nv a c0=(0,0,3):=by simp[plT,ha,ha2]
            rw[hT]
            simp[ha,ha2,hm]
end Go.Proofs.YtobhhfbdelnhfaaDoor
